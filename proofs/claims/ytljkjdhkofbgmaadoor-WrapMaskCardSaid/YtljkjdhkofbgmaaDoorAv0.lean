import Derived.Calls
namespace Go.Proofs.YtljkjdhkofbgmaaDoor.Av
open Go
set_option linter.all false
set_option maxRecDepth 3000

/-! lists in step -/
def All2 {α β : Type} (R : α → β → Prop) : List α → List β → Prop
  | [], [] => True
  | a :: as, b :: bs => R a b ∧ All2 R as bs
  | _, _ => False

theorem All2.length {α β : Type} {R : α → β → Prop} : ∀ {as : List α} {bs : List β}, All2 R as bs → as.length = bs.length
  | [], [], _ => rfl
  | _ :: _, _ :: _, h => by simp [All2.length h.2]
  | [], _ :: _, h => h.elim
  | _ :: _, [], h => h.elim

theorem All2.mono {α β : Type} {R S : α → β → Prop} (h : ∀ a b, R a b → S a b) : ∀ {as : List α} {bs : List β}, All2 R as bs → All2 S as bs
  | [], [], _ => trivial
  | _ :: _, _ :: _, H => ⟨h _ _ H.1, All2.mono h H.2⟩
  | [], _ :: _, H => H.elim
  | _ :: _, [], H => H.elim

theorem All2.append {α β : Type} {R : α → β → Prop} : ∀ {as as' : List α} {bs bs' : List β}, All2 R as bs → All2 R as' bs' → All2 R (as ++ as') (bs ++ bs')
  | [], _, [], _, _, h' => h'
  | _ :: _, _, _ :: _, _, h, h' => ⟨h.1, All2.append h.2 h'⟩
  | [], _, _ :: _, _, h, _ => h.elim
  | _ :: _, _, [], _, h, _ => h.elim

theorem All2.split_left {α β : Type} {R : α → β → Prop} : ∀ {as as' : List α} {bs : List β}, All2 R (as ++ as') bs → ∃ b1 b2, bs = b1 ++ b2 ∧ All2 R as b1 ∧ All2 R as' b2
  | [], _, bs, h => ⟨[], bs, rfl, trivial, h⟩
  | _ :: as, as', b :: bs, h => by
    obtain ⟨b1, b2, e, h1, h2⟩ := All2.split_left (as := as) (as' := as') h.2
    exact ⟨b :: b1, b2, by rw [e]; rfl, ⟨h.1, h1⟩, h2⟩
  | _ :: _, _, [], h => h.elim

theorem All2.split_right {α β : Type} {R : α → β → Prop} {as : List α} {bs bs' : List β} (h : All2 R as (bs ++ bs')) :
    ∃ a1 a2, as = a1 ++ a2 ∧ All2 R a1 bs ∧ All2 R a2 bs' := by
  induction bs generalizing as with
  | nil => exact ⟨[], as, rfl, trivial, h⟩
  | cons b bs ih =>
    cases as with
    | nil => exact h.elim
    | cons a as =>
      obtain ⟨a1, a2, e, h1, h2⟩ := ih h.2
      exact ⟨a :: a1, a2, by rw [e]; rfl, ⟨h.1, h1⟩, h2⟩

theorem All2.map_left {α β γ : Type} {R : α → β → Prop} (f : γ → α) : ∀ {as : List γ} {bs : List β}, All2 R (as.map f) bs ↔ All2 (fun a b => R (f a) b) as bs
  | [], [] => Iff.rfl
  | _ :: _, _ :: _ => and_congr Iff.rfl (All2.map_left f)
  | [], _ :: _ => Iff.rfl
  | _ :: _, [] => Iff.rfl

theorem All2.map_right {α β γ : Type} {R : α → β → Prop} (f : γ → β) : ∀ {as : List α} {bs : List γ}, All2 R as (bs.map f) ↔ All2 (fun a b => R a (f b)) as bs
  | [], [] => Iff.rfl
  | _ :: _, _ :: _ => and_congr Iff.rfl (All2.map_right f)
  | [], _ :: _ => Iff.rfl
  | _ :: _, [] => Iff.rfl

theorem All2.refl_of {α : Type} {R : α → α → Prop} (h : ∀ a, R a a) : ∀ as : List α, All2 R as as
  | [] => trivial
  | _ :: as => ⟨h _, All2.refl_of h as⟩

theorem All2.eq {α β : Type} (f : α → β) : ∀ {as : List α} {bs : List β}, All2 (fun a b => b = f a) as bs ↔ bs = as.map f
  | [], [] => by simp [All2]
  | _ :: as, _ :: bs => by simp [All2, All2.eq f (as := as) (bs := bs)]
  | [], _ :: _ => by simp [All2]
  | _ :: _, [] => by simp [All2]

theorem All2.get {α β : Type} {R : α → β → Prop} : ∀ {as : List α} {bs : List β} (_ : All2 R as bs) (i : Nat) {a : α} (_ : as[i]? = some a), ∃ b, bs[i]? = some b ∧ R a b
  | _ :: _, b :: _, h, 0, _, e => by simp at e; subst e; exact ⟨b, rfl, h.1⟩
  | _ :: _, _ :: _, h, i + 1, _, e => by simp at e ⊢; exact All2.get h.2 i e
  | [], [], _, _, _, e => by simp at e
  | [], _ :: _, h, _, _, _ => h.elim
  | _ :: _, [], h, _, _, _ => h.elim

abbrev Byte := BitVec 8

inductive Step where
  | fld (i : Nat)
  | idx (i : Nat)
  | win (off n : Nat)

abbrev Path := List Step

inductive Ty where
  | cell
  | arr (n : Nat) (t : Ty)
  | st (fs : List Ty)
  | row (t : Ty)

mutual
def Ty.size : Ty → Nat
  | .cell => 1
  | .arr n t => n * t.size
  | .st fs => Ty.sizes fs
  | .row _ => 0
def Ty.sizes : List Ty → Nat
  | [] => 0
  | t :: ts => t.size + Ty.sizes ts
end

inductive D where
  | undef
  | bool (b : Bool)
  | u8 (x : BitVec 8)
  | u16 (x : BitVec 16)
  | u32 (x : BitVec 32)
  | u64 (x : BitVec 64)
  | i64 (n : Int)
  | str (l : List Byte)
  | nilptr
  | ptr (b : Nat) (p : Path)
  | nilslice
  | slice (b : Nat) (p : Path) (off len : Nat) (cap : Option Nat)
  | fn (f : Nat) (bd caps : List D)
  | nilfn
  | u8s (l : List (BitVec 8))
  | u32s (l : List (BitVec 32))
  | u64s (l : List (BitVec 64))
  | node (l : List D)
  | tup (l : List D)

instance : Inhabited D := ⟨.undef⟩

mutual
def D.flat : D → List D
  | .u8s l => l.map .u8
  | .u32s l => l.map .u32
  | .u64s l => l.map .u64
  | .node l => D.flats l
  | .tup _ => []
  | d => [d]
def D.flats : List D → List D
  | [] => []
  | d :: ds => d.flat ++ D.flats ds
end

theorem D.flats_append (a b : List D) : D.flats (a ++ b) = D.flats a ++ D.flats b := by
  induction a with
  | nil => simp [D.flats]
  | cons x xs ih => simp [D.flats, ih]

def D.isAgg : D → Bool
  | .u8s _ | .u32s _ | .u64s _ | .node _ => true
  | _ => false

def D.isCell : D → Bool
  | .u8s _ | .u32s _ | .u64s _ | .node _ | .tup _ | .undef => false
  | _ => true

theorem D.flat_cell {d : D} (h : d.isCell = true) : d.flat = [d] := by
  cases d <;> simp_all [D.isCell, D.flat]

def AllD (P : D → Prop) : List D → Prop
  | [] => True
  | d :: ds => P d ∧ AllD P ds

theorem AllD_mem {P : D → Prop} : ∀ {l : List D}, AllD P l ↔ ∀ d ∈ l, P d
  | [] => by simp [AllD]
  | d :: ds => by simp [AllD, AllD_mem (l := ds)]

mutual
def hasTy : Ty → D → Prop
  | .cell => fun d => d.isCell = true
  | .arr n t => fun d => match d with
    | .u8s l => match t with | .cell => l.length = n | _ => False
    | .u32s l => match t with | .cell => l.length = n | _ => False
    | .u64s l => match t with | .cell => l.length = n | _ => False
    | .node l => l.length = n ∧ AllD (hasTy t) l
    | _ => False
  | .row t => fun d => match d with
    | .u8s _ => match t with | .cell => True | _ => False
    | .u32s _ => match t with | .cell => True | _ => False
    | .u64s _ => match t with | .cell => True | _ => False
    | .node l => AllD (hasTy t) l
    | _ => False
  | .st fs => fun d => match d with
    | .node l => hasTys fs l
    | _ => False
def hasTys : List Ty → List D → Prop
  | [] => fun l => match l with
    | [] => True
    | _ => False
  | t :: ts => fun l => match l with
    | d :: ds => hasTy t d ∧ hasTys ts ds
    | [] => False
end
abbrev hasTyAll (t : Ty) (l : List D) : Prop := AllD (hasTy t) l

def Ty.isRow : Ty → Bool
  | .row _ => true
  | _ => false

def tyAt : Ty → Path → Option Ty
  | t, [] => some t
  | .st fs, .fld i :: p => match fs[i]? with
    | some t => tyAt t p
    | none => none
  | .arr _ t, .idx _ :: p => tyAt t p
  | .row t, .idx _ :: p => tyAt t p
  | .arr _ t, .win _ n :: p => tyAt (.arr n t) p
  | .row t, .win _ n :: p => tyAt (.arr n t) p
  | _, _ => none

def offAt : Ty → Path → Nat
  | _, [] => 0
  | .st fs, .fld i :: p => Ty.sizes (fs.take i) + (match fs[i]? with | some t => offAt t p | none => 0)
  | .arr _ t, .idx i :: p => i * t.size + offAt t p
  | .row t, .idx i :: p => i * t.size + offAt t p
  | .arr _ t, .win o n :: p => o * t.size + offAt (.arr n t) p
  | .row t, .win o n :: p => o * t.size + offAt (.arr n t) p
  | _, _ => 0

def nth : List D → Nat → Option D
  | d :: _, 0 => some d
  | _ :: ds, i + 1 => nth ds i
  | [], _ => none

theorem nth_eq : ∀ (l : List D) (i : Nat), nth l i = l[i]?
  | [], _ => by simp [nth]
  | _ :: _, 0 => by simp [nth]
  | _ :: l, i + 1 => by simp [nth, nth_eq l i]

def nthD (l : List D) (i : Nat) : D := match nth l i with | some d => d | none => .undef

def okP : D → Path → Prop
  | _, [] => True
  | .node l, .fld i :: p => match nth l i with
    | some d => okP d p
    | none => False
  | .node l, .idx i :: p => i < l.length ∧ okP (nthD l i) p
  | .node l, .win o n :: p => o + n ≤ l.length ∧ okP (.node ((l.drop o).take n)) p
  | .u8s l, .idx i :: p => i < l.length ∧ okP (.u8 (l.getD i 0)) p
  | .u8s l, .win o n :: p => o + n ≤ l.length ∧ okP (.u8s ((l.drop o).take n)) p
  | .u32s l, .idx i :: p => i < l.length ∧ okP (.u32 (l.getD i 0)) p
  | .u32s l, .win o n :: p => o + n ≤ l.length ∧ okP (.u32s ((l.drop o).take n)) p
  | .u64s l, .idx i :: p => i < l.length ∧ okP (.u64 (l.getD i 0)) p
  | .u64s l, .win o n :: p => o + n ≤ l.length ∧ okP (.u64s ((l.drop o).take n)) p
  | _, _ => False

def getP : D → Path → Option D
  | d, [] => some d
  | .node l, .fld i :: p => match nth l i with
    | some d => getP d p
    | none => none
  | .node l, .idx i :: p => getP (nthD l i) p
  | .node l, .win o n :: p => getP (.node ((l.drop o).take n)) p
  | .u8s l, .idx i :: p => getP (.u8 (l.getD i 0)) p
  | .u8s l, .win o n :: p => getP (.u8s ((l.drop o).take n)) p
  | .u32s l, .idx i :: p => getP (.u32 (l.getD i 0)) p
  | .u32s l, .win o n :: p => getP (.u32s ((l.drop o).take n)) p
  | .u64s l, .idx i :: p => getP (.u64 (l.getD i 0)) p
  | .u64s l, .win o n :: p => getP (.u64s ((l.drop o).take n)) p
  | _, _ => none

def setP : D → Path → D → Option D
  | _, [], x => some x
  | .node l, .fld i :: p, x => match nth l i with
    | some d => match setP d p x with
      | some d' => some (.node (l.set i d'))
      | none => none
    | none => none
  | .node l, .idx i :: p, x => match setP (nthD l i) p x with
    | some d' => some (.node (l.set i d'))
    | none => none
  | .node l, .win o n :: p, x => match setP (.node ((l.drop o).take n)) p x with
    | some (.node l') => some (.node (l.take o ++ l' ++ l.drop (o + n)))
    | _ => none
  | .u8s l, .idx i :: p, x => match setP (.u8 (l.getD i 0)) p x with
    | some (.u8 y) => some (.u8s (l.set i y))
    | _ => none
  | .u8s l, .win o n :: p, x => match setP (.u8s ((l.drop o).take n)) p x with
    | some (.u8s l') => some (.u8s (l.take o ++ l' ++ l.drop (o + n)))
    | _ => none
  | .u32s l, .idx i :: p, x => match setP (.u32 (l.getD i 0)) p x with
    | some (.u32 y) => some (.u32s (l.set i y))
    | _ => none
  | .u32s l, .win o n :: p, x => match setP (.u32s ((l.drop o).take n)) p x with
    | some (.u32s l') => some (.u32s (l.take o ++ l' ++ l.drop (o + n)))
    | _ => none
  | .u64s l, .idx i :: p, x => match setP (.u64 (l.getD i 0)) p x with
    | some (.u64 y) => some (.u64s (l.set i y))
    | _ => none
  | .u64s l, .win o n :: p, x => match setP (.u64s ((l.drop o).take n)) p x with
    | some (.u64s l') => some (.u64s (l.take o ++ l' ++ l.drop (o + n)))
    | _ => none
  | _, _, _ => none

/-! lengths -/
theorem hasTys_get {fs : List Ty} {l : List D} (h : hasTys fs l) (i : Nat) {t : Ty} (ht : fs[i]? = some t) : ∃ d, l[i]? = some d ∧ hasTy t d := by
  induction fs generalizing l i with
  | nil => simp at ht
  | cons f fs ih =>
    cases l with
    | nil => exact h.elim
    | cons d ds =>
      cases i with
      | zero => simp at ht; subst ht; exact ⟨d, by simp, h.1⟩
      | succ i => simp at ht; simpa using ih h.2 i ht

theorem hasTys_length {fs : List Ty} {l : List D} (h : hasTys fs l) : fs.length = l.length := by
  induction fs generalizing l with
  | nil => cases l with
    | nil => rfl
    | cons => exact h.elim
  | cons f fs ih => cases l with
    | nil => exact h.elim
    | cons d ds => simp [ih h.2]

mutual
def Ty.flatTy : Ty → Prop
  | .row _ => False
  | .arr _ t => t.flatTy
  | .st fs => Ty.flatTys fs
  | .cell => True
def Ty.flatTys : List Ty → Prop
  | [] => True
  | t :: ts => t.flatTy ∧ Ty.flatTys ts
end

theorem flats_all {t : Ty} (h : ∀ d, hasTy t d → d.flat.length = t.size) : ∀ {l : List D}, hasTyAll t l → (D.flats l).length = l.length * t.size
  | [], _ => by simp [D.flats]
  | d :: ds, H => by
    simp only [D.flats, List.length_append, h d H.1, flats_all h H.2, List.length_cons]
    rw [Nat.add_mul]; omega

mutual
theorem hasTy_length : ∀ (T : Ty) (d : D), T.flatTy → hasTy T d → d.flat.length = T.size
  | .cell, d, _, h => by rw [D.flat_cell h]; rfl
  | .arr n t, d, hf, h => by
    cases d with
    | u8s l => cases t <;> simp [hasTy] at h; subst h; simp [D.flat, Ty.size]
    | u32s l => cases t <;> simp [hasTy] at h; subst h; simp [D.flat, Ty.size]
    | u64s l => cases t <;> simp [hasTy] at h; subst h; simp [D.flat, Ty.size]
    | node l =>
      have h : l.length = n ∧ hasTyAll t l := h
      simp only [D.flat, Ty.size]
      rw [← h.1]
      exact flats_all (fun d hd => hasTy_length t d hf hd) h.2
    | _ => simp [hasTy] at h
  | .row _, _, hf, _ => hf.elim
  | .st fs, d, hf, h => by
    cases d with
    | node l =>
      have h : hasTys fs l := h
      simp only [D.flat, Ty.size]
      exact hasTys_length' fs l hf h
    | _ => simp [hasTy] at h
theorem hasTys_length' : ∀ (fs : List Ty) (l : List D), Ty.flatTys fs → hasTys fs l → (D.flats l).length = Ty.sizes fs
  | [], [], _, _ => rfl
  | t :: ts, d :: ds, hf, h => by
    simp only [D.flats, Ty.sizes, List.length_append]
    rw [hasTy_length t d hf.1 h.1, hasTys_length' ts ds hf.2 h.2]
  | [], _ :: _, _, h => h.elim
  | _ :: _, [], _, h => h.elim
end

theorem flats_take_drop {t : Ty} (hf : t.flatTy) {l : List D} (h : hasTyAll t l) (i : Nat) (hi : i ≤ l.length) :
    D.flats l = D.flats (l.take i) ++ D.flats (l.drop i) ∧ (D.flats (l.take i)).length = i * t.size := by
  refine ⟨by rw [← D.flats_append, List.take_append_drop], ?_⟩
  have : hasTyAll t (l.take i) := AllD_mem.2 fun d hd => AllD_mem.1 h d (List.mem_of_mem_take hd)
  rw [flats_all (fun d hd => hasTy_length t d hf hd) this, List.length_take]
  rw [Nat.min_eq_left hi]

theorem flats_split {l : List D} {i : Nat} {d : D} (h : l[i]? = some d) : D.flats l = D.flats (l.take i) ++ (d.flat ++ D.flats (l.drop (i + 1))) := by
  have hi : i < l.length := by
    rcases Nat.lt_or_ge i l.length with h' | h'
    · exact h'
    · simp [List.getElem?_eq_none h'] at h
  have e : l = l.take i ++ d :: l.drop (i + 1) := by
    have h2 : l[i] = d := by simpa [List.getElem?_eq_getElem hi] using h
    rw [← h2, List.getElem_cons_drop, List.take_append_drop]
  conv => lhs; rw [e]
  rw [D.flats_append]; rfl


def Ty.good : Ty → Prop
  | .row t => t.flatTy
  | t => t.flatTy

theorem list_win {α : Type} (l : List α) (o n : Nat) : l = l.take o ++ (l.drop o).take n ++ l.drop (o + n) := by
  rw [List.append_assoc, ← List.drop_drop, List.take_append_drop, List.take_append_drop]

theorem list_set {α : Type} (l : List α) (i : Nat) (x : α) (h : i < l.length) : l.set i x = l.take i ++ x :: l.drop (i + 1) := by
  induction l generalizing i with
  | nil => simp at h
  | cons a l ih => cases i with
    | zero => simp
    | succ i => simp at h; simp [ih i h]

theorem list_at {α : Type} (l : List α) (i : Nat) (z : α) (h : i < l.length) : l = l.take i ++ l.getD i z :: l.drop (i + 1) := by
  induction l generalizing i with
  | nil => simp at h
  | cons a l ih => cases i with
    | zero => simp
    | succ i => simp at h; simpa using ih i h

theorem tyAt_cell_cons {s : Step} {p : Path} {T : Ty} : tyAt .cell (s :: p) ≠ some T := by
  cases s <;> simp [tyAt]

/-- what a place holds, in the row of all cells -/
def Lies (T : Ty) (p : Path) (d x : D) (pre post : List D) : Prop := d.flat = pre ++ x.flat ++ post ∧ pre.length = offAt T p

theorem getP_cons_node_idx {l : List D} {i : Nat} {p : Path} : getP (.node l) (.idx i :: p) = getP (nthD l i) p := by rw [getP]

theorem nthD_of {l : List D} {i : Nat} (h : i < l.length) : l[i]? = some (nthD l i) := by
  unfold nthD
  rw [nth_eq]
  cases e : l[i]? with
  | none => simp at e; omega
  | some d => rfl

theorem getP_u8s (l : List (BitVec 8)) (t : Ty) (T : Ty) (p : Path) (s : Step) (x : D) (T' : Ty) (hT : (∃ n, T = .arr n t) ∨ T = .row t) (h : hasTy T (.u8s l))
    (ht : tyAt T (s :: p) = some T') (ho : okP (.u8s l) (s :: p)) (hx : getP (.u8s l) (s :: p) = some x)
    (ih : ∀ n (l' : List (BitVec 8)), tyAt (.arr n t) p = some T' → hasTy (.arr n t) (.u8s l') → okP (.u8s l') p → getP (.u8s l') p = some x → hasTy T' x ∧ ∃ pre post, Lies (.arr n t) p (.u8s l') x pre post) :
    hasTy T' x ∧ ∃ pre post, Lies T (s :: p) (.u8s l) x pre post := by
  have hc : t = .cell := by
    rcases hT with ⟨n, rfl⟩ | rfl <;> cases t <;> first | rfl | exact h.elim
  subst hc
  cases s with
  | fld i => rcases hT with ⟨n, rfl⟩ | rfl <;> simp [tyAt] at ht
  | idx i =>
    have ht' : tyAt .cell p = some T' := by rcases hT with ⟨n, rfl⟩ | rfl <;> simpa [tyAt] using ht
    cases p with
    | cons s p => exact absurd ht' tyAt_cell_cons
    | nil =>
      simp only [tyAt, Option.some.injEq] at ht'
      subst ht'
      simp only [okP] at ho
      simp only [getP, Option.some.injEq] at hx
      subst hx
      refine ⟨rfl, (l.take i).map D.u8, (l.drop (i + 1)).map D.u8, ?_, ?_⟩
      · simp only [D.flat]
        conv => lhs; rw [list_at l i 0 ho.1]
        simp
      · rcases hT with ⟨n, rfl⟩ | rfl <;> simp [offAt, Ty.size] <;> omega
  | win o n =>
    have ht' : tyAt (.arr n .cell) p = some T' := by rcases hT with ⟨n, rfl⟩ | rfl <;> simpa [tyAt] using ht
    simp only [okP] at ho
    simp only [getP] at hx
    obtain ⟨h1, pre, post, h2, h3⟩ := ih n ((l.drop o).take n) ht' (show ((l.drop o).take n).length = n by simp; omega) ho.2 hx
    refine ⟨h1, (l.take o).map D.u8 ++ pre, post ++ (l.drop (o + n)).map D.u8, ?_, ?_⟩
    · simp only [D.flat] at h2 ⊢
      conv => lhs; rw [list_win l o n]
      simp only [List.map_append, h2, List.append_assoc]
    · rcases hT with ⟨m, rfl⟩ | rfl <;> simp [offAt, Ty.size, h3] <;> omega

theorem getP_u32s (l : List (BitVec 32)) (t : Ty) (T : Ty) (p : Path) (s : Step) (x : D) (T' : Ty) (hT : (∃ n, T = .arr n t) ∨ T = .row t) (h : hasTy T (.u32s l))
    (ht : tyAt T (s :: p) = some T') (ho : okP (.u32s l) (s :: p)) (hx : getP (.u32s l) (s :: p) = some x)
    (ih : ∀ n (l' : List (BitVec 32)), tyAt (.arr n t) p = some T' → hasTy (.arr n t) (.u32s l') → okP (.u32s l') p → getP (.u32s l') p = some x → hasTy T' x ∧ ∃ pre post, Lies (.arr n t) p (.u32s l') x pre post) :
    hasTy T' x ∧ ∃ pre post, Lies T (s :: p) (.u32s l) x pre post := by
  have hc : t = .cell := by
    rcases hT with ⟨n, rfl⟩ | rfl <;> cases t <;> first | rfl | exact h.elim
  subst hc
  cases s with
  | fld i => rcases hT with ⟨n, rfl⟩ | rfl <;> simp [tyAt] at ht
  | idx i =>
    have ht' : tyAt .cell p = some T' := by rcases hT with ⟨n, rfl⟩ | rfl <;> simpa [tyAt] using ht
    cases p with
    | cons s p => exact absurd ht' tyAt_cell_cons
    | nil =>
      simp only [tyAt, Option.some.injEq] at ht'
      subst ht'
      simp only [okP] at ho
      simp only [getP, Option.some.injEq] at hx
      subst hx
      refine ⟨rfl, (l.take i).map D.u32, (l.drop (i + 1)).map D.u32, ?_, ?_⟩
      · simp only [D.flat]
        conv => lhs; rw [list_at l i 0 ho.1]
        simp
      · rcases hT with ⟨n, rfl⟩ | rfl <;> simp [offAt, Ty.size] <;> omega
  | win o n =>
    have ht' : tyAt (.arr n .cell) p = some T' := by rcases hT with ⟨n, rfl⟩ | rfl <;> simpa [tyAt] using ht
    simp only [okP] at ho
    simp only [getP] at hx
    obtain ⟨h1, pre, post, h2, h3⟩ := ih n ((l.drop o).take n) ht' (show ((l.drop o).take n).length = n by simp; omega) ho.2 hx
    refine ⟨h1, (l.take o).map D.u32 ++ pre, post ++ (l.drop (o + n)).map D.u32, ?_, ?_⟩
    · simp only [D.flat] at h2 ⊢
      conv => lhs; rw [list_win l o n]
      simp only [List.map_append, h2, List.append_assoc]
    · rcases hT with ⟨m, rfl⟩ | rfl <;> simp [offAt, Ty.size, h3] <;> omega

theorem getP_u64s (l : List (BitVec 64)) (t : Ty) (T : Ty) (p : Path) (s : Step) (x : D) (T' : Ty) (hT : (∃ n, T = .arr n t) ∨ T = .row t) (h : hasTy T (.u64s l))
    (ht : tyAt T (s :: p) = some T') (ho : okP (.u64s l) (s :: p)) (hx : getP (.u64s l) (s :: p) = some x)
    (ih : ∀ n (l' : List (BitVec 64)), tyAt (.arr n t) p = some T' → hasTy (.arr n t) (.u64s l') → okP (.u64s l') p → getP (.u64s l') p = some x → hasTy T' x ∧ ∃ pre post, Lies (.arr n t) p (.u64s l') x pre post) :
    hasTy T' x ∧ ∃ pre post, Lies T (s :: p) (.u64s l) x pre post := by
  have hc : t = .cell := by
    rcases hT with ⟨n, rfl⟩ | rfl <;> cases t <;> first | rfl | exact h.elim
  subst hc
  cases s with
  | fld i => rcases hT with ⟨n, rfl⟩ | rfl <;> simp [tyAt] at ht
  | idx i =>
    have ht' : tyAt .cell p = some T' := by rcases hT with ⟨n, rfl⟩ | rfl <;> simpa [tyAt] using ht
    cases p with
    | cons s p => exact absurd ht' tyAt_cell_cons
    | nil =>
      simp only [tyAt, Option.some.injEq] at ht'
      subst ht'
      simp only [okP] at ho
      simp only [getP, Option.some.injEq] at hx
      subst hx
      refine ⟨rfl, (l.take i).map D.u64, (l.drop (i + 1)).map D.u64, ?_, ?_⟩
      · simp only [D.flat]
        conv => lhs; rw [list_at l i 0 ho.1]
        simp
      · rcases hT with ⟨n, rfl⟩ | rfl <;> simp [offAt, Ty.size] <;> omega
  | win o n =>
    have ht' : tyAt (.arr n .cell) p = some T' := by rcases hT with ⟨n, rfl⟩ | rfl <;> simpa [tyAt] using ht
    simp only [okP] at ho
    simp only [getP] at hx
    obtain ⟨h1, pre, post, h2, h3⟩ := ih n ((l.drop o).take n) ht' (show ((l.drop o).take n).length = n by simp; omega) ho.2 hx
    refine ⟨h1, (l.take o).map D.u64 ++ pre, post ++ (l.drop (o + n)).map D.u64, ?_, ?_⟩
    · simp only [D.flat] at h2 ⊢
      conv => lhs; rw [list_win l o n]
      simp only [List.map_append, h2, List.append_assoc]
    · rcases hT with ⟨m, rfl⟩ | rfl <;> simp [offAt, Ty.size, h3] <;> omega

theorem flatTys_get : ∀ {fs : List Ty} (_ : Ty.flatTys fs) (i : Nat) {t : Ty} (_ : fs[i]? = some t), t.flatTy
  | [], _, i, _, e => by simp at e
  | f :: fs, hg, 0, _, e => by simp at e; subst e; exact hg.1
  | f :: fs, hg, i + 1, _, e => by simp at e; exact flatTys_get hg.2 i e

theorem flats_take_fields : ∀ {fs : List Ty} {l : List D} (_ : Ty.flatTys fs) (_ : hasTys fs l) (i : Nat), (D.flats (l.take i)).length = Ty.sizes (fs.take i)
  | _, _, _, _, 0 => by simp [D.flats, Ty.sizes]
  | [], [], _, _, i + 1 => by simp [D.flats, Ty.sizes]
  | f :: fs, a :: l, hg, h, i + 1 => by
    simp only [List.take_succ_cons, D.flats, Ty.sizes, List.length_append]
    rw [hasTy_length f a hg.1 h.1, flats_take_fields hg.2 h.2 i]
  | [], _ :: _, _, h, _ => h.elim
  | _ :: _, [], _, h, _ => h.elim

theorem getP_spec : ∀ (p : Path) (T : Ty) (d x : D) (T' : Ty), T.good → hasTy T d → tyAt T p = some T' → okP d p → getP d p = some x →
    hasTy T' x ∧ ∃ pre post, Lies T p d x pre post
  | [], T, d, x, T', _, h, ht, _, hx => by
    simp only [tyAt, Option.some.injEq] at ht
    simp only [getP, Option.some.injEq] at hx
    subst ht hx
    exact ⟨h, [], [], by simp, by simp [offAt]⟩
  | s :: p, T, d, x, T', hg, h, ht, ho, hx => by
    cases T with
    | cell => exact absurd ht tyAt_cell_cons
    | st fs =>
      cases s with
      | idx i => simp [tyAt] at ht
      | win o n => simp [tyAt] at ht
      | fld i =>
        cases d with
        | node l =>
          have h : hasTys fs l := h
          simp only [tyAt] at ht
          cases e : fs[i]? with
          | none => simp [e] at ht
          | some t =>
            simp only [e] at ht
            obtain ⟨d', hd', hty⟩ := hasTys_get h i e
            simp only [okP, nth_eq, hd'] at ho
            simp only [getP, nth_eq, hd'] at hx
            have hgt : t.good := by
              have hf := flatTys_get hg i e
              cases t <;> first | exact hf | exact hf.elim
            obtain ⟨h1, pre, post, h2, h3⟩ := getP_spec p t d' x T' hgt hty ht ho hx
            refine ⟨h1, D.flats (l.take i) ++ pre, post ++ D.flats (l.drop (i + 1)), ?_, ?_⟩
            · simp only [D.flat]
              rw [flats_split hd', h2]
              simp
            · simp only [offAt, e, List.length_append, h3]
              congr 1
              exact flats_take_fields hg h i
        | _ => exact h.elim
    | arr n t =>
      cases d with
      | u8s l => exact getP_u8s l t _ p s x T' (.inl ⟨n, rfl⟩) h ht ho hx fun n' l' a b c e => getP_spec p _ _ x T' hg b a c e
      | u32s l => exact getP_u32s l t _ p s x T' (.inl ⟨n, rfl⟩) h ht ho hx fun n' l' a b c e => getP_spec p _ _ x T' hg b a c e
      | u64s l => exact getP_u64s l t _ p s x T' (.inl ⟨n, rfl⟩) h ht ho hx fun n' l' a b c e => getP_spec p _ _ x T' hg b a c e
      | node l =>
        have h : l.length = n ∧ hasTyAll t l := h
        have hg : t.flatTy := hg
        have hgt : t.good := by cases t <;> first | exact hg | exact hg.elim
        cases s with
        | fld i => simp [tyAt] at ht
        | idx i =>
          simp only [tyAt] at ht
          simp only [okP] at ho
          simp only [getP] at hx
          have hd' := nthD_of ho.1
          obtain ⟨h1, pre, post, h2, h3⟩ := getP_spec p t _ x T' hgt (AllD_mem.1 h.2 _ (List.mem_of_getElem? hd')) ht ho.2 hx
          refine ⟨h1, D.flats (l.take i) ++ pre, post ++ D.flats (l.drop (i + 1)), ?_, ?_⟩
          · simp only [D.flat]
            rw [flats_split hd', h2]
            simp
          · simp only [offAt, List.length_append, h3, (flats_take_drop hg h.2 i (Nat.le_of_lt ho.1)).2]
        | win o m =>
          simp only [tyAt] at ht
          simp only [okP] at ho
          simp only [getP] at hx
          obtain ⟨h1, pre, post, h2, h3⟩ := getP_spec p (.arr m t) (.node ((l.drop o).take m)) x T' hg
            ⟨by simp; omega, AllD_mem.2 fun d hd => AllD_mem.1 h.2 d (List.mem_of_mem_drop (List.mem_of_mem_take hd))⟩ ht ho.2 hx
          refine ⟨h1, D.flats (l.take o) ++ pre, post ++ D.flats (l.drop (o + m)), ?_, ?_⟩
          · simp only [D.flat] at h2 ⊢
            conv => lhs; rw [list_win l o m]
            rw [D.flats_append, D.flats_append, h2]
            simp
          · simp only [offAt, List.length_append, h3, (flats_take_drop hg h.2 o (by omega)).2]
      | _ => exact h.elim
    | row t =>
      cases d with
      | u8s l => exact getP_u8s l t _ p s x T' (.inr rfl) h ht ho hx fun n' l' a b c e => getP_spec p _ _ x T' hg b a c e
      | u32s l => exact getP_u32s l t _ p s x T' (.inr rfl) h ht ho hx fun n' l' a b c e => getP_spec p _ _ x T' hg b a c e
      | u64s l => exact getP_u64s l t _ p s x T' (.inr rfl) h ht ho hx fun n' l' a b c e => getP_spec p _ _ x T' hg b a c e
      | node l =>
        have h : hasTyAll t l := h
        have hg : t.flatTy := hg
        have hgt : t.good := by cases t <;> first | exact hg | exact hg.elim
        cases s with
        | fld i => simp [tyAt] at ht
        | idx i =>
          simp only [tyAt] at ht
          simp only [okP] at ho
          simp only [getP] at hx
          have hd' := nthD_of ho.1
          obtain ⟨h1, pre, post, h2, h3⟩ := getP_spec p t _ x T' hgt (AllD_mem.1 h _ (List.mem_of_getElem? hd')) ht ho.2 hx
          refine ⟨h1, D.flats (l.take i) ++ pre, post ++ D.flats (l.drop (i + 1)), ?_, ?_⟩
          · simp only [D.flat]
            rw [flats_split hd', h2]
            simp
          · simp only [offAt, List.length_append, h3, (flats_take_drop hg h i (Nat.le_of_lt ho.1)).2]
        | win o m =>
          simp only [tyAt] at ht
          simp only [okP] at ho
          simp only [getP] at hx
          obtain ⟨h1, pre, post, h2, h3⟩ := getP_spec p (.arr m t) (.node ((l.drop o).take m)) x T' hg
            ⟨by simp; omega, AllD_mem.2 fun d hd => AllD_mem.1 h d (List.mem_of_mem_drop (List.mem_of_mem_take hd))⟩ ht ho.2 hx
          refine ⟨h1, D.flats (l.take o) ++ pre, post ++ D.flats (l.drop (o + m)), ?_, ?_⟩
          · simp only [D.flat] at h2 ⊢
            conv => lhs; rw [list_win l o m]
            rw [D.flats_append, D.flats_append, h2]
            simp
          · simp only [offAt, List.length_append, h3, (flats_take_drop hg h o (by omega)).2]
      | _ => exact h.elim

theorem setP_u8s (l : List (BitVec 8)) (t : Ty) (T : Ty) (p : Path) (s : Step) (x y d' : D) (T' : Ty) (hT : (∃ n, T = .arr n t) ∨ T = .row t) (h : hasTy T (.u8s l))
    (ht : tyAt T (s :: p) = some T') (ho : okP (.u8s l) (s :: p)) (hx : getP (.u8s l) (s :: p) = some x) (hs : setP (.u8s l) (s :: p) y = some d')
    (ih : ∀ n (l' : List (BitVec 8)) (d' : D), tyAt (.arr n t) p = some T' → hasTy (.arr n t) (.u8s l') → okP (.u8s l') p → getP (.u8s l') p = some x → setP (.u8s l') p y = some d' →
      hasTy (.arr n t) d' ∧ ∃ pre post, Lies (.arr n t) p (.u8s l') x pre post ∧ d'.flat = pre ++ y.flat ++ post) :
    hasTy T d' ∧ ∃ pre post, Lies T (s :: p) (.u8s l) x pre post ∧ d'.flat = pre ++ y.flat ++ post := by
  have hc : t = .cell := by
    rcases hT with ⟨n, rfl⟩ | rfl <;> cases t <;> first | rfl | exact h.elim
  subst hc
  cases s with
  | fld i => rcases hT with ⟨n, rfl⟩ | rfl <;> simp [tyAt] at ht
  | idx i =>
    have ht' : tyAt .cell p = some T' := by rcases hT with ⟨n, rfl⟩ | rfl <;> simpa [tyAt] using ht
    cases p with
    | cons s p => exact absurd ht' tyAt_cell_cons
    | nil =>
      simp only [okP] at ho
      simp only [getP, Option.some.injEq] at hx
      simp only [setP] at hs
      subst hx
      cases y with
      | u8 y =>
        simp only [Option.some.injEq] at hs
        subst hs
        refine ⟨?_, (l.take i).map D.u8, (l.drop (i + 1)).map D.u8, ⟨?_, ?_⟩, ?_⟩
        · rcases hT with ⟨n, rfl⟩ | rfl
          · have h : l.length = n := h
            show (l.set i y).length = n
            simp [h]
          · trivial
        · simp only [D.flat]
          conv => lhs; rw [list_at l i 0 ho.1]
          simp
        · rcases hT with ⟨n, rfl⟩ | rfl <;> simp [offAt, Ty.size] <;> omega
        · simp only [D.flat]
          rw [list_set l i y ho.1]
          simp
      | _ => simp at hs
  | win o n =>
    have ht' : tyAt (.arr n .cell) p = some T' := by rcases hT with ⟨n, rfl⟩ | rfl <;> simpa [tyAt] using ht
    simp only [okP] at ho
    simp only [getP] at hx
    simp only [setP] at hs
    cases e : setP (.u8s ((l.drop o).take n)) p y with
    | none => simp [e] at hs
    | some d1 =>
      obtain ⟨h1, pre, post, ⟨h2, h3⟩, h4⟩ := ih n ((l.drop o).take n) d1 ht' (show ((l.drop o).take n).length = n by simp; omega) ho.2 hx e
      cases d1 with
      | u8s l' =>
        simp only [e, Option.some.injEq] at hs
        subst hs
        have hl : l'.length = n := h1
        refine ⟨?_, (l.take o).map D.u8 ++ pre, post ++ (l.drop (o + n)).map D.u8, ⟨?_, ?_⟩, ?_⟩
        · rcases hT with ⟨m, rfl⟩ | rfl
          · have h : l.length = m := h
            show (l.take o ++ l' ++ l.drop (o + n)).length = m
            simp [hl, h]; omega
          · trivial
        · simp only [D.flat] at h2 ⊢
          conv => lhs; rw [list_win l o n]
          simp only [List.map_append, h2, List.append_assoc]
        · rcases hT with ⟨m, rfl⟩ | rfl <;> simp [offAt, Ty.size, h3] <;> omega
        · simp only [D.flat] at h4 ⊢
          simp only [List.map_append, h4, List.append_assoc]
      | _ => simp [e] at hs

theorem setP_u32s (l : List (BitVec 32)) (t : Ty) (T : Ty) (p : Path) (s : Step) (x y d' : D) (T' : Ty) (hT : (∃ n, T = .arr n t) ∨ T = .row t) (h : hasTy T (.u32s l))
    (ht : tyAt T (s :: p) = some T') (ho : okP (.u32s l) (s :: p)) (hx : getP (.u32s l) (s :: p) = some x) (hs : setP (.u32s l) (s :: p) y = some d')
    (ih : ∀ n (l' : List (BitVec 32)) (d' : D), tyAt (.arr n t) p = some T' → hasTy (.arr n t) (.u32s l') → okP (.u32s l') p → getP (.u32s l') p = some x → setP (.u32s l') p y = some d' →
      hasTy (.arr n t) d' ∧ ∃ pre post, Lies (.arr n t) p (.u32s l') x pre post ∧ d'.flat = pre ++ y.flat ++ post) :
    hasTy T d' ∧ ∃ pre post, Lies T (s :: p) (.u32s l) x pre post ∧ d'.flat = pre ++ y.flat ++ post := by
  have hc : t = .cell := by
    rcases hT with ⟨n, rfl⟩ | rfl <;> cases t <;> first | rfl | exact h.elim
  subst hc
  cases s with
  | fld i => rcases hT with ⟨n, rfl⟩ | rfl <;> simp [tyAt] at ht
  | idx i =>
    have ht' : tyAt .cell p = some T' := by rcases hT with ⟨n, rfl⟩ | rfl <;> simpa [tyAt] using ht
    cases p with
    | cons s p => exact absurd ht' tyAt_cell_cons
    | nil =>
      simp only [okP] at ho
      simp only [getP, Option.some.injEq] at hx
      simp only [setP] at hs
      subst hx
      cases y with
      | u32 y =>
        simp only [Option.some.injEq] at hs
        subst hs
        refine ⟨?_, (l.take i).map D.u32, (l.drop (i + 1)).map D.u32, ⟨?_, ?_⟩, ?_⟩
        · rcases hT with ⟨n, rfl⟩ | rfl
          · have h : l.length = n := h
            show (l.set i y).length = n
            simp [h]
          · trivial
        · simp only [D.flat]
          conv => lhs; rw [list_at l i 0 ho.1]
          simp
        · rcases hT with ⟨n, rfl⟩ | rfl <;> simp [offAt, Ty.size] <;> omega
        · simp only [D.flat]
          rw [list_set l i y ho.1]
          simp
      | _ => simp at hs
  | win o n =>
    have ht' : tyAt (.arr n .cell) p = some T' := by rcases hT with ⟨n, rfl⟩ | rfl <;> simpa [tyAt] using ht
    simp only [okP] at ho
    simp only [getP] at hx
    simp only [setP] at hs
    cases e : setP (.u32s ((l.drop o).take n)) p y with
    | none => simp [e] at hs
    | some d1 =>
      obtain ⟨h1, pre, post, ⟨h2, h3⟩, h4⟩ := ih n ((l.drop o).take n) d1 ht' (show ((l.drop o).take n).length = n by simp; omega) ho.2 hx e
      cases d1 with
      | u32s l' =>
        simp only [e, Option.some.injEq] at hs
        subst hs
        have hl : l'.length = n := h1
        refine ⟨?_, (l.take o).map D.u32 ++ pre, post ++ (l.drop (o + n)).map D.u32, ⟨?_, ?_⟩, ?_⟩
        · rcases hT with ⟨m, rfl⟩ | rfl
          · have h : l.length = m := h
            show (l.take o ++ l' ++ l.drop (o + n)).length = m
            simp [hl, h]; omega
          · trivial
        · simp only [D.flat] at h2 ⊢
          conv => lhs; rw [list_win l o n]
          simp only [List.map_append, h2, List.append_assoc]
        · rcases hT with ⟨m, rfl⟩ | rfl <;> simp [offAt, Ty.size, h3] <;> omega
        · simp only [D.flat] at h4 ⊢
          simp only [List.map_append, h4, List.append_assoc]
      | _ => simp [e] at hs

theorem setP_u64s (l : List (BitVec 64)) (t : Ty) (T : Ty) (p : Path) (s : Step) (x y d' : D) (T' : Ty) (hT : (∃ n, T = .arr n t) ∨ T = .row t) (h : hasTy T (.u64s l))
    (ht : tyAt T (s :: p) = some T') (ho : okP (.u64s l) (s :: p)) (hx : getP (.u64s l) (s :: p) = some x) (hs : setP (.u64s l) (s :: p) y = some d')
    (ih : ∀ n (l' : List (BitVec 64)) (d' : D), tyAt (.arr n t) p = some T' → hasTy (.arr n t) (.u64s l') → okP (.u64s l') p → getP (.u64s l') p = some x → setP (.u64s l') p y = some d' →
      hasTy (.arr n t) d' ∧ ∃ pre post, Lies (.arr n t) p (.u64s l') x pre post ∧ d'.flat = pre ++ y.flat ++ post) :
    hasTy T d' ∧ ∃ pre post, Lies T (s :: p) (.u64s l) x pre post ∧ d'.flat = pre ++ y.flat ++ post := by
  have hc : t = .cell := by
    rcases hT with ⟨n, rfl⟩ | rfl <;> cases t <;> first | rfl | exact h.elim
  subst hc
  cases s with
  | fld i => rcases hT with ⟨n, rfl⟩ | rfl <;> simp [tyAt] at ht
  | idx i =>
    have ht' : tyAt .cell p = some T' := by rcases hT with ⟨n, rfl⟩ | rfl <;> simpa [tyAt] using ht
    cases p with
    | cons s p => exact absurd ht' tyAt_cell_cons
    | nil =>
      simp only [okP] at ho
      simp only [getP, Option.some.injEq] at hx
      simp only [setP] at hs
      subst hx
      cases y with
      | u64 y =>
        simp only [Option.some.injEq] at hs
        subst hs
        refine ⟨?_, (l.take i).map D.u64, (l.drop (i + 1)).map D.u64, ⟨?_, ?_⟩, ?_⟩
        · rcases hT with ⟨n, rfl⟩ | rfl
          · have h : l.length = n := h
            show (l.set i y).length = n
            simp [h]
          · trivial
        · simp only [D.flat]
          conv => lhs; rw [list_at l i 0 ho.1]
          simp
        · rcases hT with ⟨n, rfl⟩ | rfl <;> simp [offAt, Ty.size] <;> omega
        · simp only [D.flat]
          rw [list_set l i y ho.1]
          simp
      | _ => simp at hs
  | win o n =>
    have ht' : tyAt (.arr n .cell) p = some T' := by rcases hT with ⟨n, rfl⟩ | rfl <;> simpa [tyAt] using ht
    simp only [okP] at ho
    simp only [getP] at hx
    simp only [setP] at hs
    cases e : setP (.u64s ((l.drop o).take n)) p y with
    | none => simp [e] at hs
    | some d1 =>
      obtain ⟨h1, pre, post, ⟨h2, h3⟩, h4⟩ := ih n ((l.drop o).take n) d1 ht' (show ((l.drop o).take n).length = n by simp; omega) ho.2 hx e
      cases d1 with
      | u64s l' =>
        simp only [e, Option.some.injEq] at hs
        subst hs
        have hl : l'.length = n := h1
        refine ⟨?_, (l.take o).map D.u64 ++ pre, post ++ (l.drop (o + n)).map D.u64, ⟨?_, ?_⟩, ?_⟩
        · rcases hT with ⟨m, rfl⟩ | rfl
          · have h : l.length = m := h
            show (l.take o ++ l' ++ l.drop (o + n)).length = m
            simp [hl, h]; omega
          · trivial
        · simp only [D.flat] at h2 ⊢
          conv => lhs; rw [list_win l o n]
          simp only [List.map_append, h2, List.append_assoc]
        · rcases hT with ⟨m, rfl⟩ | rfl <;> simp [offAt, Ty.size, h3] <;> omega
        · simp only [D.flat] at h4 ⊢
          simp only [List.map_append, h4, List.append_assoc]
      | _ => simp [e] at hs

theorem hasTys_set : ∀ {fs : List Ty} {l : List D} (_ : hasTys fs l) (i : Nat) {t : Ty} {d : D} (_ : fs[i]? = some t) (_ : hasTy t d), hasTys fs (l.set i d)
  | _ :: _, _ :: _, h, 0, _, _, e, hd => by simp at e; subst e; exact ⟨hd, h.2⟩
  | _ :: _, _ :: _, h, i + 1, _, _, e, hd => by simp at e; exact ⟨h.1, hasTys_set h.2 i e hd⟩
  | [], [], _, i, _, _, e, _ => by simp at e
  | [], _ :: _, h, _, _, _, _, _ => h.elim
  | _ :: _, [], h, _, _, _, _, _ => h.elim

theorem AllD_set {P : D → Prop} {l : List D} (h : AllD P l) (i : Nat) {d : D} (hd : P d) : AllD P (l.set i d) := by
  refine AllD_mem.2 fun x hx => ?_
  rcases List.mem_or_eq_of_mem_set hx with h' | rfl
  · exact AllD_mem.1 h x h'
  · exact hd

theorem lt_of_get {l : List D} {i : Nat} {d : D} (h : l[i]? = some d) : i < l.length := by
  rcases Nat.lt_or_ge i l.length with h' | h'
  · exact h'
  · simp [List.getElem?_eq_none h'] at h

theorem flats_set {l : List D} {i : Nat} {d d' : D} (h : l[i]? = some d) : D.flats (l.set i d') = D.flats (l.take i) ++ (d'.flat ++ D.flats (l.drop (i + 1))) := by
  have hl := lt_of_get h
  rw [list_set l i d' hl, D.flats_append]
  rfl

theorem setP_spec : ∀ (p : Path) (T : Ty) (d x y d' : D) (T' : Ty), T.good → hasTy T d → tyAt T p = some T' → okP d p → getP d p = some x → setP d p y = some d' → hasTy T' y →
    hasTy T d' ∧ ∃ pre post, Lies T p d x pre post ∧ d'.flat = pre ++ y.flat ++ post
  | [], T, d, x, y, d', T', _, _, ht, _, hx, hs, hy => by
    simp only [tyAt, Option.some.injEq] at ht
    simp only [getP, Option.some.injEq] at hx
    simp only [setP, Option.some.injEq] at hs
    subst ht hx hs
    exact ⟨hy, [], [], ⟨by simp, by simp [offAt]⟩, by simp⟩
  | s :: p, T, d, x, y, d', T', hg, h, ht, ho, hx, hs, hy => by
    cases T with
    | cell => exact absurd ht tyAt_cell_cons
    | st fs =>
      cases s with
      | idx i => simp [tyAt] at ht
      | win o n => simp [tyAt] at ht
      | fld i =>
        cases d with
        | node l =>
          have h : hasTys fs l := h
          simp only [tyAt] at ht
          cases e : fs[i]? with
          | none => simp [e] at ht
          | some t =>
            simp only [e] at ht
            obtain ⟨d1, hd1, hty⟩ := hasTys_get h i e
            simp only [okP, nth_eq, hd1] at ho
            simp only [getP, nth_eq, hd1] at hx
            simp only [setP, nth_eq, hd1] at hs
            cases e1 : setP d1 p y with
            | none => simp [e1] at hs
            | some d2 =>
              simp only [e1, Option.some.injEq] at hs
              subst hs
              have hgt : t.good := by
                have hf := flatTys_get hg i e
                cases t <;> first | exact hf | exact hf.elim
              obtain ⟨h1, pre, post, ⟨h2, h3⟩, h4⟩ := setP_spec p t d1 x y d2 T' hgt hty ht ho hx e1 hy
              refine ⟨hasTys_set h i e h1, D.flats (l.take i) ++ pre, post ++ D.flats (l.drop (i + 1)), ⟨?_, ?_⟩, ?_⟩
              · simp only [D.flat]
                rw [flats_split hd1, h2]
                simp
              · simp only [offAt, e, List.length_append, h3]
                congr 1
                exact flats_take_fields hg h i
              · simp only [D.flat]
                rw [flats_set hd1, h4]
                simp
        | _ => exact h.elim
    | arr n t =>
      cases d with
      | u8s l => exact setP_u8s l t _ p s x y d' T' (.inl ⟨n, rfl⟩) h ht ho hx hs fun n' l' d'' a b c e f => setP_spec p _ _ x y _ T' hg b a c e f hy
      | u32s l => exact setP_u32s l t _ p s x y d' T' (.inl ⟨n, rfl⟩) h ht ho hx hs fun n' l' d'' a b c e f => setP_spec p _ _ x y _ T' hg b a c e f hy
      | u64s l => exact setP_u64s l t _ p s x y d' T' (.inl ⟨n, rfl⟩) h ht ho hx hs fun n' l' d'' a b c e f => setP_spec p _ _ x y _ T' hg b a c e f hy
      | node l =>
        have h : l.length = n ∧ hasTyAll t l := h
        have hg : t.flatTy := hg
        have hgt : t.good := by cases t <;> first | exact hg | exact hg.elim
        cases s with
        | fld i => simp [tyAt] at ht
        | idx i =>
          simp only [tyAt] at ht
          simp only [okP] at ho
          simp only [getP] at hx
          simp only [setP] at hs
          have hd1 := nthD_of ho.1
          cases e1 : setP (nthD l i) p y with
          | none => simp [e1] at hs
          | some d2 =>
            simp only [e1, Option.some.injEq] at hs
            subst hs
            obtain ⟨h1, pre, post, ⟨h2, h3⟩, h4⟩ := setP_spec p t _ x y d2 T' hgt (AllD_mem.1 h.2 _ (List.mem_of_getElem? hd1)) ht ho.2 hx e1 hy
            refine ⟨⟨by simp [h.1], AllD_set h.2 i h1⟩, D.flats (l.take i) ++ pre, post ++ D.flats (l.drop (i + 1)), ⟨?_, ?_⟩, ?_⟩
            · simp only [D.flat]
              rw [flats_split hd1, h2]
              simp
            · simp only [offAt, List.length_append, h3, (flats_take_drop hg h.2 i (Nat.le_of_lt ho.1)).2]
            · simp only [D.flat]
              rw [flats_set hd1, h4]
              simp
        | win o m =>
          simp only [tyAt] at ht
          simp only [okP] at ho
          simp only [getP] at hx
          simp only [setP] at hs
          cases e1 : setP (.node ((l.drop o).take m)) p y with
          | none => simp [e1] at hs
          | some d2 =>
            obtain ⟨h1, pre, post, ⟨h2, h3⟩, h4⟩ := setP_spec p (.arr m t) (.node ((l.drop o).take m)) x y d2 T' hg
              ⟨by simp; omega, AllD_mem.2 fun d hd => AllD_mem.1 h.2 d (List.mem_of_mem_drop (List.mem_of_mem_take hd))⟩ ht ho.2 hx e1 hy
            cases d2 with
            | node l' =>
              simp only [e1, Option.some.injEq] at hs
              subst hs
              have h1 : l'.length = m ∧ hasTyAll t l' := h1
              refine ⟨⟨by simp [h1.1]; omega, AllD_mem.2 fun d hd => ?_⟩, D.flats (l.take o) ++ pre, post ++ D.flats (l.drop (o + m)), ⟨?_, ?_⟩, ?_⟩
              · rcases List.mem_append.1 hd with hd | hd
                · rcases List.mem_append.1 hd with hd | hd
                  · exact AllD_mem.1 h.2 d (List.mem_of_mem_take hd)
                  · exact AllD_mem.1 h1.2 d hd
                · exact AllD_mem.1 h.2 d (List.mem_of_mem_drop hd)
              · simp only [D.flat] at h2 ⊢
                conv => lhs; rw [list_win l o m]
                rw [D.flats_append, D.flats_append, h2]
                simp
              · simp only [offAt, List.length_append, h3, (flats_take_drop hg h.2 o (by omega)).2]
              · simp only [D.flat] at h4 ⊢
                rw [D.flats_append, D.flats_append, h4]
                simp
            | _ => simp [e1] at hs
      | _ => exact h.elim
    | row t =>
      cases d with
      | u8s l => exact setP_u8s l t _ p s x y d' T' (.inr rfl) h ht ho hx hs fun n' l' d'' a b c e f => setP_spec p _ _ x y _ T' hg b a c e f hy
      | u32s l => exact setP_u32s l t _ p s x y d' T' (.inr rfl) h ht ho hx hs fun n' l' d'' a b c e f => setP_spec p _ _ x y _ T' hg b a c e f hy
      | u64s l => exact setP_u64s l t _ p s x y d' T' (.inr rfl) h ht ho hx hs fun n' l' d'' a b c e f => setP_spec p _ _ x y _ T' hg b a c e f hy
      | node l =>
        have h : hasTyAll t l := h
        have hg : t.flatTy := hg
        have hgt : t.good := by cases t <;> first | exact hg | exact hg.elim
        cases s with
        | fld i => simp [tyAt] at ht
        | idx i =>
          simp only [tyAt] at ht
          simp only [okP] at ho
          simp only [getP] at hx
          simp only [setP] at hs
          have hd1 := nthD_of ho.1
          cases e1 : setP (nthD l i) p y with
          | none => simp [e1] at hs
          | some d2 =>
            simp only [e1, Option.some.injEq] at hs
            subst hs
            obtain ⟨h1, pre, post, ⟨h2, h3⟩, h4⟩ := setP_spec p t _ x y d2 T' hgt (AllD_mem.1 h _ (List.mem_of_getElem? hd1)) ht ho.2 hx e1 hy
            refine ⟨AllD_set h i h1, D.flats (l.take i) ++ pre, post ++ D.flats (l.drop (i + 1)), ⟨?_, ?_⟩, ?_⟩
            · simp only [D.flat]
              rw [flats_split hd1, h2]
              simp
            · simp only [offAt, List.length_append, h3, (flats_take_drop hg h i (Nat.le_of_lt ho.1)).2]
            · simp only [D.flat]
              rw [flats_set hd1, h4]
              simp
        | win o m =>
          simp only [tyAt] at ht
          simp only [okP] at ho
          simp only [getP] at hx
          simp only [setP] at hs
          cases e1 : setP (.node ((l.drop o).take m)) p y with
          | none => simp [e1] at hs
          | some d2 =>
            obtain ⟨h1, pre, post, ⟨h2, h3⟩, h4⟩ := setP_spec p (.arr m t) (.node ((l.drop o).take m)) x y d2 T' hg
              ⟨by simp; omega, AllD_mem.2 fun d hd => AllD_mem.1 h d (List.mem_of_mem_drop (List.mem_of_mem_take hd))⟩ ht ho.2 hx e1 hy
            cases d2 with
            | node l' =>
              simp only [e1, Option.some.injEq] at hs
              subst hs
              have h1 : l'.length = m ∧ hasTyAll t l' := h1
              refine ⟨AllD_mem.2 fun d hd => ?_, D.flats (l.take o) ++ pre, post ++ D.flats (l.drop (o + m)), ⟨?_, ?_⟩, ?_⟩
              · rcases List.mem_append.1 hd with hd | hd
                · rcases List.mem_append.1 hd with hd | hd
                  · exact AllD_mem.1 h d (List.mem_of_mem_take hd)
                  · exact AllD_mem.1 h1.2 d hd
                · exact AllD_mem.1 h d (List.mem_of_mem_drop hd)
              · simp only [D.flat] at h2 ⊢
                conv => lhs; rw [list_win l o m]
                rw [D.flats_append, D.flats_append, h2]
                simp
              · simp only [offAt, List.length_append, h3, (flats_take_drop hg h o (by omega)).2]
              · simp only [D.flat] at h4 ⊢
                rw [D.flats_append, D.flats_append, h4]
                simp
            | _ => simp [e1] at hs
      | _ => exact h.elim
end Go.Proofs.YtljkjdhkofbgmaaDoor.Av
