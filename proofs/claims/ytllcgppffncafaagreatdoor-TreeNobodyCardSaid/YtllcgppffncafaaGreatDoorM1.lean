import Derived.Calls
import Derived.Laws.Cells
import Derived.Laws.World
import Derived.Laws.Sem
import Derived.Laws.Entries
import GoSem.ClaimKeys
import Derived.DeepKeys
import Derived.Laws.Strings
import Derived.Laws.StructEq
namespace Go.Proofs.YtllcgppffncafaaGreatDoor.Av
open Go
set_option linter.all false
abbrev B8 : Type := List (BitVec 8)
set_option maxRecDepth 3000
def All2 {α β : Type} (R : α → β → Prop) : List α → List β → Prop
 |[], [] => True
 |a :: as, b :: bs => R a b ∧ All2 R as bs
 |_, _ => False
theorem All2.length {α β : Type} {R : α → β → Prop} : ∀ {as : List α} {bs : List β}, All2 R as bs → as.length = bs.length
 |[], [], _ => rfl
 |_ :: _, _ :: _, h => by simp [All2.length h.2]
 |[], _ :: _, h => h.elim
 |_ :: _, [], h => h.elim
theorem All2.mono {α β : Type} {R S : α → β → Prop} (h : ∀ a b, R a b → S a b) : ∀ {as : List α} {bs : List β}, All2 R as bs → All2 S as bs
 |[], [], _ => trivial
 |_ :: _, _ :: _, H => ⟨h _ _ H.1, All2.mono h H.2⟩
 |[], _ :: _, H => H.elim
 |_ :: _, [], H => H.elim
theorem All2.append {α β : Type} {R : α → β → Prop} : ∀ {as as' : List α} {bs bs' : List β}, All2 R as bs → All2 R as' bs' → All2 R (as ++ as') (bs ++ bs')
 |[], _, [], _, _, h' => h'
 |_ :: _, _, _ :: _, _, h, h' => ⟨h.1, All2.append h.2 h'⟩
 |[], _, _ :: _, _, h, _ => h.elim
 |_ :: _, _, [], _, h, _ => h.elim
theorem All2.split_left {α β : Type} {R : α → β → Prop} : ∀ {as as' : List α} {bs : List β}, All2 R (as ++ as') bs → ∃ b1 b2, bs = b1 ++ b2 ∧ All2 R as b1 ∧ All2 R as' b2
 |[], _, bs, h => ⟨[], bs, rfl, trivial, h⟩
 |_ :: as, as', b :: bs, h => by
  obtain ⟨b1, b2, e, h1, h2⟩ := All2.split_left (as := as) (as' := as') h.2
  exact ⟨b :: b1, b2, by rw [e]; rfl, ⟨h.1, h1⟩, h2⟩
 |_ :: _, _, [], h => h.elim
theorem All2.map_left {α β γ : Type} {R : α → β → Prop} (f : γ → α) : ∀ {as : List γ} {bs : List β}, All2 R (as.map f) bs ↔ All2 (fun a b => R (f a) b) as bs
 |[], [] => Iff.rfl
 |_ :: _, _ :: _ => and_congr Iff.rfl (All2.map_left f)
 |[], _ :: _ => Iff.rfl
 |_ :: _, [] => Iff.rfl
theorem All2.map_right {α β γ : Type} {R : α → β → Prop} (f : γ → β) : ∀ {as : List α} {bs : List γ}, All2 R as (bs.map f) ↔ All2 (fun a b => R a (f b)) as bs
 |[], [] => Iff.rfl
 |_ :: _, _ :: _ => and_congr Iff.rfl (All2.map_right f)
 |[], _ :: _ => Iff.rfl
 |_ :: _, [] => Iff.rfl
theorem All2.refl_of {α : Type} {R : α → α → Prop} (h : ∀ a, R a a) : ∀ as : List α, All2 R as as
 |[] => trivial
 |_ :: as => ⟨h _, All2.refl_of h as⟩
theorem All2.eq {α β : Type} (f : α → β) : ∀ {as : List α} {bs : List β}, All2 (fun a b => b = f a) as bs ↔ bs = as.map f
 |[], [] => by simp [All2]
 |_ :: as, _ :: bs => by simp [All2, All2.eq f (as := as) (bs := bs)]
 |[], _ :: _ => by simp [All2]
 |_ :: _, [] => by simp [All2]
theorem All2.get {α β : Type} {R : α → β → Prop} : ∀ {as : List α} {bs : List β} (_ : All2 R as bs) (i : Nat) {a : α} (_ : as[i]? = some a), ∃ b, bs[i]? = some b ∧ R a b
 |_ :: _, b :: _, h, 0, _, e => by simp at e; subst e; exact ⟨b, rfl, h.1⟩
 |_ :: _, _ :: _, h, i + 1, _, e => by simp at e ⊢; exact All2.get h.2 i e
 |[], [], _, _, _, e => by simp at e
 |[], _ :: _, h, _, _, _ => h.elim
 |_ :: _, [], h, _, _, _ => h.elim
abbrev xZ := BitVec 8
inductive Step where
 |fld (i : Nat)
 |idx (i : Nat)
 |win (off n : Nat)
abbrev cK := List Step
inductive Ty where
 |cell
 |arr (n : Nat) (t : Ty)
 |st (fs : List Ty)
 |row (t : Ty)
mutual
def Ty.size : Ty → Nat
 |.cell => 1
 |.arr n t => n * t.size
 |.st fs => Ty.sizes fs
 |.row _ => 0
def Ty.sizes : List Ty → Nat
 |[] => 0
 |t :: ts => t.size + Ty.sizes ts
end
inductive D where
 |undef
 |bool (b : Bool)
 |u8 (x : BitVec 8)
 |u16 (x : BitVec 16)
 |u32 (x : BitVec 32)
 |u64 (x : BitVec 64)
 |i64 (n : Int)
 |str (l : List xZ)
 |nilptr
 |ptr (b : Nat) (p : cK)
 |nilslice
 |slice (b : Nat) (p : cK) (off len : Nat) (cap : Option Nat)
 |fn (f : Nat) (bd caps : List D)
 |nilfn
 |fz (l : B8) (cap : Option Nat)
 |u8s (l : B8)
 |u32s (l : List (BitVec 32))
 |u64s (l : List (BitVec 64))
 |node (l : List D)
 |tup (l : List D)
instance : Inhabited D := ⟨.undef⟩
mutual
def D.flat : D → List D
 |.u8s l => l.map .u8
 |.u32s l => l.map .u32
 |.u64s l => l.map .u64
 |.node l => D.flats l
 |.tup _ => []
 |d => [d]
def D.flats : List D → List D
 |[] => []
 |d :: ds => d.flat ++ D.flats ds
end
theorem D.flats_append (a b : List D) : D.flats (a ++ b) = D.flats a ++ D.flats b := by
 induction a with
 |nil => simp [D.flats]
 |cons x xs ih => simp [D.flats, ih]
def D.isAgg : D → Bool
 |.u8s _ | .u32s _ | .u64s _ | .node _ => true
 |_ => false
def D.isCell : D → Bool
 |.u8s _ | .u32s _ | .u64s _ | .node _ | .tup _ | .undef => false
 |_ => true
theorem D.flat_cell {d : D} (h : d.isCell = true) : d.flat = [d] := by
 cases d <;> simp_all [D.isCell, D.flat]
def iY (P : D → Prop) : List D → Prop
 |[] => True
 |d :: ds => P d ∧ iY P ds
theorem aJ {P : D → Prop} : ∀ {l : List D}, iY P l ↔ ∀ d ∈ l, P d
 |[] => by simp [iY]
 |d :: ds => by simp [iY, aJ (l := ds)]
mutual
def aD : Ty → D → Prop
 |.cell => fun d => d.isCell = true
 |.arr n t => fun d => match d with
  |.u8s l => match t with | .cell => l.length = n | _ => False
  |.u32s l => match t with | .cell => l.length = n | _ => False
  |.u64s l => match t with | .cell => l.length = n | _ => False
  |.node l => l.length = n ∧ iY (aD t) l
  |_ => False
 |.row t => fun d => match d with
  |.u8s _ => match t with | .cell => True | _ => False
  |.u32s _ => match t with | .cell => True | _ => False
  |.u64s _ => match t with | .cell => True | _ => False
  |.node l => iY (aD t) l
  |_ => False
 |.st fs => fun d => match d with
  |.node l => dD fs l
  |_ => False
def dD : List Ty → List D → Prop
 |[] => fun l => match l with
  |[] => True
  |_ => False
 |t :: ts => fun l => match l with
  |d :: ds => aD t d ∧ dD ts ds
  |[] => False
end
abbrev d4 (t : Ty) (l : List D) : Prop := iY (aD t) l
def aM : Ty → cK → Option Ty
 |t, [] => some t
 |.st fs, .fld i :: p => match fs[i]? with
  |some t => aM t p
  |none => none
 |.arr _ t, .idx _ :: p => aM t p
 |.row t, .idx _ :: p => aM t p
 |.arr _ t, .win _ n :: p => aM (.arr n t) p
 |.row t, .win _ n :: p => aM (.arr n t) p
 |_, _ => none
def aE : Ty → cK → Nat
 |_, [] => 0
 |.st fs, .fld i :: p => Ty.sizes (fs.take i) + (match fs[i]? with | some t => aE t p | none => 0)
 |.arr _ t, .idx i :: p => i * t.size + aE t p
 |.row t, .idx i :: p => i * t.size + aE t p
 |.arr _ t, .win o n :: p => o * t.size + aE (.arr n t) p
 |.row t, .win o n :: p => o * t.size + aE (.arr n t) p
 |_, _ => 0
def nth : List D → Nat → Option D
 |d :: _, 0 => some d
 |_ :: ds, i + 1 => nth ds i
 |[], _ => none
theorem gK : ∀ (l : List D) (i : Nat), nth l i = l[i]?
 |[], _ => by simp [nth]
 |_ :: _, 0 => by simp [nth]
 |_ :: l, i + 1 => by simp [nth, gK l i]
def d9 (l : List D) (i : Nat) : D := match nth l i with | some d => d | none => .undef
def okP : D → cK → Prop
 |_, [] => True
 |.node l, .fld i :: p => match nth l i with
  |some d => okP d p
  |none => False
 |.node l, .idx i :: p => i < l.length ∧ okP (d9 l i) p
 |.node l, .win o n :: p => o + n ≤ l.length ∧ okP (.node ((l.drop o).take n)) p
 |.u8s l, .idx i :: p => i < l.length ∧ okP (.u8 (l.getD i 0)) p
 |.u8s l, .win o n :: p => o + n ≤ l.length ∧ okP (.u8s ((l.drop o).take n)) p
 |.u32s l, .idx i :: p => i < l.length ∧ okP (.u32 (l.getD i 0)) p
 |.u32s l, .win o n :: p => o + n ≤ l.length ∧ okP (.u32s ((l.drop o).take n)) p
 |.u64s l, .idx i :: p => i < l.length ∧ okP (.u64 (l.getD i 0)) p
 |.u64s l, .win o n :: p => o + n ≤ l.length ∧ okP (.u64s ((l.drop o).take n)) p
 |_, _ => False
def bZ : D → cK → Option D
 |d, [] => some d
 |.node l, .fld i :: p => match nth l i with
  |some d => bZ d p
  |none => none
 |.node l, .idx i :: p => bZ (d9 l i) p
 |.node l, .win o n :: p => bZ (.node ((l.drop o).take n)) p
 |.u8s l, .idx i :: p => bZ (.u8 (l.getD i 0)) p
 |.u8s l, .win o n :: p => bZ (.u8s ((l.drop o).take n)) p
 |.u32s l, .idx i :: p => bZ (.u32 (l.getD i 0)) p
 |.u32s l, .win o n :: p => bZ (.u32s ((l.drop o).take n)) p
 |.u64s l, .idx i :: p => bZ (.u64 (l.getD i 0)) p
 |.u64s l, .win o n :: p => bZ (.u64s ((l.drop o).take n)) p
 |_, _ => none
def fC : D → cK → D → Option D
 |_, [], x => some x
 |.node l, .fld i :: p, x => match nth l i with
  |some d => match fC d p x with
   |some d' => some (.node (l.set i d'))
   |none => none
  |none => none
 |.node l, .idx i :: p, x => match fC (d9 l i) p x with
  |some d' => some (.node (l.set i d'))
  |none => none
 |.node l, .win o n :: p, x => match fC (.node ((l.drop o).take n)) p x with
  |some (.node l') => some (.node (l.take o ++ l' ++ l.drop (o + n)))
  |_ => none
 |.u8s l, .idx i :: p, x => match fC (.u8 (l.getD i 0)) p x with
  |some (.u8 y) => some (.u8s (l.set i y))
  |_ => none
 |.u8s l, .win o n :: p, x => match fC (.u8s ((l.drop o).take n)) p x with
  |some (.u8s l') => some (.u8s (l.take o ++ l' ++ l.drop (o + n)))
  |_ => none
 |.u32s l, .idx i :: p, x => match fC (.u32 (l.getD i 0)) p x with
  |some (.u32 y) => some (.u32s (l.set i y))
  |_ => none
 |.u32s l, .win o n :: p, x => match fC (.u32s ((l.drop o).take n)) p x with
  |some (.u32s l') => some (.u32s (l.take o ++ l' ++ l.drop (o + n)))
  |_ => none
 |.u64s l, .idx i :: p, x => match fC (.u64 (l.getD i 0)) p x with
  |some (.u64 y) => some (.u64s (l.set i y))
  |_ => none
 |.u64s l, .win o n :: p, x => match fC (.u64s ((l.drop o).take n)) p x with
  |some (.u64s l') => some (.u64s (l.take o ++ l' ++ l.drop (o + n)))
  |_ => none
 |_, _, _ => none
theorem qL {fs : List Ty} {l : List D} (h : dD fs l) (i : Nat) {t : Ty} (ht : fs[i]? = some t) : ∃ d, l[i]? = some d ∧ aD t d := by
 induction fs generalizing l i with
 |nil => simp at ht
 |cons f fs ih =>
  cases l with
  |nil => exact h.elim
  |cons d ds =>
   cases i with
   |zero => simp at ht; subst ht; exact ⟨d, by simp, h.1⟩
   |succ i => simp at ht; simpa using ih h.2 i ht
mutual
def Ty.flatTy : Ty → Prop
 |.row _ => False
 |.arr _ t => t.flatTy
 |.st fs => Ty.flatTys fs
 |.cell => True
def Ty.flatTys : List Ty → Prop
 |[] => True
 |t :: ts => t.flatTy ∧ Ty.flatTys ts
end
theorem oF {t : Ty} (h : ∀ d, aD t d → d.flat.length = t.size) : ∀ {l : List D}, d4 t l → (D.flats l).length = l.length * t.size
 |[], _ => by simp [D.flats]
 |d :: ds, H => by
  simp only [D.flats, List.length_append, h d H.1, oF h H.2, List.length_cons]
  rw [Nat.add_mul]; omega
mutual
theorem aG : ∀ (T : Ty) (d : D), T.flatTy → aD T d → d.flat.length = T.size
 |.cell, d, _, h => by rw [D.flat_cell h]; rfl
 |.arr n t, d, hf, h => by
  cases d with
  |u8s l => cases t <;> simp [aD] at h; subst h; simp [D.flat, Ty.size]
  |u32s l => cases t <;> simp [aD] at h; subst h; simp [D.flat, Ty.size]
  |u64s l => cases t <;> simp [aD] at h; subst h; simp [D.flat, Ty.size]
  |node l =>
   have h : l.length = n ∧ d4 t l := h
   simp only [D.flat, Ty.size]
   rw [← h.1]
   exact oF (fun d hd => aG t d hf hd) h.2
  |_ => simp [aD] at h
 |.row _, _, hf, _ => hf.elim
 |.st fs, d, hf, h => by
  cases d with
  |node l =>
   have h : dD fs l := h
   simp only [D.flat, Ty.size]
   exact iZ fs l hf h
  |_ => simp [aD] at h
theorem iZ : ∀ (fs : List Ty) (l : List D), Ty.flatTys fs → dD fs l → (D.flats l).length = Ty.sizes fs
 |[], [], _, _ => rfl
 |t :: ts, d :: ds, hf, h => by
  simp only [D.flats, Ty.sizes, List.length_append]
  rw [aG t d hf.1 h.1, iZ ts ds hf.2 h.2]
 |[], _ :: _, _, h => h.elim
 |_ :: _, [], _, h => h.elim
end
theorem aW {t : Ty} (hf : t.flatTy) {l : List D} (h : d4 t l) (i : Nat) (hi : i ≤ l.length) :
  D.flats l = D.flats (l.take i) ++ D.flats (l.drop i) ∧ (D.flats (l.take i)).length = i * t.size := by
 refine ⟨by rw [← D.flats_append, List.take_append_drop], ?_⟩
 have : d4 t (l.take i) := aJ.2 fun d hd => aJ.1 h d (List.mem_of_mem_take hd)
 rw [oF (fun d hd => aG t d hf hd) this, List.length_take]
 rw [Nat.min_eq_left hi]
theorem dS {l : List D} {i : Nat} {d : D} (h : l[i]? = some d) : D.flats l = D.flats (l.take i) ++ (d.flat ++ D.flats (l.drop (i + 1))) := by
 have hi : i < l.length := by
  rcases Nat.lt_or_ge i l.length with h' | h'
  ·exact h'
  ·simp [List.getElem?_eq_none h'] at h
 have e : l = l.take i ++ d :: l.drop (i + 1) := by
  have h2 : l[i] = d := by simpa [List.getElem?_eq_getElem hi] using h
  rw [← h2, List.getElem_cons_drop, List.take_append_drop]
 conv => lhs; rw [e]
 rw [D.flats_append]; rfl
def Ty.good : Ty → Prop
 |.row t => t.flatTy
 |t => t.flatTy
theorem d3 {α : Type} (l : List α) (o n : Nat) : l = l.take o ++ (l.drop o).take n ++ l.drop (o + n) := by
 rw [List.append_assoc, ← List.drop_drop, List.take_append_drop, List.take_append_drop]
theorem kA {α : Type} (l : List α) (i : Nat) (x : α) (h : i < l.length) : l.set i x = l.take i ++ x :: l.drop (i + 1) := by
 induction l generalizing i with
 |nil => simp at h
 |cons a l ih => cases i with
  |zero => simp
  |succ i => simp at h; simp [ih i h]
theorem lA {α : Type} (l : List α) (i : Nat) (z : α) (h : i < l.length) : l = l.take i ++ l.getD i z :: l.drop (i + 1) := by
 induction l generalizing i with
 |nil => simp at h
 |cons a l ih => cases i with
  |zero => simp
  |succ i => simp at h; simpa using ih i h
theorem aN {s : Step} {p : cK} {T : Ty} : aM .cell (s :: p) ≠ some T := by
 cases s <;> simp [aM]
def aAI (T : Ty) (p : cK) (d x : D) (pre post : List D) : Prop := d.flat = pre ++ x.flat ++ post ∧ pre.length = aE T p
theorem rL {l : List D} {i : Nat} (h : i < l.length) : l[i]? = some (d9 l i) := by
 unfold d9
 rw [gK]
 cases e : l[i]? with
 |none => simp at e; omega
 |some d => rfl
theorem zS (l : B8) (t : Ty) (T : Ty) (p : cK) (s : Step) (x : D) (T' : Ty) (hT : (∃ n, T = .arr n t) ∨ T = .row t) (h : aD T (.u8s l))
  (ht : aM T (s :: p) = some T') (ho : okP (.u8s l) (s :: p)) (hx : bZ (.u8s l) (s :: p) = some x)
  (ih : ∀ n (l' : B8), aM (.arr n t) p = some T' → aD (.arr n t) (.u8s l') → okP (.u8s l') p → bZ (.u8s l') p = some x → aD T' x ∧ ∃ pre post, aAI (.arr n t) p (.u8s l') x pre post) :
  aD T' x ∧ ∃ pre post, aAI T (s :: p) (.u8s l) x pre post := by
 have hc : t = .cell := by
  rcases hT with ⟨n, rfl⟩ | rfl <;> cases t <;> first | rfl | exact h.elim
 subst hc
 cases s with
 |fld i => rcases hT with ⟨n, rfl⟩ | rfl <;> simp [aM] at ht
 |idx i =>
  have ht' : aM .cell p = some T' := by rcases hT with ⟨n, rfl⟩ | rfl <;> simpa [aM] using ht
  cases p with
  |cons s p => exact absurd ht' aN
  |nil =>
   simp only [aM, Option.some.injEq] at ht'
   subst ht'
   simp only [okP] at ho
   simp only [bZ, Option.some.injEq] at hx
   subst hx
   refine ⟨rfl, (l.take i).map D.u8, (l.drop (i + 1)).map D.u8, ?_, ?_⟩
   ·simp only [D.flat]
    conv => lhs; rw [lA l i 0 ho.1]
    simp
   ·rcases hT with ⟨n, rfl⟩ | rfl <;> simp [aE, Ty.size] <;> omega
 |win o n =>
  have ht' : aM (.arr n .cell) p = some T' := by rcases hT with ⟨n, rfl⟩ | rfl <;> simpa [aM] using ht
  simp only [okP] at ho
  simp only [bZ] at hx
  obtain ⟨h1, pre, post, h2, h3⟩ := ih n ((l.drop o).take n) ht' (show ((l.drop o).take n).length = n by simp; omega) ho.2 hx
  refine ⟨h1, (l.take o).map D.u8 ++ pre, post ++ (l.drop (o + n)).map D.u8, ?_, ?_⟩
  ·simp only [D.flat] at h2 ⊢
   conv => lhs; rw [d3 l o n]
   simp only [List.map_append, h2, List.append_assoc]
  ·rcases hT with ⟨m, rfl⟩ | rfl <;> simp [aE, Ty.size, h3] <;> omega
theorem uU (l : List (BitVec 32)) (t : Ty) (T : Ty) (p : cK) (s : Step) (x : D) (T' : Ty) (hT : (∃ n, T = .arr n t) ∨ T = .row t) (h : aD T (.u32s l))
  (ht : aM T (s :: p) = some T') (ho : okP (.u32s l) (s :: p)) (hx : bZ (.u32s l) (s :: p) = some x)
  (ih : ∀ n (l' : List (BitVec 32)), aM (.arr n t) p = some T' → aD (.arr n t) (.u32s l') → okP (.u32s l') p → bZ (.u32s l') p = some x → aD T' x ∧ ∃ pre post, aAI (.arr n t) p (.u32s l') x pre post) :
  aD T' x ∧ ∃ pre post, aAI T (s :: p) (.u32s l) x pre post := by
 have hc : t = .cell := by
  rcases hT with ⟨n, rfl⟩ | rfl <;> cases t <;> first | rfl | exact h.elim
 subst hc
 cases s with
 |fld i => rcases hT with ⟨n, rfl⟩ | rfl <;> simp [aM] at ht
 |idx i =>
  have ht' : aM .cell p = some T' := by rcases hT with ⟨n, rfl⟩ | rfl <;> simpa [aM] using ht
  cases p with
  |cons s p => exact absurd ht' aN
  |nil =>
   simp only [aM, Option.some.injEq] at ht'
   subst ht'
   simp only [okP] at ho
   simp only [bZ, Option.some.injEq] at hx
   subst hx
   refine ⟨rfl, (l.take i).map D.u32, (l.drop (i + 1)).map D.u32, ?_, ?_⟩
   ·simp only [D.flat]
    conv => lhs; rw [lA l i 0 ho.1]
    simp
   ·rcases hT with ⟨n, rfl⟩ | rfl <;> simp [aE, Ty.size] <;> omega
 |win o n =>
  have ht' : aM (.arr n .cell) p = some T' := by rcases hT with ⟨n, rfl⟩ | rfl <;> simpa [aM] using ht
  simp only [okP] at ho
  simp only [bZ] at hx
  obtain ⟨h1, pre, post, h2, h3⟩ := ih n ((l.drop o).take n) ht' (show ((l.drop o).take n).length = n by simp; omega) ho.2 hx
  refine ⟨h1, (l.take o).map D.u32 ++ pre, post ++ (l.drop (o + n)).map D.u32, ?_, ?_⟩
  ·simp only [D.flat] at h2 ⊢
   conv => lhs; rw [d3 l o n]
   simp only [List.map_append, h2, List.append_assoc]
  ·rcases hT with ⟨m, rfl⟩ | rfl <;> simp [aE, Ty.size, h3] <;> omega
theorem uT (l : List (BitVec 64)) (t : Ty) (T : Ty) (p : cK) (s : Step) (x : D) (T' : Ty) (hT : (∃ n, T = .arr n t) ∨ T = .row t) (h : aD T (.u64s l))
  (ht : aM T (s :: p) = some T') (ho : okP (.u64s l) (s :: p)) (hx : bZ (.u64s l) (s :: p) = some x)
  (ih : ∀ n (l' : List (BitVec 64)), aM (.arr n t) p = some T' → aD (.arr n t) (.u64s l') → okP (.u64s l') p → bZ (.u64s l') p = some x → aD T' x ∧ ∃ pre post, aAI (.arr n t) p (.u64s l') x pre post) :
  aD T' x ∧ ∃ pre post, aAI T (s :: p) (.u64s l) x pre post := by
 have hc : t = .cell := by
  rcases hT with ⟨n, rfl⟩ | rfl <;> cases t <;> first | rfl | exact h.elim
 subst hc
 cases s with
 |fld i => rcases hT with ⟨n, rfl⟩ | rfl <;> simp [aM] at ht
 |idx i =>
  have ht' : aM .cell p = some T' := by rcases hT with ⟨n, rfl⟩ | rfl <;> simpa [aM] using ht
  cases p with
  |cons s p => exact absurd ht' aN
  |nil =>
   simp only [aM, Option.some.injEq] at ht'
   subst ht'
   simp only [okP] at ho
   simp only [bZ, Option.some.injEq] at hx
   subst hx
   refine ⟨rfl, (l.take i).map D.u64, (l.drop (i + 1)).map D.u64, ?_, ?_⟩
   ·simp only [D.flat]
    conv => lhs; rw [lA l i 0 ho.1]
    simp
   ·rcases hT with ⟨n, rfl⟩ | rfl <;> simp [aE, Ty.size] <;> omega
 |win o n =>
  have ht' : aM (.arr n .cell) p = some T' := by rcases hT with ⟨n, rfl⟩ | rfl <;> simpa [aM] using ht
  simp only [okP] at ho
  simp only [bZ] at hx
  obtain ⟨h1, pre, post, h2, h3⟩ := ih n ((l.drop o).take n) ht' (show ((l.drop o).take n).length = n by simp; omega) ho.2 hx
  refine ⟨h1, (l.take o).map D.u64 ++ pre, post ++ (l.drop (o + n)).map D.u64, ?_, ?_⟩
  ·simp only [D.flat] at h2 ⊢
   conv => lhs; rw [d3 l o n]
   simp only [List.map_append, h2, List.append_assoc]
  ·rcases hT with ⟨m, rfl⟩ | rfl <;> simp [aE, Ty.size, h3] <;> omega
theorem e8 : ∀ {fs : List Ty} (_ : Ty.flatTys fs) (i : Nat) {t : Ty} (_ : fs[i]? = some t), t.flatTy
 |[], _, i, _, e => by simp at e
 |f :: fs, hg, 0, _, e => by simp at e; subst e; exact hg.1
 |f :: fs, hg, i + 1, _, e => by simp at e; exact e8 hg.2 i e
theorem dR : ∀ {fs : List Ty} {l : List D} (_ : Ty.flatTys fs) (_ : dD fs l) (i : Nat), (D.flats (l.take i)).length = Ty.sizes (fs.take i)
 |_, _, _, _, 0 => by simp [D.flats, Ty.sizes]
 |[], [], _, _, i + 1 => by simp [D.flats, Ty.sizes]
 |f :: fs, a :: l, hg, h, i + 1 => by
  simp only [List.take_succ_cons, D.flats, Ty.sizes, List.length_append]
  rw [aG f a hg.1 h.1, dR hg.2 h.2 i]
 |[], _ :: _, _, h, _ => h.elim
 |_ :: _, [], _, h, _ => h.elim
theorem aV : ∀ (p : cK) (T : Ty) (d x : D) (T' : Ty), T.good → aD T d → aM T p = some T' → okP d p → bZ d p = some x →
  aD T' x ∧ ∃ pre post, aAI T p d x pre post
 |[], T, d, x, T', _, h, ht, _, hx => by
  simp only [aM, Option.some.injEq] at ht
  simp only [bZ, Option.some.injEq] at hx
  subst ht hx
  exact ⟨h, [], [], by simp, by simp [aE]⟩
 |s :: p, T, d, x, T', hg, h, ht, ho, hx => by
  cases T with
  |cell => exact absurd ht aN
  |st fs =>
   cases s with
   |idx i => simp [aM] at ht
   |win o n => simp [aM] at ht
   |fld i =>
    cases d with
    |node l =>
     have h : dD fs l := h
     simp only [aM] at ht
     cases e : fs[i]? with
     |none => simp [e] at ht
     |some t =>
      simp only [e] at ht
      obtain ⟨d', hd', hty⟩ := qL h i e
      simp only [okP, gK, hd'] at ho
      simp only [bZ, gK, hd'] at hx
      have hgt : t.good := by
       have hf := e8 hg i e
       cases t <;> first | exact hf | exact hf.elim
      obtain ⟨h1, pre, post, h2, h3⟩ := aV p t d' x T' hgt hty ht ho hx
      refine ⟨h1, D.flats (l.take i) ++ pre, post ++ D.flats (l.drop (i + 1)), ?_, ?_⟩
      ·simp only [D.flat]
       rw [dS hd', h2]
       simp
      ·simp only [aE, e, List.length_append, h3]
       congr 1
       exact dR hg h i
    |_ => exact h.elim
  |arr n t =>
   cases d with
   |u8s l => exact zS l t _ p s x T' (.inl ⟨n, rfl⟩) h ht ho hx fun n' l' a b c e => aV p _ _ x T' hg b a c e
   |u32s l => exact uU l t _ p s x T' (.inl ⟨n, rfl⟩) h ht ho hx fun n' l' a b c e => aV p _ _ x T' hg b a c e
   |u64s l => exact uT l t _ p s x T' (.inl ⟨n, rfl⟩) h ht ho hx fun n' l' a b c e => aV p _ _ x T' hg b a c e
   |node l =>
    have h : l.length = n ∧ d4 t l := h
    have hg : t.flatTy := hg
    have hgt : t.good := by cases t <;> first | exact hg | exact hg.elim
    cases s with
    |fld i => simp [aM] at ht
    |idx i =>
     simp only [aM] at ht
     simp only [okP] at ho
     simp only [bZ] at hx
     have hd' := rL ho.1
     obtain ⟨h1, pre, post, h2, h3⟩ := aV p t _ x T' hgt (aJ.1 h.2 _ (List.mem_of_getElem? hd')) ht ho.2 hx
     refine ⟨h1, D.flats (l.take i) ++ pre, post ++ D.flats (l.drop (i + 1)), ?_, ?_⟩
     ·simp only [D.flat]
      rw [dS hd', h2]
      simp
     ·simp only [aE, List.length_append, h3, (aW hg h.2 i (Nat.le_of_lt ho.1)).2]
    |win o m =>
     simp only [aM] at ht
     simp only [okP] at ho
     simp only [bZ] at hx
     obtain ⟨h1, pre, post, h2, h3⟩ := aV p (.arr m t) (.node ((l.drop o).take m)) x T' hg
      ⟨by simp; omega, aJ.2 fun d hd => aJ.1 h.2 d (List.mem_of_mem_drop (List.mem_of_mem_take hd))⟩ ht ho.2 hx
     refine ⟨h1, D.flats (l.take o) ++ pre, post ++ D.flats (l.drop (o + m)), ?_, ?_⟩
     ·simp only [D.flat] at h2 ⊢
      conv => lhs; rw [d3 l o m]
      rw [D.flats_append, D.flats_append, h2]
      simp
     ·simp only [aE, List.length_append, h3, (aW hg h.2 o (by omega)).2]
   |_ => exact h.elim
  |row t =>
   cases d with
   |u8s l => exact zS l t _ p s x T' (.inr rfl) h ht ho hx fun n' l' a b c e => aV p _ _ x T' hg b a c e
   |u32s l => exact uU l t _ p s x T' (.inr rfl) h ht ho hx fun n' l' a b c e => aV p _ _ x T' hg b a c e
   |u64s l => exact uT l t _ p s x T' (.inr rfl) h ht ho hx fun n' l' a b c e => aV p _ _ x T' hg b a c e
   |node l =>
    have h : d4 t l := h
    have hg : t.flatTy := hg
    have hgt : t.good := by cases t <;> first | exact hg | exact hg.elim
    cases s with
    |fld i => simp [aM] at ht
    |idx i =>
     simp only [aM] at ht
     simp only [okP] at ho
     simp only [bZ] at hx
     have hd' := rL ho.1
     obtain ⟨h1, pre, post, h2, h3⟩ := aV p t _ x T' hgt (aJ.1 h _ (List.mem_of_getElem? hd')) ht ho.2 hx
     refine ⟨h1, D.flats (l.take i) ++ pre, post ++ D.flats (l.drop (i + 1)), ?_, ?_⟩
     ·simp only [D.flat]
      rw [dS hd', h2]
      simp
     ·simp only [aE, List.length_append, h3, (aW hg h i (Nat.le_of_lt ho.1)).2]
    |win o m =>
     simp only [aM] at ht
     simp only [okP] at ho
     simp only [bZ] at hx
     obtain ⟨h1, pre, post, h2, h3⟩ := aV p (.arr m t) (.node ((l.drop o).take m)) x T' hg
      ⟨by simp; omega, aJ.2 fun d hd => aJ.1 h d (List.mem_of_mem_drop (List.mem_of_mem_take hd))⟩ ht ho.2 hx
     refine ⟨h1, D.flats (l.take o) ++ pre, post ++ D.flats (l.drop (o + m)), ?_, ?_⟩
     ·simp only [D.flat] at h2 ⊢
      conv => lhs; rw [d3 l o m]
      rw [D.flats_append, D.flats_append, h2]
      simp
     ·simp only [aE, List.length_append, h3, (aW hg h o (by omega)).2]
   |_ => exact h.elim
theorem yN (l : B8) (t : Ty) (T : Ty) (p : cK) (s : Step) (x y d' : D) (T' : Ty) (hT : (∃ n, T = .arr n t) ∨ T = .row t) (h : aD T (.u8s l))
  (ht : aM T (s :: p) = some T') (ho : okP (.u8s l) (s :: p)) (hx : bZ (.u8s l) (s :: p) = some x) (hs : fC (.u8s l) (s :: p) y = some d')
  (ih : ∀ n (l' : B8) (d' : D), aM (.arr n t) p = some T' → aD (.arr n t) (.u8s l') → okP (.u8s l') p → bZ (.u8s l') p = some x → fC (.u8s l') p y = some d' →
   aD (.arr n t) d' ∧ ∃ pre post, aAI (.arr n t) p (.u8s l') x pre post ∧ d'.flat = pre ++ y.flat ++ post) :
  aD T d' ∧ ∃ pre post, aAI T (s :: p) (.u8s l) x pre post ∧ d'.flat = pre ++ y.flat ++ post := by
 have hc : t = .cell := by
  rcases hT with ⟨n, rfl⟩ | rfl <;> cases t <;> first | rfl | exact h.elim
 subst hc
 cases s with
 |fld i => rcases hT with ⟨n, rfl⟩ | rfl <;> simp [aM] at ht
 |idx i =>
  have ht' : aM .cell p = some T' := by rcases hT with ⟨n, rfl⟩ | rfl <;> simpa [aM] using ht
  cases p with
  |cons s p => exact absurd ht' aN
  |nil =>
   simp only [okP] at ho
   simp only [bZ, Option.some.injEq] at hx
   simp only [fC] at hs
   subst hx
   cases y with
   |u8 y =>
    simp only [Option.some.injEq] at hs
    subst hs
    refine ⟨?_, (l.take i).map D.u8, (l.drop (i + 1)).map D.u8, ⟨?_, ?_⟩, ?_⟩
    ·rcases hT with ⟨n, rfl⟩ | rfl
     ·have h : l.length = n := h
      show (l.set i y).length = n
      simp [h]
     ·trivial
    ·simp only [D.flat]
     conv => lhs; rw [lA l i 0 ho.1]
     simp
    ·rcases hT with ⟨n, rfl⟩ | rfl <;> simp [aE, Ty.size] <;> omega
    ·simp only [D.flat]
     rw [kA l i y ho.1]
     simp
   |_ => simp at hs
 |win o n =>
  have ht' : aM (.arr n .cell) p = some T' := by rcases hT with ⟨n, rfl⟩ | rfl <;> simpa [aM] using ht
  simp only [okP] at ho
  simp only [bZ] at hx
  simp only [fC] at hs
  cases e : fC (.u8s ((l.drop o).take n)) p y with
  |none => simp [e] at hs
  |some d1 =>
   obtain ⟨h1, pre, post, ⟨h2, h3⟩, h4⟩ := ih n ((l.drop o).take n) d1 ht' (show ((l.drop o).take n).length = n by simp; omega) ho.2 hx e
   cases d1 with
   |u8s l' =>
    simp only [e, Option.some.injEq] at hs
    subst hs
    have hl : l'.length = n := h1
    refine ⟨?_, (l.take o).map D.u8 ++ pre, post ++ (l.drop (o + n)).map D.u8, ⟨?_, ?_⟩, ?_⟩
    ·rcases hT with ⟨m, rfl⟩ | rfl
     ·have h : l.length = m := h
      show (l.take o ++ l' ++ l.drop (o + n)).length = m
      simp [hl, h]; omega
     ·trivial
    ·simp only [D.flat] at h2 ⊢
     conv => lhs; rw [d3 l o n]
     simp only [List.map_append, h2, List.append_assoc]
    ·rcases hT with ⟨m, rfl⟩ | rfl <;> simp [aE, Ty.size, h3] <;> omega
    ·simp only [D.flat] at h4 ⊢
     simp only [List.map_append, h4, List.append_assoc]
   |_ => simp [e] at hs
theorem tK (l : List (BitVec 32)) (t : Ty) (T : Ty) (p : cK) (s : Step) (x y d' : D) (T' : Ty) (hT : (∃ n, T = .arr n t) ∨ T = .row t) (h : aD T (.u32s l))
  (ht : aM T (s :: p) = some T') (ho : okP (.u32s l) (s :: p)) (hx : bZ (.u32s l) (s :: p) = some x) (hs : fC (.u32s l) (s :: p) y = some d')
  (ih : ∀ n (l' : List (BitVec 32)) (d' : D), aM (.arr n t) p = some T' → aD (.arr n t) (.u32s l') → okP (.u32s l') p → bZ (.u32s l') p = some x → fC (.u32s l') p y = some d' →
   aD (.arr n t) d' ∧ ∃ pre post, aAI (.arr n t) p (.u32s l') x pre post ∧ d'.flat = pre ++ y.flat ++ post) :
  aD T d' ∧ ∃ pre post, aAI T (s :: p) (.u32s l) x pre post ∧ d'.flat = pre ++ y.flat ++ post := by
 have hc : t = .cell := by
  rcases hT with ⟨n, rfl⟩ | rfl <;> cases t <;> first | rfl | exact h.elim
 subst hc
 cases s with
 |fld i => rcases hT with ⟨n, rfl⟩ | rfl <;> simp [aM] at ht
 |idx i =>
  have ht' : aM .cell p = some T' := by rcases hT with ⟨n, rfl⟩ | rfl <;> simpa [aM] using ht
  cases p with
  |cons s p => exact absurd ht' aN
  |nil =>
   simp only [okP] at ho
   simp only [bZ, Option.some.injEq] at hx
   simp only [fC] at hs
   subst hx
   cases y with
   |u32 y =>
    simp only [Option.some.injEq] at hs
    subst hs
    refine ⟨?_, (l.take i).map D.u32, (l.drop (i + 1)).map D.u32, ⟨?_, ?_⟩, ?_⟩
    ·rcases hT with ⟨n, rfl⟩ | rfl
     ·have h : l.length = n := h
      show (l.set i y).length = n
      simp [h]
     ·trivial
    ·simp only [D.flat]
     conv => lhs; rw [lA l i 0 ho.1]
     simp
    ·rcases hT with ⟨n, rfl⟩ | rfl <;> simp [aE, Ty.size] <;> omega
    ·simp only [D.flat]
     rw [kA l i y ho.1]
     simp
   |_ => simp at hs
 |win o n =>
  have ht' : aM (.arr n .cell) p = some T' := by rcases hT with ⟨n, rfl⟩ | rfl <;> simpa [aM] using ht
  simp only [okP] at ho
  simp only [bZ] at hx
  simp only [fC] at hs
  cases e : fC (.u32s ((l.drop o).take n)) p y with
  |none => simp [e] at hs
  |some d1 =>
   obtain ⟨h1, pre, post, ⟨h2, h3⟩, h4⟩ := ih n ((l.drop o).take n) d1 ht' (show ((l.drop o).take n).length = n by simp; omega) ho.2 hx e
   cases d1 with
   |u32s l' =>
    simp only [e, Option.some.injEq] at hs
    subst hs
    have hl : l'.length = n := h1
    refine ⟨?_, (l.take o).map D.u32 ++ pre, post ++ (l.drop (o + n)).map D.u32, ⟨?_, ?_⟩, ?_⟩
    ·rcases hT with ⟨m, rfl⟩ | rfl
     ·have h : l.length = m := h
      show (l.take o ++ l' ++ l.drop (o + n)).length = m
      simp [hl, h]; omega
     ·trivial
    ·simp only [D.flat] at h2 ⊢
     conv => lhs; rw [d3 l o n]
     simp only [List.map_append, h2, List.append_assoc]
    ·rcases hT with ⟨m, rfl⟩ | rfl <;> simp [aE, Ty.size, h3] <;> omega
    ·simp only [D.flat] at h4 ⊢
     simp only [List.map_append, h4, List.append_assoc]
   |_ => simp [e] at hs
theorem tJ (l : List (BitVec 64)) (t : Ty) (T : Ty) (p : cK) (s : Step) (x y d' : D) (T' : Ty) (hT : (∃ n, T = .arr n t) ∨ T = .row t) (h : aD T (.u64s l))
  (ht : aM T (s :: p) = some T') (ho : okP (.u64s l) (s :: p)) (hx : bZ (.u64s l) (s :: p) = some x) (hs : fC (.u64s l) (s :: p) y = some d')
  (ih : ∀ n (l' : List (BitVec 64)) (d' : D), aM (.arr n t) p = some T' → aD (.arr n t) (.u64s l') → okP (.u64s l') p → bZ (.u64s l') p = some x → fC (.u64s l') p y = some d' →
   aD (.arr n t) d' ∧ ∃ pre post, aAI (.arr n t) p (.u64s l') x pre post ∧ d'.flat = pre ++ y.flat ++ post) :
  aD T d' ∧ ∃ pre post, aAI T (s :: p) (.u64s l) x pre post ∧ d'.flat = pre ++ y.flat ++ post := by
 have hc : t = .cell := by
  rcases hT with ⟨n, rfl⟩ | rfl <;> cases t <;> first | rfl | exact h.elim
 subst hc
 cases s with
 |fld i => rcases hT with ⟨n, rfl⟩ | rfl <;> simp [aM] at ht
 |idx i =>
  have ht' : aM .cell p = some T' := by rcases hT with ⟨n, rfl⟩ | rfl <;> simpa [aM] using ht
  cases p with
  |cons s p => exact absurd ht' aN
  |nil =>
   simp only [okP] at ho
   simp only [bZ, Option.some.injEq] at hx
   simp only [fC] at hs
   subst hx
   cases y with
   |u64 y =>
    simp only [Option.some.injEq] at hs
    subst hs
    refine ⟨?_, (l.take i).map D.u64, (l.drop (i + 1)).map D.u64, ⟨?_, ?_⟩, ?_⟩
    ·rcases hT with ⟨n, rfl⟩ | rfl
     ·have h : l.length = n := h
      show (l.set i y).length = n
      simp [h]
     ·trivial
    ·simp only [D.flat]
     conv => lhs; rw [lA l i 0 ho.1]
     simp
    ·rcases hT with ⟨n, rfl⟩ | rfl <;> simp [aE, Ty.size] <;> omega
    ·simp only [D.flat]
     rw [kA l i y ho.1]
     simp
   |_ => simp at hs
 |win o n =>
  have ht' : aM (.arr n .cell) p = some T' := by rcases hT with ⟨n, rfl⟩ | rfl <;> simpa [aM] using ht
  simp only [okP] at ho
  simp only [bZ] at hx
  simp only [fC] at hs
  cases e : fC (.u64s ((l.drop o).take n)) p y with
  |none => simp [e] at hs
  |some d1 =>
   obtain ⟨h1, pre, post, ⟨h2, h3⟩, h4⟩ := ih n ((l.drop o).take n) d1 ht' (show ((l.drop o).take n).length = n by simp; omega) ho.2 hx e
   cases d1 with
   |u64s l' =>
    simp only [e, Option.some.injEq] at hs
    subst hs
    have hl : l'.length = n := h1
    refine ⟨?_, (l.take o).map D.u64 ++ pre, post ++ (l.drop (o + n)).map D.u64, ⟨?_, ?_⟩, ?_⟩
    ·rcases hT with ⟨m, rfl⟩ | rfl
     ·have h : l.length = m := h
      show (l.take o ++ l' ++ l.drop (o + n)).length = m
      simp [hl, h]; omega
     ·trivial
    ·simp only [D.flat] at h2 ⊢
     conv => lhs; rw [d3 l o n]
     simp only [List.map_append, h2, List.append_assoc]
    ·rcases hT with ⟨m, rfl⟩ | rfl <;> simp [aE, Ty.size, h3] <;> omega
    ·simp only [D.flat] at h4 ⊢
     simp only [List.map_append, h4, List.append_assoc]
   |_ => simp [e] at hs
theorem qI : ∀ {fs : List Ty} {l : List D} (_ : dD fs l) (i : Nat) {t : Ty} {d : D} (_ : fs[i]? = some t) (_ : aD t d), dD fs (l.set i d)
 |_ :: _, _ :: _, h, 0, _, _, e, hd => by simp at e; subst e; exact ⟨hd, h.2⟩
 |_ :: _, _ :: _, h, i + 1, _, _, e, hd => by simp at e; exact ⟨h.1, qI h.2 i e hd⟩
 |[], [], _, i, _, _, e, _ => by simp at e
 |[], _ :: _, h, _, _, _, _, _ => h.elim
 |_ :: _, [], h, _, _, _, _, _ => h.elim
theorem aAJ {P : D → Prop} {l : List D} (h : iY P l) (i : Nat) {d : D} (hd : P d) : iY P (l.set i d) := by
 refine aJ.2 fun x hx => ?_
 rcases List.mem_or_eq_of_mem_set hx with h' | rfl
 ·exact aJ.1 h x h'
 ·exact hd
theorem aCS {l : List D} {i : Nat} {d : D} (h : l[i]? = some d) : i < l.length := by
 rcases Nat.lt_or_ge i l.length with h' | h'
 ·exact h'
 ·simp [List.getElem?_eq_none h'] at h
theorem oE {l : List D} {i : Nat} {d d' : D} (h : l[i]? = some d) : D.flats (l.set i d') = D.flats (l.take i) ++ (d'.flat ++ D.flats (l.drop (i + 1))) := by
 have hl := aCS h
 rw [kA l i d' hl, D.flats_append]
 rfl
theorem bN : ∀ (p : cK) (T : Ty) (d x y d' : D) (T' : Ty), T.good → aD T d → aM T p = some T' → okP d p → bZ d p = some x → fC d p y = some d' → aD T' y →
  aD T d' ∧ ∃ pre post, aAI T p d x pre post ∧ d'.flat = pre ++ y.flat ++ post
 |[], T, d, x, y, d', T', _, _, ht, _, hx, hs, hy => by
  simp only [aM, Option.some.injEq] at ht
  simp only [bZ, Option.some.injEq] at hx
  simp only [fC, Option.some.injEq] at hs
  subst ht hx hs
  exact ⟨hy, [], [], ⟨by simp, by simp [aE]⟩, by simp⟩
 |s :: p, T, d, x, y, d', T', hg, h, ht, ho, hx, hs, hy => by
  cases T with
  |cell => exact absurd ht aN
  |st fs =>
   cases s with
   |idx i => simp [aM] at ht
   |win o n => simp [aM] at ht
   |fld i =>
    cases d with
    |node l =>
     have h : dD fs l := h
     simp only [aM] at ht
     cases e : fs[i]? with
     |none => simp [e] at ht
     |some t =>
      simp only [e] at ht
      obtain ⟨d1, hd1, hty⟩ := qL h i e
      simp only [okP, gK, hd1] at ho
      simp only [bZ, gK, hd1] at hx
      simp only [fC, gK, hd1] at hs
      cases e1 : fC d1 p y with
      |none => simp [e1] at hs
      |some d2 =>
       simp only [e1, Option.some.injEq] at hs
       subst hs
       have hgt : t.good := by
        have hf := e8 hg i e
        cases t <;> first | exact hf | exact hf.elim
       obtain ⟨h1, pre, post, ⟨h2, h3⟩, h4⟩ := bN p t d1 x y d2 T' hgt hty ht ho hx e1 hy
       refine ⟨qI h i e h1, D.flats (l.take i) ++ pre, post ++ D.flats (l.drop (i + 1)), ⟨?_, ?_⟩, ?_⟩
       ·simp only [D.flat]
        rw [dS hd1, h2]
        simp
       ·simp only [aE, e, List.length_append, h3]
        congr 1
        exact dR hg h i
       ·simp only [D.flat]
        rw [oE hd1, h4]
        simp
    |_ => exact h.elim
  |arr n t =>
   cases d with
   |u8s l => exact yN l t _ p s x y d' T' (.inl ⟨n, rfl⟩) h ht ho hx hs fun n' l' d'' a b c e f => bN p _ _ x y _ T' hg b a c e f hy
   |u32s l => exact tK l t _ p s x y d' T' (.inl ⟨n, rfl⟩) h ht ho hx hs fun n' l' d'' a b c e f => bN p _ _ x y _ T' hg b a c e f hy
   |u64s l => exact tJ l t _ p s x y d' T' (.inl ⟨n, rfl⟩) h ht ho hx hs fun n' l' d'' a b c e f => bN p _ _ x y _ T' hg b a c e f hy
   |node l =>
    have h : l.length = n ∧ d4 t l := h
    have hg : t.flatTy := hg
    have hgt : t.good := by cases t <;> first | exact hg | exact hg.elim
    cases s with
    |fld i => simp [aM] at ht
    |idx i =>
     simp only [aM] at ht
     simp only [okP] at ho
     simp only [bZ] at hx
     simp only [fC] at hs
     have hd1 := rL ho.1
     cases e1 : fC (d9 l i) p y with
     |none => simp [e1] at hs
     |some d2 =>
      simp only [e1, Option.some.injEq] at hs
      subst hs
      obtain ⟨h1, pre, post, ⟨h2, h3⟩, h4⟩ := bN p t _ x y d2 T' hgt (aJ.1 h.2 _ (List.mem_of_getElem? hd1)) ht ho.2 hx e1 hy
      refine ⟨⟨by simp [h.1], aAJ h.2 i h1⟩, D.flats (l.take i) ++ pre, post ++ D.flats (l.drop (i + 1)), ⟨?_, ?_⟩, ?_⟩
      ·simp only [D.flat]
       rw [dS hd1, h2]
       simp
      ·simp only [aE, List.length_append, h3, (aW hg h.2 i (Nat.le_of_lt ho.1)).2]
      ·simp only [D.flat]
       rw [oE hd1, h4]
       simp
    |win o m =>
     simp only [aM] at ht
     simp only [okP] at ho
     simp only [bZ] at hx
     simp only [fC] at hs
     cases e1 : fC (.node ((l.drop o).take m)) p y with
     |none => simp [e1] at hs
     |some d2 =>
      obtain ⟨h1, pre, post, ⟨h2, h3⟩, h4⟩ := bN p (.arr m t) (.node ((l.drop o).take m)) x y d2 T' hg
       ⟨by simp; omega, aJ.2 fun d hd => aJ.1 h.2 d (List.mem_of_mem_drop (List.mem_of_mem_take hd))⟩ ht ho.2 hx e1 hy
      cases d2 with
      |node l' =>
       simp only [e1, Option.some.injEq] at hs
       subst hs
       have h1 : l'.length = m ∧ d4 t l' := h1
       refine ⟨⟨by simp [h1.1]; omega, aJ.2 fun d hd => ?_⟩, D.flats (l.take o) ++ pre, post ++ D.flats (l.drop (o + m)), ⟨?_, ?_⟩, ?_⟩
       ·rcases List.mem_append.1 hd with hd | hd
        ·rcases List.mem_append.1 hd with hd | hd
         ·exact aJ.1 h.2 d (List.mem_of_mem_take hd)
         ·exact aJ.1 h1.2 d hd
        ·exact aJ.1 h.2 d (List.mem_of_mem_drop hd)
       ·simp only [D.flat] at h2 ⊢
        conv => lhs; rw [d3 l o m]
        rw [D.flats_append, D.flats_append, h2]
        simp
       ·simp only [aE, List.length_append, h3, (aW hg h.2 o (by omega)).2]
       ·simp only [D.flat] at h4 ⊢
        rw [D.flats_append, D.flats_append, h4]
        simp
      |_ => simp [e1] at hs
   |_ => exact h.elim
  |row t =>
   cases d with
   |u8s l => exact yN l t _ p s x y d' T' (.inr rfl) h ht ho hx hs fun n' l' d'' a b c e f => bN p _ _ x y _ T' hg b a c e f hy
   |u32s l => exact tK l t _ p s x y d' T' (.inr rfl) h ht ho hx hs fun n' l' d'' a b c e f => bN p _ _ x y _ T' hg b a c e f hy
   |u64s l => exact tJ l t _ p s x y d' T' (.inr rfl) h ht ho hx hs fun n' l' d'' a b c e f => bN p _ _ x y _ T' hg b a c e f hy
   |node l =>
    have h : d4 t l := h
    have hg : t.flatTy := hg
    have hgt : t.good := by cases t <;> first | exact hg | exact hg.elim
    cases s with
    |fld i => simp [aM] at ht
    |idx i =>
     simp only [aM] at ht
     simp only [okP] at ho
     simp only [bZ] at hx
     simp only [fC] at hs
     have hd1 := rL ho.1
     cases e1 : fC (d9 l i) p y with
     |none => simp [e1] at hs
     |some d2 =>
      simp only [e1, Option.some.injEq] at hs
      subst hs
      obtain ⟨h1, pre, post, ⟨h2, h3⟩, h4⟩ := bN p t _ x y d2 T' hgt (aJ.1 h _ (List.mem_of_getElem? hd1)) ht ho.2 hx e1 hy
      refine ⟨aAJ h i h1, D.flats (l.take i) ++ pre, post ++ D.flats (l.drop (i + 1)), ⟨?_, ?_⟩, ?_⟩
      ·simp only [D.flat]
       rw [dS hd1, h2]
       simp
      ·simp only [aE, List.length_append, h3, (aW hg h i (Nat.le_of_lt ho.1)).2]
      ·simp only [D.flat]
       rw [oE hd1, h4]
       simp
    |win o m =>
     simp only [aM] at ht
     simp only [okP] at ho
     simp only [bZ] at hx
     simp only [fC] at hs
     cases e1 : fC (.node ((l.drop o).take m)) p y with
     |none => simp [e1] at hs
     |some d2 =>
      obtain ⟨h1, pre, post, ⟨h2, h3⟩, h4⟩ := bN p (.arr m t) (.node ((l.drop o).take m)) x y d2 T' hg
       ⟨by simp; omega, aJ.2 fun d hd => aJ.1 h d (List.mem_of_mem_drop (List.mem_of_mem_take hd))⟩ ht ho.2 hx e1 hy
      cases d2 with
      |node l' =>
       simp only [e1, Option.some.injEq] at hs
       subst hs
       have h1 : l'.length = m ∧ d4 t l' := h1
       refine ⟨aJ.2 fun d hd => ?_, D.flats (l.take o) ++ pre, post ++ D.flats (l.drop (o + m)), ⟨?_, ?_⟩, ?_⟩
       ·rcases List.mem_append.1 hd with hd | hd
        ·rcases List.mem_append.1 hd with hd | hd
         ·exact aJ.1 h d (List.mem_of_mem_take hd)
         ·exact aJ.1 h1.2 d hd
        ·exact aJ.1 h d (List.mem_of_mem_drop hd)
       ·simp only [D.flat] at h2 ⊢
        conv => lhs; rw [d3 l o m]
        rw [D.flats_append, D.flats_append, h2]
        simp
       ·simp only [aE, List.length_append, h3, (aW hg h o (by omega)).2]
       ·simp only [D.flat] at h4 ⊢
        rw [D.flats_append, D.flats_append, h4]
        simp
      |_ => simp [e1] at hs
   |_ => exact h.elim
set_option maxRecDepth 3000
structure Loc where
 blk : Nat
 base : Nat
 n : Nat
 ty : Ty
abbrev Env := Nat → Option Loc
def fzn (b : Nat) : Nat := 2000000 + b
def Ty.ofBytes (l : List xZ) : Ty := .st (l.map fun b => .arr b.toNat .cell)
def Ty.byte : Ty → xZ
 |.arr n _ => BitVec.ofNat 8 n
 |_ => 0
def Ty.bytes : Ty → List xZ
 |.st fs => fs.map Ty.byte
 |_ => []
theorem Ty.bytes_of (l : List xZ) : (Ty.ofBytes l).bytes = l := by
 show List.map Ty.byte (List.map (fun b => Ty.arr b.toNat .cell) l) = l
 rw [List.map_map]
 conv => rhs; rw [← List.map_id l]
 exact List.map_congr_left fun b _ => by simp [Ty.byte]
def Loc.rowed (L : Loc) : Loc := ⟨L.blk, L.base, L.n, .row .cell⟩
def Env.le (ρ ρ' : Env) : Prop := ∀ i L, ρ i = some L → ρ' i = some L
def b7 : Ty → Option Ty
 |.arr _ t => some t
 |.row t => some t
 |_ => none
def aZ (l : List xZ) : List UInt8 := l.map UInt8.ofBitVec
def jP (L : Loc) (p : cK) (off len : Nat) (cap : Option Nat) (v : Value) : Prop :=
 ∃ T t a c, aM L.ty p = some T ∧ b7 T = some t ∧ v = .slice (some a) len c ∧ len ≤ c ∧ c < 9223372036854775808 ∧ (∀ k, cap = some k → c = k) ∧
  (0 < c → a = ⟨L.blk, L.base + aE L.ty p + off * t.size, none⟩ ∧ L.base + aE L.ty p + (off + c) * t.size ≤ L.n)
def RepB (ρ : Env) (d : D) (v : Value) : Prop :=
 match d with
 |.bool b => v = .bool b
 |.u8 x => v = .int .u8 x.toNat
 |.u16 x => v = .int .u16 x.toNat
 |.u32 x => v = .int .u32 x.toNat
 |.u64 x => v = .int .u64 x.toNat
 |.i64 n => v = .int .i64 n ∧ -9223372036854775808 ≤ n ∧ n < 9223372036854775808
 |.str l => ∃ s : ByteArray, v = .string s ∧ s.data.toList = aZ l ∧ l.length < 9223372036854775808
 |.nilptr => v = .pointer none
 |.ptr b p => ∃ L, ρ b = some L ∧ v = .pointer (some ⟨L.blk, L.base + aE L.ty p, none⟩)
 |.nilslice => v = .slice none 0 0
 |.slice b p off len cap => ∃ L, ρ b = some L ∧ jP L p off len cap v
 |.nilfn => v = .nilFunc
 |.fz l cap => ∃ b L o, ρ (fzn b) = some L ∧ l = (L.ty.bytes.drop o).take l.length ∧ o + l.length ≤ L.ty.bytes.length ∧ jP L.rowed [] o l.length cap v
 |_ => False
def RepS (ρ : Env) (d : D) (v : Value) : Prop :=
 match d with
 |.fn f bd caps => ∃ bs cs : List Value, v = .func (.func f) bs.toArray cs.toArray ∧ All2 (RepB ρ) bd bs ∧ All2 (RepB ρ) caps cs
 |d => RepB ρ d v
def RepV (ρ : Env) (d : D) (v : Value) : Prop :=
 match d.isAgg with
 |true => ∃ cs : List Value, v = .agg cs.toArray ∧ All2 (RepS ρ) d.flat cs
 |false => RepS ρ d v
def Rep (ρ : Env) (d : D) (v : Value) : Prop :=
 match d with
 |.undef => True
 |.tup l => ∃ vs : List Value, v = .tuple vs.toArray ∧ All2 (RepV ρ) l vs
 |d => RepV ρ d v
theorem RepB.mono {ρ ρ' : Env} (h : ρ.le ρ') {d : D} {v : Value} (H : RepB ρ d v) : RepB ρ' d v := by
 cases d <;> simp only [RepB] at H ⊢ <;> first
  |exact H
  |(obtain ⟨L, h1, h2⟩ := H; exact ⟨L, h _ _ h1, h2⟩)
  |(obtain ⟨b, L, o, h1, h2⟩ := H; exact ⟨b, L, o, h _ _ h1, h2⟩)
def D.isFn : D → Bool
 |.fn _ _ _ => true
 |_ => false
theorem i4 {ρ : Env} {d : D} {v : Value} (h : d.isFn = false) : RepS ρ d v = RepB ρ d v := by
 cases d <;> first | rfl | simp [D.isFn] at h
theorem RepS.mono {ρ ρ' : Env} (h : ρ.le ρ') {d : D} {v : Value} (H : RepS ρ d v) : RepS ρ' d v := by
 cases hd : d.isFn with
 |false => rw [i4 hd] at H ⊢; exact H.mono h
 |true =>
  cases d <;> simp [D.isFn] at hd
  obtain ⟨bs, cs, h1, h2, h3⟩ := H; exact ⟨bs, cs, h1, h2.mono fun _ _ => RepB.mono h, h3.mono fun _ _ => RepB.mono h⟩
theorem RepV.mono {ρ ρ' : Env} (h : ρ.le ρ') {d : D} {v : Value} (H : RepV ρ d v) : RepV ρ' d v := by
 unfold RepV at H ⊢
 split
 ·rename_i ha
  rw [ha] at H
  obtain ⟨cs, h1, h2⟩ := H; exact ⟨cs, h1, h2.mono fun _ _ => RepS.mono h⟩
 ·rename_i ha
  rw [ha] at H
  exact RepS.mono h H
def D.isTup : D → Bool
 |.tup _ => true
 |.undef => true
 |_ => false
theorem eE {ρ : Env} {d : D} {v : Value} (h : d.isTup = false) : Rep ρ d v = RepV ρ d v := by
 cases d <;> first | rfl | simp [D.isTup] at h
theorem Rep.mono {ρ ρ' : Env} (h : ρ.le ρ') {d : D} {v : Value} (H : Rep ρ d v) : Rep ρ' d v := by
 cases hd : d.isTup with
 |false => rw [eE hd] at H ⊢; exact H.mono h
 |true =>
  cases d <;> simp [D.isTup] at hd
  ·trivial
  ·obtain ⟨cs, h1, h2⟩ := H; exact ⟨cs, h1, h2.mono fun _ _ => RepV.mono h⟩
theorem RepB.oneCell {ρ : Env} {d : D} {v : Value} (H : RepB ρ d v) : v.oneCell' = true := by
 cases d <;> simp only [RepB] at H <;> first
  |(subst H; rfl)
  |exact H.elim
  |(obtain ⟨s, rfl, _⟩ := H; rfl)
  |(obtain ⟨rfl, _⟩ := H; rfl)
  |(obtain ⟨L, _, rfl⟩ := H; rfl)
  |(obtain ⟨L, _, T, t, a, c, _, _, rfl, _⟩ := H; rfl)
  |(obtain ⟨b, L, o, _, _, _, T, t, a, c, _, _, rfl, _⟩ := H; rfl)
theorem RepS.oneCell {ρ : Env} {d : D} {v : Value} (H : RepS ρ d v) : v.oneCell' = true := by
 cases hd : d.isFn with
 |false => rw [i4 hd] at H; exact H.oneCell
 |true =>
  cases d <;> simp [D.isFn] at hd
  obtain ⟨bs, cs, rfl, _⟩ := H; rfl
theorem nN {ρ : Env} {d : D} {v : Value} (h : d.isCell = true) (H : RepS ρ d v) : Rep ρ d v := by
 cases d <;> first | exact H | (simp [D.isCell] at h)
theorem w3 {ρ : Env} {d : D} {v : Value} (h : d.isCell = true) (H : Rep ρ d v) : RepS ρ d v := by
 cases d <;> first | exact H | (simp [D.isCell] at h)
theorem j6 {ρ : Env} {d : D} {v : Value} {T : Ty} (ht : aD T d) (H : Rep ρ d v) : All2 (RepS ρ) d.flat v.cells.toList := by
 by_cases hc : d.isCell = true
 ·have h := w3 hc H
  rw [D.flat_cell hc]
  have h1 := h.oneCell
  have : v.cells = #[v] := by cases v <;> simp_all [Value.oneCell', Value.cells]
  rw [this]
  exact ⟨h, trivial⟩
 ·have ha : d.isAgg = true := by
   cases d <;> simp_all [D.isCell, D.isAgg] <;> cases T <;> simp_all [aD, D.isCell]
  have : Rep ρ d v = RepV ρ d v := by cases d <;> first | rfl | simp_all [D.isAgg]
  rw [this] at H
  unfold RepV at H
  rw [ha] at H
  obtain ⟨cs, rfl, h2⟩ := H
  simpa [Value.cells] using h2
structure Ent where
 ty : Ty
 d : D
 rw : Bool
abbrev Mem := List (Nat × Option Ent)
def get : Mem → Nat → Option Ent
 |[], _ => none
 |(i, e) :: r, j => match Nat.beq i j with
  |true => e
  |false => get r j
theorem aK {i j : Nat} {e : Option Ent} {r : Mem} : get ((i, e) :: r) j = if i = j then e else get r j := by
 simp only [get]
 by_cases h : i = j
 ·subst h; simp
 ·have : Nat.beq i j = false := by
   cases hb : Nat.beq i j with
   |false => rfl
   |true => exact absurd (Nat.eq_of_beq_eq_true hb) h
  simp [h, this]
theorem eO {up m : Mem} {i : Nat} : get (up ++ m) i = if i ∈ up.map (·.1) then get up i else get m i := by
 induction up with
 |nil => simp
 |cons x up ih =>
  obtain ⟨j, e⟩ := x
  simp only [List.cons_append, aK, ih, List.map_cons, List.mem_cons]
  by_cases h : j = i
  ·subst h; simp
  ·have h' : ¬ i = j := fun e => h e.symm
   simp only [h, h', if_false, false_or]
def dW (C : Array Value) (fr : Nat × Nat) : Prop := fr.2 = fr.1 ∨ C.size ≤ fr.1
structure SatE (ρ : Env) (e : Ent) (L : Loc) (w : World) : Prop where
 ty : L.ty = e.ty
 good : e.ty.good
 has : aD e.ty e.d
 mem : ∃ C t fr pre front tail, w.heap[L.blk]? = some (.cells C t fr) ∧ C.toList = pre ++ front ++ tail ∧ pre.length = L.base ∧ C.size = L.n ∧
  All2 (RepS ρ) e.d.flat front ∧ (e.rw = true → dW C fr)
theorem SatE.mono {ρ ρ' : Env} (h : ρ.le ρ') {e : Ent} {L : Loc} {w : World} (H : SatE ρ e L w) : SatE ρ' e L w := by
 obtain ⟨h1, h2, h3, C, t, fr, pre, front, tail, a, b, c, d, e, f⟩ := H
 exact ⟨h1, h2, h3, C, t, fr, pre, front, tail, a, b, c, d, e.mono fun _ _ => RepS.mono h, f⟩
theorem SatE.same {ρ : Env} {e : Ent} {L : Loc} {w w' : World} (h : w'.heap[L.blk]? = w.heap[L.blk]?) (H : SatE ρ e L w) : SatE ρ e L w' := by
 obtain ⟨h1, h2, h3, C, t, fr, pre, front, tail, a, b⟩ := H
 exact ⟨h1, h2, h3, C, t, fr, pre, front, tail, h ▸ a, b⟩
theorem SatE.lt {ρ : Env} {e : Ent} {L : Loc} {w : World} (H : SatE ρ e L w) : L.blk < w.heap.size := by
 obtain ⟨C, t, fr, pre, front, tail, a, _⟩ := H.mem
 rcases Nat.lt_or_ge L.blk w.heap.size with h | h
 ·exact h
 ·simp [Array.getElem?_eq_none h] at a
theorem dF (b o n : Nat) : (⟨b, o, none⟩ : Addr).add n = ⟨b, o + n, none⟩ := by
 unfold Addr.add
 split
 ·subst_vars; rfl
 ·rfl
theorem SatE.read {ρ : Env} {e : Ent} {L : Loc} {w : World} (H : SatE ρ e L w) {p : cK} {T : Ty} {x : D} (ht : aM e.ty p = some T) (ho : okP e.d p) (hx : bZ e.d p = some x) :
  aD T x ∧ ∃ vs, All2 (RepS ρ) x.flat vs ∧ ∀ j v, vs[j]? = some v → w.cell? ⟨L.blk, L.base + aE L.ty p + j, none⟩ = some v := by
 obtain ⟨C, t, fr, pre, front, tail, h1, h2, h3, h4, h5, h6⟩ := H.mem
 obtain ⟨hT, pr, po, h7, h8⟩ := aV p e.ty e.d x T H.good H.has ht ho hx
 rw [h7] at h5
 obtain ⟨b12, b3, e1, ha, hb⟩ := All2.split_left h5
 obtain ⟨b1, b2, e2, hc, hd⟩ := All2.split_left ha
 refine ⟨hT, b2, hd, fun j v hj => ?_⟩
 have hl : b1.length = aE e.ty p := by rw [← hc.length, h8]
 simp only [World.cell?, h1]
 rw [H.ty]
 have hC : C[L.base + aE e.ty p + j]? = C.toList[L.base + aE e.ty p + j]? := by simp
 have hjl : j < b2.length := by
  rcases Nat.lt_or_ge j b2.length with h | h
  ·exact h
  ·simp [List.getElem?_eq_none h] at hj
 simp only [Option.isSome_none, Bool.false_eq_true, if_false]
 rw [hC, h2, e1, e2, ← h3, ← hl]
 rw [List.append_assoc, List.append_assoc, List.append_assoc, Nat.add_assoc, List.getElem?_append_right (by omega)]
 rw [Nat.add_sub_cancel_left, List.getElem?_append_right (by omega), Nat.add_sub_cancel_left, List.getElem?_append_left hjl]
 exact hj
def World.putBlk (w : World) (b : Nat) (C : Array Value) : World :=
 { w with heap := w.heap.modify b fun
   |.cells _ t fr => .cells C t fr
   |o => o }
theorem i6 {w : World} {b : Nat} {C C' : Array Value} {t : TypeId} {fr : Nat × Nat} (h : w.heap[b]? = some (.cells C t fr)) :
  (World.putBlk w b C').heap[b]? = some (.cells C' t fr) := by
 simp [World.putBlk, Array.getElem?_modify, h]
theorem c9 {w : World} {b b' : Nat} {C' : Array Value} (h : b ≠ b') : (World.putBlk w b C').heap[b']? = w.heap[b']? := by
 simp [World.putBlk, Array.getElem?_modify, h]
theorem nP {w : World} {b : Nat} {C' : Array Value} : (World.putBlk w b C').heap.size = w.heap.size := by
 simp [World.putBlk]
theorem wU {w : World} {b o : Nat} {C : Array Value} {t : TypeId} {fr : Nat × Nat} {v : Value} (h : w.heap[b]? = some (.cells C t fr)) :
  w.setCell ⟨b, o, none⟩ v = World.putBlk w b (C.setIfInBounds o v) := by
 unfold World.setCell World.putBlk
 congr 1
 apply Array.ext_getElem?
 intro i
 simp only [Array.getElem?_modify]
 by_cases hi : b = i
 ·subst hi; simp [h]
 ·simp [hi]
theorem aF4 {w : World} {b : Nat} {C C' : Array Value} : World.putBlk (World.putBlk w b C) b C' = World.putBlk w b C' := by
 unfold World.putBlk
 congr 1
 apply Array.ext_getElem?
 intro i
 simp only [Array.getElem?_modify]
 by_cases hi : b = i
 ·subst hi
  cases h : w.heap[b]? with
  |none => simp
  |some o => cases o <;> simp
 ·simp [hi]
theorem zA {w : World} {b : Nat} {C : Array Value} {t : TypeId} {fr : Nat × Nat} (h : w.heap[b]? = some (.cells C t fr)) : World.putBlk w b C = w := by
 unfold World.putBlk
 have : (w.heap.modify b fun | .cells _ t fr => .cells C t fr | o => o) = w.heap := by
  apply Array.ext_getElem?
  intro i
  simp only [Array.getElem?_modify]
  by_cases hi : b = i
  ·subst hi; simp [h]
  ·simp [hi]
 rw [this]
theorem dB {P : Program} (b : Nat) (t : TypeId) (fr : Nat × Nat) (A : List Value) (o : Nat) : ∀ (ys : List Value) (i : Nat) (w : World) (C : Array Value) (B R : List Value),
  w.heap[b]? = some (.cells C t fr) → dW C fr → C.toList = A ++ B ++ R → A.length = o + i → B.length = ys.length → (∀ v ∈ ys, v.oneCell' = true) →
  (storeCells ⟨b, o, none⟩ ys i).run P w = .ok () (World.putBlk w b (A ++ ys ++ R).toArray)
 |[], i, w, C, B, R, h, _, hC, hA, hB, _ => by
  have : B = [] := List.length_eq_zero_iff.1 hB
  subst this
  have hC' : C = (A ++ [] ++ R).toArray := by rw [← hC]
  unfold storeCells
  rw [← hC', zA h]
  rfl
 |y :: ys, i, w, C, B, R, h, hf, hC, hA, hB, hy => by
  cases B with
  |nil => simp at hB
  |cons z B =>
   have hz : C[o + i]? = some z := by
    rw [← Array.getElem?_toList, hC, ← hA]
    simp
   have hc : w.cell? ⟨b, o + i, none⟩ = some z := by simp [World.cell?, h, hz]
   have hfz : w.frozen? ⟨b, o + i, none⟩ = false := by
    have hlt : o + i < C.size := by
     rcases Nat.lt_or_ge (o + i) C.size with h' | h'
     ·exact h'
     ·simp [Array.getElem?_eq_none h'] at hz
    simp only [World.frozen?, h]
    rcases hf with hf | hf
    ·simp; omega
    ·simp; omega
   unfold storeCells
   rw [Sem.run_bind, dF, run_store P w _ y .plain (hy y (by simp)), hc]
   simp only [hfz, Bool.false_eq_true, if_false, Result.andThen_ok]
   rw [wU h]
   have hC2 : (C.setIfInBounds (o + i) y).toList = (A ++ [y]) ++ B ++ R := by
    rw [Array.toList_setIfInBounds, hC, ← hA]
    simp
   have ih := dB (P := P) b t fr (A ++ [y]) o ys (i + 1) (World.putBlk w b (C.setIfInBounds (o + i) y)) (C.setIfInBounds (o + i) y) B R
    (i6 h) (by unfold dW at hf ⊢; simpa using hf) hC2 (by simp [hA]; omega) (by simpa using hB) (fun v hv => hy v (by simp [hv]))
   rw [aF4] at ih
   rw [ih]
   simp
termination_by ys => ys.length
theorem SatE.write {P : Program} {ρ : Env} {e : Ent} {L : Loc} {w : World} (H : SatE ρ e L w) {p : cK} {T : Ty} {x y d' : D} {ys : List Value} (ht : aM e.ty p = some T) (ho : okP e.d p)
  (hx : bZ e.d p = some x) (hs : fC e.d p y = some d') (hy : aD T y) (hl : x.flat.length = y.flat.length) (hr : All2 (RepS ρ) y.flat ys) (hw : e.rw = true) :
  ∃ C', (storeCells ⟨L.blk, L.base + aE L.ty p, none⟩ ys).run P w = .ok () (World.putBlk w L.blk C') ∧ SatE ρ { e with d := d' } L (World.putBlk w L.blk C') := by
 obtain ⟨C, t, fr, pre, front, tail, h1, h2, h3, h4, h5, h6⟩ := H.mem
 obtain ⟨hT, pr, po, ⟨h7, h8⟩, h9⟩ := bN p e.ty e.d x y d' T H.good H.has ht ho hx hs hy
 rw [h7] at h5
 obtain ⟨b12, b3, e1, ha, hb⟩ := All2.split_left h5
 obtain ⟨b1, b2, e2, hc, hd⟩ := All2.split_left ha
 have hl1 : b1.length = aE e.ty p := by rw [← hc.length, h8]
 have hl2 : b2.length = ys.length := by rw [← hd.length, hl, hr.length]
 have hC : C.toList = (pre ++ b1) ++ b2 ++ (b3 ++ tail) := by rw [h2, e1, e2]; simp
 refine ⟨_, dB L.blk t fr (pre ++ b1) (L.base + aE L.ty p) ys 0 w C b2 (b3 ++ tail) h1 (h6 hw) hC (by simp [h3, hl1, H.ty]) hl2 ?_, ?_⟩
 ·intro v hv
  obtain ⟨i, hi⟩ := List.getElem?_of_mem hv
  have hlt : i < y.flat.length := by
   rw [hr.length]
   rcases Nat.lt_or_ge i ys.length with h' | h'
   ·exact h'
   ·simp [List.getElem?_eq_none h'] at hi
  obtain ⟨b, hb1, hb2⟩ := hr.get i (List.getElem?_eq_getElem hlt)
  rw [hi] at hb1
  cases hb1
  exact hb2.oneCell
 ·have hsz : ((pre ++ b1) ++ ys ++ (b3 ++ tail)).toArray.size = C.size := by
   rw [← Array.length_toList (xs := C), hC]
   simp [hl2]
  refine ⟨H.ty, H.good, hT, _, t, fr, pre, b1 ++ ys ++ b3, tail, i6 h1, by simp, h3, by rw [hsz, h4], ?_, ?_⟩
  ·show All2 (RepS ρ) d'.flat _
   rw [h9]
   exact (hc.append hr).append hb
  ·intro _
   have := h6 hw
   unfold dW at this ⊢
   rw [hsz]
   exact this
structure Ctx where
 w0 : World
 wp : Nat → Prop
def gid (g : Nat) : Nat := 1000000 + g
abbrev FzAt (L : Loc) (w : World) : Prop := SatE (fun _ => none) ⟨.row .cell, .u8s L.ty.bytes, false⟩ L.rowed w
def Ctx.mine (X : Ctx) (b : Nat) : Prop := X.wp b ∨ X.w0.heap.size ≤ b
structure Inv (X : Ctx) (ρ : Env) (m : Mem) (w : World) : Prop where
 glob : ∀ g L, g < 1000000 → ρ (gid g) = some L → L.blk = g ∧ L.base = 0
 sat : ∀ i e, get m i = some e → ∃ L, ρ i = some L ∧ SatE ρ e L w
 inj : ∀ i j ei ej Li Lj, get m i = some ei → get m j = some ej → i ≠ j → ei.rw = true → ρ i = some Li → ρ j = some Lj → Li.blk ≠ Lj.blk
 own : ∀ i e L, get m i = some e → e.rw = true → ρ i = some L → X.wp L.blk ∨ X.w0.heap.size ≤ L.blk
 ext : ∀ b, b < X.w0.heap.size → ¬ X.wp b → w.heap[b]? = X.w0.heap[b]?
 size : X.w0.heap.size ≤ w.heap.size
 os : w.os = X.w0.os
 out : w.output = X.w0.output
 tape : w.tape = X.w0.tape
 fz : ∀ b L, ρ (fzn b) = some L → L.blk = b ∧ FzAt L w ∧ ∀ i e Li, get m i = some e → e.rw = true → ρ i = some Li → Li.blk ≠ b
theorem Inv.put {X : Ctx} {ρ : Env} {m : Mem} {w : World} (H : Inv X ρ m w) {b : Nat} {e e' : Ent} {L : Loc} {C : Array Value} (hg : get m b = some e) (hw : e.rw = true) (hL : ρ b = some L)
  (hw' : e'.rw = true) (hs : SatE ρ e' L (World.putBlk w L.blk C)) : Inv X ρ ((b, some e') :: m) (World.putBlk w L.blk C) where
 glob := H.glob
 sat i ei hi := by
  rw [aK] at hi
  split at hi
  ·subst_vars; cases hi; exact ⟨L, hL, hs⟩
  ·rename_i hne
   obtain ⟨Li, h1, h2⟩ := H.sat i ei hi
   exact ⟨Li, h1, h2.same (c9 (H.inj b i e ei L Li hg hi hne hw hL h1))⟩
 inj i j ei ej Li Lj hi hj hne hr h1 h2 := by
  rw [aK] at hi hj
  have key : ∀ k ek, (if b = k then some e' else get m k) = some ek → ∃ ek', get m k = some ek' ∧ ek'.rw = ek.rw ∨ False := by
   intro k ek hk
   split at hk
   ·subst_vars; cases hk; exact ⟨e, .inl ⟨hg, by rw [hw, hw']⟩⟩
   ·exact ⟨ek, .inl ⟨hk, rfl⟩⟩
  obtain ⟨ei', h3 | h3⟩ := key i ei hi
  ·obtain ⟨ej', h4 | h4⟩ := key j ej hj
   ·exact H.inj i j ei' ej' Li Lj h3.1 h4.1 hne (by rw [h3.2, hr]) h1 h2
   ·exact h4.elim
  ·exact h3.elim
 own i ei Li hi hr h1 := by
  rw [aK] at hi
  split at hi
  ·rename_i hb; subst hb; exact H.own b e Li hg hw h1
  ·exact H.own i ei Li hi hr h1
 ext c hc hn := by
  by_cases h : L.blk = c
  ·rcases H.own b e L hg hw hL with h' | h'
   ·exact absurd (h ▸ h') hn
   ·omega
  ·rw [c9 h]; exact H.ext c hc hn
 size := by rw [nP]; exact H.size
 os := H.os
 out := H.out
 tape := H.tape
 fz b0 L0 h := by
  obtain ⟨h1, h2, h3⟩ := H.fz b0 L0 h
  refine ⟨h1, h2.same (c9 ?_), fun i ei Li hi hr hLi => ?_⟩
  ·show L.blk ≠ L0.blk
   rw [h1]; exact h3 b e L hg hw hL
  ·rw [aK] at hi
   split at hi
   ·rename_i hb; subst hb; cases hi; exact h3 b e Li hg hw hLi
   ·exact h3 i ei Li hi hr hLi
theorem Inv.mono {X : Ctx} {ρ ρ' : Env} {m : Mem} {w : World} (H : Inv X ρ m w) (h : ρ.le ρ') (hgl : ∀ g L, g < 1000000 → ρ' (gid g) = some L → L.blk = g ∧ L.base = 0) (hfz : ∀ b L, ρ' (fzn b) = some L → ρ (fzn b) = some L) : Inv X ρ' m w where
 glob := hgl
 sat i e hi := let ⟨L, h1, h2⟩ := H.sat i e hi; ⟨L, h _ _ h1, h2.mono h⟩
 inj i j ei ej Li Lj hi hj hne hr h1 h2 := by
  obtain ⟨L1, a, _⟩ := H.sat i ei hi
  obtain ⟨L2, b, _⟩ := H.sat j ej hj
  have e1 := h _ _ a
  have e2 := h _ _ b
  rw [h1] at e1; rw [h2] at e2
  cases e1; cases e2
  exact H.inj i j ei ej _ _ hi hj hne hr a b
 own i e L hi hr h1 := by
  obtain ⟨L1, a, _⟩ := H.sat i e hi
  have e1 := h _ _ a
  rw [h1] at e1
  cases e1
  exact H.own i e _ hi hr a
 ext := H.ext
 size := H.size
 os := H.os
 out := H.out
 tape := H.tape
 fz b L hb := by
  obtain ⟨h1, h2, h3⟩ := H.fz b L (hfz b L hb)
  refine ⟨h1, h2, fun i e Li hi hr hLi => ?_⟩
  obtain ⟨L1, a, _⟩ := H.sat i e hi
  have e1 := h _ _ a
  rw [hLi] at e1; cases e1
  exact h3 i e _ hi hr a
theorem Inv.drew {X : Ctx} {ρ : Env} {m : Mem} {w : World} (H : Inv X ρ m w) : Inv X ρ m w.drew :=
 ⟨H.glob, fun i e hi => let ⟨L, h1, h2⟩ := H.sat i e hi; ⟨L, h1, SatE.same (w := w) rfl h2⟩, H.inj, H.own, H.ext, H.size, H.os, H.out, H.tape, fun b L hb => let ⟨h1, h2, h3⟩ := H.fz b L hb; ⟨h1, SatE.same (w := w) rfl h2, h3⟩⟩
def Env.put (ρ : Env) (i : Nat) (L : Loc) : Env := fun j => if j = i then some L else ρ j
theorem Env.le_put {ρ : Env} {i : Nat} {L : Loc} (h : ρ i = none) : ρ.le (ρ.put i L) := by
 intro j L' hj
 unfold Env.put
 split
 ·subst_vars; rw [h] at hj; cases hj
 ·exact hj
theorem w4 {w : World} {o : Obj} {b : Nat} (h : b < w.heap.size) : (w.alloc o).heap[b]? = w.heap[b]? := by
 show (w.heap.push o)[b]? = _
 rw [Array.getElem?_push, if_neg (Nat.ne_of_lt h)]
theorem zD {w : World} {o : Obj} : (w.alloc o).heap[w.heap.size]? = some o := by
 show (w.heap.push o)[w.heap.size]? = _
 rw [Array.getElem?_push, if_pos rfl]
theorem Inv.alloc {X : Ctx} {ρ : Env} {m : Mem} {w : World} (H : Inv X ρ m w) {i : Nat} {e : Ent} {C : Array Value} {t : TypeId} {front tail : List Value} (hi : ρ i = none) (hlt : i < 1000000)
  (hg : e.ty.good) (hh : aD e.ty e.d) (hr : All2 (RepS ρ) e.d.flat front) (hC : C.toList = front ++ tail) {fr : Nat × Nat} (hfr : dW C fr) :
  ρ.le (ρ.put i ⟨w.heap.size, 0, C.size, e.ty⟩) ∧ Inv X (ρ.put i ⟨w.heap.size, 0, C.size, e.ty⟩) ((i, some e) :: m) (w.alloc (.cells C t fr)) := by
 have hle := Env.le_put (L := ⟨w.heap.size, 0, C.size, e.ty⟩) hi
 have hnew : (ρ.put i ⟨w.heap.size, 0, C.size, e.ty⟩) i = some ⟨w.heap.size, 0, C.size, e.ty⟩ := by simp [Env.put]
 have hold : ∀ j ej, get m j = some ej → j ≠ i := by
  intro j ej hj e
  subst e
  obtain ⟨L, h, _⟩ := H.sat j ej hj
  rw [hi] at h; cases h
 refine ⟨hle, fun g L hg1 hg => ?_, ?_, ?_, ?_, ?_, ?_, H.os, H.out, H.tape, ?_⟩
 ·unfold Env.put at hg
  split at hg
  ·rename_i hgi; unfold gid at hgi; omega
  ·exact H.glob g L hg1 hg
 ·intro j ej hj
  rw [aK] at hj
  split at hj
  ·subst_vars; cases hj
   exact ⟨_, hnew, rfl, hg, hh, C, t, fr, [], front, tail, zD, by simp [hC], rfl, rfl, hr.mono fun _ _ => RepS.mono hle, fun _ => hfr⟩
  ·obtain ⟨L, h1, h2⟩ := H.sat j ej hj
   exact ⟨L, hle _ _ h1, (h2.mono hle).same (w4 h2.lt)⟩
 ·intro j k ej ek Lj Lk hj hk hne hrw h1 h2
  rw [aK] at hj hk
  split at hj
  ·subst_vars
   rw [hnew] at h1; cases h1
   split at hk
   ·contradiction
   ·obtain ⟨L, h3, h4⟩ := H.sat k ek hk
    have := hle _ _ h3
    rw [h2] at this; cases this
    exact Nat.ne_of_gt h4.lt
  ·obtain ⟨L, h3, h4⟩ := H.sat j ej hj
   have e1 := hle _ _ h3
   rw [h1] at e1; cases e1
   split at hk
   ·subst_vars
    rw [hnew] at h2; cases h2
    exact Nat.ne_of_lt h4.lt
   ·obtain ⟨L', h5, h6⟩ := H.sat k ek hk
    have e2 := hle _ _ h5
    rw [h2] at e2; cases e2
    exact H.inj j k ej ek _ _ hj hk hne hrw h3 h5
 ·intro j ej L hj hrw h1
  rw [aK] at hj
  split at hj
  ·subst_vars
   rw [hnew] at h1; cases h1
   exact .inr H.size
  ·obtain ⟨L', h3, h4⟩ := H.sat j ej hj
   have e1 := hle _ _ h3
   rw [h1] at e1; cases e1
   exact H.own j ej _ hj hrw h3
 ·intro b hb hn
  rw [w4 (Nat.lt_of_lt_of_le hb H.size)]
  exact H.ext b hb hn
 ·have := H.size; simp; omega
 ·intro b L hb
  have hb : ρ (fzn b) = some L := by
   unfold Env.put at hb
   rw [if_neg (by unfold fzn; omega)] at hb; exact hb
  obtain ⟨h1, h2, h3⟩ := H.fz b L hb
  have hlt : b < w.heap.size := by rw [← h1]; exact h2.lt
  refine ⟨h1, h2.same (w4 h2.lt), fun j ej Lj hj hrw hLj => ?_⟩
  rw [aK] at hj
  split at hj
  ·subst_vars
   rw [hnew] at hLj; cases hLj
   exact Nat.ne_of_gt hlt
  ·obtain ⟨L', h4, h5⟩ := H.sat j ej hj
   have e1 := hle _ _ h4
   rw [hLj] at e1; cases e1
   exact h3 j ej _ hj hrw h4
theorem Inv.frz {X : Ctx} {ρ : Env} {m : Mem} {w : World} (H : Inv X ρ m w) {b : Nat} {e : Ent} {L : Loc} {C : Array Value} {t : TypeId} {fr : Nat × Nat} (hg : get m b = some e) (hw : e.rw = true) (hL : ρ b = some L)
  (hC : w.heap[L.blk]? = some (.cells C t fr)) : Inv X ρ ((b, some e) :: m) (w.freeze ⟨L.blk, C.size, none⟩ 1) := by
 have hsame : ∀ c, L.blk ≠ c → (w.freeze ⟨L.blk, C.size, none⟩ 1).heap[c]? = w.heap[c]? := by
  intro c hc
  show (w.heap.modify L.blk _)[c]? = _
  rw [Array.getElem?_modify, if_neg hc]
 have hnew : ∃ fr', (dW C fr → dW C fr') ∧ (w.freeze ⟨L.blk, C.size, none⟩ 1).heap[L.blk]? = some (.cells C t fr') := by
  obtain ⟨lo, hi⟩ := fr
  refine ⟨if lo == hi then (C.size, C.size + 1) else (min lo C.size, max hi (C.size + 1)), fun h => ?_, ?_⟩
  ·unfold dW at h ⊢
   split
   ·exact .inr (Nat.le_refl _)
   ·rename_i hne
    rcases h with h | h
    ·exact absurd h.symm (by simpa using hne)
    ·right; exact Nat.le_min.2 ⟨h, Nat.le_refl _⟩
  ·show (w.heap.modify L.blk _)[L.blk]? = _
   rw [Array.getElem?_modify, if_pos rfl, hC]
   rfl
 obtain ⟨fr', hf, hn⟩ := hnew
 have hgg : ∀ i ei, get ((b, some e) :: m) i = some ei → get m i = some ei := by
  intro i ei h
  rw [aK] at h
  split at h
  ·subst_vars; cases h; exact hg
  ·exact h
 refine ⟨H.glob, fun i ei hi => ?_, fun i j ei ej Li Lj hi hj => H.inj i j ei ej Li Lj (hgg i ei hi) (hgg j ej hj), fun i ei Li hi => H.own i ei Li (hgg i ei hi), fun c hc hn' => ?_, ?_, H.os, H.out, H.tape, fun b0 L0 h0 => ?_⟩
 ·obtain ⟨Li, h1, h2⟩ := H.sat i ei (hgg i ei hi)
  refine ⟨Li, h1, ?_⟩
  by_cases hb : b = i
  ·subst hb
   rw [hL] at h1; cases h1
   obtain ⟨q1, q2, q3, C', t', fr0, pre, front, tail, q4, q5, q6, q7, q8, q9⟩ := h2
   rw [hC] at q4; cases q4
   exact ⟨q1, q2, q3, C, t, fr', pre, front, tail, hn, q5, q6, q7, q8, fun h => hf (q9 h)⟩
  ·exact h2.same (hsame Li.blk (H.inj b i e ei L Li hg (hgg i ei hi) hb hw hL h1))
 ·by_cases h : L.blk = c
  ·rcases H.own b e L hg hw hL with h' | h'
   ·exact absurd (h ▸ h') hn'
   ·omega
  ·rw [hsame c h]; exact H.ext c hc hn'
 ·have : (w.freeze ⟨L.blk, C.size, none⟩ 1).heap.size = w.heap.size := by
   show (w.heap.modify L.blk _).size = _
   simp
  rw [this]; exact H.size
 ·obtain ⟨h1, h2, h3⟩ := H.fz b0 L0 h0
  refine ⟨h1, h2.same (hsame _ ?_), fun i ei Li hi hr hLi => h3 i ei Li (hgg i ei hi) hr hLi⟩
  show L.blk ≠ L0.blk
  rw [h1]; exact h3 b e L hg hw hL
set_option maxRecDepth 3000
def gL : D → D → Bool
 |.bool a, .bool b => decide (a = b)
 |.u8 a, .u8 b => decide (a = b)
 |.u16 a, .u16 b => decide (a = b)
 |.u32 a, .u32 b => decide (a = b)
 |.u64 a, .u64 b => decide (a = b)
 |.i64 a, .i64 b => decide (a = b)
 |.str a, .str b => decide (a = b)
 |_, _ => false
def f7 : D → D → Prop
 |.bool _, .bool _ => True
 |.u8 _, .u8 _ => True
 |.u16 _, .u16 _ => True
 |.u32 _, .u32 _ => True
 |.u64 _, .u64 _ => True
 |.i64 _, .i64 _ => True
 |.str _, .str _ => True
 |_, _ => False
mutual
def D.eqb : D → D → Bool
 |.u8s a => fun y => match y with
  |.u8s b => decide (a = b)
  |_ => false
 |.u32s a => fun y => match y with
  |.u32s b => decide (a = b)
  |_ => false
 |.u64s a => fun y => match y with
  |.u64s b => decide (a = b)
  |_ => false
 |.node l => fun y => match y with
  |.node l' => D.eqbs l l'
  |_ => false
 |x => fun y => gL x y
def D.eqbs : List D → List D → Bool
 |[] => fun l => match l with
  |[] => true
  |_ => false
 |x :: xs => fun l => match l with
  |y :: ys => x.eqb y && D.eqbs xs ys
  |[] => false
end
mutual
def D.same : D → D → Prop
 |.u8s _ => fun y => match y with
  |.u8s _ => True
  |_ => False
 |.u32s _ => fun y => match y with
  |.u32s _ => True
  |_ => False
 |.u64s _ => fun y => match y with
  |.u64s _ => True
  |_ => False
 |.node l => fun y => match y with
  |.node l' => D.sames l l'
  |_ => False
 |x => fun y => f7 x y
def D.sames : List D → List D → Prop
 |[] => fun l => match l with
  |[] => True
  |_ => False
 |x :: xs => fun l => match l with
  |y :: ys => x.same y ∧ D.sames xs ys
  |[] => False
end
inductive Desc where
 |bool
 |int (k : IntKind)
 |str
 |ptr (e : Nat)
 |slice (e : Nat)
 |arr (n e : Nat)
 |st (fs : List Nat)
 |fn
 |other
structure TI where
 desc : Desc
 ty : Ty
 zero : D
 bytes : Nat
 eq : Bool := false
inductive Tab where
 |z
 |n (l : Tab) (k : Nat) (v : TI) (r : Tab)
def ti : Tab → Nat → Option TI
 |.z, _ => none
 |.n l k v r, j => match Nat.beq k j with
  |true => some v
  |false => match Nat.blt j k with
   |true => ti l j
   |false => ti r j
def eJ (P : Program) : List Field → List Nat → List Ty → Nat → Prop
 |[], [], [], _ => True
 |f :: fs, t :: ts, T :: Ts, o => f.type = t ∧ f.offset = o ∧ (P.info? t).map (·.size) = some T.size ∧ eJ P fs ts Ts (o + T.size)
 |_, _, _, _ => False
def aX (P : Program) (t : Nat) (i : TI) : Prop :=
 match i.desc with
 |.bool => P.underlying t = some .bool ∧ i.ty = .cell
 |.int k => P.underlying t = some (.int k) ∧ i.ty = .cell
 |.str => P.underlying t = some .string ∧ i.ty = .cell
 |.ptr e => P.underlying t = some (.pointer e) ∧ i.ty = .cell
 |.slice e => P.underlying t = some (.slice e) ∧ i.ty = .cell
 |.arr n e => P.underlying t = some (.array n e) ∧ ∃ T, i.ty = .arr n T ∧ (P.info? e).map (·.size) = some T.size
 |.st ts => ∃ fs Ts, P.underlying t = some (.struct fs) ∧ i.ty = .st Ts ∧ eJ P fs.toList ts Ts 0
 |.fn => (∃ a b c, P.underlying t = some (.func a b c)) ∧ i.ty = .cell
 |.other => False
structure TiOk (P : Program) (t : Nat) (i : TI) : Prop where
 desc : aX P t i
 flat : i.ty.flatTy
 zty : aD i.ty i.zero
 info : ∃ inf z, P.info? t = some inf ∧ inf.size = i.ty.size ∧ inf.bytes = i.bytes ∧ inf.zero = some z ∧ ∀ ρ, All2 (RepS ρ) i.zero.flat z.cells.toList
 eq : i.eq = true → P.eqGuardType P.depth t = false ∧ P.keyTypeAt 20 t = true
def b8 (P : Program) (Γ : Tab) : Prop := ∀ t i, ti Γ t = some i → TiOk P t i
structure Eff where
 ob : Prop
 v : D
 up : List (Nat × Option Ent)
 nw : Nat
abbrev MG := Nat → Option Ent
mutual
def Ty.beq : Ty → Ty → Bool
 |.cell => fun u => match u with
  |.cell => true
  |_ => false
 |.arr n t => fun u => match u with
  |.arr m v => match Nat.beq n m with
   |true => t.beq v
   |false => false
  |_ => false
 |.row t => fun u => match u with
  |.row v => t.beq v
  |_ => false
 |.st fs => fun u => match u with
  |.st gs => Ty.beqL fs gs
  |_ => false
def Ty.beqL : List Ty → List Ty → Bool
 |[] => fun l => match l with
  |[] => true
  |_ => false
 |t :: ts => fun l => match l with
  |u :: us => match t.beq u with
   |true => Ty.beqL ts us
   |false => false
  |[] => false
end
mutual
theorem Ty.eq_of_beq : ∀ (a b : Ty), a.beq b = true → a = b
 |.cell, b, h => by cases b <;> simp_all [Ty.beq]
 |.arr n t, b, h => by
  cases b <;> simp only [Ty.beq] at h <;> try contradiction
  split at h <;> try contradiction
  rename_i m v _ hn
  rw [Nat.eq_of_beq_eq_true hn, Ty.eq_of_beq t v h]
 |.row t, b, h => by
  cases b <;> simp only [Ty.beq] at h <;> try contradiction
  rename_i v
  rw [Ty.eq_of_beq t v h]
 |.st fs, b, h => by
  cases b <;> simp only [Ty.beq] at h <;> try contradiction
  rename_i gs
  rw [Ty.eq_of_beqL fs gs h]
theorem Ty.eq_of_beqL : ∀ (a b : List Ty), Ty.beqL a b = true → a = b
 |[], b, h => by cases b <;> simp_all [Ty.beqL]
 |t :: ts, b, h => by
  cases b <;> simp only [Ty.beqL] at h <;> try contradiction
  split at h <;> try contradiction
  rename_i u us _ ht
  rw [Ty.eq_of_beq t u ht, Ty.eq_of_beqL ts us h]
end
def toInt? : D → Option Int
 |.u8 x => some x.toNat
 |.u16 x => some x.toNat
 |.u32 x => some x.toNat
 |.u64 x => some x.toNat
 |.i64 n => some n
 |_ => none
def aAi (Γ : Tab) (mg : MG) (t : Nat) (a : D) : Option Eff :=
 match a with
 |.ptr b p => match mg b with
  |some e => match ti Γ t with
   |some i => match aM e.ty p with
    |some T => match T.beq i.ty with
     |true => match bZ e.d p with
      |some x => some ⟨okP e.d p, x, [], 0⟩
      |none => none
     |false => none
    |none => none
   |none => none
  |none => none
 |_ => none
theorem n5 {Γ : Tab} {mg : MG} {t : Nat} {a : D} {e : Eff} (h : aAi Γ mg t a = some e) :
  ∃ b p en i T x, a = .ptr b p ∧ mg b = some en ∧ ti Γ t = some i ∧ aM en.ty p = some T ∧ T.beq i.ty = true ∧ bZ en.d p = some x ∧ e = ⟨okP en.d p, x, [], 0⟩ := by
 unfold aAi at h
 repeat' split at h
 all_goals try contradiction
 cases h
 exact ⟨_, _, _, _, _, _, rfl, by assumption, by assumption, by assumption, by assumption, by assumption, rfl⟩
def tE (Γ : Tab) (mg : MG) (t : Nat) (a y : D) : Option Eff :=
 match a with
 |.ptr b p => match mg b with
  |some e => match ti Γ t with
   |some i => match aM e.ty p with
    |some T => match T.beq i.ty with
     |true => match e.rw with
      |true => match bZ e.d p with
       |some _ => match fC e.d p y with
        |some d' => some ⟨okP e.d p ∧ aD i.ty y, .undef, [(b, some ⟨e.ty, d', true⟩)], 0⟩
        |none => none
       |none => none
      |false => none
     |false => none
    |none => none
   |none => none
  |none => none
 |_ => none
theorem pQ {Γ : Tab} {mg : MG} {t : Nat} {a y : D} {e : Eff} (h : tE Γ mg t a y = some e) :
  ∃ b p en i T x d', a = .ptr b p ∧ mg b = some en ∧ ti Γ t = some i ∧ aM en.ty p = some T ∧ T.beq i.ty = true ∧ en.rw = true ∧ bZ en.d p = some x ∧ fC en.d p y = some d' ∧
   e = ⟨okP en.d p ∧ aD i.ty y, .undef, [(b, some ⟨en.ty, d', true⟩)], 0⟩ := by
 unfold tE at h
 repeat' split at h
 all_goals try contradiction
 cases h
 exact ⟨_, _, _, _, _, _, _, rfl, by assumption, by assumption, by assumption, by assumption, by assumption, by assumption, by assumption, rfl⟩
def l9 (nx : Nat) (T : Ty) (d : D) (v : D) (ob : Prop) : Option Eff :=
 match Nat.blt nx 1000000 with
 |true => some ⟨ob, v, [(nx, some ⟨T, d, true⟩)], 1⟩
 |false => none
def vU (Γ : Tab) (nx t : Nat) : Option Eff :=
 match ti Γ t with
 |some i => l9 nx i.ty i.zero (.ptr nx []) True
 |none => none
def boxE (Γ : Tab) (nx t : Nat) (x : D) : Option Eff :=
 match ti Γ t with
 |some i => l9 nx i.ty x (.ptr nx []) (aD i.ty x)
 |none => none
def cL (ob : Prop) (v : D) : Option Eff := some ⟨ob, v, [], 0⟩
def Ty.agg : Ty → Bool
 |.cell => false
 |_ => true
def Sound {α : Type} (P : Program) (s : Sem α) (val : α → Value) (X : Ctx) (ρ : Env) (m : Mem) (w : World) (nx : Nat) (e : Eff) : Prop :=
 ∃ r w' ρ', s.run P w = .ok r w' ∧ ρ.le ρ' ∧ (∀ i, ρ' i ≠ none → ρ i ≠ none ∨ (nx ≤ i ∧ i < nx + e.nw)) ∧ Rep ρ' e.v (val r) ∧ Inv X ρ' (e.up ++ m) w'
theorem Env.le_refl (ρ : Env) : ρ.le ρ := fun _ _ h => h
theorem Sound.pure {α : Type} {P : Program} {s : Sem α} {val : α → Value} {X : Ctx} {ρ : Env} {m : Mem} {w : World} {nx : Nat} {ob : Prop} {v : D} {r : α} (hI : Inv X ρ m w)
  (hr : s.run P w = .ok r w) (hv : Rep ρ v (val r)) : Sound P s val X ρ m w nx ⟨ob, v, [], 0⟩ :=
 ⟨r, w, ρ, hr, Env.le_refl ρ, fun _ h => .inl h, hv, hI⟩
section
set_option linter.unusedSectionVars false
variable {P : Program} {Γ : Tab} (hΓ : b8 P Γ) {X : Ctx} {ρ : Env} {m : Mem} {w : World} (hI : Inv X ρ m w) {mg : MG} (hm : ∀ b e, mg b = some e → get m b = some e) {nx : Nat}
include hΓ
theorem bO {t : Nat} {i : TI} (h : ti Γ t = some i) (w : World) : (sizeOf t).run P w = .ok i.ty.size w := by
 obtain ⟨inf, z, h1, h2, _⟩ := (hΓ t i h).info
 simp [sizeOf, typeInfo, h1, h2]
theorem bK {t : Nat} {i : TI} (h : ti Γ t = some i) (w : World) : ∃ z, (zeroValue t).run P w = .ok z w ∧ ∀ ρ, All2 (RepS ρ) i.zero.flat z.cells.toList := by
 obtain ⟨inf, z, h1, h2, h3, h4, h5⟩ := (hΓ t i h).info
 exact ⟨z, by simp [zeroValue, typeInfo, h1, h4], h5⟩
theorem tP {t : Nat} {i : TI} (h : ti Γ t = some i) (w : World) : (isAgg t).run P w = .ok i.ty.agg w := by
 have hd := (hΓ t i h).desc
 obtain ⟨desc, ty, zero, bytes⟩ := i
 unfold aX at hd
 simp only [isAgg, underlying, Sem.run_bind, run_program, Result.andThen_ok]
 cases desc <;> simp only at hd <;> first
  |exact hd.elim
  |(obtain ⟨fs, Ts, h1, h2, _⟩ := hd; subst h2; rw [h1]; rfl)
  |(obtain ⟨h1, T, h2, _⟩ := hd; subst h2; rw [h1]; rfl)
  |(obtain ⟨⟨a, b, c, h1⟩, h2⟩ := hd; subst h2; rw [h1]; rfl)
  |(obtain ⟨h1, h2⟩ := hd; subst h2; rw [h1]; rfl)
omit hΓ in
theorem uR {T : Ty} {d : D} (h : aD T d) (hT : T.flatTy) : d.isAgg = T.agg := by
 cases T with
 |cell =>
  have h : d.isCell = true := h
  cases d <;> first | rfl | simp [D.isCell] at h
 |row t => exact hT.elim
 |arr n t => cases d <;> first | rfl | exact h.elim
 |st fs => cases d <;> first | rfl | exact h.elim
theorem nL {t : Nat} {i : TI} (h : ti Γ t = some i) {a : Addr} {x : D} {vs : List Value} {ρ : Env} {w : World} (hx : aD i.ty x) (hr : All2 (RepS ρ) x.flat vs)
  (hc : ∀ j v, vs[j]? = some v → w.cell? (a.add j) = some v) : ∃ v, (loadVar t a).run P w = .ok v w ∧ Rep ρ x v := by
 have hf := (hΓ t i h).flat
 obtain ⟨inf, z, h1, h2, _⟩ := (hΓ t i h).info
 have hA := tP hΓ h w
 have hagg := uR hx hf
 unfold loadVar
 rw [Sem.run_bind, hA, Result.andThen_ok]
 cases hc' : x.isAgg with
 |false =>
  rw [hc'] at hagg
  rw [← hagg]
  have hcell : x.isCell = true := by
   cases hT : i.ty <;> rw [hT] at hagg hx <;> first | exact hx | (simp [Ty.agg] at hagg)
  rw [D.flat_cell hcell] at hr
  cases vs with
  |nil => exact hr.elim
  |cons v vs =>
   have := hc 0 v rfl
   refine ⟨v, ?_, nN hcell hr.1⟩
   have ha : a.add 0 = a := by simp [Addr.add]
   rw [ha] at this
   simp [run_load, this]
 |true =>
  rw [hc'] at hagg
  rw [← hagg]
  have hlen : vs.length = i.ty.size := by rw [← hr.length, aG _ _ hf hx]
  refine ⟨.agg vs.toArray, ?_, ?_⟩
  ·simp only [if_true, Sem.run_bind, sizeOf, typeInfo, run_program, Result.andThen_ok, h1, Sem.run_pure, h2, ← hlen, run_loadCells_list w a vs hc]
  ·rw [eE (by cases x <;> simp_all [D.isAgg, D.isTup])]
   unfold RepV
   rw [hc']
   exact ⟨vs, rfl, hr⟩
include hI
include hm in
theorem aAT {t : Nat} {d : D} {v : Value} {e : Eff} (he : aAi Γ mg t d = some e) (ho : e.ob) (hd : Rep ρ d v) : Sound P (Instr.loadAt t v) id X ρ m w nx e := by
 obtain ⟨b, p, en, i, T, x, rfl, hg, hi, hT, hb, hx, rfl⟩ := n5 he
 obtain ⟨L, h1, rfl⟩ := hd
 obtain ⟨L', h2, h3⟩ := hI.sat b en (hm _ _ hg)
 rw [h1] at h2; cases h2
 have := Ty.eq_of_beq _ _ hb; subst this
 obtain ⟨h4, vs, h5, h6⟩ := h3.read hT ho hx
 obtain ⟨v, h7, h8⟩ := nL hΓ hi h4 h5 (a := ⟨L.blk, L.base + aE L.ty p, none⟩) (fun j v hj => by rw [dF]; exact h6 j v hj)
 exact Sound.pure hI (by simpa [Instr.loadAt, Instr.sureAddr] using h7) h8
include hm in
theorem wM {t : Nat} {d y : D} {v yv : Value} {e : Eff} (he : tE Γ mg t d y = some e) (ho : e.ob) (hd : Rep ρ d v) (hy : Rep ρ y yv) :
  Sound P (Instr.storeAt t v yv) (fun _ => undef) X ρ m w nx e := by
 obtain ⟨b, p, en, i, T, x, d', rfl, hg, hi, hT, hb, hrw, hx, hs, rfl⟩ := pQ he
 obtain ⟨ho, hty⟩ := ho
 obtain ⟨L, h1, rfl⟩ := hd
 obtain ⟨L', h2, h3⟩ := hI.sat b en (hm _ _ hg)
 rw [h1] at h2; cases h2
 have := Ty.eq_of_beq _ _ hb; subst this
 obtain ⟨hxT, _⟩ := h3.read hT ho hx
 have hf := (hΓ t i hi).flat
 have hcs := j6 hty hy
 obtain ⟨C', h4, h5⟩ := h3.write (P := P) hT ho hx hs hty (by rw [aG _ _ hf hxT, aG _ _ hf hty]) hcs hrw
 refine ⟨(), World.putBlk w L.blk C', ρ, ?_, Env.le_refl ρ, fun _ h => .inl h, trivial, ?_⟩
 ·obtain ⟨inf, z, g1, g2, _⟩ := (hΓ t i hi).info
  have hsz : yv.cells.size = i.ty.size := by rw [← Array.length_toList, ← hcs.length, aG _ _ hf hty]
  simp [Instr.storeAt, Instr.sureAddr, storeVar, sizeOf, typeInfo, g1, g2, hsz, h4]
 ·refine hI.put (hm _ _ hg) hrw h1 rfl ?_
  have : ({ en with d := d' } : Ent) = ⟨en.ty, d', true⟩ := by cases en; simp_all
  rw [← this]; exact h5
theorem gQ {α : Type} {s : Sem α} {val : α → Value} {T : Ty} {d v : D} {ob : Prop} {e : Eff} {C : Array Value} {t : TypeId} {front tail : List Value} {r : α}
  (hnx : ρ nx = none) (he : l9 nx T d v ob = some e) (hg : T.good) (hty : aD T d) (hr : All2 (RepS ρ) d.flat front) (hC : C.toList = front ++ tail)
  {fr : Nat × Nat} {w0 : World} (hw0 : Inv X ρ m w0) (hfr : dW C fr) (hrun : s.run P w = .ok r (w0.alloc (.cells C t fr)))
  (hv : ∀ ρ' : Env, ρ.le ρ' → ρ' nx = some ⟨w0.heap.size, 0, C.size, T⟩ → Rep ρ' v (val r)) : Sound P s val X ρ m w nx e := by
 unfold l9 at he
 split at he <;> try contradiction
 rename_i hlt
 cases he
 obtain ⟨h1, h2⟩ := hw0.alloc (e := ⟨T, d, true⟩) (t := t) hnx (by simp [Nat.blt] at hlt; omega) hg hty hr hC hfr
 refine ⟨r, _, _, hrun, h1, ?_, ?_, h2⟩
 ·intro i hi
  unfold Env.put at hi
  split at hi
  ·subst_vars; exact .inr ⟨Nat.le_refl _, by simp⟩
  ·exact .inl hi
 ·exact hv _ h1 (by simp [Env.put])
theorem wS {t : Nat} {e : Eff} (hnx : ρ nx = none) (he : vU Γ nx t = some e) : Sound P (Instr.alloc t true (.tuple #[])) id X ρ m w nx e := by
 unfold vU at he
 split at he <;> try contradiction
 rename_i i hi
 obtain ⟨z, hz, hrz⟩ := bK hΓ hi w
 have hok := hΓ t i hi
 have hg : i.ty.good := by have := hok.flat; cases hT : i.ty <;> simp_all [Ty.good, Ty.flatTy]
 refine gQ hΓ hI (C := z.cells) (t := t) (front := z.cells.toList) (tail := []) (r := .pointer (some ⟨w.heap.size, 0, none⟩)) hnx he hg hok.zty (hrz ρ) (by simp) hI (fr := (0, 0)) (.inl rfl) ?_ ?_
 ·simp [Instr.alloc, hz, newVar, newRow]
 ·intro ρ' _ h'
  exact ⟨_, h', by simp [aE]⟩
theorem aB7 {t : Nat} {x : D} {v : Value} {e : Eff} (hnx : ρ nx = none) (he : boxE Γ nx t x = some e) (ho : e.ob) (hx : Rep ρ x v) : Sound P (Instr.box t v) id X ρ m w nx e := by
 unfold boxE at he
 split at he <;> try contradiction
 rename_i i hi
 have hok := hΓ t i hi
 have hty : aD i.ty x := by
  unfold l9 at he
  split at he <;> try contradiction
  cases he; exact ho
 have hg : i.ty.good := by have := hok.flat; cases hT : i.ty <;> simp_all [Ty.good, Ty.flatTy]
 refine gQ hΓ hI (C := v.cells) (t := t) (front := v.cells.toList) (tail := []) (r := .pointer (some ⟨w.heap.size, 0, none⟩)) hnx he hg hty (j6 hty hx) (by simp) hI (fr := (0, 0)) (.inl rfl) ?_ ?_
 ·simp [Instr.box, newVar, newRow]
 ·intro ρ' _ h'
  exact ⟨_, h', by simp [aE]⟩
end
set_option maxRecDepth 3000
def D.lit : D → Lit
 |.bool b => .bool b
 |.u8 x => .int .u8 x.toNat
 |.u16 x => .int .u16 x.toNat
 |.u32 x => .int .u32 x.toNat
 |.u64 x => .int .u64 x.toNat
 |.i64 n => .int .i64 n
 |.str l => .string (aZ l)
 |_ => .bool false
def u1 (F : Nat → D → Prop) : List Nat → List D → Prop
 |[], [] => True
 |t :: ts, d :: ds => F t d ∧ u1 F ts ds
 |_, _ => False
def gN (Γ : Tab) : Nat → Nat → D → Prop
 |0, _, _ => False
 |n + 1, t, x => match ti Γ t with
  |none => False
  |some i => match i.desc with
   |.bool => match x with
    |.bool _ => True
    |_ => False
   |.int k => match k, x with
    |.u8, .u8 _ => True
    |.u16, .u16 _ => True
    |.u32, .u32 _ => True
    |.u64, .u64 _ => True
    |.i64, .i64 _ => True
    |_, _ => False
   |.str => match x with
    |.str _ => True
    |_ => False
   |.arr c el => match x with
    |.u8s l => l.length = c ∧ gN Γ n el (.u8 0)
    |.u32s l => l.length = c ∧ gN Γ n el (.u32 0)
    |.u64s l => l.length = c ∧ gN Γ n el (.u64 0)
    |.node l => l.length = c ∧ iY (gN Γ n el) l
    |_ => False
   |.st ts => match x with
    |.node l => u1 (gN Γ n) ts l
    |_ => False
   |_ => False
theorem aFw {Γ : Tab} : ∀ {n t : Nat} {a b : BitVec 8}, gN Γ n t (.u8 a) → gN Γ n t (.u8 b)
 |n + 1, t, a, b, h => by
  simp only [gN] at h ⊢
  split at h <;> try contradiction
  split at h <;> first | contradiction | skip
  all_goals (try (split at h <;> first | contradiction | trivial))
theorem aEC {Γ : Tab} : ∀ {n t : Nat} {a b : BitVec 32}, gN Γ n t (.u32 a) → gN Γ n t (.u32 b)
 |n + 1, t, a, b, h => by
  simp only [gN] at h ⊢
  split at h <;> try contradiction
  split at h <;> first | contradiction | skip
  all_goals (try (split at h <;> first | contradiction | trivial))
theorem aEB {Γ : Tab} : ∀ {n t : Nat} {a b : BitVec 64}, gN Γ n t (.u64 a) → gN Γ n t (.u64 b)
 |n + 1, t, a, b, h => by
  simp only [gN] at h ⊢
  split at h <;> try contradiction
  split at h <;> first | contradiction | skip
  all_goals (try (split at h <;> first | contradiction | trivial))
section
variable {P : Program} {Γ : Tab} (hΓ : b8 P Γ)
include hΓ
theorem lH {t : Nat} {i : TI} (h : ti Γ t = some i) : P.cellsOf t = i.ty.size := by
 obtain ⟨inf, z, h1, h2, _⟩ := (hΓ t i h).info
 unfold Program.cellsOf
 rw [h1]; simp [h2]
theorem aAF {t : Nat} {i : TI} {c el : Nat} (h : ti Γ t = some i) (hd : i.desc = .arr c el) : P.underlying t = some (.array c el) ∧ P.cellsOf t = c * P.cellsOf el := by
 have := (hΓ t i h).desc
 unfold aX at this
 rw [hd] at this
 obtain ⟨h1, T, h2, h3⟩ := this
 refine ⟨h1, ?_⟩
 rw [lH hΓ h, h2]
 unfold Program.cellsOf
 rw [h3]; simp [Ty.size]
theorem eL {n t : Nat} {x : D} (hx : x.isCell = true) (h : gN Γ n t x) : P.cellsOf t = 1 := by
 cases n with
 |zero => simp [gN] at h
 |succ n =>
  simp only [gN] at h
  split at h <;> try contradiction
  rename_i i hi
  have hd := (hΓ t i hi).desc
  unfold aX at hd
  rw [lH hΓ hi]
  split at h
  ·rename_i he; rw [he] at hd; rw [hd.2]; rfl
  ·rename_i he; rw [he] at hd; rw [hd.2]; rfl
  ·rename_i he; rw [he] at hd; rw [hd.2]; rfl
  ·cases x <;> simp_all [D.isCell]
  ·cases x <;> simp_all [D.isCell]
  ·contradiction
omit hΓ in
theorem aEA (l : B8) : D.flats (l.map .u8) = l.map .u8 := by
 induction l with
 |nil => rfl
 |cons a r ih => simp only [List.map_cons, D.flats, ih]; rfl
omit hΓ in
theorem aCc (l : List (BitVec 32)) : D.flats (l.map .u32) = l.map .u32 := by
 induction l with
 |nil => rfl
 |cons a r ih => simp only [List.map_cons, D.flats, ih]; rfl
omit hΓ in
theorem aCb (l : List (BitVec 64)) : D.flats (l.map .u64) = l.map .u64 := by
 induction l with
 |nil => rfl
 |cons a r ih => simp only [List.map_cons, D.flats, ih]; rfl
omit hΓ in
theorem u0 {sz : Nat} : ∀ {ds : List D}, (∀ d ∈ ds, d.flat.length = sz) → (D.flats ds).length = ds.length * sz
 |[], _ => by simp [D.flats]
 |d :: ds, h => by
  rw [D.flats, List.length_append, h d (by simp), u0 (fun x hx => h x (List.mem_cons_of_mem _ hx)), List.length_cons, Nat.succ_mul]; omega
omit hΓ in
theorem qO {F : Nat → D → Prop} (hF : ∀ t d, F t d → d.flat.length = P.cellsOf t) : ∀ {fs : List Field} {ts : List Nat} {Ts : List Ty} {o : Nat} {ds : List D}, eJ P fs ts Ts o → u1 F ts ds → (D.flats ds).length = Ty.sizes Ts
 |[], [], [], _, [], _, _ => rfl
 |f :: fs, t :: ts, T :: Ts, o, d :: ds, h, h' => by
  have e : P.cellsOf t = T.size := by unfold Program.cellsOf; rw [h.2.2.1]; rfl
  rw [D.flats, List.length_append, hF t d h'.1, e, qO hF h.2.2.2 h'.2]; rfl
 |[], [], [], _, _ :: _, _, h => h.elim
 |_ :: _, _ :: _, _ :: _, _, [], _, h => h.elim
 |_ :: _, [], _, _, _, h, _ => h.elim
 |_ :: _, _ :: _, [], _, _, h, _ => h.elim
 |[], _ :: _, _, _, _, h, _ => h.elim
 |[], [], _ :: _, _, _, h, _ => h.elim
theorem d5 : ∀ (n t : Nat) (x : D), gN Γ n t x → x.flat.length = P.cellsOf t
 |0, _, _, h => by simp [gN] at h
 |n + 1, t, x, h => by
  have h0 := h
  simp only [gN] at h
  split at h <;> try contradiction
  rename_i i hi
  split at h
  ·cases x <;> first | contradiction | (rw [eL hΓ rfl h0]; rfl)
  ·cases x <;> first | (rw [eL hΓ rfl h0]; rfl) | (split at h <;> simp_all)
  ·cases x <;> first | contradiction | (rw [eL hΓ rfl h0]; rfl)
  ·rename_i c el hd
   obtain ⟨hu, hs⟩ := aAF hΓ hi hd
   rw [hs]
   cases x <;> try contradiction
   case u8s l => simp only [D.flat, List.length_map]; rw [h.1, eL hΓ rfl h.2, Nat.mul_one]
   case u32s l => simp only [D.flat, List.length_map]; rw [h.1, eL hΓ rfl h.2, Nat.mul_one]
   case u64s l => simp only [D.flat, List.length_map]; rw [h.1, eL hΓ rfl h.2, Nat.mul_one]
   case node l =>
    simp only [D.flat]
    rw [u0 (fun d hd => d5 n el d (aJ.1 h.2 d hd)), h.1]
  ·rename_i ts hd
   cases x <;> try contradiction
   rename_i l
   have hD := (hΓ t i hi).desc
   unfold aX at hD
   rw [hd] at hD
   obtain ⟨fs, Ts, h1, h2, h3⟩ := hD
   rw [lH hΓ hi, h2]
   exact qO (d5 n) h3 h
  ·contradiction
omit hΓ in
theorem aEq {R : D → Value → Prop} {β : Type} (f : List Value → Option β) (g : D → β) (sz : Nat) : ∀ (ds : List D) (k : Nat) (cs : List Value),
  (∀ d ∈ ds, d.flat.length = sz ∧ ∀ c, All2 R d.flat c → f c = some (g d)) → All2 R (D.flats ds) (cs.drop (k * sz)) → (List.range' k ds.length).mapM (fun i => f ((cs.drop (i * sz)).take sz)) = some (ds.map g)
 |[], k, cs, _, _ => by simp
 |d :: ds, k, cs, h, H => by
  obtain ⟨c1, c2, e, h1, h2⟩ := All2.split_left (as := d.flat) H
  have hl : c1.length = sz := h1.length.symm.trans (h d (by simp)).1
  have e1 : (cs.drop (k * sz)).take sz = c1 := by rw [e, ← hl, List.take_left]
  have e2 : cs.drop ((k + 1) * sz) = c2 := by rw [Nat.succ_mul, ← List.drop_drop, e, ← hl, List.drop_left]
  rw [List.length_cons, List.range'_succ, List.mapM_cons, e1, (h d (by simp)).2 c1 h1, aEq f g sz ds (k + 1) cs (fun x hx => h x (List.mem_cons_of_mem _ hx)) (by rw [e2]; exact h2)]
  rfl
omit hΓ in
theorem aCd {R : D → Value → Prop} {β : Type} (f : Nat → List Value → Option β) (g : D → β) (cs : List Value) : ∀ (fs : List Field) (ts : List Nat) (Ts : List Ty) (o : Nat) (ds : List D),
  eJ P fs ts Ts o → u1 (fun t d => d.flat.length = P.cellsOf t ∧ ∀ c, All2 R d.flat c → f t c = some (g d)) ts ds → All2 R (D.flats ds) (cs.drop o) →
  fs.mapM (fun fd => f fd.type ((cs.drop fd.offset).take (P.cellsOf fd.type))) = some (ds.map g)
 |[], [], [], _, [], _, _, _ => by simp
 |fd :: fs, t :: ts, T :: Ts, o, d :: ds, h, h', H => by
  obtain ⟨c1, c2, e, h1, h2⟩ := All2.split_left (as := d.flat) H
  have hs : P.cellsOf t = T.size := by unfold Program.cellsOf; rw [h.2.2.1]; rfl
  have hl : c1.length = P.cellsOf t := h1.length.symm.trans h'.1.1
  have e1 : (cs.drop o).take (P.cellsOf t) = c1 := by rw [e, ← hl, List.take_left]
  have e2 : cs.drop (o + T.size) = c2 := by rw [← hs, ← List.drop_drop, e, ← hl, List.drop_left]
  rw [List.mapM_cons, h.1, h.2.1, e1, h'.1.2 c1 h1, aCd f g cs fs ts Ts (o + T.size) ds h.2.2.2 h'.2 (by rw [e2]; exact h2)]
  rfl
 |[], [], [], _, _ :: _, _, h, _ => h.elim
 |_ :: _, _ :: _, _ :: _, _, [], _, h, _ => h.elim
 |_ :: _, [], _, _, _, h, _, _ => h.elim
 |_ :: _, _ :: _, [], _, _, h, _, _ => h.elim
 |[], _ :: _, _, _, _, h, _, _ => h.elim
 |[], [], _ :: _, _, _, h, _, _ => h.elim
omit hΓ in
theorem uZ (ds : List D) : (ds.map (fun d => d.flat.map D.lit)).flatten = (D.flats ds).map D.lit := by
 induction ds with
 |nil => rfl
 |cons d ds ih => simp only [List.map_cons, List.flatten_cons, D.flats, List.map_append, ih]
omit hΓ in
theorem qN {F G : Nat → D → Prop} : ∀ {ts : List Nat} {ds : List D}, (∀ t ∈ ts, ∀ d, F t d → G t d) → u1 F ts ds → u1 G ts ds
 |[], [], _, _ => trivial
 |t :: ts, d :: ds, h, h' => ⟨h t (by simp) d h'.1, qN (fun x hx => h x (List.mem_cons_of_mem _ hx)) h'.2⟩
 |[], _ :: _, _, h => h.elim
 |_ :: _, [], _, h => h.elim
omit hΓ in
theorem lU : ∀ {fs : List Field} {ts : List Nat} {Ts : List Ty} {o : Nat}, eJ P fs ts Ts o → ts = fs.map (·.type)
 |[], [], [], _, _ => rfl
 |f :: fs, t :: ts, T :: Ts, o, h => by rw [List.map_cons, h.1, lU h.2.2.2]
 |_ :: _, [], _, _, h => h.elim
 |_ :: _, _ :: _, [], _, h => h.elim
 |[], _ :: _, _, _, h => h.elim
 |[], [], _ :: _, _, h => h.elim
omit hΓ in
theorem aEW {R : D → Value → Prop} {d : D} {cs : List Value} (H : All2 R [d] cs) : ∃ v, cs = [v] ∧ R d v := by
 match cs, H with
 |[v], H => exact ⟨v, rfl, H.1⟩
omit hΓ in
theorem cP {n t : Nat} {k : IntKind} {a : Int} (hD : P.underlying t = some (.int k)) (hw : (Lit.int k a).wf = true) : P.keyLits (n + 1) t [.int k a] = some [.int k a] := by
 simp [Program.keyLits, hD, hw]
theorem kI {ρ : Env} : ∀ (n m t : Nat) (x : D) (cs : List Value), gN Γ n t x → P.keyTypeAt m t = true → All2 (RepS ρ) x.flat cs → P.keyLits n t cs = some (x.flat.map D.lit)
 |0, _, _, _, _, h, _, _ => by simp [gN] at h
 |_ + 1, 0, _, _, _, _, hk, _ => by simp [Program.keyTypeAt] at hk
 |n + 1, m + 1, t, x, cs, h, hk, H => by
  have hlen := d5 hΓ (n + 1) t x h
  rw [H.length] at hlen
  simp only [gN] at h
  split at h <;> try contradiction
  rename_i i hi
  have hD := (hΓ t i hi).desc
  unfold aX at hD
  split at h
  ·rename_i hd; rw [hd] at hD
   cases x <;> try contradiction
   rename_i b
   match cs, H with
   |[v], H =>
    have hv : v = .bool b := H.1
    subst hv
    simp [Program.keyLits, hD.1, D.flat, D.lit]
  ·rename_i k hd; rw [hd] at hD
   split at h <;> try contradiction
   all_goals
    obtain ⟨v, rfl, hv⟩ := aEW H
    simp only [RepS, RepB] at hv
   ·rename_i a; subst hv
    have := a.isLt
    exact cP hD.1 (by simp [Lit.wf, IntKind.min, IntKind.max, IntKind.signed, IntKind.bits]; omega)
   ·rename_i a; subst hv
    have := a.isLt
    exact cP hD.1 (by simp [Lit.wf, IntKind.min, IntKind.max, IntKind.signed, IntKind.bits]; omega)
   ·rename_i a; subst hv
    have := a.isLt
    exact cP hD.1 (by simp [Lit.wf, IntKind.min, IntKind.max, IntKind.signed, IntKind.bits]; omega)
   ·rename_i a; subst hv
    have := a.isLt
    exact cP hD.1 (by simp [Lit.wf, IntKind.min, IntKind.max, IntKind.signed, IntKind.bits]; omega)
   ·obtain ⟨rfl, h1, h2⟩ := hv
    exact cP hD.1 (by simp [Lit.wf, IntKind.min, IntKind.max, IntKind.signed, IntKind.bits]; omega)
  ·rename_i hd; rw [hd] at hD
   cases x <;> try contradiction
   rename_i l
   match cs, H with
   |[v], H =>
    obtain ⟨s, rfl, h1, h2⟩ := H.1
    have hsz : s.size ≤ maxLen := by
     have := congrArg List.length h1
     simp [aZ] at this
     have e : s.size = s.data.size := rfl
     unfold maxLen
     omega
    simp [Program.keyLits, hD.1, D.flat, D.lit, hsz, h1]
  ·rename_i c el hd
   obtain ⟨hu, hs⟩ := aAF hΓ hi hd
   have hke : P.keyTypeAt m el = true := by
    unfold Program.keyTypeAt at hk
    rw [hu] at hk; exact hk
   have key : ∀ ds : List D, x.flat = D.flats ds → ds.length = c → (∀ d ∈ ds, gN Γ n el d) → P.keyLits (n + 1) t cs = some (x.flat.map D.lit) := by
    intro ds hf hc hall
    rw [hf] at H ⊢
    have := aEq (R := RepS ρ) (P.keyLits n el) (fun d => d.flat.map D.lit) (P.cellsOf el) ds 0 cs (fun d hd => ⟨d5 hΓ n el d (hall d hd), fun c' hc' => kI n m el d c' (hall d hd) hke hc'⟩) (by simpa using H)
    unfold Program.keyLits
    simp only [hu]
    rw [if_pos hlen, List.range_eq_range', ← hc, this, Option.map_some, uZ]
   cases x <;> try contradiction
   case u8s l => exact key (l.map .u8) (by rw [aEA]; rfl) (by rw [List.length_map, h.1]) (fun d hd => by
    obtain ⟨a, _, rfl⟩ := List.mem_map.1 hd; exact aFw h.2)
   case u32s l => exact key (l.map .u32) (by rw [aCc]; rfl) (by rw [List.length_map, h.1]) (fun d hd => by
    obtain ⟨a, _, rfl⟩ := List.mem_map.1 hd; exact aEC h.2)
   case u64s l => exact key (l.map .u64) (by rw [aCb]; rfl) (by rw [List.length_map, h.1]) (fun d hd => by
    obtain ⟨a, _, rfl⟩ := List.mem_map.1 hd; exact aEB h.2)
   case node l => exact key l rfl h.1 (aJ.1 h.2)
  ·rename_i ts hd
   cases x <;> try contradiction
   rename_i l
   rw [hd] at hD
   obtain ⟨fs, Ts, h1, h2, h3⟩ := hD
   unfold Program.keyTypeAt at hk
   rw [h1] at hk
   simp only [Bool.and_eq_true] at hk
   have hall : ∀ f ∈ fs.toList, f.name ≠ "_" ∧ P.keyTypeAt m f.type = true := fun f hf => by
    have := Array.all_eq_true_iff_forall_mem.1 hk.1.1 f (Array.mem_toList_iff.1 hf)
    simpa only [Bool.and_eq_true, bne_iff_ne, ne_eq] using this
   have hts := lU h3
   have := aCd (P := P) (R := RepS ρ) (P.keyLits n) (fun d => d.flat.map D.lit) cs fs.toList ts Ts 0 l h3
    (qN (fun t' ht' d hd' => ⟨d5 hΓ n t' d hd', fun c' hc' => kI n m t' d c' hd' (by
     rw [hts] at ht'
     obtain ⟨f, hf, rfl⟩ := List.mem_map.1 ht'
     exact (hall f hf).2) hc'⟩) h) (by simpa [D.flat] using H)
   unfold Program.keyLits
   simp only [h1]
   rw [if_pos ⟨hlen, Array.all_eq_true_iff_forall_mem.2 (fun f hf => by simpa using (hall f (Array.mem_toList_iff.2 hf)).1)⟩, this, Option.map_some, uZ]
   rfl
  ·contradiction
omit hΓ in
theorem zX : ∀ {ds ds' : List D}, All2 (fun d d' => d.flat.length = d'.flat.length ∧ (d.eqb d' = true ↔ d.flat.map D.lit = d'.flat.map D.lit)) ds ds' → (D.eqbs ds ds' = true ↔ (D.flats ds).map D.lit = (D.flats ds').map D.lit)
 |[], [], _ => by simp [D.eqbs]
 |d :: ds, d' :: ds', h => by
  simp only [D.eqbs, D.flats, List.map_append, Bool.and_eq_true]
  rw [h.1.2, zX h.2]
  constructor
  ·rintro ⟨h1, h2⟩; rw [h1, h2]
  ·intro h1
   exact List.append_inj h1 (by simp [h.1.1])
 |[], _ :: _, h => h.elim
 |_ :: _, [], h => h.elim
omit hΓ in
theorem pX {F : D → D → Prop} : ∀ {ds ds' : List D}, D.sames ds ds' → (∀ d ∈ ds, ∀ d' ∈ ds', d.same d' → F d d') → All2 F ds ds'
 |[], [], _, _ => trivial
 |d :: ds, d' :: ds', h, hF => ⟨hF d (by simp) d' (by simp) h.1, pX h.2 (fun x hx y hy => hF x (List.mem_cons_of_mem _ hx) y (List.mem_cons_of_mem _ hy))⟩
 |[], _ :: _, h, _ => h.elim
 |_ :: _, [], h, _ => h.elim
omit hΓ in
theorem pW {G : D → D → Prop} {F : Nat → D → Prop} (hF : ∀ t d d', F t d → F t d' → d.same d' → G d d') : ∀ {ts : List Nat} {ds ds' : List D}, D.sames ds ds' → u1 F ts ds → u1 F ts ds' → All2 G ds ds'
 |[], [], [], _, _, _ => trivial
 |t :: ts, d :: ds, d' :: ds', h, h1, h2 => ⟨hF t d d' h1.1 h2.1 h.1, pW hF h.2 h1.2 h2.2⟩
 |[], _ :: _, _, _, h, _ => h.elim
 |_ :: _, [], _, _, h, _ => h.elim
 |[], [], _ :: _, _, _, h => h.elim
 |_ :: _, _ :: _, [], _, _, h => h.elim
omit hΓ in
theorem aBF {a b : List xZ} : aZ a = aZ b ↔ a = b := by
 unfold aZ
 exact List.map_inj_right (fun x y h => by cases h; rfl)
omit hΓ in
theorem aDU {x y : D} (h : f7 x y) : gL x y = true ↔ x.lit = y.lit := by
 unfold f7 at h
 split at h <;> try contradiction
 ·simp [gL, D.lit]
 ·simp only [gL, D.lit, decide_eq_true_eq]
  exact ⟨fun h => by rw [h], fun h => BitVec.eq_of_toNat_eq (by have := (Lit.int.inj h).2; omega)⟩
 ·simp only [gL, D.lit, decide_eq_true_eq]
  exact ⟨fun h => by rw [h], fun h => BitVec.eq_of_toNat_eq (by have := (Lit.int.inj h).2; omega)⟩
 ·simp only [gL, D.lit, decide_eq_true_eq]
  exact ⟨fun h => by rw [h], fun h => BitVec.eq_of_toNat_eq (by have := (Lit.int.inj h).2; omega)⟩
 ·simp only [gL, D.lit, decide_eq_true_eq]
  exact ⟨fun h => by rw [h], fun h => BitVec.eq_of_toNat_eq (by have := (Lit.int.inj h).2; omega)⟩
 ·simp [gL, D.lit]
 ·simp [gL, D.lit, aBF]
theorem rY : ∀ (n t : Nat) (x y : D), gN Γ n t x → gN Γ n t y → x.same y → (x.eqb y = true ↔ x.flat.map D.lit = y.flat.map D.lit)
 |0, _, _, _, h, _, _ => by simp [gN] at h
 |n + 1, t, x, y, h, h', hs => by
  have scal : f7 x y → x.eqb y = gL x y → x.flat = [x] → y.flat = [y] → (x.eqb y = true ↔ x.flat.map D.lit = y.flat.map D.lit) := by
   intro h1 h2 h3 h4
   rw [h2, h3, h4, aDU h1]; simp
  have node : ∀ l l', x = .node l → y = .node l' → All2 (fun d d' => d.flat.length = d'.flat.length ∧ (d.eqb d' = true ↔ d.flat.map D.lit = d'.flat.map D.lit)) l l' → (x.eqb y = true ↔ x.flat.map D.lit = y.flat.map D.lit) := by
   intro l l' h1 h2 h3
   subst h1 h2
   simp only [D.eqb, D.flat]
   exact zX h3
  simp only [gN] at h h'
  split at h <;> try contradiction
  rename_i i hi
  simp only [hi] at h'
  split at h
  ·rename_i hd
   cases x <;> try contradiction
   cases y <;> simp only [D.same, f7] at hs
   exact scal trivial rfl rfl rfl
  ·rename_i k hd
   split at h <;> try contradiction
   all_goals (cases y <;> simp only [D.same, f7] at hs)
   all_goals exact scal trivial rfl rfl rfl
  ·rename_i hd
   cases x <;> try contradiction
   cases y <;> simp only [D.same, f7] at hs
   exact scal trivial rfl rfl rfl
  ·rename_i c el hd
   rw [hd] at h'
   cases x <;> try contradiction
   ·cases y <;> simp only [D.same] at hs
    simp only [D.eqb, D.flat, decide_eq_true_eq, List.map_map]
    exact (List.map_inj_right (fun a b hab => BitVec.eq_of_toNat_eq (by have := (Lit.int.inj hab).2; omega))).symm
   ·cases y <;> simp only [D.same] at hs
    simp only [D.eqb, D.flat, decide_eq_true_eq, List.map_map]
    exact (List.map_inj_right (fun a b hab => BitVec.eq_of_toNat_eq (by have := (Lit.int.inj hab).2; omega))).symm
   ·cases y <;> simp only [D.same] at hs
    simp only [D.eqb, D.flat, decide_eq_true_eq, List.map_map]
    exact (List.map_inj_right (fun a b hab => BitVec.eq_of_toNat_eq (by have := (Lit.int.inj hab).2; omega))).symm
   ·cases y <;> simp only [D.same] at hs
    rename_i l l'
    have f1 := aJ.1 h.2
    have f2 := aJ.1 h'.2
    exact node l l' rfl rfl (pX hs (fun d hd d' hd' hq => ⟨by rw [d5 hΓ n el d (f1 d hd), d5 hΓ n el d' (f2 d' hd')], rY n el d d' (f1 d hd) (f2 d' hd') hq⟩))
  ·rename_i ts hd
   rw [hd] at h'
   cases x <;> try contradiction
   cases y <;> simp only [D.same] at hs
   rename_i l l'
   exact node l l' rfl rfl (pW (F := gN Γ n) (fun t' d d' q1 q2 q3 => ⟨by rw [d5 hΓ n t' d q1, d5 hΓ n t' d' q2], rY n t' d d' q1 q2 q3⟩) hs h h')
  ·contradiction
theorem aEG {t : Nat} {i : TI} (hi : ti Γ t = some i) (he : i.eq = true) {x y : D} {vx vy : Value} {ρ : Env} {w : World} (fx : gN Γ 20 t x) (fy : gN Γ 20 t y) (hs : x.same y) (hax : x.isAgg = true) (hay : y.isAgg = true) (hx : Rep ρ x vx) (hy : Rep ρ y vy) :
  (Op.equal t vx vy).run P w = .ok (x.eqb y) w := by
 have hk := ((hΓ t i hi).eq he).2
 have formed : ∀ (z : D) (cs : List Value), gN Γ 20 t z → z.isAgg = true → All2 (RepS ρ) z.flat cs → (Value.agg cs.toArray).formed P t = true := by
  intro z cs hz haz H
  have hl := d5 hΓ 20 t z hz
  rw [H.length] at hl
  have hsz : (cs.toArray.size == P.cellsOf t) = true := by simpa using hl
  unfold gN at hz
  rw [hi] at hz
  simp only [] at hz
  have hD := (hΓ t i hi).desc
  unfold aX at hD
  split at hz
  ·cases z <;> first | exact hz.elim | (simp [D.isAgg] at haz; done)
  ·split at hz <;> first | contradiction | (simp [D.isAgg] at haz; done)
  ·cases z <;> first | exact hz.elim | (simp [D.isAgg] at haz; done)
  ·rename_i hd; rw [hd] at hD
   simp only [Value.formed, hD.1]; exact hsz
  ·rename_i hd; rw [hd] at hD
   obtain ⟨fs, Ts, h1, _⟩ := hD
   simp only [Value.formed, h1]; exact hsz
  ·contradiction
 have tup : ∀ z : D, z.isAgg = true → z.isTup = false := by intro z; cases z <;> simp [D.isAgg, D.isTup]
 rw [eE (tup x hax)] at hx
 rw [eE (tup y hay)] at hy
 unfold RepV at hx hy
 rw [hax] at hx
 rw [hay] at hy
 obtain ⟨xs, rfl, Hx⟩ := hx
 obtain ⟨ys, rfl, Hy⟩ := hy
 obtain ⟨r, hr, hiff⟩ := run_equalIn_deep (P := P) 9980 20 t hk w 20 20 _ _ _ _ (formed x xs fx hax Hx) (formed y ys fy hay Hy)
  (kI hΓ 20 20 t x xs fx hk Hx) (kI hΓ 20 20 t y ys fy hk Hy)
 have : r = x.eqb y := by
  have h2 := rY hΓ 20 t x y fx fy hs
  rw [← h2] at hiff
  cases r <;> cases hb : x.eqb y <;> simp_all
 rw [← this]
 exact hr
end
set_option maxRecDepth 3000
abbrev inI (n : Int) : Prop := -9223372036854775808 ≤ n ∧ n < 9223372036854775808
def aBN {w : Nat} (mk : BitVec w → D) (op : BinOp) (a b : BitVec w) : Option (Prop × D) :=
 match op with
 |.add => some (True, mk (a + b))
 |.sub => some (True, mk (a - b))
 |.mul => some (True, mk (a * b))
 |.and => some (True, mk (a &&& b))
 |.or => some (True, mk (a ||| b))
 |.xor => some (True, mk (a ^^^ b))
 |.andNot => some (True, mk (a &&& ~~~b))
 |.quo => some (b ≠ 0, mk (a / b))
 |.rem => some (b ≠ 0, mk (a % b))
 |.eql => some (True, .bool (decide (a = b)))
 |.neq => some (True, .bool (!decide (a = b)))
 |.lss => some (True, .bool (decide (a.toNat < b.toNat)))
 |.leq => some (True, .bool (decide (a.toNat ≤ b.toNat)))
 |.gtr => some (True, .bool (decide (b.toNat < a.toNat)))
 |.geq => some (True, .bool (decide (b.toNat ≤ a.toNat)))
 |_ => none
def numI (op : BinOp) (a b : Int) : Option (Prop × D) :=
 match op with
 |.add => some (inI (a + b), .i64 (a + b))
 |.sub => some (inI (a - b), .i64 (a - b))
 |.mul => some (inI (a * b), .i64 (a * b))
 |.and => some (True, .i64 (BitVec.ofInt 64 a &&& BitVec.ofInt 64 b).toInt)
 |.or => some (True, .i64 (BitVec.ofInt 64 a ||| BitVec.ofInt 64 b).toInt)
 |.xor => some (True, .i64 (BitVec.ofInt 64 a ^^^ BitVec.ofInt 64 b).toInt)
 |.quo => some (b ≠ 0 ∧ inI (a.tdiv b), .i64 (a.tdiv b))
 |.rem => some (b ≠ 0, .i64 (a.tmod b))
 |.eql => some (True, .bool (decide (a = b)))
 |.neq => some (True, .bool (!decide (a = b)))
 |.lss => some (True, .bool (decide (a < b)))
 |.leq => some (True, .bool (decide (a ≤ b)))
 |.gtr => some (True, .bool (decide (b < a)))
 |.geq => some (True, .bool (decide (b ≤ a)))
 |_ => none
def cntD : D → Option (Prop × Nat)
 |.u8 x => some (True, x.toNat)
 |.u16 x => some (True, x.toNat)
 |.u32 x => some (True, x.toNat)
 |.u64 x => some (True, x.toNat)
 |.i64 n => some (0 ≤ n, n.toNat)
 |_ => none
def pU (left : Bool) (x : D) (ob : Prop) (n : Nat) : Option (Prop × D) :=
 match x with
 |.u8 a => some (ob, .u8 (match left with | true => a <<< n | false => a >>> n))
 |.u16 a => some (ob, .u16 (match left with | true => a <<< n | false => a >>> n))
 |.u32 a => some (ob, .u32 (match left with | true => a <<< n | false => a >>> n))
 |.u64 a => some (ob, .u64 (match left with | true => a <<< n | false => a >>> n))
 |.i64 a => match left with
  |true => some (ob ∧ n ≤ 62 ∧ inI (a * 2 ^ n), .i64 (a * 2 ^ n))
  |false => some (ob ∧ n ≤ 63, .i64 (a / 2 ^ n))
 |_ => none
def fK : List xZ → List xZ → Bool
 |_, [] => false
 |[], _ :: _ => true
 |a :: x, b :: y => decide (a.toNat < b.toNat) || (decide (a = b) && fK x y)
def strD (op : BinOp) (a b : List xZ) : Option (Prop × D) :=
 match op with
 |.add => some (a.length + b.length < 9223372036854775808, .str (a ++ b))
 |.eql => some (True, .bool (decide (a = b)))
 |.neq => some (True, .bool (!decide (a = b)))
 |.lss => some (True, .bool (fK a b))
 |.leq => some (True, .bool (fK a b || decide (a = b)))
 |.gtr => some (True, .bool (!(fK a b || decide (a = b))))
 |.geq => some (True, .bool (!fK a b))
 |_ => none
def aDA (op : BinOp) (b : Bool) : Option (Prop × D) :=
 match op with
 |.eql => some (True, .bool b)
 |.neq => some (True, .bool (!b))
 |_ => none
def aGJ (op : BinOp) (a b : Bool) : Option (Prop × D) :=
 match op with
 |.eql => some (True, .bool (decide (a = b)))
 |.neq => some (True, .bool (!decide (a = b)))
 |_ => none
def aggD (Γ : Tab) (t : Nat) (op : BinOp) (x y : D) : Option (Prop × D) :=
 match ti Γ t with
 |some i => match i.eq with
  |true => match op with
   |.eql => some (gN Γ 20 t x ∧ gN Γ 20 t y ∧ x.same y, .bool (x.eqb y))
   |.neq => some (gN Γ 20 t x ∧ gN Γ 20 t y ∧ x.same y, .bool (!x.eqb y))
   |_ => none
  |false => none
 |none => none
inductive NK where
 |ptr | slice | bool | none
def fU (Γ : Tab) (t : Nat) : NK :=
 match ti Γ t with
 |some i => match i.desc with
  |.ptr _ => .ptr
  |.slice _ => .slice
  |.bool => .bool
  |_ => .none
 |none => .none
def aGK (Γ : Tab) (t : Nat) (op : BinOp) (x y : D) : Option (Prop × D) :=
 match x, y with
 |.u8 a, .u8 b => aBN .u8 op a b
 |.u16 a, .u16 b => aBN .u16 op a b
 |.u32 a, .u32 b => aBN .u32 op a b
 |.u64 a, .u64 b => aBN .u64 op a b
 |.i64 a, .i64 b => numI op a b
 |.str a, .str b => strD op a b
 |.bool a, .bool b => match fU Γ t with
  |.bool => aGJ op a b
  |_ => none
 |.nilptr, .nilptr => match fU Γ t with
  |.ptr => aDA op true
  |_ => none
 |.ptr _ _, .nilptr => match fU Γ t with
  |.ptr => aDA op false
  |_ => none
 |.nilptr, .ptr _ _ => match fU Γ t with
  |.ptr => aDA op false
  |_ => none
 |.nilslice, .nilslice => match fU Γ t with
  |.slice => aDA op true
  |_ => none
 |.slice _ _ _ _ _, .nilslice => match fU Γ t with
  |.slice => aDA op false
  |_ => none
 |.nilslice, .slice _ _ _ _ _ => match fU Γ t with
  |.slice => aDA op false
  |_ => none
 |.u8s a, .u8s b => aggD Γ t op (.u8s a) (.u8s b)
 |.u32s a, .u32s b => aggD Γ t op (.u32s a) (.u32s b)
 |.u64s a, .u64s b => aggD Γ t op (.u64s a) (.u64s b)
 |.node a, .node b => aggD Γ t op (.node a) (.node b)
 |_, _ => none
def binD (Γ : Tab) (t : Nat) (op : BinOp) (x y : D) : Option (Prop × D) :=
 match op with
 |.shl => match cntD y with
  |some (ob, n) => pU true x ob n
  |none => none
 |.shr => match cntD y with
  |some (ob, n) => pU false x ob n
  |none => none
 |op => aGK Γ t op x y
theorem eC (n : Int) : IntKind.wrap .u8 n = n % 256 := by simp [IntKind.wrap, IntKind.signed, IntKind.bits]
theorem cR (n : Int) : IntKind.wrap .u16 n = n % 65536 := by simp [IntKind.wrap, IntKind.signed, IntKind.bits]
theorem cQ (n : Int) : IntKind.wrap .u32 n = n % 4294967296 := by simp [IntKind.wrap, IntKind.signed, IntKind.bits]
theorem cE (n : Int) : IntKind.wrap .u64 n = n % 18446744073709551616 := by simp [IntKind.wrap, IntKind.signed, IntKind.bits]
theorem aP {n : Int} (h : inI n) : IntKind.wrap .i64 n = n := by
 unfold inI at h
 simp only [IntKind.wrap, IntKind.signed, IntKind.bits, Bool.true_and]
 simp only [Nat.reduceSub, Int.reducePow, ge_iff_le, decide_eq_true_eq]
 split <;> omega
theorem j8 (a : BitVec 8) : BitVec.ofInt 8 (a.toNat : Int) = a := by
 rw [BitVec.ofInt_natCast]; simp
theorem aDQ {P : Program} {w : World} {op : BinOp} {a b : BitVec 8} {t : TypeId} {ob : Prop} {v : D} (h : aBN .u8 op a b = some (ob, v)) (ho : ob) (hop : op ≠ .shl ∧ op ≠ .shr) (ρ : Env) :
  ∃ r, (binOp op t (.int .u8 a.toNat) (.int .u8 b.toNat)).run P w = .ok r w ∧ Rep ρ v r := by
 have ha := a.isLt
 have hb := b.isLt
 cases op <;> simp only [aBN, Option.some.injEq, Prod.mk.injEq] at h <;> try contradiction
 all_goals (obtain ⟨h1, rfl⟩ := h; subst h1)
 case add =>
  refine ⟨.int .u8 (a + b).toNat, ?_, rfl⟩
  simp only [binOp, ne_eq, not_true, if_false, Op.intArith, eC, Sem.run_pure, BitVec.toNat_add]
  congr 2
 case sub =>
  refine ⟨.int .u8 (a - b).toNat, ?_, rfl⟩
  simp only [binOp, ne_eq, not_true, if_false, Op.intArith, eC, Sem.run_pure, BitVec.toNat_sub]
  congr 2
  omega
 case mul =>
  refine ⟨.int .u8 (a * b).toNat, ?_, rfl⟩
  simp only [binOp, ne_eq, not_true, if_false, Op.intArith, eC, Sem.run_pure, BitVec.toNat_mul]
  congr 2
 case and =>
  refine ⟨.int .u8 (a &&& b).toNat, ?_, rfl⟩
  simp only [binOp, ne_eq, not_true, if_false, Op.intBits, eC, Sem.run_pure, IntKind.bits, j8]
  congr 2
  exact (by have := (a &&& b).isLt; omega : ((a &&& b).toNat : Int) % 256 = ((a &&& b).toNat : Int))
 case or =>
  refine ⟨.int .u8 (a ||| b).toNat, ?_, rfl⟩
  simp only [binOp, ne_eq, not_true, if_false, Op.intBits, eC, Sem.run_pure, IntKind.bits, j8]
  congr 2
  exact (by have := (a ||| b).isLt; omega : ((a ||| b).toNat : Int) % 256 = ((a ||| b).toNat : Int))
 case xor =>
  refine ⟨.int .u8 (a ^^^ b).toNat, ?_, rfl⟩
  simp only [binOp, ne_eq, not_true, if_false, Op.intBits, eC, Sem.run_pure, IntKind.bits, j8]
  congr 2
  exact (by have := (a ^^^ b).isLt; omega : ((a ^^^ b).toNat : Int) % 256 = ((a ^^^ b).toNat : Int))
 case andNot =>
  refine ⟨.int .u8 (a &&& ~~~b).toNat, ?_, rfl⟩
  simp only [binOp, ne_eq, not_true, if_false, Op.intBits, eC, Sem.run_pure, IntKind.bits, j8]
  congr 2
  exact (by have := (a &&& ~~~b).isLt; omega : ((a &&& ~~~b).toNat : Int) % 256 = ((a &&& ~~~b).toNat : Int))
 case quo =>
  have hb0 : b.toNat ≠ 0 := fun e => ho (by apply BitVec.eq_of_toNat_eq; simpa using e)
  have hb1 : (b.toNat : Int) ≠ 0 := by omega
  refine ⟨.int .u8 (a / b).toNat, ?_, rfl⟩
  simp only [binOp, ne_eq, not_true, if_false, Op.intDiv, hb1, eC, Sem.run_pure, BitVec.toNat_udiv]
  congr 2
  rw [Int.tdiv_eq_ediv_of_nonneg (by omega)]
  have := Nat.div_le_self a.toNat b.toNat
  rw [← Int.natCast_ediv]
  generalize a.toNat / b.toNat = q at *
  omega
 case rem =>
  have hb0 : b.toNat ≠ 0 := fun e => ho (by apply BitVec.eq_of_toNat_eq; simpa using e)
  have hb1 : (b.toNat : Int) ≠ 0 := by omega
  refine ⟨.int .u8 (a % b).toNat, ?_, rfl⟩
  simp only [binOp, ne_eq, not_true, if_false, Op.intDiv, hb1, Sem.run_pure, BitVec.toNat_umod]
  congr 2
 case eql =>
  refine ⟨.bool (decide (a = b)), ?_, rfl⟩
  simp only [binOp, ne_eq, not_true, if_false, Op.intCmp, Sem.run_pure]
  congr 2
  rw [Bool.eq_iff_iff]
  simp [BitVec.toNat_inj, Int.natCast_inj]
 case neq =>
  refine ⟨.bool (!decide (a = b)), ?_, rfl⟩
  simp only [binOp, ne_eq, not_true, if_false, Op.intCmp, Sem.run_pure]
  congr 2
  rw [Bool.eq_iff_iff]
  simp [BitVec.toNat_inj, Int.natCast_inj]
 case lss =>
  refine ⟨.bool (decide (a.toNat < b.toNat)), ?_, rfl⟩
  simp only [binOp, ne_eq, not_true, if_false, Op.intCmp, Sem.run_pure]
  congr 2
  rw [Bool.eq_iff_iff]
  simp
 case leq =>
  refine ⟨.bool (decide (a.toNat ≤ b.toNat)), ?_, rfl⟩
  simp only [binOp, ne_eq, not_true, if_false, Op.intCmp, Sem.run_pure]
  congr 2
  rw [Bool.eq_iff_iff]
  simp
 case gtr =>
  refine ⟨.bool (decide (b.toNat < a.toNat)), ?_, rfl⟩
  simp only [binOp, ne_eq, not_true, if_false, Op.intCmp, Sem.run_pure]
  congr 2
  rw [Bool.eq_iff_iff]
  simp
 case geq =>
  refine ⟨.bool (decide (b.toNat ≤ a.toNat)), ?_, rfl⟩
  simp only [binOp, ne_eq, not_true, if_false, Op.intCmp, Sem.run_pure]
  congr 2
  rw [Bool.eq_iff_iff]
  simp
theorem shl_u8 {P : Program} {w : World} {a : BitVec 8} {n : Nat} {t : TypeId} {j : IntKind} (ρ : Env) :
  ∃ r, (binOp .shl t (.int .u8 a.toNat) (.int j n)).run P w = .ok r w ∧ Rep ρ (.u8 (a <<< n)) r := by
 refine ⟨.int .u8 (a <<< n).toNat, ?_, rfl⟩
 simp only [binOp, Op.shift, Sem.run_ite]
 rw [if_neg (by omega)]
 simp only [Sem.run_pure, eC, IntKind.bits, Int.toNat_natCast, BitVec.toNat_shiftLeft, Nat.shiftLeft_eq]
 congr 2
 rcases Nat.le_total n 8 with h | h
 ·rw [Nat.min_eq_left h]
  rw [Int.natCast_emod, Int.natCast_mul, Int.natCast_pow]
  rfl
 ·rw [Nat.min_eq_right h]
  obtain ⟨c, rfl⟩ := Nat.exists_eq_add_of_le h
  rw [Nat.pow_add]
  have : a.toNat * (2 ^ 8 * 2 ^ c) % 2 ^ 8 = 0 := by
   rw [← Nat.mul_assoc, Nat.mul_comm a.toNat, Nat.mul_assoc]; exact Nat.mul_mod_right _ _
  rw [this]
  omega
theorem shr_u8 {P : Program} {w : World} {a : BitVec 8} {n : Nat} {t : TypeId} {j : IntKind} (ρ : Env) :
  ∃ r, (binOp .shr t (.int .u8 a.toNat) (.int j n)).run P w = .ok r w ∧ Rep ρ (.u8 (a >>> n)) r := by
 refine ⟨.int .u8 (a >>> n).toNat, ?_, rfl⟩
 simp only [binOp, Op.shift, Sem.run_ite]
 rw [if_neg (by omega)]
 simp only [Sem.run_pure, IntKind.bits, Int.toNat_natCast, BitVec.toNat_ushiftRight, Nat.shiftRight_eq_div_pow]
 congr 2
 have ha := a.isLt
 rw [Int.fdiv_eq_ediv_of_nonneg _ (by exact Int.le_of_lt (Int.pow_pos (by omega)))]
 rcases Nat.le_total n 8 with h | h
 ·rw [Nat.min_eq_left h]
  rw [Int.natCast_ediv, Int.natCast_pow]
  rfl
 ·rw [Nat.min_eq_right h]
  have h1 : a.toNat / 2 ^ n = 0 := Nat.div_eq_of_lt (Nat.lt_of_lt_of_le ha (Nat.pow_le_pow_right (by omega) h))
  rw [h1]
  omega
theorem gY (a : BitVec 16) : BitVec.ofInt 16 (a.toNat : Int) = a := by
 rw [BitVec.ofInt_natCast]; simp
theorem aB2 {P : Program} {w : World} {op : BinOp} {a b : BitVec 16} {t : TypeId} {ob : Prop} {v : D} (h : aBN .u16 op a b = some (ob, v)) (ho : ob) (hop : op ≠ .shl ∧ op ≠ .shr) (ρ : Env) :
  ∃ r, (binOp op t (.int .u16 a.toNat) (.int .u16 b.toNat)).run P w = .ok r w ∧ Rep ρ v r := by
 have ha := a.isLt
 have hb := b.isLt
 cases op <;> simp only [aBN, Option.some.injEq, Prod.mk.injEq] at h <;> try contradiction
 all_goals (obtain ⟨h1, rfl⟩ := h; subst h1)
 case add =>
  refine ⟨.int .u16 (a + b).toNat, ?_, rfl⟩
  simp only [binOp, ne_eq, not_true, if_false, Op.intArith, cR, Sem.run_pure, BitVec.toNat_add]
  congr 2
 case sub =>
  refine ⟨.int .u16 (a - b).toNat, ?_, rfl⟩
  simp only [binOp, ne_eq, not_true, if_false, Op.intArith, cR, Sem.run_pure, BitVec.toNat_sub]
  congr 2
  omega
 case mul =>
  refine ⟨.int .u16 (a * b).toNat, ?_, rfl⟩
  simp only [binOp, ne_eq, not_true, if_false, Op.intArith, cR, Sem.run_pure, BitVec.toNat_mul]
  congr 2
 case and =>
  refine ⟨.int .u16 (a &&& b).toNat, ?_, rfl⟩
  simp only [binOp, ne_eq, not_true, if_false, Op.intBits, cR, Sem.run_pure, IntKind.bits, gY]
  congr 2
  exact (by have := (a &&& b).isLt; omega : ((a &&& b).toNat : Int) % 65536 = ((a &&& b).toNat : Int))
 case or =>
  refine ⟨.int .u16 (a ||| b).toNat, ?_, rfl⟩
  simp only [binOp, ne_eq, not_true, if_false, Op.intBits, cR, Sem.run_pure, IntKind.bits, gY]
  congr 2
  exact (by have := (a ||| b).isLt; omega : ((a ||| b).toNat : Int) % 65536 = ((a ||| b).toNat : Int))
 case xor =>
  refine ⟨.int .u16 (a ^^^ b).toNat, ?_, rfl⟩
  simp only [binOp, ne_eq, not_true, if_false, Op.intBits, cR, Sem.run_pure, IntKind.bits, gY]
  congr 2
  exact (by have := (a ^^^ b).isLt; omega : ((a ^^^ b).toNat : Int) % 65536 = ((a ^^^ b).toNat : Int))
 case andNot =>
  refine ⟨.int .u16 (a &&& ~~~b).toNat, ?_, rfl⟩
  simp only [binOp, ne_eq, not_true, if_false, Op.intBits, cR, Sem.run_pure, IntKind.bits, gY]
  congr 2
  exact (by have := (a &&& ~~~b).isLt; omega : ((a &&& ~~~b).toNat : Int) % 65536 = ((a &&& ~~~b).toNat : Int))
 case quo =>
  have hb0 : b.toNat ≠ 0 := fun e => ho (by apply BitVec.eq_of_toNat_eq; simpa using e)
  have hb1 : (b.toNat : Int) ≠ 0 := by omega
  refine ⟨.int .u16 (a / b).toNat, ?_, rfl⟩
  simp only [binOp, ne_eq, not_true, if_false, Op.intDiv, hb1, cR, Sem.run_pure, BitVec.toNat_udiv]
  congr 2
  rw [Int.tdiv_eq_ediv_of_nonneg (by omega)]
  have := Nat.div_le_self a.toNat b.toNat
  rw [← Int.natCast_ediv]
  generalize a.toNat / b.toNat = q at *
  omega
 case rem =>
  have hb0 : b.toNat ≠ 0 := fun e => ho (by apply BitVec.eq_of_toNat_eq; simpa using e)
  have hb1 : (b.toNat : Int) ≠ 0 := by omega
  refine ⟨.int .u16 (a % b).toNat, ?_, rfl⟩
  simp only [binOp, ne_eq, not_true, if_false, Op.intDiv, hb1, Sem.run_pure, BitVec.toNat_umod]
  congr 2
 case eql =>
  refine ⟨.bool (decide (a = b)), ?_, rfl⟩
  simp only [binOp, ne_eq, not_true, if_false, Op.intCmp, Sem.run_pure]
  congr 2
  rw [Bool.eq_iff_iff]
  simp [BitVec.toNat_inj, Int.natCast_inj]
 case neq =>
  refine ⟨.bool (!decide (a = b)), ?_, rfl⟩
  simp only [binOp, ne_eq, not_true, if_false, Op.intCmp, Sem.run_pure]
  congr 2
  rw [Bool.eq_iff_iff]
  simp [BitVec.toNat_inj, Int.natCast_inj]
 case lss =>
  refine ⟨.bool (decide (a.toNat < b.toNat)), ?_, rfl⟩
  simp only [binOp, ne_eq, not_true, if_false, Op.intCmp, Sem.run_pure]
  congr 2
  rw [Bool.eq_iff_iff]
  simp
 case leq =>
  refine ⟨.bool (decide (a.toNat ≤ b.toNat)), ?_, rfl⟩
  simp only [binOp, ne_eq, not_true, if_false, Op.intCmp, Sem.run_pure]
  congr 2
  rw [Bool.eq_iff_iff]
  simp
 case gtr =>
  refine ⟨.bool (decide (b.toNat < a.toNat)), ?_, rfl⟩
  simp only [binOp, ne_eq, not_true, if_false, Op.intCmp, Sem.run_pure]
  congr 2
  rw [Bool.eq_iff_iff]
  simp
 case geq =>
  refine ⟨.bool (decide (b.toNat ≤ a.toNat)), ?_, rfl⟩
  simp only [binOp, ne_eq, not_true, if_false, Op.intCmp, Sem.run_pure]
  congr 2
  rw [Bool.eq_iff_iff]
  simp
theorem aFL {P : Program} {w : World} {a : BitVec 16} {n : Nat} {t : TypeId} {j : IntKind} (ρ : Env) :
  ∃ r, (binOp .shl t (.int .u16 a.toNat) (.int j n)).run P w = .ok r w ∧ Rep ρ (.u16 (a <<< n)) r := by
 refine ⟨.int .u16 (a <<< n).toNat, ?_, rfl⟩
 simp only [binOp, Op.shift, Sem.run_ite]
 rw [if_neg (by omega)]
 simp only [Sem.run_pure, cR, IntKind.bits, Int.toNat_natCast, BitVec.toNat_shiftLeft, Nat.shiftLeft_eq]
 congr 2
 rcases Nat.le_total n 16 with h | h
 ·rw [Nat.min_eq_left h]
  rw [Int.natCast_emod, Int.natCast_mul, Int.natCast_pow]
  rfl
 ·rw [Nat.min_eq_right h]
  obtain ⟨c, rfl⟩ := Nat.exists_eq_add_of_le h
  rw [Nat.pow_add]
  have : a.toNat * (2 ^ 16 * 2 ^ c) % 2 ^ 16 = 0 := by
   rw [← Nat.mul_assoc, Nat.mul_comm a.toNat, Nat.mul_assoc]; exact Nat.mul_mod_right _ _
  rw [this]
  omega
theorem aFI {P : Program} {w : World} {a : BitVec 16} {n : Nat} {t : TypeId} {j : IntKind} (ρ : Env) :
  ∃ r, (binOp .shr t (.int .u16 a.toNat) (.int j n)).run P w = .ok r w ∧ Rep ρ (.u16 (a >>> n)) r := by
 refine ⟨.int .u16 (a >>> n).toNat, ?_, rfl⟩
 simp only [binOp, Op.shift, Sem.run_ite]
 rw [if_neg (by omega)]
 simp only [Sem.run_pure, IntKind.bits, Int.toNat_natCast, BitVec.toNat_ushiftRight, Nat.shiftRight_eq_div_pow]
 congr 2
 have ha := a.isLt
 rw [Int.fdiv_eq_ediv_of_nonneg _ (by exact Int.le_of_lt (Int.pow_pos (by omega)))]
 rcases Nat.le_total n 16 with h | h
 ·rw [Nat.min_eq_left h]
  rw [Int.natCast_ediv, Int.natCast_pow]
  rfl
 ·rw [Nat.min_eq_right h]
  have h1 : a.toNat / 2 ^ n = 0 := Nat.div_eq_of_lt (Nat.lt_of_lt_of_le ha (Nat.pow_le_pow_right (by omega) h))
  rw [h1]
  omega
theorem gX (a : BitVec 32) : BitVec.ofInt 32 (a.toNat : Int) = a := by
 rw [BitVec.ofInt_natCast]; simp
theorem aB1 {P : Program} {w : World} {op : BinOp} {a b : BitVec 32} {t : TypeId} {ob : Prop} {v : D} (h : aBN .u32 op a b = some (ob, v)) (ho : ob) (hop : op ≠ .shl ∧ op ≠ .shr) (ρ : Env) :
  ∃ r, (binOp op t (.int .u32 a.toNat) (.int .u32 b.toNat)).run P w = .ok r w ∧ Rep ρ v r := by
 have ha := a.isLt
 have hb := b.isLt
 cases op <;> simp only [aBN, Option.some.injEq, Prod.mk.injEq] at h <;> try contradiction
 all_goals (obtain ⟨h1, rfl⟩ := h; subst h1)
 case add =>
  refine ⟨.int .u32 (a + b).toNat, ?_, rfl⟩
  simp only [binOp, ne_eq, not_true, if_false, Op.intArith, cQ, Sem.run_pure, BitVec.toNat_add]
  congr 2
 case sub =>
  refine ⟨.int .u32 (a - b).toNat, ?_, rfl⟩
  simp only [binOp, ne_eq, not_true, if_false, Op.intArith, cQ, Sem.run_pure, BitVec.toNat_sub]
  congr 2
  omega
 case mul =>
  refine ⟨.int .u32 (a * b).toNat, ?_, rfl⟩
  simp only [binOp, ne_eq, not_true, if_false, Op.intArith, cQ, Sem.run_pure, BitVec.toNat_mul]
  congr 2
 case and =>
  refine ⟨.int .u32 (a &&& b).toNat, ?_, rfl⟩
  simp only [binOp, ne_eq, not_true, if_false, Op.intBits, cQ, Sem.run_pure, IntKind.bits, gX]
  congr 2
  exact (by have := (a &&& b).isLt; omega : ((a &&& b).toNat : Int) % 4294967296 = ((a &&& b).toNat : Int))
 case or =>
  refine ⟨.int .u32 (a ||| b).toNat, ?_, rfl⟩
  simp only [binOp, ne_eq, not_true, if_false, Op.intBits, cQ, Sem.run_pure, IntKind.bits, gX]
  congr 2
  exact (by have := (a ||| b).isLt; omega : ((a ||| b).toNat : Int) % 4294967296 = ((a ||| b).toNat : Int))
 case xor =>
  refine ⟨.int .u32 (a ^^^ b).toNat, ?_, rfl⟩
  simp only [binOp, ne_eq, not_true, if_false, Op.intBits, cQ, Sem.run_pure, IntKind.bits, gX]
  congr 2
  exact (by have := (a ^^^ b).isLt; omega : ((a ^^^ b).toNat : Int) % 4294967296 = ((a ^^^ b).toNat : Int))
 case andNot =>
  refine ⟨.int .u32 (a &&& ~~~b).toNat, ?_, rfl⟩
  simp only [binOp, ne_eq, not_true, if_false, Op.intBits, cQ, Sem.run_pure, IntKind.bits, gX]
  congr 2
  exact (by have := (a &&& ~~~b).isLt; omega : ((a &&& ~~~b).toNat : Int) % 4294967296 = ((a &&& ~~~b).toNat : Int))
 case quo =>
  have hb0 : b.toNat ≠ 0 := fun e => ho (by apply BitVec.eq_of_toNat_eq; simpa using e)
  have hb1 : (b.toNat : Int) ≠ 0 := by omega
  refine ⟨.int .u32 (a / b).toNat, ?_, rfl⟩
  simp only [binOp, ne_eq, not_true, if_false, Op.intDiv, hb1, cQ, Sem.run_pure, BitVec.toNat_udiv]
  congr 2
  rw [Int.tdiv_eq_ediv_of_nonneg (by omega)]
  have := Nat.div_le_self a.toNat b.toNat
  rw [← Int.natCast_ediv]
  generalize a.toNat / b.toNat = q at *
  omega
 case rem =>
  have hb0 : b.toNat ≠ 0 := fun e => ho (by apply BitVec.eq_of_toNat_eq; simpa using e)
  have hb1 : (b.toNat : Int) ≠ 0 := by omega
  refine ⟨.int .u32 (a % b).toNat, ?_, rfl⟩
  simp only [binOp, ne_eq, not_true, if_false, Op.intDiv, hb1, Sem.run_pure, BitVec.toNat_umod]
  congr 2
 case eql =>
  refine ⟨.bool (decide (a = b)), ?_, rfl⟩
  simp only [binOp, ne_eq, not_true, if_false, Op.intCmp, Sem.run_pure]
  congr 2
  rw [Bool.eq_iff_iff]
  simp [BitVec.toNat_inj, Int.natCast_inj]
 case neq =>
  refine ⟨.bool (!decide (a = b)), ?_, rfl⟩
  simp only [binOp, ne_eq, not_true, if_false, Op.intCmp, Sem.run_pure]
  congr 2
  rw [Bool.eq_iff_iff]
  simp [BitVec.toNat_inj, Int.natCast_inj]
 case lss =>
  refine ⟨.bool (decide (a.toNat < b.toNat)), ?_, rfl⟩
  simp only [binOp, ne_eq, not_true, if_false, Op.intCmp, Sem.run_pure]
  congr 2
  rw [Bool.eq_iff_iff]
  simp
 case leq =>
  refine ⟨.bool (decide (a.toNat ≤ b.toNat)), ?_, rfl⟩
  simp only [binOp, ne_eq, not_true, if_false, Op.intCmp, Sem.run_pure]
  congr 2
  rw [Bool.eq_iff_iff]
  simp
 case gtr =>
  refine ⟨.bool (decide (b.toNat < a.toNat)), ?_, rfl⟩
  simp only [binOp, ne_eq, not_true, if_false, Op.intCmp, Sem.run_pure]
  congr 2
  rw [Bool.eq_iff_iff]
  simp
 case geq =>
  refine ⟨.bool (decide (b.toNat ≤ a.toNat)), ?_, rfl⟩
  simp only [binOp, ne_eq, not_true, if_false, Op.intCmp, Sem.run_pure]
  congr 2
  rw [Bool.eq_iff_iff]
  simp
theorem aFK {P : Program} {w : World} {a : BitVec 32} {n : Nat} {t : TypeId} {j : IntKind} (ρ : Env) :
  ∃ r, (binOp .shl t (.int .u32 a.toNat) (.int j n)).run P w = .ok r w ∧ Rep ρ (.u32 (a <<< n)) r := by
 refine ⟨.int .u32 (a <<< n).toNat, ?_, rfl⟩
 simp only [binOp, Op.shift, Sem.run_ite]
 rw [if_neg (by omega)]
 simp only [Sem.run_pure, cQ, IntKind.bits, Int.toNat_natCast, BitVec.toNat_shiftLeft, Nat.shiftLeft_eq]
 congr 2
 rcases Nat.le_total n 32 with h | h
 ·rw [Nat.min_eq_left h]
  rw [Int.natCast_emod, Int.natCast_mul, Int.natCast_pow]
  rfl
 ·rw [Nat.min_eq_right h]
  obtain ⟨c, rfl⟩ := Nat.exists_eq_add_of_le h
  rw [Nat.pow_add]
  have : a.toNat * (2 ^ 32 * 2 ^ c) % 2 ^ 32 = 0 := by
   rw [← Nat.mul_assoc, Nat.mul_comm a.toNat, Nat.mul_assoc]; exact Nat.mul_mod_right _ _
  rw [this]
  omega
theorem aFH {P : Program} {w : World} {a : BitVec 32} {n : Nat} {t : TypeId} {j : IntKind} (ρ : Env) :
  ∃ r, (binOp .shr t (.int .u32 a.toNat) (.int j n)).run P w = .ok r w ∧ Rep ρ (.u32 (a >>> n)) r := by
 refine ⟨.int .u32 (a >>> n).toNat, ?_, rfl⟩
 simp only [binOp, Op.shift, Sem.run_ite]
 rw [if_neg (by omega)]
 simp only [Sem.run_pure, IntKind.bits, Int.toNat_natCast, BitVec.toNat_ushiftRight, Nat.shiftRight_eq_div_pow]
 congr 2
 have ha := a.isLt
 rw [Int.fdiv_eq_ediv_of_nonneg _ (by exact Int.le_of_lt (Int.pow_pos (by omega)))]
 rcases Nat.le_total n 32 with h | h
 ·rw [Nat.min_eq_left h]
  rw [Int.natCast_ediv, Int.natCast_pow]
  rfl
 ·rw [Nat.min_eq_right h]
  have h1 : a.toNat / 2 ^ n = 0 := Nat.div_eq_of_lt (Nat.lt_of_lt_of_le ha (Nat.pow_le_pow_right (by omega) h))
  rw [h1]
  omega
theorem gW (a : BitVec 64) : BitVec.ofInt 64 (a.toNat : Int) = a := by
 rw [BitVec.ofInt_natCast]; simp
theorem aB0 {P : Program} {w : World} {op : BinOp} {a b : BitVec 64} {t : TypeId} {ob : Prop} {v : D} (h : aBN .u64 op a b = some (ob, v)) (ho : ob) (hop : op ≠ .shl ∧ op ≠ .shr) (ρ : Env) :
  ∃ r, (binOp op t (.int .u64 a.toNat) (.int .u64 b.toNat)).run P w = .ok r w ∧ Rep ρ v r := by
 have ha := a.isLt
 have hb := b.isLt
 cases op <;> simp only [aBN, Option.some.injEq, Prod.mk.injEq] at h <;> try contradiction
 all_goals (obtain ⟨h1, rfl⟩ := h; subst h1)
 case add =>
  refine ⟨.int .u64 (a + b).toNat, ?_, rfl⟩
  simp only [binOp, ne_eq, not_true, if_false, Op.intArith, cE, Sem.run_pure, BitVec.toNat_add]
  congr 2
 case sub =>
  refine ⟨.int .u64 (a - b).toNat, ?_, rfl⟩
  simp only [binOp, ne_eq, not_true, if_false, Op.intArith, cE, Sem.run_pure, BitVec.toNat_sub]
  congr 2
  omega
 case mul =>
  refine ⟨.int .u64 (a * b).toNat, ?_, rfl⟩
  simp only [binOp, ne_eq, not_true, if_false, Op.intArith, cE, Sem.run_pure, BitVec.toNat_mul]
  congr 2
 case and =>
  refine ⟨.int .u64 (a &&& b).toNat, ?_, rfl⟩
  simp only [binOp, ne_eq, not_true, if_false, Op.intBits, cE, Sem.run_pure, IntKind.bits, gW]
  congr 2
  exact (by have := (a &&& b).isLt; omega : ((a &&& b).toNat : Int) % 18446744073709551616 = ((a &&& b).toNat : Int))
 case or =>
  refine ⟨.int .u64 (a ||| b).toNat, ?_, rfl⟩
  simp only [binOp, ne_eq, not_true, if_false, Op.intBits, cE, Sem.run_pure, IntKind.bits, gW]
  congr 2
  exact (by have := (a ||| b).isLt; omega : ((a ||| b).toNat : Int) % 18446744073709551616 = ((a ||| b).toNat : Int))
 case xor =>
  refine ⟨.int .u64 (a ^^^ b).toNat, ?_, rfl⟩
  simp only [binOp, ne_eq, not_true, if_false, Op.intBits, cE, Sem.run_pure, IntKind.bits, gW]
  congr 2
  exact (by have := (a ^^^ b).isLt; omega : ((a ^^^ b).toNat : Int) % 18446744073709551616 = ((a ^^^ b).toNat : Int))
 case andNot =>
  refine ⟨.int .u64 (a &&& ~~~b).toNat, ?_, rfl⟩
  simp only [binOp, ne_eq, not_true, if_false, Op.intBits, cE, Sem.run_pure, IntKind.bits, gW]
  congr 2
  exact (by have := (a &&& ~~~b).isLt; omega : ((a &&& ~~~b).toNat : Int) % 18446744073709551616 = ((a &&& ~~~b).toNat : Int))
 case quo =>
  have hb0 : b.toNat ≠ 0 := fun e => ho (by apply BitVec.eq_of_toNat_eq; simpa using e)
  have hb1 : (b.toNat : Int) ≠ 0 := by omega
  refine ⟨.int .u64 (a / b).toNat, ?_, rfl⟩
  simp only [binOp, ne_eq, not_true, if_false, Op.intDiv, hb1, cE, Sem.run_pure, BitVec.toNat_udiv]
  congr 2
  rw [Int.tdiv_eq_ediv_of_nonneg (by omega)]
  have := Nat.div_le_self a.toNat b.toNat
  rw [← Int.natCast_ediv]
  generalize a.toNat / b.toNat = q at *
  omega
 case rem =>
  have hb0 : b.toNat ≠ 0 := fun e => ho (by apply BitVec.eq_of_toNat_eq; simpa using e)
  have hb1 : (b.toNat : Int) ≠ 0 := by omega
  refine ⟨.int .u64 (a % b).toNat, ?_, rfl⟩
  simp only [binOp, ne_eq, not_true, if_false, Op.intDiv, hb1, Sem.run_pure, BitVec.toNat_umod]
  congr 2
 case eql =>
  refine ⟨.bool (decide (a = b)), ?_, rfl⟩
  simp only [binOp, ne_eq, not_true, if_false, Op.intCmp, Sem.run_pure]
  congr 2
  rw [Bool.eq_iff_iff]
  simp [BitVec.toNat_inj, Int.natCast_inj]
 case neq =>
  refine ⟨.bool (!decide (a = b)), ?_, rfl⟩
  simp only [binOp, ne_eq, not_true, if_false, Op.intCmp, Sem.run_pure]
  congr 2
  rw [Bool.eq_iff_iff]
  simp [BitVec.toNat_inj, Int.natCast_inj]
 case lss =>
  refine ⟨.bool (decide (a.toNat < b.toNat)), ?_, rfl⟩
  simp only [binOp, ne_eq, not_true, if_false, Op.intCmp, Sem.run_pure]
  congr 2
  rw [Bool.eq_iff_iff]
  simp
 case leq =>
  refine ⟨.bool (decide (a.toNat ≤ b.toNat)), ?_, rfl⟩
  simp only [binOp, ne_eq, not_true, if_false, Op.intCmp, Sem.run_pure]
  congr 2
  rw [Bool.eq_iff_iff]
  simp
 case gtr =>
  refine ⟨.bool (decide (b.toNat < a.toNat)), ?_, rfl⟩
  simp only [binOp, ne_eq, not_true, if_false, Op.intCmp, Sem.run_pure]
  congr 2
  rw [Bool.eq_iff_iff]
  simp
 case geq =>
  refine ⟨.bool (decide (b.toNat ≤ a.toNat)), ?_, rfl⟩
  simp only [binOp, ne_eq, not_true, if_false, Op.intCmp, Sem.run_pure]
  congr 2
  rw [Bool.eq_iff_iff]
  simp
theorem aFJ {P : Program} {w : World} {a : BitVec 64} {n : Nat} {t : TypeId} {j : IntKind} (ρ : Env) :
  ∃ r, (binOp .shl t (.int .u64 a.toNat) (.int j n)).run P w = .ok r w ∧ Rep ρ (.u64 (a <<< n)) r := by
 refine ⟨.int .u64 (a <<< n).toNat, ?_, rfl⟩
 simp only [binOp, Op.shift, Sem.run_ite]
 rw [if_neg (by omega)]
 simp only [Sem.run_pure, cE, IntKind.bits, Int.toNat_natCast, BitVec.toNat_shiftLeft, Nat.shiftLeft_eq]
 congr 2
 rcases Nat.le_total n 64 with h | h
 ·rw [Nat.min_eq_left h]
  rw [Int.natCast_emod, Int.natCast_mul, Int.natCast_pow]
  rfl
 ·rw [Nat.min_eq_right h]
  obtain ⟨c, rfl⟩ := Nat.exists_eq_add_of_le h
  rw [Nat.pow_add]
  have : a.toNat * (2 ^ 64 * 2 ^ c) % 2 ^ 64 = 0 := by
   rw [← Nat.mul_assoc, Nat.mul_comm a.toNat, Nat.mul_assoc]; exact Nat.mul_mod_right _ _
  rw [this]
  omega
theorem aFG {P : Program} {w : World} {a : BitVec 64} {n : Nat} {t : TypeId} {j : IntKind} (ρ : Env) :
  ∃ r, (binOp .shr t (.int .u64 a.toNat) (.int j n)).run P w = .ok r w ∧ Rep ρ (.u64 (a >>> n)) r := by
 refine ⟨.int .u64 (a >>> n).toNat, ?_, rfl⟩
 simp only [binOp, Op.shift, Sem.run_ite]
 rw [if_neg (by omega)]
 simp only [Sem.run_pure, IntKind.bits, Int.toNat_natCast, BitVec.toNat_ushiftRight, Nat.shiftRight_eq_div_pow]
 congr 2
 have ha := a.isLt
 rw [Int.fdiv_eq_ediv_of_nonneg _ (by exact Int.le_of_lt (Int.pow_pos (by omega)))]
 rcases Nat.le_total n 64 with h | h
 ·rw [Nat.min_eq_left h]
  rw [Int.natCast_ediv, Int.natCast_pow]
  rfl
 ·rw [Nat.min_eq_right h]
  have h1 : a.toNat / 2 ^ n = 0 := Nat.div_eq_of_lt (Nat.lt_of_lt_of_le ha (Nat.pow_le_pow_right (by omega) h))
  rw [h1]
  omega
theorem dV (r : BitVec 64) : IntKind.wrap .i64 r.toNat = r.toInt := by
 have := r.isLt
 simp only [IntKind.wrap, IntKind.signed, IntKind.bits, Bool.true_and, Nat.reduceSub, Int.reducePow, ge_iff_le, decide_eq_true_eq, BitVec.toInt_eq_toNat_cond]
 split <;> split <;> omega
theorem kD (r : BitVec 64) : inI r.toInt := by
 have h1 := @BitVec.toInt_lt 64 r
 have h2 := @BitVec.le_toInt 64 r
 unfold inI
 simp at h1 h2
 omega
theorem aB5 {P : Program} {w : World} {op : BinOp} {a b : Int} {t : TypeId} {ob : Prop} {v : D} (h : numI op a b = some (ob, v)) (ho : ob) (ha : inI a) (ρ : Env) :
  ∃ r, (binOp op t (.int .i64 a) (.int .i64 b)).run P w = .ok r w ∧ Rep ρ v r := by
 cases op <;> simp only [numI, Option.some.injEq, Prod.mk.injEq] at h <;> try contradiction
 all_goals (obtain ⟨h1, rfl⟩ := h; subst h1)
 case add => exact ⟨.int .i64 (a + b), by simp [binOp, Op.intArith, aP ho], rfl, ho⟩
 case sub => exact ⟨.int .i64 (a - b), by simp [binOp, Op.intArith, aP ho], rfl, ho⟩
 case mul => exact ⟨.int .i64 (a * b), by simp [binOp, Op.intArith, aP ho], rfl, ho⟩
 case and =>
  refine ⟨.int .i64 (BitVec.ofInt 64 a &&& BitVec.ofInt 64 b).toInt, ?_, rfl, kD _⟩
  simp only [binOp, ne_eq, not_true, if_false, Op.intBits, Sem.run_pure]
  congr 2
  exact dV _
 case or =>
  refine ⟨.int .i64 (BitVec.ofInt 64 a ||| BitVec.ofInt 64 b).toInt, ?_, rfl, kD _⟩
  simp only [binOp, ne_eq, not_true, if_false, Op.intBits, Sem.run_pure]
  congr 2
  exact dV _
 case xor =>
  refine ⟨.int .i64 (BitVec.ofInt 64 a ^^^ BitVec.ofInt 64 b).toInt, ?_, rfl, kD _⟩
  simp only [binOp, ne_eq, not_true, if_false, Op.intBits, Sem.run_pure]
  congr 2
  exact dV _
 case quo => exact ⟨.int .i64 (a.tdiv b), by simp [binOp, Op.intDiv, ho.1, aP ho.2], rfl, ho.2⟩
 case rem =>
  refine ⟨.int .i64 (a.tmod b), by simp [binOp, Op.intDiv, ho], rfl, ?_⟩
  show inI (a.tmod b)
  have h1 : (a.tmod b).natAbs ≤ a.natAbs := by rw [Int.natAbs_tmod]; exact Nat.mod_le _ _
  have h2 : a.tmod b = a - b * a.tdiv b := by have := Int.mul_tdiv_add_tmod a b; omega
  unfold inI at ha ⊢
  rcases Int.le_total 0 a with h0 | h0
  ·have := Int.tmod_nonneg b h0; omega
  ·have : a.tmod b ≤ 0 := by
    have h3 := Int.tmod_nonneg b (a := -a) (by omega)
    rw [Int.neg_tmod] at h3; omega
   omega
 case eql => exact ⟨.bool (a == b), by simp [binOp, Op.intCmp], by show Value.bool (a == b) = .bool (decide (a = b)); congr 1⟩
 case neq =>
  exact ⟨.bool (a != b), by simp [binOp, Op.intCmp], by show Value.bool (a != b) = .bool (!decide (a = b)); congr 1⟩
 case lss => exact ⟨.bool (decide (a < b)), by simp [binOp, Op.intCmp], rfl⟩
 case leq => exact ⟨.bool (decide (a ≤ b)), by simp [binOp, Op.intCmp], rfl⟩
 case gtr => exact ⟨.bool (decide (b < a)), by simp [binOp, Op.intCmp], rfl⟩
 case geq => exact ⟨.bool (decide (b ≤ a)), by simp [binOp, Op.intCmp], rfl⟩
theorem lP : ∀ (a b : List xZ), Op.bytesLess (aZ a) (aZ b) = fK a b
 |_, [] => by simp [aZ, Op.bytesLess, fK]
 |[], _ :: _ => by simp [aZ, Op.bytesLess, fK]
 |a :: x, b :: y => by
  have ih := lP x y
  unfold aZ at ih ⊢
  simp only [List.map_cons, Op.bytesLess, fK, ih]
  congr 1
  congr 1
  rw [Bool.eq_iff_iff]
  simp only [decide_eq_true_eq, beq_iff_eq]
  exact ⟨fun h => by cases h; rfl, fun h => by rw [h]⟩
theorem aBE {a b : List xZ} (h : aZ a = aZ b) : a = b := by
 unfold aZ at h
 exact (List.map_inj_right fun x y e => by cases e; rfl).1 h
theorem i0 (s : ByteArray) : s.toList = s.data.toList := by
 exact ByteArray.toList_eq s
theorem aB3 {P : Program} {w : World} {op : BinOp} {a b : List xZ} {t : TypeId} {ob : Prop} {v : D} {s u : ByteArray} (h : strD op a b = some (ob, v)) (ho : ob)
  (ha : s.data.toList = aZ a) (hb : u.data.toList = aZ b) (hop : op ≠ .shl ∧ op ≠ .shr) (ρ : Env) :
  ∃ r, (binOp op t (.string s) (.string u)).run P w = .ok r w ∧ Rep ρ v r := by
 have heq : (s.toList == u.toList) = decide (a = b) := by
  rw [Bool.eq_iff_iff]
  simp only [i0, ha, hb, beq_iff_eq, decide_eq_true_eq]
  exact ⟨aBE, fun e => by rw [e]⟩
 have hlt : Op.bytesLess s.toList u.toList = fK a b := by rw [i0, i0, ha, hb, lP]
 have hs : s.size = a.length := by
  have := congrArg List.length ha
  rw [aZ, List.length_map, Array.length_toList] at this
  exact this
 have hu : u.size = b.length := by
  have := congrArg List.length hb
  rw [aZ, List.length_map, Array.length_toList] at this
  exact this
 cases op <;> simp only [strD, Option.some.injEq, Prod.mk.injEq] at h <;> try contradiction
 all_goals (obtain ⟨h1, rfl⟩ := h; subst h1)
 case add =>
  refine ⟨.string (s ++ u), ?_, s ++ u, rfl, ?_, by simpa using ho⟩
  ·simp only [binOp, Op.stringOp, hs, hu]
   rw [if_neg (by simp [IntKind.max, IntKind.signed, IntKind.bits]; omega)]
   rfl
  ·simp [ha, hb, aZ]
 all_goals
  refine ⟨_, ?_, rfl⟩
  simp only [binOp, Op.stringOp, heq, hlt]
  rfl
theorem z8 {ρ : Env} {y : D} {v : Value} {ob : Prop} {n : Nat} (h : cntD y = some (ob, n)) (ho : ob) (hy : Rep ρ y v) : ∃ k, v = .int k (n : Int) := by
 cases y <;> simp only [cntD, Option.some.injEq, Prod.mk.injEq] at h <;> try contradiction
 all_goals (obtain ⟨h1, rfl⟩ := h)
 case i64 n =>
  subst h1
  obtain ⟨rfl, _⟩ := hy
  exact ⟨.i64, by rw [Int.toNat_of_nonneg ho]⟩
 all_goals exact ⟨_, hy⟩
theorem nE {P : Program} {w : World} {left : Bool} {x : D} {n : Nat} {t : TypeId} {j : IntKind} {ob : Prop} {v : D} {vx : Value} {ρ : Env} {o2 : Prop} (h : pU left x ob n = some (o2, v)) (ho : o2) (hx : Rep ρ x vx) :
  ∃ r, (binOp (if left then .shl else .shr) t vx (.int j n)).run P w = .ok r w ∧ Rep ρ v r := by
 cases x <;> simp only [pU, Option.some.injEq, Prod.mk.injEq] at h <;> try contradiction
 case u8 a =>
  obtain ⟨_, rfl⟩ := h
  have hx : vx = _ := hx; subst hx
  cases left
  ·exact shr_u8 ρ
  ·exact shl_u8 ρ
 case u16 a =>
  obtain ⟨_, rfl⟩ := h
  have hx : vx = _ := hx; subst hx
  cases left
  ·exact aFI ρ
  ·exact aFL ρ
 case u32 a =>
  obtain ⟨_, rfl⟩ := h
  have hx : vx = _ := hx; subst hx
  cases left
  ·exact aFH ρ
  ·exact aFK ρ
 case u64 a =>
  obtain ⟨_, rfl⟩ := h
  have hx : vx = _ := hx; subst hx
  cases left
  ·exact aFG ρ
  ·exact aFJ ρ
 case i64 a =>
  obtain ⟨rfl, ha⟩ := hx
  cases left
  ·simp only [Option.some.injEq, Prod.mk.injEq] at h
   obtain ⟨rfl, rfl⟩ := h
   refine ⟨.int .i64 (a / 2 ^ n), ?_, rfl, ?_⟩
   ·simp only [binOp, Op.shift, Bool.false_eq_true, if_false, Sem.run_ite]
    rw [if_neg (by omega)]
    simp only [Sem.run_pure, IntKind.bits, Int.toNat_natCast]
    rw [Nat.min_eq_left (by omega), Int.fdiv_eq_ediv_of_nonneg _ (by exact Int.le_of_lt (Int.pow_pos (by omega)))]
   ·have h2 : (0 : Int) < 2 ^ n := Int.pow_pos (by omega)
    have h3 := Int.ediv_le_self (a := a) (2 ^ n)
    have h4 : -9223372036854775808 ≤ a / 2 ^ n := by
     rw [Int.le_ediv_iff_mul_le h2]
     have : (1 : Int) ≤ 2 ^ n := by omega
     have := Int.mul_le_mul_of_nonneg_left this (show (0 : Int) ≤ 9223372036854775808 by omega)
     omega
    refine ⟨h4, ?_⟩
    rcases Int.le_total 0 a with h0 | h0
    ·have := h3 h0; omega
    ·have h5 := Int.ediv_le_ediv h2 h0
     rw [Int.zero_ediv] at h5; omega
  ·simp only [Option.some.injEq, Prod.mk.injEq] at h
   obtain ⟨rfl, rfl⟩ := h
   refine ⟨.int .i64 (a * 2 ^ n), ?_, rfl, ho.2.2⟩
   simp only [binOp, Op.shift, if_true, Sem.run_ite]
   rw [if_neg (by omega)]
   simp only [Sem.run_pure, IntKind.bits, Int.toNat_natCast]
   rw [Nat.min_eq_left (by omega), aP ho.2.2]
theorem rS {P : Program} {Γ : Tab} (hΓ : b8 P Γ) {t : Nat} (h : fU Γ t = .ptr) : ∃ e, P.underlying t = some (.pointer e) := by
 unfold fU at h
 repeat' split at h
 all_goals try contradiction
 have := (hΓ t _ (by assumption)).desc
 unfold aX at this
 split at this <;> simp_all
theorem lD {P : Program} {Γ : Tab} (hΓ : b8 P Γ) {t : Nat} (h : fU Γ t = .slice) : ∃ e, P.underlying t = some (.slice e) := by
 unfold fU at h
 repeat' split at h
 all_goals try contradiction
 have := (hΓ t _ (by assumption)).desc
 unfold aX at this
 split at this <;> simp_all
theorem aCY {P : Program} {Γ : Tab} (hΓ : b8 P Γ) {t : Nat} (h : fU Γ t = .bool) : P.underlying t = some .bool := by
 unfold fU at h
 repeat' split at h
 all_goals try contradiction
 have := (hΓ t _ (by assumption)).desc
 unfold aX at this
 split at this <;> simp_all
theorem xM {P : Program} {w : World} {t e : TypeId} (h : P.underlying t = some (.pointer e)) (a b : Option Addr) (hn : a = none ∨ b = none) (d : Nat) :
  (Op.equalIn (d + 1) t (.pointer a) (.pointer b)).run P w = .ok (a.isNone && b.isNone) w := by
 rcases hn with rfl | rfl
 ·cases b <;> simp [Op.equalIn, underlying, h]
 ·cases a <;> simp [Op.equalIn, underlying, h]
theorem r9 {P : Program} {w : World} {t e : TypeId} (h : P.underlying t = some (.slice e)) (a b : Option Addr) (n c n' c' : Nat) (hn : a = none ∨ b = none) (d : Nat) :
  (Op.equalIn (d + 1) t (.slice a n c) (.slice b n' c')).run P w = .ok (a.isNone && b.isNone) w := by
 rcases hn with rfl | rfl
 ·cases b <;> simp [Op.equalIn, underlying, h]
 ·cases a <;> simp [Op.equalIn, underlying, h]
theorem xN {P : Program} {w : World} {t e : TypeId} (h : P.underlying t = some (.pointer e)) (a b : Option Addr) (hn : a = none ∨ b = none) {op : BinOp} {ob : Prop} {v : D}
  (hv : aDA op (a.isNone && b.isNone) = some (ob, v)) (ρ : Env) : ∃ r, (binOp op t (.pointer a) (.pointer b)).run P w = .ok r w ∧ Rep ρ v r := by
 have he : (Op.equal t (.pointer a) (.pointer b)).run P w = .ok (a.isNone && b.isNone) w := xM h a b hn 9999
 cases op <;> simp only [aDA, Option.some.injEq, Prod.mk.injEq] at hv <;> try contradiction
 all_goals
  obtain ⟨_, rfl⟩ := hv
  refine ⟨_, ?_, rfl⟩
  simp only [binOp, Sem.run_bind, he, Result.andThen_ok, Sem.run_pure]
theorem oI {P : Program} {w : World} {t e : TypeId} (h : P.underlying t = some (.slice e)) (a b : Option Addr) (n c n' c' : Nat) (hn : a = none ∨ b = none) {op : BinOp} {ob : Prop} {v : D}
  (hv : aDA op (a.isNone && b.isNone) = some (ob, v)) (ρ : Env) : ∃ r, (binOp op t (.slice a n c) (.slice b n' c')).run P w = .ok r w ∧ Rep ρ v r := by
 have he : (Op.equal t (.slice a n c) (.slice b n' c')).run P w = .ok (a.isNone && b.isNone) w := r9 h a b n c n' c' hn 9999
 cases op <;> simp only [aDA, Option.some.injEq, Prod.mk.injEq] at hv <;> try contradiction
 all_goals
  obtain ⟨_, rfl⟩ := hv
  refine ⟨_, ?_, rfl⟩
  simp only [binOp, Sem.run_bind, he, Result.andThen_ok, Sem.run_pure]
theorem aEF {P : Program} {w : World} {t : TypeId} (h : P.underlying t = some .bool) (a b : Bool) {op : BinOp} {ob : Prop} {v : D}
  (hv : aGJ op a b = some (ob, v)) (ρ : Env) : ∃ r, (binOp op t (.bool a) (.bool b)).run P w = .ok r w ∧ Rep ρ v r := by
 have he : (Op.equal t (.bool a) (.bool b)).run P w = .ok (a == b) w := run_equalIn_bool w 9999 t a b h
 have hb : (a == b) = decide (a = b) := by cases a <;> cases b <;> rfl
 rw [hb] at he
 cases op <;> simp only [aGJ, Option.some.injEq, Prod.mk.injEq] at hv <;> try contradiction
 all_goals
  obtain ⟨_, rfl⟩ := hv
  refine ⟨_, ?_, rfl⟩
  simp only [binOp, Sem.run_bind, he, Result.andThen_ok, Sem.run_pure]
theorem aCp {P : Program} {w : World} {op : BinOp} {t : TypeId} {xs ys : Array Value} {b : Bool} (h : (Op.equal t (.agg xs) (.agg ys)).run P w = .ok b w) (hop : op = .eql ∨ op = .neq) :
  (binOp op t (.agg xs) (.agg ys)).run P w = .ok (.bool (match op with | .eql => b | _ => !b)) w := by
 rcases hop with rfl | rfl <;> simp [binOp, h]
theorem xH {P : Program} {w : World} {op : BinOp} {t : TypeId} {x y : Operand} {a b : Value} (ha : a.oneCell' = true) (hi : a ≠ .nilIface) : (eqGuard op t x y a b).run P w = .ok () w := by
 unfold eqGuard
 cases op <;> simp <;> cases a <;> first
  |(simp [Value.oneCell'] at ha; done)
  |exact absurd rfl hi
  |(simp; done)
  |(cases b <;> simp)
theorem jY {P : Program} {Γ : Tab} (hΓ : b8 P Γ) {w : World} {op : BinOp} {x y : D} {t : Nat} {ob : Prop} {v : D} {vx vy : Value} {ρ : Env} {o1 o2 : Operand} (h : aggD Γ t op x y = some (ob, v)) (ho : ob)
  (hx : Rep ρ x vx) (hy : Rep ρ y vy) (hax : x.isAgg = true) (hay : y.isAgg = true) :
  ∃ r, (do eqGuard op t o1 o2 vx vy; binOp op t vx vy : Sem Value).run P w = .ok r w ∧ Rep ρ v r := by
 unfold aggD at h
 repeat' split at h
 all_goals try contradiction
 all_goals
  cases h
  obtain ⟨h1, h2, h3⟩ := ho
  have hg := ((hΓ t _ (by assumption)).eq (by assumption)).1
  have hr := aEG hΓ (ρ := ρ) (w := w) (by assumption) (by assumption) h1 h2 h3 hax hay hx hy
  rw [eE (by cases x <;> simp_all [D.isAgg, D.isTup])] at hx
  rw [eE (by cases y <;> simp_all [D.isAgg, D.isTup])] at hy
  unfold RepV at hx hy
  rw [hax] at hx
  rw [hay] at hy
  obtain ⟨xs, rfl, _⟩ := hx
  obtain ⟨ys, rfl, _⟩ := hy
  refine ⟨_, ?_, rfl⟩
  rw [Sem.run_bind, run_eqGuard_agg w _ t o1 o2 xs.toArray ys.toArray hg, Result.andThen_ok]
  rw [aCp hr (by simp)]
theorem aAW {P : Program} {Γ : Tab} (hΓ : b8 P Γ) {w : World} {op : BinOp} {x y : D} {t : Nat} {ob : Prop} {v : D} {vx vy : Value} {ρ : Env} {o1 o2 : Operand} (h : aGK Γ t op x y = some (ob, v)) (ho : ob) (hop : op ≠ .shl ∧ op ≠ .shr)
  (hx : Rep ρ x vx) (hy : Rep ρ y vy) :
  ∃ r, (do eqGuard op t o1 o2 vx vy; binOp op t vx vy : Sem Value).run P w = .ok r w ∧ Rep ρ v r := by
 have key : ∀ r, vx.oneCell' = true → vx ≠ .nilIface → (binOp op t vx vy).run P w = .ok r w → Rep ρ v r → ∃ r, (do eqGuard op t o1 o2 vx vy; binOp op t vx vy : Sem Value).run P w = .ok r w ∧ Rep ρ v r := by
  intro r h1 h2 h3 h4
  exact ⟨r, by rw [Sem.run_bind, xH h1 h2, Result.andThen_ok, h3], h4⟩
 unfold aGK at h
 split at h
 ·cases hx; cases hy; obtain ⟨r, h1, h2⟩ := aDQ (t := t) (P := P) (w := w) h ho hop ρ; exact key r rfl (by simp) h1 h2
 ·cases hx; cases hy; obtain ⟨r, h1, h2⟩ := aB2 (t := t) (P := P) (w := w) h ho hop ρ; exact key r rfl (by simp) h1 h2
 ·cases hx; cases hy; obtain ⟨r, h1, h2⟩ := aB1 (t := t) (P := P) (w := w) h ho hop ρ; exact key r rfl (by simp) h1 h2
 ·cases hx; cases hy; obtain ⟨r, h1, h2⟩ := aB0 (t := t) (P := P) (w := w) h ho hop ρ; exact key r rfl (by simp) h1 h2
 ·obtain ⟨rfl, ha⟩ := hx
  obtain ⟨rfl, hb⟩ := hy
  obtain ⟨r, h1, h2⟩ := aB5 (t := t) (P := P) (w := w) h ho ha ρ; exact key r rfl (by simp) h1 h2
 ·obtain ⟨s, rfl, ha, _⟩ := hx
  obtain ⟨u, rfl, hb, _⟩ := hy
  obtain ⟨r, h1, h2⟩ := aB3 (t := t) (P := P) (w := w) h ho ha hb hop ρ; exact key r rfl (by simp) h1 h2
 ·split at h <;> try contradiction
  rename_i a b _ hk
  have hu := aCY hΓ hk
  cases hx; cases hy
  obtain ⟨r, h1, h2⟩ := aEF (w := w) hu a b h ρ
  exact key r rfl (by simp) h1 h2
 ·split at h <;> try contradiction
  rename_i hk
  obtain ⟨e, hu⟩ := rS hΓ hk
  cases hx; cases hy
  obtain ⟨r, h1, h2⟩ := xN (w := w) hu none none (.inl rfl) h ρ
  exact key r rfl (by simp) h1 h2
 ·split at h <;> try contradiction
  rename_i hk
  obtain ⟨e, hu⟩ := rS hΓ hk
  obtain ⟨L, _, rfl⟩ := hx
  cases hy
  obtain ⟨r, h1, h2⟩ := xN (w := w) hu (some _) none (.inr rfl) h ρ
  exact key r rfl (by simp) h1 h2
 ·split at h <;> try contradiction
  rename_i hk
  obtain ⟨e, hu⟩ := rS hΓ hk
  obtain ⟨L, _, rfl⟩ := hy
  cases hx
  obtain ⟨r, h1, h2⟩ := xN (w := w) hu none (some _) (.inl rfl) h ρ
  exact key r rfl (by simp) h1 h2
 ·split at h <;> try contradiction
  rename_i hk
  obtain ⟨e, hu⟩ := lD hΓ hk
  cases hx; cases hy
  obtain ⟨r, h1, h2⟩ := oI (w := w) hu none none 0 0 0 0 (.inl rfl) h ρ
  exact key r rfl (by simp) h1 h2
 ·split at h <;> try contradiction
  rename_i hk
  obtain ⟨e, hu⟩ := lD hΓ hk
  obtain ⟨L, _, T, t', a, c, _, _, rfl, _⟩ := hx
  cases hy
  obtain ⟨r, h1, h2⟩ := oI (w := w) hu (some a) none _ c 0 0 (.inr rfl) h ρ
  exact key r rfl (by simp) h1 h2
 ·split at h <;> try contradiction
  rename_i hk
  obtain ⟨e, hu⟩ := lD hΓ hk
  obtain ⟨L, _, T, t', a, c, _, _, rfl, _⟩ := hy
  cases hx
  obtain ⟨r, h1, h2⟩ := oI (w := w) hu none (some a) 0 0 _ c (.inl rfl) h ρ
  exact key r rfl (by simp) h1 h2
 ·exact jY hΓ h ho hx hy rfl rfl
 ·exact jY hΓ h ho hx hy rfl rfl
 ·exact jY hΓ h ho hx hy rfl rfl
 ·exact jY hΓ h ho hx hy rfl rfl
 ·contradiction
theorem aB8 {P : Program} {Γ : Tab} (hΓ : b8 P Γ) {w : World} {op : BinOp} {x y : D} {t : Nat} {ob : Prop} {v : D} {vx vy : Value} {ρ : Env} {o1 o2 : Operand} (h : binD Γ t op x y = some (ob, v)) (ho : ob)
  (hx : Rep ρ x vx) (hy : Rep ρ y vy) :
  ∃ r, (do eqGuard op t o1 o2 vx vy; binOp op t vx vy : Sem Value).run P w = .ok r w ∧ Rep ρ v r := by
 have hg : ∀ op, op ≠ .eql → op ≠ .neq → (eqGuard op t o1 o2 vx vy).run P w = .ok () w := by
  intro op h1 h2
  unfold eqGuard
  cases op <;> simp at h1 h2 ⊢
 unfold binD at h
 split at h
 ·split at h <;> try contradiction
  rename_i o' n hc
  have ho' : o' := by
   cases x <;> simp only [pU, Option.some.injEq, Prod.mk.injEq] at h <;> try contradiction
   case i64 a => obtain ⟨h1, _⟩ := h; rw [← h1] at ho; exact ho.1
   all_goals (obtain ⟨h1, _⟩ := h; rw [h1]; exact ho)
  obtain ⟨k, rfl⟩ := z8 hc ho' hy
  obtain ⟨r, h1, h2⟩ := nE (P := P) (w := w) (t := t) (j := k) h ho hx
  exact ⟨r, by rw [Sem.run_bind, hg _ (by simp) (by simp), Result.andThen_ok]; exact h1, h2⟩
 ·split at h <;> try contradiction
  rename_i o' n hc
  have ho' : o' := by
   cases x <;> simp only [pU, Option.some.injEq, Prod.mk.injEq] at h <;> try contradiction
   case i64 a => obtain ⟨h1, _⟩ := h; rw [← h1] at ho; exact ho.1
   all_goals (obtain ⟨h1, _⟩ := h; rw [h1]; exact ho)
  obtain ⟨k, rfl⟩ := z8 hc ho' hy
  obtain ⟨r, h1, h2⟩ := nE (P := P) (w := w) (t := t) (j := k) h ho hx
  exact ⟨r, by rw [Sem.run_bind, hg _ (by simp) (by simp), Result.andThen_ok]; exact h1, h2⟩
 ·rename_i h1 h2
  exact aAW hΓ h ho ⟨h1, h2⟩ hx hy
set_option maxRecDepth 3000
def unD (op : UnOp) (x : D) : Option (Prop × D) :=
 match op, x with
 |.not, .bool b => some (True, .bool (!b))
 |.neg, .i64 n => some (inI (-n), .i64 (-n))
 |.neg, .u64 a => some (True, .u64 (-a))
 |.xor, .u8 a => some (True, .u8 (~~~a))
 |.xor, .u16 a => some (True, .u16 (~~~a))
 |.xor, .u32 a => some (True, .u32 (~~~a))
 |.xor, .u64 a => some (True, .u64 (~~~a))
 |_, _ => none
theorem aDP {P : Program} {w : World} {op : UnOp} {x : D} {ob : Prop} {v : D} {vx : Value} {ρ : Env} (h : unD op x = some (ob, v)) (ho : ob) (hx : Rep ρ x vx) :
  ∃ r, (Op.unary op vx).run P w = .ok r w ∧ Rep ρ v r := by
 unfold unD at h
 split at h <;> try contradiction
 all_goals simp only [Option.some.injEq, Prod.mk.injEq] at h
 all_goals obtain ⟨h1, rfl⟩ := h
 ·cases hx; exact ⟨_, rfl, rfl⟩
 ·rename_i n
  obtain ⟨rfl, _⟩ := hx
  subst h1
  refine ⟨.int .i64 (-n), ?_, rfl, ho⟩
  simp only [Op.unary, Op.intArith, Sem.run_pure, Int.zero_sub, aP ho]
 ·rename_i a
  cases hx
  refine ⟨.int .u64 (-a).toNat, ?_, rfl⟩
  simp only [Op.unary, Op.intArith, Sem.run_pure, Int.zero_sub, cE]
  congr 2
  have := a.isLt
  rw [BitVec.toNat_neg]
  omega
 ·rename_i a
  cases hx
  refine ⟨.int .u8 (~~~a).toNat, ?_, rfl⟩
  simp only [Op.unary, Op.intBits, IntKind.signed, Bool.false_eq_true, if_false, eC, Sem.run_pure, IntKind.bits, j8]
  congr 2
  have e : (BitVec.ofInt 8 (IntKind.max .u8) ^^^ a) = ~~~a := by
   have : BitVec.ofInt 8 (IntKind.max .u8) = BitVec.allOnes 8 := by decide
   rw [this, BitVec.allOnes_xor]
  exact (by have := (~~~a).isLt; rw [e]; omega : ((BitVec.ofInt 8 (IntKind.max .u8) ^^^ a).toNat : Int) % 256 = ((~~~a).toNat : Int))
 ·rename_i a
  cases hx
  refine ⟨.int .u16 (~~~a).toNat, ?_, rfl⟩
  simp only [Op.unary, Op.intBits, IntKind.signed, Bool.false_eq_true, if_false, cR, Sem.run_pure, IntKind.bits, gY]
  congr 2
  have e : (BitVec.ofInt 16 (IntKind.max .u16) ^^^ a) = ~~~a := by
   have : BitVec.ofInt 16 (IntKind.max .u16) = BitVec.allOnes 16 := by decide
   rw [this, BitVec.allOnes_xor]
  exact (by have := (~~~a).isLt; rw [e]; omega : ((BitVec.ofInt 16 (IntKind.max .u16) ^^^ a).toNat : Int) % 65536 = ((~~~a).toNat : Int))
 ·rename_i a
  cases hx
  refine ⟨.int .u32 (~~~a).toNat, ?_, rfl⟩
  simp only [Op.unary, Op.intBits, IntKind.signed, Bool.false_eq_true, if_false, cQ, Sem.run_pure, IntKind.bits, gX]
  congr 2
  have e : (BitVec.ofInt 32 (IntKind.max .u32) ^^^ a) = ~~~a := by
   have : BitVec.ofInt 32 (IntKind.max .u32) = BitVec.allOnes 32 := by decide
   rw [this, BitVec.allOnes_xor]
  exact (by have := (~~~a).isLt; rw [e]; omega : ((BitVec.ofInt 32 (IntKind.max .u32) ^^^ a).toNat : Int) % 4294967296 = ((~~~a).toNat : Int))
 ·rename_i a
  cases hx
  refine ⟨.int .u64 (~~~a).toNat, ?_, rfl⟩
  simp only [Op.unary, Op.intBits, IntKind.signed, Bool.false_eq_true, if_false, cE, Sem.run_pure, IntKind.bits, gW]
  congr 2
  have e : (BitVec.ofInt 64 (IntKind.max .u64) ^^^ a) = ~~~a := by
   have : BitVec.ofInt 64 (IntKind.max .u64) = BitVec.allOnes 64 := by decide
   rw [this, BitVec.allOnes_xor]
  exact (by have := (~~~a).isLt; rw [e]; omega : ((BitVec.ofInt 64 (IntKind.max .u64) ^^^ a).toNat : Int) % 18446744073709551616 = ((~~~a).toNat : Int))
def aGF (k : IntKind) (x : D) : Option D :=
 match k, x with
 |.u8, .u8 a => some (.u8 a)
 |.u8, .u16 a => some (.u8 (a.setWidth 8))
 |.u8, .u32 a => some (.u8 (a.setWidth 8))
 |.u8, .u64 a => some (.u8 (a.setWidth 8))
 |.u8, .i64 n => some (.u8 (BitVec.ofInt 8 n))
 |.u16, .u8 a => some (.u16 (a.setWidth 16))
 |.u16, .u16 a => some (.u16 a)
 |.u16, .u32 a => some (.u16 (a.setWidth 16))
 |.u16, .u64 a => some (.u16 (a.setWidth 16))
 |.u16, .i64 n => some (.u16 (BitVec.ofInt 16 n))
 |.u32, .u8 a => some (.u32 (a.setWidth 32))
 |.u32, .u16 a => some (.u32 (a.setWidth 32))
 |.u32, .u32 a => some (.u32 a)
 |.u32, .u64 a => some (.u32 (a.setWidth 32))
 |.u32, .i64 n => some (.u32 (BitVec.ofInt 32 n))
 |.u64, .u8 a => some (.u64 (a.setWidth 64))
 |.u64, .u16 a => some (.u64 (a.setWidth 64))
 |.u64, .u32 a => some (.u64 (a.setWidth 64))
 |.u64, .u64 a => some (.u64 a)
 |.u64, .i64 n => some (.u64 (BitVec.ofInt 64 n))
 |.i64, .u8 a => some (.i64 a.toNat)
 |.i64, .u16 a => some (.i64 a.toNat)
 |.i64, .u32 a => some (.i64 a.toNat)
 |.i64, .u64 a => some (.i64 a.toInt)
 |.i64, .i64 n => some (.i64 n)
 |_, _ => none
theorem aFW {x : BitVec 8} {n : Nat} {ρ : Env} (h : x.toNat = n % 256) : Rep ρ (.u8 x) (.int .u8 (IntKind.wrap .u8 n)) := by
 show Value.int _ _ = .int .u8 _
 rw [eC, h]
 rfl
theorem aD2 {x : BitVec 16} {n : Nat} {ρ : Env} (h : x.toNat = n % 65536) : Rep ρ (.u16 x) (.int .u16 (IntKind.wrap .u16 n)) := by
 show Value.int _ _ = .int .u16 _
 rw [cR, h]
 rfl
theorem aD1 {x : BitVec 32} {n : Nat} {ρ : Env} (h : x.toNat = n % 4294967296) : Rep ρ (.u32 x) (.int .u32 (IntKind.wrap .u32 n)) := by
 show Value.int _ _ = .int .u32 _
 rw [cQ, h]
 rfl
theorem aD0 {x : BitVec 64} {n : Nat} {ρ : Env} (h : x.toNat = n % 18446744073709551616) : Rep ρ (.u64 x) (.int .u64 (IntKind.wrap .u64 n)) := by
 show Value.int _ _ = .int .u64 _
 rw [cE, h]
 rfl
theorem wQ {P : Program} {w : World} {k : IntKind} {x v : D} {vx : Value} {ρ : Env} (h : aGF k x = some v) (hx : Rep ρ x vx) :
  ∃ j n r, vx = .int j n ∧ (Conv.intToInt k n).run P w = .ok r w ∧ Rep ρ v r := by
 unfold aGF at h
 split at h <;> try contradiction
 all_goals simp only [Option.some.injEq] at h
 all_goals subst h
 case h_24 a => cases hx; exact ⟨_, _, .int .i64 a.toInt, rfl, by simp only [Conv.intToInt, Sem.run_pure, dV], rfl, kD a⟩
 case h_25 n => obtain ⟨rfl, hn⟩ := hx; exact ⟨_, _, .int .i64 n, rfl, by simp only [Conv.intToInt, Sem.run_pure, aP hn], rfl, hn⟩
 case h_5 n => obtain ⟨rfl, hn⟩ := hx; exact ⟨_, n, _, rfl, rfl, by show Value.int _ _ = .int .u8 _; congr 1; rw [eC, BitVec.toNat_ofInt]; omega⟩
 case h_10 n => obtain ⟨rfl, hn⟩ := hx; exact ⟨_, n, _, rfl, rfl, by show Value.int _ _ = .int .u16 _; congr 1; rw [cR, BitVec.toNat_ofInt]; omega⟩
 case h_15 n => obtain ⟨rfl, hn⟩ := hx; exact ⟨_, n, _, rfl, rfl, by show Value.int _ _ = .int .u32 _; congr 1; rw [cQ, BitVec.toNat_ofInt]; omega⟩
 case h_20 n => obtain ⟨rfl, hn⟩ := hx; exact ⟨_, n, _, rfl, rfl, by show Value.int _ _ = .int .u64 _; congr 1; rw [cE, BitVec.toNat_ofInt]; omega⟩
 case h_21 a => cases hx; have := a.isLt; exact ⟨_, _, .int .i64 a.toNat, rfl, by simp only [Conv.intToInt, Sem.run_pure]; rw [aP (by unfold inI; omega)], rfl, by omega, by omega⟩
 case h_22 a => cases hx; have := a.isLt; exact ⟨_, _, .int .i64 a.toNat, rfl, by simp only [Conv.intToInt, Sem.run_pure]; rw [aP (by unfold inI; omega)], rfl, by omega, by omega⟩
 case h_23 a => cases hx; have := a.isLt; exact ⟨_, _, .int .i64 a.toNat, rfl, by simp only [Conv.intToInt, Sem.run_pure]; rw [aP (by unfold inI; omega)], rfl, by omega, by omega⟩
 all_goals
  rename_i a
  cases hx
  have := a.isLt
  first
   |exact ⟨_, _, _, rfl, rfl, aFW (by first | rfl | omega | (rw [BitVec.toNat_setWidth]))⟩
   |exact ⟨_, _, _, rfl, rfl, aD2 (by first | rfl | omega | (rw [BitVec.toNat_setWidth]))⟩
   |exact ⟨_, _, _, rfl, rfl, aD1 (by first | rfl | omega | (rw [BitVec.toNat_setWidth]))⟩
   |exact ⟨_, _, _, rfl, rfl, aD0 (by first | rfl | omega | (rw [BitVec.toNat_setWidth]))⟩
def fW (Γ : Tab) (mg : MG) (s : Nat) (x : D) (f : Nat) : Option Eff :=
 match x with
 |.ptr b p => match mg b with
  |some e => match ti Γ s with
   |some i => match aM e.ty p with
    |some T => match T.beq i.ty with
     |true => match T with
      |.st fs => match fs[f]? with
       |some t => match Nat.beq t.size 0 with
        |false => cL True (.ptr b (p ++ [.fld f]))
        |true => none
       |none => none
      |_ => none
     |false => none
    |none => none
   |none => none
  |none => none
 |_ => none
theorem pI {Γ : Tab} {mg : MG} {s : Nat} {x : D} {f : Nat} {e : Eff} (h : fW Γ mg s x f = some e) :
  ∃ b p en i fs t, x = .ptr b p ∧ mg b = some en ∧ ti Γ s = some i ∧ aM en.ty p = some (.st fs) ∧ i.ty = .st fs ∧ fs[f]? = some t ∧ t.size ≠ 0 ∧ e = ⟨True, .ptr b (p ++ [.fld f]), [], 0⟩ := by
 unfold fW at h
 repeat' split at h
 all_goals try contradiction
 have hb := Ty.eq_of_beq _ _ (by assumption)
 cases h
 refine ⟨_, _, _, _, _, _, rfl, by assumption, by assumption, by assumption, hb.symm, by assumption, ?_, rfl⟩
 rename_i hz
 intro h0
 rw [h0] at hz
 cases hz
theorem cT : ∀ (T : Ty) (p q : cK) (T' : Ty), aM T p = some T' → aM T (p ++ q) = aM T' q
 |T, [], q, T', h => by simp only [aM, Option.some.injEq] at h; subst h; rfl
 |.st fs, .fld i :: p, q, T', h => by
  simp only [aM, List.cons_append] at h ⊢
  cases e : fs[i]? with
  |none => simp [e] at h
  |some t => simp only [e] at h ⊢; exact cT t p q T' h
 |.arr _ t, .idx i :: p, q, T', h => by simp only [aM, List.cons_append] at h ⊢; exact cT _ p q T' h
 |.row t, .idx i :: p, q, T', h => by simp only [aM, List.cons_append] at h ⊢; exact cT _ p q T' h
 |.arr _ t, .win _ n :: p, q, T', h => by simp only [aM, List.cons_append] at h ⊢; exact cT _ p q T' h
 |.row t, .win _ n :: p, q, T', h => by simp only [aM, List.cons_append] at h ⊢; exact cT _ p q T' h
 |.cell, s :: p, q, T', h => absurd h aN
 |.st _, .idx _ :: _, _, _, h => by simp [aM] at h
 |.st _, .win _ _ :: _, _, _, h => by simp [aM] at h
 |.arr _ _, .fld _ :: _, _, _, h => by simp [aM] at h
 |.row _, .fld _ :: _, _, _, h => by simp [aM] at h
theorem aU : ∀ (T : Ty) (p q : cK) (T' : Ty), aM T p = some T' → aE T (p ++ q) = aE T p + aE T' q
 |T, [], q, T', h => by simp only [aM, Option.some.injEq] at h; subst h; simp [aE]
 |.st fs, .fld i :: p, q, T', h => by
  simp only [aM] at h
  cases e : fs[i]? with
  |none => simp [e] at h
  |some t => simp only [e] at h; simp only [aE, List.cons_append, e, aU t p q T' h, Nat.add_assoc]
 |.arr _ t, .idx i :: p, q, T', h => by simp only [aM] at h; simp only [aE, List.cons_append, aU _ p q T' h, Nat.add_assoc]
 |.row t, .idx i :: p, q, T', h => by simp only [aM] at h; simp only [aE, List.cons_append, aU _ p q T' h, Nat.add_assoc]
 |.arr _ t, .win _ n :: p, q, T', h => by simp only [aM] at h; simp only [aE, List.cons_append, aU _ p q T' h, Nat.add_assoc]
 |.row t, .win _ n :: p, q, T', h => by simp only [aM] at h; simp only [aE, List.cons_append, aU _ p q T' h, Nat.add_assoc]
 |.cell, s :: p, q, T', h => absurd h aN
 |.st _, .idx _ :: _, _, _, h => by simp [aM] at h
 |.st _, .win _ _ :: _, _, _, h => by simp [aM] at h
 |.arr _ _, .fld _ :: _, _, _, h => by simp [aM] at h
 |.row _, .fld _ :: _, _, _, h => by simp [aM] at h
theorem iC {P : Program} : ∀ {fl : List Field} {ts : List Nat} {Ts : List Ty} {o : Nat} (_ : eJ P fl ts Ts o) (f : Nat) {T : Ty} (_ : Ts[f]? = some T),
  ∃ fd, fl[f]? = some fd ∧ fd.offset = o + Ty.sizes (Ts.take f) ∧ (P.info? fd.type).map (·.size) = some T.size ∧ ts[f]? = some fd.type
 |fd :: _, t :: _, T0 :: _, o, h, 0, T, e => by
  simp at e; subst e
  exact ⟨fd, rfl, by simp [Ty.sizes, h.2.1], by rw [h.1]; exact h.2.2.1, by simp [h.1]⟩
 |_ :: fl, _ :: ts, T0 :: Ts, o, h, f + 1, T, e => by
  simp at e
  obtain ⟨fd, h1, h2, h3, h4⟩ := iC h.2.2.2 f e
  exact ⟨fd, by simpa using h1, by rw [h2, List.take_succ_cons]; simp only [Ty.sizes]; omega, h3, by simpa using h4⟩
 |[], [], [], _, _, f, _, e => by simp at e
 |[], _ :: _, _, _, h, _, _, _ => h.elim
 |[], [], _ :: _, _, h, _, _, _ => h.elim
 |_ :: _, [], _, _, h, _, _, _ => h.elim
 |_ :: _, _ :: _, [], _, h, _, _, _ => h.elim
theorem aCi {P : Program} {Γ : Tab} (hΓ : b8 P Γ) {t : Nat} {i : TI} {Ts : List Ty} (h : ti Γ t = some i) (hT : i.ty = .st Ts) :
  ∃ fs ts, P.underlying t = some (.struct fs) ∧ i.desc = .st ts ∧ eJ P fs.toList ts Ts 0 := by
 have hd := (hΓ t i h).desc
 unfold aX at hd
 cases he : i.desc <;> simp only [he, hT] at hd
 case arr n e => obtain ⟨_, T, h1, _⟩ := hd; cases h1
 case st ts =>
  obtain ⟨fs, Ts', h1, h2, h3⟩ := hd
  cases h2
  exact ⟨fs, ts, h1, rfl, h3⟩
 case fn => simp at hd
 all_goals simp at hd
theorem aEJ {P : Program} {Γ : Tab} (hΓ : b8 P Γ) {t : Nat} {i : TI} {n : Nat} {T : Ty} (h : ti Γ t = some i) (hT : i.ty = .arr n T) :
  ∃ e, P.underlying t = some (.array n e) ∧ i.desc = .arr n e ∧ (P.info? e).map (·.size) = some T.size := by
 have hd := (hΓ t i h).desc
 unfold aX at hd
 cases he : i.desc <;> simp only [he, hT] at hd
 case arr m e =>
  obtain ⟨h1, T', h2, h3⟩ := hd
  cases h2
  exact ⟨e, h1, rfl, h3⟩
 case st ts => obtain ⟨_, _, _, h1, _⟩ := hd; cases h1
 case fn => simp at hd
 all_goals simp at hd
section
variable {P : Program} {Γ : Tab} (hΓ : b8 P Γ) {X : Ctx} {ρ : Env} {m : Mem} {w : World} (hI : Inv X ρ m w) {mg : MG} (hm : ∀ b e, mg b = some e → get m b = some e) {nx : Nat}
include hΓ hI hm
theorem nH {s : Nat} {x : D} {v : Value} {f : Nat} {e : Eff} (he : fW Γ mg s x f = some e) (hx : Rep ρ x v) : Sound P (Instr.fieldAt s v f) id X ρ m w nx e := by
 obtain ⟨b, p, en, i, fs, t, rfl, hg, hi, hT, hit, hf, hz, rfl⟩ := pI he
 obtain ⟨L, h1, rfl⟩ := hx
 obtain ⟨L', h2, h3⟩ := hI.sat b en (hm _ _ hg)
 rw [h1] at h2; cases h2
 obtain ⟨fl, ts, h4, h5, h6⟩ := aCi hΓ hi hit
 obtain ⟨fd, h7, h8, h9, _⟩ := iC h6 f hf
 refine Sound.pure hI (r := .pointer (some ⟨L.blk, L.base + aE L.ty p + fd.offset, none⟩)) ?_ ?_
 ·have h7' : fl[f]? = some fd := by simpa using h7
  cases hinf : P.info? fd.type with
  |none => simp [hinf] at h9
  |some inf =>
   simp only [hinf, Option.map_some, Option.some.injEq] at h9
   simp [Instr.fieldAt, underlying, h4, h7', Instr.sureAddr, fieldPlace, sizeOf, typeInfo, hinf, h9, hz, dF]
 ·refine ⟨L, h1, ?_⟩
  rw [h3.ty, aU _ _ _ _ hT, h8]
  simp [aE, hf, Nat.add_assoc]
end
end Go.Proofs.YtllcgppffncafaaGreatDoor.Av
