import Derived.Test.YtodkhgofmgaafaaDoorM2
import Derived.RangeFuncLeaves
import Derived.RangeFuncFrom
import Derived.OrdersIn
namespace Go.Proofs.YtodkhgofmgaafaaDoor.Av
open Go
set_option linter.all false
set_option maxRecDepth 3000

/-! other names for blocks -/
mutual
def D.ren (s : Nat → Nat) : D → D
  | .ptr b p => .ptr (s b) p
  | .slice b p off len cap => .slice (s b) p off len cap
  | .fn f bs cs => .fn f (D.rens s bs) (D.rens s cs)
  | .node l => .node (D.rens s l)
  | .tup l => .tup (D.rens s l)
  | d => d
def D.rens (s : Nat → Nat) : List D → List D
  | [] => []
  | d :: ds => d.ren s :: D.rens s ds
end

theorem rens_map (s : Nat → Nat) : ∀ l : List D, D.rens s l = l.map (D.ren s)
  | [] => rfl
  | d :: ds => by simp only [D.rens, List.map_cons, rens_map s ds]

theorem ren_isCell (s : Nat → Nat) (d : D) : (d.ren s).isCell = d.isCell := by cases d <;> rfl
theorem ren_isAgg (s : Nat → Nat) (d : D) : (d.ren s).isAgg = d.isAgg := by cases d <;> rfl
theorem ren_isTup (s : Nat → Nat) (d : D) : (d.ren s).isTup = d.isTup := by cases d <;> rfl
theorem ren_isFn (s : Nat → Nat) (d : D) : (d.ren s).isFn = d.isFn := by cases d <;> rfl

mutual
theorem flat_ren (s : Nat → Nat) : ∀ d : D, (d.ren s).flat = d.flat.map (D.ren s)
  | .node l => by simp only [D.ren, D.flat]; exact flats_ren s l
  | .u8s l => by simp [D.ren, D.flat]
  | .u32s l => by simp [D.ren, D.flat]
  | .u64s l => by simp [D.ren, D.flat]
  | .tup l => by simp [D.ren, D.flat]
  | .undef | .bool _ | .u8 _ | .u16 _ | .u32 _ | .u64 _ | .i64 _ | .str _ | .nilptr | .ptr _ _ | .nilslice | .slice _ _ _ _ _ | .fn _ _ _ | .nilfn => by simp [D.ren, D.flat]
theorem flats_ren (s : Nat → Nat) : ∀ l : List D, D.flats (D.rens s l) = (D.flats l).map (D.ren s)
  | [] => rfl
  | d :: ds => by simp only [D.rens, D.flats, List.map_append, flat_ren s d, flats_ren s ds]
end

theorem repB_ren {ρ : Env} {s : Nat → Nat} {d : D} {v : Value} : RepB ρ (d.ren s) v ↔ RepB (fun i => ρ (s i)) d v := by
  cases d <;> exact Iff.rfl

theorem All2.map_iff {α β : Type} {R S : α → β → Prop} {f : α → α} (h : ∀ a b, R (f a) b ↔ S a b) : ∀ {as : List α} {bs : List β}, All2 R (as.map f) bs ↔ All2 S as bs
  | [], [] => Iff.rfl
  | a :: as, b :: bs => by simp only [List.map_cons, All2, h, All2.map_iff h (as := as) (bs := bs)]
  | [], _ :: _ => Iff.rfl
  | _ :: _, [] => Iff.rfl

theorem repS_ren {ρ : Env} {s : Nat → Nat} {d : D} {v : Value} : RepS ρ (d.ren s) v ↔ RepS (fun i => ρ (s i)) d v := by
  cases hd : d.isFn with
  | false => rw [repS_eq (by rw [ren_isFn, hd]), repS_eq hd]; exact repB_ren
  | true =>
    cases d <;> simp [D.isFn] at hd
    rename_i f bs cs
    show (∃ us vs : List Value, _ ∧ All2 (RepB ρ) (D.rens s bs) us ∧ All2 (RepB ρ) (D.rens s cs) vs) ↔ (∃ us vs : List Value, _ ∧ All2 (RepB fun i => ρ (s i)) bs us ∧ All2 (RepB fun i => ρ (s i)) cs vs)
    rw [rens_map, rens_map]
    simp only [All2.map_iff (R := RepB ρ) (S := RepB fun i => ρ (s i)) (fun a b => repB_ren)]

theorem repV_ren {ρ : Env} {s : Nat → Nat} {d : D} {v : Value} : RepV ρ (d.ren s) v ↔ RepV (fun i => ρ (s i)) d v := by
  unfold RepV
  rw [ren_isAgg, flat_ren]
  split
  · simp only [All2.map_iff (R := RepS ρ) (S := RepS fun i => ρ (s i)) (fun a b => repS_ren)]
  · exact repS_ren

theorem rep_ren {ρ : Env} {s : Nat → Nat} {d : D} {v : Value} : Rep ρ (d.ren s) v ↔ Rep (fun i => ρ (s i)) d v := by
  cases hd : d.isTup with
  | false => rw [rep_eq (by rw [ren_isTup, hd]), rep_eq hd]; exact repV_ren
  | true =>
    cases d <;> simp [D.isTup] at hd
    · exact Iff.rfl
    · rename_i l
      show (∃ vs : List Value, _ ∧ All2 (RepV ρ) (D.rens s l) vs) ↔ (∃ vs : List Value, _ ∧ All2 (RepV fun i => ρ (s i)) l vs)
      rw [rens_map]
      simp only [All2.map_iff (R := RepV ρ) (S := RepV fun i => ρ (s i)) (fun a b => repV_ren)]

theorem AllD_map {P Q : D → Prop} {f : D → D} (h : ∀ d, P (f d) ↔ Q d) : ∀ {l : List D}, AllD P (l.map f) ↔ AllD Q l
  | [] => Iff.rfl
  | d :: ds => by simp only [List.map_cons, AllD, h, AllD_map h (l := ds)]

mutual
theorem hasTy_ren (s : Nat → Nat) : ∀ (T : Ty) (d : D), hasTy T (d.ren s) ↔ hasTy T d
  | .cell, d => by show (d.ren s).isCell = true ↔ d.isCell = true; rw [ren_isCell]
  | .arr n t, d => by
    cases d <;> first | exact Iff.rfl | skip
    rename_i l
    show (D.rens s l).length = n ∧ AllD (hasTy t) (D.rens s l) ↔ l.length = n ∧ AllD (hasTy t) l
    rw [rens_map, List.length_map, AllD_map (fun d => hasTy_ren s t d)]
  | .row t, d => by
    cases d <;> first | exact Iff.rfl | skip
    rename_i l
    show AllD (hasTy t) (D.rens s l) ↔ AllD (hasTy t) l
    rw [rens_map, AllD_map (fun d => hasTy_ren s t d)]
  | .st fs, d => by
    cases d <;> first | exact Iff.rfl | skip
    rename_i l
    exact hasTys_ren s fs l
theorem hasTys_ren (s : Nat → Nat) : ∀ (fs : List Ty) (l : List D), hasTys fs (D.rens s l) ↔ hasTys fs l
  | [], [] => Iff.rfl
  | [], _ :: _ => Iff.rfl
  | t :: ts, [] => Iff.rfl
  | t :: ts, d :: ds => by
    show hasTy t (d.ren s) ∧ hasTys ts (D.rens s ds) ↔ hasTy t d ∧ hasTys ts ds
    rw [hasTy_ren s t d, hasTys_ren s ts ds]
end

/-! contracts -/
structure Out where
  ret : D
  wr : List (Nat × Option D) := []
  nw : List (Ty × D) := []

def newsM (n : Nat) : List (Ty × D) → Mem
  | [] => []
  | (t, d) :: r => (n, some ⟨t, d, true⟩) :: newsM (n + 1) r

def wrM (m0 : Mem) : List (Nat × Option D) → Mem
  | [] => []
  | (i, none) :: r => (i, none) :: wrM m0 r
  | (i, some d) :: r => match get m0 i with
    | some e => (i, some ⟨e.ty, d, true⟩) :: wrM m0 r
    | none => wrM m0 r

def Out.mem (np : Nat) (m0 : Mem) (o : Out) : Mem := newsM np o.nw ++ (wrM m0 o.wr ++ m0)

def Fix (np i : Nat) : Prop := i < np ∨ 1000000 ≤ i

def wpOf (ρ0 : Env) (m0 : Mem) (b : Nat) : Prop := ∃ i e L, get m0 i = some e ∧ e.rw = true ∧ ρ0 i = some L ∧ L.blk = b

def Callable (P : Program) (f : Nat) : Prop := ∃ fn, P.funcs[f]? = some fn ∧ fn.body.isNone = false ∧ (fn.name == "runtime.NumGoroutine") = false

/-- what a call does: over the blocks 0, 1, .. below np and the package's variables; new ones are np, np + 1, .. -/
def AC (P : Program) (f : Nat) (args : List D) (np : Nat) (m0 : Mem) (o : Out) : Prop :=
  Callable P f ∧ ∀ (ρ0 : Env) (w0 : World) (vals : List Value), All2 (Rep ρ0) args vals → Inv ⟨w0, wpOf ρ0 m0⟩ ρ0 m0 w0 → (∀ i, ρ0 i ≠ none → Fix np i) →
    Calls P f vals.toArray w0 fun e w' => ∃ v ρ', e = .returned v ∧ (∀ i, Fix np i → ρ' i = ρ0 i) ∧ (∀ i, ρ' i ≠ none → Fix (np + o.nw.length) i) ∧ Rep ρ' o.ret v ∧ Inv ⟨w0, wpOf ρ0 m0⟩ ρ' (o.mem np m0) w'

theorem get_newsM : ∀ (l : List (Ty × D)) (n j : Nat), get (newsM n l) j = if n ≤ j then (l[j - n]?).map (fun x => ⟨x.1, x.2, true⟩) else none
  | [], n, j => by simp [newsM, get]
  | (t, d) :: r, n, j => by
    simp only [newsM, get_cons, get_newsM r (n + 1) j]
    by_cases h : n = j
    · subst h; simp
    · rw [if_neg h]
      by_cases h2 : n ≤ j
      · rw [if_pos (by omega), if_pos h2]
        rw [show j - n = (j - (n + 1)) + 1 by omega]
        rfl
      · rw [if_neg (by omega), if_neg h2]

theorem newsM_keys : ∀ (l : List (Ty × D)) (n j : Nat), j ∈ (newsM n l).map (·.1) ↔ n ≤ j ∧ j < n + l.length
  | [], n, j => by simp [newsM]
  | (t, d) :: r, n, j => by
    simp only [newsM, List.map_cons, List.mem_cons, newsM_keys r (n + 1) j, List.length_cons]
    omega

/-- what is laid of a block by a contract -/
def lkw : List (Nat × Option D) → Nat → Option (Option D)
  | [], _ => none
  | (i, d) :: r, j => if i = j then some d else lkw r j

theorem get_wrM (m0 : Mem) : ∀ (l : List (Nat × Option D)) (j : Nat), get (wrM m0 l ++ m0) j = match lkw l j with
    | some none => none
    | some (some d) => (get m0 j).map fun e => ⟨e.ty, d, true⟩
    | none => get m0 j
  | [], j => rfl
  | (i, none) :: r, j => by
    simp only [wrM, List.cons_append, get_cons, lkw]
    by_cases h : i = j
    · simp [h]
    · simp only [if_neg h]; exact get_wrM m0 r j
  | (i, some d) :: r, j => by
    simp only [wrM, lkw]
    by_cases h : i = j
    · subst h
      cases he : get m0 i with
      | none =>
        simp only [if_true]
        rw [get_wrM m0 r i]
        cases lkw r i with
        | none => simp [he]
        | some x => cases x <;> simp [he]
      | some e => simp [get_cons]
    · simp only [if_neg h]
      cases he : get m0 i with
      | none => exact get_wrM m0 r j
      | some e =>
        simp only [List.cons_append, get_cons, if_neg h]
        exact get_wrM m0 r j

theorem get_out (np : Nat) (m0 : Mem) (o : Out) (j : Nat) : get (o.mem np m0) j = if np ≤ j ∧ j < np + o.nw.length then (o.nw[j - np]?).map (fun x => ⟨x.1, x.2, true⟩) else match lkw o.wr j with
    | some none => none
    | some (some d) => (get m0 j).map fun e => ⟨e.ty, d, true⟩
    | none => get m0 j := by
  unfold Out.mem
  rw [get_append]
  by_cases h : np ≤ j ∧ j < np + o.nw.length
  · rw [if_pos ((newsM_keys _ _ _).2 h), if_pos h, get_newsM, if_pos h.1]
  · rw [if_neg (fun hh => h ((newsM_keys _ _ _).1 hh)), if_neg h, get_wrM]

/-! a contract at a call -/
def sig (np nx nw : Nat) (σ : List Nat) (i : Nat) : Nat :=
  match Nat.blt i np with
  | true => σ.getD i 999999
  | false => match Nat.ble 1000000 i with
    | true => i
    | false => match Nat.blt (i - np) nw with
      | true => nx + (i - np)
      | false => 999999

def MatchM (s : Nat → Nat) (m : Mem) : Mem → Prop
  | [] => True
  | (i, some e) :: r => (∃ e', get m (s i) = some e' ∧ e'.ty = e.ty ∧ e'.d = e.d.ren s ∧ (e.rw = true → e'.rw = true)) ∧ MatchM s m r
  | (_, none) :: r => MatchM s m r

def fixB (np i : Nat) : Bool :=
  match Nat.blt i np with
  | true => true
  | false => Nat.ble 1000000 i

/-- the names of a contract's blocks: each is a parameter's or a variable's; unlike ones of which one is written stand for unlike ones -/
def apartB (s : Nat → Nat) (i : Nat) (rw : Bool) : Mem → Bool
  | [] => true
  | (j, some e) :: r => match Nat.beq i j with
    | true => apartB s i rw r
    | false => match rw with
      | true => match Nat.beq (s i) (s j) with
        | true => false
        | false => apartB s i rw r
      | false => match e.rw with
        | true => match Nat.beq (s i) (s j) with
          | true => false
          | false => apartB s i rw r
        | false => apartB s i rw r
  | (_, none) :: r => apartB s i rw r

def namesB (np : Nat) (s : Nat → Nat) (all : Mem) : Mem → Bool
  | [] => true
  | (i, some e) :: r => match fixB np i with
    | true => match apartB s i e.rw all with
      | true => namesB np s all r
      | false => false
    | false => false
  | (_, none) :: r => namesB np s all r

def wrB (m0 : Mem) : List (Nat × Option D) → Bool
  | [] => true
  | (i, _) :: r => match get m0 i with
    | some e => match e.rw with
      | true => wrB m0 r
      | false => false
    | none => false

def wrS (s : Nat → Nat) (m0 : Mem) : List (Nat × Option D) → Mem
  | [] => []
  | (i, none) :: r => (s i, none) :: wrS s m0 r
  | (i, some d) :: r => match get m0 i with
    | some e => (s i, some ⟨e.ty, d.ren s, true⟩) :: wrS s m0 r
    | none => wrS s m0 r

def newsS (s : Nat → Nat) : List (Ty × D) → List (Ty × D)
  | [] => []
  | (t, d) :: r => (t, d.ren s) :: newsS s r

def upM (s : Nat → Nat) (nx : Nat) (m0 : Mem) (o : Out) : Mem := newsM nx (newsS s o.nw) ++ wrS s m0 o.wr

def footM (s : Nat → Nat) : Mem → List Nat
  | [] => []
  | (i, _) :: r => s i :: footM s r

theorem blt_eq (a b : Nat) : Nat.blt a b = decide (a < b) := by
  unfold Nat.blt
  rw [Bool.eq_iff_iff, decide_eq_true_eq]
  exact ⟨fun h => Nat.le_of_ble_eq_true h, fun h => Nat.ble_eq_true_of_le h⟩

theorem get_mem {m : Mem} {i : Nat} {e : Ent} (h : get m i = some e) : (i, some e) ∈ m := by
  induction m with
  | nil => simp [get] at h
  | cons x m ih =>
    obtain ⟨j, e'⟩ := x
    rw [get_cons] at h
    split at h
    · subst_vars; simp
    · exact List.mem_cons_of_mem _ (ih h)

theorem matchM_get {s : Nat → Nat} {m : Mem} : ∀ {m0 : Mem} (_ : MatchM s m m0) {i : Nat} {e : Ent} (_ : (i, some e) ∈ m0), ∃ e', get m (s i) = some e' ∧ e'.ty = e.ty ∧ e'.d = e.d.ren s ∧ (e.rw = true → e'.rw = true)
  | (j, some e') :: r, h, i, e, hm => by
    rcases List.mem_cons.1 hm with h' | h'
    · cases h'; exact h.1
    · exact matchM_get h.2 h'
  | (j, none) :: r, h, i, e, hm => by
    rcases List.mem_cons.1 hm with h' | h'
    · cases h'
    · exact matchM_get (m0 := r) h h'

theorem apartB_spec {s : Nat → Nat} {i : Nat} {rw : Bool} : ∀ {m0 : Mem} (_ : apartB s i rw m0 = true) {j : Nat} {e : Ent} (_ : (j, some e) ∈ m0) (_ : i ≠ j) (_ : rw = true ∨ e.rw = true), s i ≠ s j
  | (k, some e') :: r, h, j, e, hm, hne, hr => by
    simp only [apartB] at h
    rcases List.mem_cons.1 hm with h' | h'
    · cases h'
      have hb : Nat.beq i k = false := by
        cases hb : Nat.beq i k with
        | false => rfl
        | true => exact absurd (Nat.eq_of_beq_eq_true hb) hne
      rw [hb] at h
      intro heq
      have hs : Nat.beq (s i) (s k) = true := by rw [heq]; exact Nat.beq_refl _
      rw [hs] at h
      rcases hr with hr | hr
      · rw [hr] at h; simp at h
      · rw [hr] at h; cases rw <;> simp at h
    · refine apartB_spec (m0 := r) ?_ h' hne hr
      repeat' split at h
      all_goals first | exact h | contradiction
  | (k, none) :: r, h, j, e, hm, hne, hr => by
    rcases List.mem_cons.1 hm with h' | h'
    · cases h'
    · exact apartB_spec (m0 := r) h h' hne hr

theorem namesB_spec {np : Nat} {s : Nat → Nat} {all : Mem} : ∀ {m0 : Mem} (_ : namesB np s all m0 = true) {i : Nat} {e : Ent} (_ : (i, some e) ∈ m0), Fix np i ∧ apartB s i e.rw all = true
  | (k, some e') :: r, h, i, e, hm => by
    simp only [namesB] at h
    repeat' split at h
    all_goals try contradiction
    rename_i h1 _ h2
    rcases List.mem_cons.1 hm with h' | h'
    · cases h'
      refine ⟨?_, h2⟩
      unfold fixB at h1
      split at h1
      · rename_i hb; left; rw [blt_eq] at hb; simpa using hb
      · right; simpa using h1
    · exact namesB_spec (m0 := r) h h'
  | (k, none) :: r, h, i, e, hm => by
    rcases List.mem_cons.1 hm with h' | h'
    · cases h'
    · exact namesB_spec (m0 := r) h h'

theorem wrB_spec {m0 : Mem} : ∀ {l : List (Nat × Option D)} (_ : wrB m0 l = true) {i : Nat} {d : Option D} (_ : (i, d) ∈ l), ∃ e, get m0 i = some e ∧ e.rw = true
  | (k, d') :: r, h, i, d, hm => by
    simp only [wrB] at h
    repeat' split at h
    all_goals try contradiction
    rcases List.mem_cons.1 hm with h' | h'
    · cases h'; exact ⟨_, by assumption, by assumption⟩
    · exact wrB_spec (l := r) h h'

theorem lkw_mem : ∀ {l : List (Nat × Option D)} {i : Nat} {d : Option D} (_ : lkw l i = some d), (i, d) ∈ l
  | (k, d') :: r, i, d, h => by
    simp only [lkw] at h
    split at h
    · subst_vars; cases h; simp
    · exact List.mem_cons_of_mem _ (lkw_mem h)

theorem newsS_length (s : Nat → Nat) : ∀ l, (newsS s l).length = l.length
  | [] => rfl
  | (t, d) :: r => by simp [newsS, newsS_length s r]

theorem newsS_get (s : Nat → Nat) : ∀ (l : List (Ty × D)) (k : Nat), (newsS s l)[k]? = (l[k]?).map fun x => (x.1, x.2.ren s)
  | [], k => by simp [newsS]
  | (t, d) :: r, 0 => by simp [newsS]
  | (t, d) :: r, k + 1 => by simp [newsS, newsS_get s r k]

/-- what the caller's blocks are behind the call -/
theorem get_wrS {s : Nat → Nat} {m0 m : Mem} : ∀ {l : List (Nat × Option D)} (_ : wrB m0 l = true) (j : Nat),
    (∃ i d, (i, d) ∈ l ∧ lkw l i = some d ∧ s i = j ∧ get (wrS s m0 l ++ m) j = (match d with | none => none | some d => (get m0 i).map fun e => ⟨e.ty, d.ren s, true⟩)) ∨
      ((∀ i d, (i, d) ∈ l → s i ≠ j) ∧ get (wrS s m0 l ++ m) j = get m j)
  | [], _, j => .inr ⟨fun i d h => by simp at h, rfl⟩
  | (i, d) :: r, h, j => by
    obtain ⟨e, he, hr⟩ := wrB_spec h (i := i) (d := d) (by simp)
    have hrest : wrB m0 r = true := by
      simp only [wrB, he, hr] at h; exact h
    by_cases hj : s i = j
    · refine .inl ⟨i, d, by simp, by simp [lkw], hj, ?_⟩
      cases d with
      | none => simp [wrS, get_cons, hj]
      | some d => simp [wrS, he, get_cons, hj]
    · have hget : get (wrS s m0 ((i, d) :: r) ++ m) j = get (wrS s m0 r ++ m) j := by
        cases d with
        | none => simp only [wrS, List.cons_append, get_cons, if_neg hj]
        | some d => simp only [wrS, he, List.cons_append, get_cons, if_neg hj]
      rcases get_wrS (m := m) hrest j with ⟨i', d', h1, h2, h3, h4⟩ | ⟨h1, h2⟩
      · by_cases hii : i = i'
        · subst hii; exact absurd h3 hj
        · exact .inl ⟨i', d', by simp [h1], by simp [lkw, hii, h2], h3, by rw [hget]; exact h4⟩
      · refine .inr ⟨fun i' d' hm => ?_, by rw [hget]; exact h2⟩
        rcases List.mem_cons.1 hm with h' | h'
        · cases h'; exact hj
        · exact h1 i' d' h'

section
variable {P : Program} {X : Ctx} {ρ : Env} {m : Mem} {w : World} {nx : Nat}

theorem call_sound (hI : Inv X ρ m w) {f : Nat} {np : Nat} {m0 : Mem} {args0 : List D} {o : Out} {σ : List Nat} (hac : AC P f args0 np m0 o)
    (hres : ρ 999999 = none) (hnx : ∀ i, nx ≤ i → i < nx + o.nw.length → ρ i = none) (hlim : nx + o.nw.length ≤ 999999) (hnp : np + o.nw.length ≤ 999999)
    (hmatch : MatchM (sig np nx o.nw.length σ) m m0) (hnames : namesB np (sig np nx o.nw.length σ) m0 m0 = true) (hwr : wrB m0 o.wr = true)
    {vals : List Value} (hargs : All2 (Rep ρ) (D.rens (sig np nx o.nw.length σ) args0) vals) :
    Calls P f vals.toArray w fun e w' => ∃ v ρ', e = .returned v ∧ ρ.le ρ' ∧ (∀ i, ρ' i ≠ none → ρ i ≠ none ∨ (nx ≤ i ∧ i < nx + o.nw.length)) ∧ Rep ρ' (o.ret.ren (sig np nx o.nw.length σ)) v ∧
      Inv X ρ' (upM (sig np nx o.nw.length σ) nx m0 o ++ m) w' := by
  generalize hs : sig np nx o.nw.length σ = s at *
  -- what the names stand for
  have s_gid : ∀ i, 1000000 ≤ i → ¬ i < np → s i = i := by
    intro i h1 h2
    rw [← hs]
    unfold sig
    have e1 : Nat.blt i np = false := by rw [blt_eq]; simp; omega
    have e2 : Nat.ble 1000000 i = true := by simpa using h1
    rw [e1, e2]
  have s_new : ∀ i, np ≤ i → i < np + o.nw.length → s i = nx + (i - np) := by
    intro i h1 h2
    rw [← hs]
    unfold sig
    have e1 : Nat.blt i np = false := by rw [blt_eq]; simp; omega
    have e2 : Nat.ble 1000000 i = false := by
      cases hb : Nat.ble 1000000 i with
      | false => rfl
      | true => have := Nat.le_of_ble_eq_true hb; omega
    have e3 : Nat.blt (i - np) o.nw.length = true := by rw [blt_eq]; simp; omega
    rw [e1, e2, e3]
  let ρ0 : Env := fun i => if i < np ∨ 1000000 ≤ i then ρ (s i) else none
  have hρ0 : ∀ i, Fix np i → ρ0 i = ρ (s i) := fun i h => if_pos h
  have hρs : ∀ i, ρ (s i) ≠ none → Fix np i := by
    intro i h
    by_cases h1 : i < np
    · exact .inl h1
    · by_cases h2 : 1000000 ≤ i
      · exact .inr h2
      · exfalso
        by_cases h3 : i < np + o.nw.length
        · rw [s_new i (by omega) h3] at h
          exact h (hnx _ (by omega) (by omega))
        · have : s i = 999999 := by
            rw [← hs]
            unfold sig
            have e1 : Nat.blt i np = false := by rw [blt_eq]; simp; omega
            have e2 : Nat.ble 1000000 i = false := by
              cases hb : Nat.ble 1000000 i with
              | false => rfl
              | true => have := Nat.le_of_ble_eq_true hb; omega
            have e3 : Nat.blt (i - np) o.nw.length = false := by rw [blt_eq]; simp; omega
            rw [e1, e2, e3]
          rw [this] at h
          exact h hres
  have hle0 : Env.le (fun i => ρ (s i)) ρ0 := by
    intro i L h
    have h : ρ (s i) = some L := h
    have hf := hρs i (by rw [h]; simp)
    rw [hρ0 i hf]; exact h
  have hget0 : ∀ i e, get m0 i = some e → Fix np i ∧ ∃ e', get m (s i) = some e' ∧ e'.ty = e.ty ∧ e'.d = e.d.ren s ∧ (e.rw = true → e'.rw = true) := fun i e h =>
    ⟨(namesB_spec hnames (get_mem h)).1, matchM_get hmatch (get_mem h)⟩
  have hapart : ∀ i j ei ej, get m0 i = some ei → get m0 j = some ej → i ≠ j → (ei.rw = true ∨ ej.rw = true) → s i ≠ s j := fun i j ei ej hi hj hne hr =>
    apartB_spec (namesB_spec hnames (get_mem hi)).2 (get_mem hj) hne hr
  -- the callee's view
  have hI0 : Inv ⟨w, wpOf ρ0 m0⟩ ρ0 m0 w := by
    refine ⟨fun g L h => ?_, fun i e h => ?_, fun i j ei ej Li Lj hi hj hne hr h1 h2 => ?_, fun i e L h hr h1 => .inl ⟨i, e, L, h, hr, h1, rfl⟩, fun _ _ _ => rfl, Nat.le_refl _, rfl, rfl, rfl⟩
    · by_cases hg : gid g < np
      · unfold gid at hg; omega
      · have hf : Fix np (gid g) := .inr (by unfold gid; omega)
        rw [hρ0 _ hf, s_gid _ (by unfold gid; omega) hg] at h
        exact hI.glob g L h
    · obtain ⟨hf, e', h1, h2, h3, h4⟩ := hget0 i e h
      obtain ⟨L, h5, h6⟩ := hI.sat (s i) e' h1
      refine ⟨L, by rw [hρ0 i hf]; exact h5, ?_⟩
      obtain ⟨q1, q2, q3, C, t, fr, pre, front, tail, q4, q5, q6, q7, q8, q9⟩ := h6
      refine ⟨by rw [q1, h2], by rw [← h2]; exact q2, ?_, C, t, fr, pre, front, tail, q4, q5, q6, q7, ?_, fun hr => q9 (h4 hr)⟩
      · rw [h2, h3, hasTy_ren] at q3; exact q3
      · rw [h3, flat_ren] at q8
        exact ((All2.map_iff (fun a b => repS_ren)).1 q8).mono fun _ _ => RepS.mono hle0
    · obtain ⟨hfi, ei', g1, g2, g3, g4⟩ := hget0 i ei hi
      obtain ⟨hfj, ej', k1, k2, k3, k4⟩ := hget0 j ej hj
      rw [hρ0 i hfi] at h1
      rw [hρ0 j hfj] at h2
      exact hI.inj (s i) (s j) ei' ej' Li Lj g1 k1 (hapart i j ei ej hi hj hne (.inl hr)) (g4 hr) h1 h2
  have hargs0 : All2 (Rep ρ0) args0 vals := by
    rw [rens_map] at hargs
    exact ((All2.map_iff (fun a b => rep_ren)).1 hargs).mono fun _ _ => Rep.mono hle0
  have hdom0 : ∀ i, ρ0 i ≠ none → Fix np i := by
    intro i h
    by_cases hf : Fix np i
    · exact hf
    · exact absurd (if_neg hf) h
  refine (hac.2 ρ0 w vals hargs0 hI0 hdom0).mono ?_
  rintro e w' ⟨v, ρ1, rfl, hfix, hdom, hret, hI1⟩
  -- the caller's names behind the call
  let ρ2 : Env := fun j => if nx ≤ j ∧ j < nx + o.nw.length then ρ1 (np + (j - nx)) else ρ j
  have hρ2old : ∀ j, ρ j ≠ none → ρ2 j = ρ j := by
    intro j h
    refine if_neg fun hh => h (hnx j hh.1 hh.2)
  have hρ2new : ∀ k, k < o.nw.length → ρ2 (nx + k) = ρ1 (np + k) := by
    intro k hk
    have : ρ2 (nx + k) = ρ1 (np + (nx + k - nx)) := if_pos ⟨by omega, by omega⟩
    rw [this, Nat.add_sub_cancel_left]
  have hle2 : ρ.le ρ2 := fun j L h => by rw [hρ2old j (by rw [h]; simp)]; exact h
  have hle1 : ρ1.le (fun i => ρ2 (s i)) := by
    intro i L h
    have hd := hdom i (by rw [h]; simp)
    by_cases hf : Fix np i
    · rw [hfix i hf, hρ0 i hf] at h
      show ρ2 (s i) = some L
      rw [hρ2old _ (by rw [h]; simp)]; exact h
    · have h1 : np ≤ i := by unfold Fix at hf; omega
      have h2 : i < np + o.nw.length := by unfold Fix at hf hd; omega
      show ρ2 (s i) = some L
      rw [s_new i h1 h2, hρ2new _ (by omega), show np + (i - np) = i by omega]; exact h
  have hrep : ∀ {d : D} {v : Value}, Rep ρ1 d v → Rep ρ2 (d.ren s) v := fun h => rep_ren.2 (h.mono hle1)
  have hrepS : ∀ {l : List D} {vs : List Value}, All2 (RepS ρ1) l vs → All2 (RepS ρ2) (l.map (D.ren s)) vs := fun h => (All2.map_iff (fun a b => repS_ren)).2 (h.mono fun _ _ => RepS.mono hle1)
  have hsat : ∀ {e : Ent} {L : Loc}, SatE ρ1 e L w' → SatE ρ2 ⟨e.ty, e.d.ren s, e.rw⟩ L w' := by
    intro e L h
    obtain ⟨q1, q2, q3, C, t, fr, pre, front, tail, q4, q5, q6, q7, q8, q9⟩ := h
    exact ⟨q1, q2, (hasTy_ren s _ _).2 q3, C, t, fr, pre, front, tail, q4, q5, q6, q7, by rw [flat_ren]; exact hrepS q8, q9⟩
  -- what each of the caller's blocks is now
  have hkeys : ∀ j, j ∈ (newsM nx (newsS s o.nw)).map (·.1) ↔ nx ≤ j ∧ j < nx + o.nw.length := by
    intro j; rw [newsM_keys, newsS_length]
  have hup : ∀ j e, get (upM s nx m0 o ++ m) j = some e →
      (∃ k x, k < o.nw.length ∧ j = nx + k ∧ o.nw[k]? = some x ∧ e = ⟨x.1, x.2.ren s, true⟩) ∨
      (∃ i e0 d, get m0 i = some e0 ∧ e0.rw = true ∧ lkw o.wr i = some (some d) ∧ s i = j ∧ e = ⟨e0.ty, d.ren s, true⟩) ∨
      (get m j = some e ∧ ∀ i d, (i, d) ∈ o.wr → s i ≠ j) := by
    intro j e h
    unfold upM at h
    rw [List.append_assoc, get_append] at h
    by_cases hn : nx ≤ j ∧ j < nx + o.nw.length
    · rw [if_pos ((hkeys j).2 hn), get_newsM, if_pos hn.1, newsS_get] at h
      cases hx : o.nw[j - nx]? with
      | none => simp [hx] at h
      | some x =>
        simp only [hx, Option.map_some, Option.some.injEq] at h
        exact .inl ⟨j - nx, x, by omega, by omega, hx, h.symm⟩
    · rw [if_neg (fun hh => hn ((hkeys j).1 hh))] at h
      rcases get_wrS (s := s) (m := m) hwr j with ⟨i, d, h1, h2, h3, h4⟩ | ⟨h1, h2⟩
      · rw [h4] at h
        cases d with
        | none => simp at h
        | some d =>
          obtain ⟨e0, he0, hr0⟩ := wrB_spec hwr h1
          simp only [he0, Option.map_some, Option.some.injEq] at h
          exact .inr (.inl ⟨i, e0, d, he0, hr0, h2, h3, h.symm⟩)
      · rw [h2] at h
        exact .inr (.inr ⟨h, h1⟩)
  -- the caller's block that a written one stands for
  have hcaller : ∀ i e0, get m0 i = some e0 → e0.rw = true → ∃ e' L, get m (s i) = some e' ∧ e'.rw = true ∧ ρ (s i) = some L ∧ L.blk < w.heap.size ∧ ρ0 i = some L ∧ (X.wp L.blk ∨ X.w0.heap.size ≤ L.blk) := by
    intro i e0 h hr
    obtain ⟨hf, e', h1, h2, h3, h4⟩ := hget0 i e0 h
    obtain ⟨L, h5, h6⟩ := hI.sat (s i) e' h1
    exact ⟨e', L, h1, h4 hr, h5, h6.lt, by rw [hρ0 i hf]; exact h5, hI.own (s i) e' L h1 (h4 hr) h5⟩
  have hnewget : ∀ k x, o.nw[k]? = some x → get (o.mem np m0) (np + k) = some ⟨x.1, x.2, true⟩ := by
    intro k x hx
    have hk : k < o.nw.length := by
      rcases Nat.lt_or_ge k o.nw.length with h | h
      · exact h
      · simp [List.getElem?_eq_none h] at hx
    rw [get_out, if_pos ⟨by omega, by omega⟩, Nat.add_sub_cancel_left, hx]
    rfl
  have hoget : ∀ i, Fix np i → get (o.mem np m0) i = match lkw o.wr i with | some none => none | some (some d) => (get m0 i).map fun e => ⟨e.ty, d, true⟩ | none => get m0 i := by
    intro i hf
    rw [get_out, if_neg (by unfold Fix at hf; omega)]
  -- where a block lies that the call has made, or been given
  have hnewloc : ∀ k x L, o.nw[k]? = some x → ρ1 (np + k) = some L → wpOf ρ0 m0 L.blk ∨ w.heap.size ≤ L.blk := fun k x L hx hL => hI1.own (np + k) _ L (hnewget k x hx) rfl hL
  have hkk : ∀ {k : Nat} {x : Ty × D}, o.nw[k]? = some x → k < o.nw.length := by
    intro k x hx
    rcases Nat.lt_or_ge k o.nw.length with h | h
    · exact h
    · simp [List.getElem?_eq_none h] at hx
  -- a block of the caller's that is there still: its place is as it was; and no other one's
  have hold : ∀ j e, get (upM s nx m0 o ++ m) j = some e → ¬ (nx ≤ j ∧ j < nx + o.nw.length) → ∃ e' L, get m j = some e' ∧ (e.rw = true → e'.rw = true) ∧ ρ j = some L ∧ ρ2 j = some L ∧ L.blk < w.heap.size ∧
      SatE ρ2 e L w' ∧ (∀ k x L', o.nw[k]? = some x → ρ1 (np + k) = some L' → L'.blk ≠ L.blk) := by
    intro j e h hn
    -- of a block that stands for a written one of the callee's, and is not given up
    have hvia : ∀ i e0 d, get m0 i = some e0 → e0.rw = true → get (o.mem np m0) i = some ⟨e0.ty, d, true⟩ → s i = j → e = ⟨e0.ty, d.ren s, true⟩ →
        ∃ e' L, get m j = some e' ∧ (e.rw = true → e'.rw = true) ∧ ρ j = some L ∧ ρ2 j = some L ∧ L.blk < w.heap.size ∧ SatE ρ2 e L w' ∧ (∀ k x L', o.nw[k]? = some x → ρ1 (np + k) = some L' → L'.blk ≠ L.blk) := by
      intro i e0 d h1 h2 h3 h4 h5
      obtain ⟨e', L, g1, g2, g3, g4, g5, g6⟩ := hcaller i e0 h1 h2
      have hf := (hget0 i e0 h1).1
      rw [h4] at g1 g3
      obtain ⟨L1, k1, k2⟩ := hI1.sat i _ h3
      have e1 : ρ1 i = some L := by rw [hfix i hf]; exact g5
      rw [e1] at k1; cases k1
      refine ⟨e', L, g1, fun _ => g2, g3, by rw [hρ2old j (by rw [g3]; simp)]; exact g3, g4, by rw [h5]; exact hsat k2, fun k x L' hx hL' => ?_⟩
      have := hkk hx
      exact hI1.inj (np + k) i _ _ L' L (hnewget k x hx) h3 (by unfold Fix at hf; omega) rfl hL' e1
    rcases hup j e h with ⟨k, x, hk, hj, hx, he⟩ | ⟨i, e0, d, h1, h2, h3, h4, h5⟩ | ⟨h1, h2⟩
    · exact absurd ⟨by omega, by omega⟩ hn
    · refine hvia i e0 d h1 h2 ?_ h4 h5
      rw [hoget i (hget0 i e0 h1).1, h3]
      simp [h1]
    · by_cases hw0 : ∃ i e0, get m0 i = some e0 ∧ e0.rw = true ∧ s i = j
      · obtain ⟨i, e0, g1, g2, g3⟩ := hw0
        obtain ⟨hf, e', k1, k2, k3, k4⟩ := hget0 i e0 g1
        rw [g3, h1] at k1; cases k1
        have hlk : lkw o.wr i = none := by
          cases hl : lkw o.wr i with
          | none => rfl
          | some d => exact absurd g3 (h2 i d (lkw_mem hl))
        refine hvia i e0 e0.d g1 g2 ?_ g3 ?_
        · rw [hoget i hf, hlk]
          simp only [g1]
          cases e0; simp only at g2; rw [g2]
        · have hr := k4 g2
          cases e; simp only at k2 k3 hr; rw [k2, k3, hr]
      · obtain ⟨L, g1, g2⟩ := hI.sat j e h1
        have hnw : ¬ wpOf ρ0 m0 L.blk := by
          rintro ⟨i, e0, L0, k1, k2, k3, k4⟩
          obtain ⟨e', L', q1, q2, q3, q4, q5, q6⟩ := hcaller i e0 k1 k2
          rw [k3] at q5; cases q5
          by_cases hij : s i = j
          · exact hw0 ⟨i, e0, k1, k2, hij⟩
          · exact hI.inj (s i) j e' e _ L q1 h1 hij q2 q3 g1 k4
        refine ⟨e, L, h1, id, g1, by rw [hρ2old j (by rw [g1]; simp)]; exact g1, g2.lt, (g2.mono hle2).same (hI1.ext L.blk g2.lt hnw), fun k x L' hx hL' heq => ?_⟩
        rcases hnewloc k x L' hx hL' with h | h
        · rw [heq] at h; exact hnw h
        · have := g2.lt; omega
  have hnew : ∀ j e, get (upM s nx m0 o ++ m) j = some e → (nx ≤ j ∧ j < nx + o.nw.length) → ∃ k x L, j = nx + k ∧ o.nw[k]? = some x ∧ ρ1 (np + k) = some L ∧ ρ2 j = some L ∧ SatE ρ2 e L w' := by
    intro j e h hn
    rcases hup j e h with ⟨k, x, hk, hj, hx, he⟩ | ⟨i, e0, d, h1, h2, h3, h4, h5⟩ | ⟨h1, h2⟩
    · obtain ⟨L, g1, g2⟩ := hI1.sat (np + k) _ (hnewget k x hx)
      exact ⟨k, x, L, hj, hx, g1, by rw [hj, hρ2new k hk]; exact g1, by rw [he]; exact hsat g2⟩
    · obtain ⟨e', L, g1, g2, g3, _⟩ := hcaller i e0 h1 h2
      rw [h4] at g3
      rw [hnx j hn.1 hn.2] at g3; cases g3
    · obtain ⟨L, g1, g2⟩ := hI.sat j e h1
      rw [hnx j hn.1 hn.2] at g1; cases g1
  refine ⟨v, ρ2, rfl, hle2, fun j h => ?_, hrep hret, ⟨fun g L h => ?_, fun j e h => ?_, fun j k ej ek Lj Lk hj hk hne hr h1 h2 => ?_, fun j e L h hr h1 => ?_, fun b hb hn => ?_, ?_, ?_, ?_, ?_⟩⟩
  · by_cases hn : nx ≤ j ∧ j < nx + o.nw.length
    · exact .inr hn
    · left
      have : ρ2 j = ρ j := if_neg hn
      rw [← this]; exact h
  · have : ρ2 (gid g) = ρ (gid g) := if_neg (by unfold gid; omega)
    rw [this] at h
    exact hI.glob g L h
  · by_cases hn : nx ≤ j ∧ j < nx + o.nw.length
    · obtain ⟨k, x, L, _, _, _, g1, g2⟩ := hnew j e h hn
      exact ⟨L, g1, g2⟩
    · obtain ⟨e', L, _, _, _, g1, _, g2, _⟩ := hold j e h hn
      exact ⟨L, g1, g2⟩
  · by_cases hnj : nx ≤ j ∧ j < nx + o.nw.length
    · obtain ⟨kj, xj, L1, a1, a2, a3, a4, _⟩ := hnew j ej hj hnj
      rw [h1] at a4; cases a4
      by_cases hnk : nx ≤ k ∧ k < nx + o.nw.length
      · obtain ⟨kk, xk, L2, b1, b2, b3, b4, _⟩ := hnew k ek hk hnk
        rw [h2] at b4; cases b4
        exact hI1.inj (np + kj) (np + kk) _ _ _ _ (hnewget kj xj a2) (hnewget kk xk b2) (by omega) rfl a3 b3
      · obtain ⟨e', L2, _, _, _, b1, _, _, b2⟩ := hold k ek hk hnk
        rw [h2] at b1; cases b1
        exact b2 kj xj _ a2 a3
    · obtain ⟨e', L1, a1, a2, a3, a4, _, _, a5⟩ := hold j ej hj hnj
      rw [h1] at a4; cases a4
      by_cases hnk : nx ≤ k ∧ k < nx + o.nw.length
      · obtain ⟨kk, xk, L2, b1, b2, b3, b4, _⟩ := hnew k ek hk hnk
        rw [h2] at b4; cases b4
        exact Ne.symm (a5 kk xk _ b2 b3)
      · obtain ⟨e2, L2, b1, b2, b3, b4, _, _, _⟩ := hold k ek hk hnk
        rw [h2] at b4; cases b4
        exact hI.inj j k e' e2 _ _ a1 b1 hne (a2 hr) a3 b3
  · by_cases hn : nx ≤ j ∧ j < nx + o.nw.length
    · obtain ⟨k, x, L', _, g1, g2, g3, _⟩ := hnew j e h hn
      rw [h1] at g3; cases g3
      rcases hnewloc k x _ g1 g2 with ⟨i, e0, L0, q1, q2, q3, q4⟩ | h'
      · obtain ⟨e', L', k1, k2, k3, k4, k5, k6⟩ := hcaller i e0 q1 q2
        rw [q3] at k5; cases k5
        rw [← q4]; exact k6
      · exact .inr (Nat.le_trans hI.size h')
    · obtain ⟨e', L', g1, g2, g3, g4, _⟩ := hold j e h hn
      rw [h1] at g4; cases g4
      exact hI.own j e' _ g1 (g2 hr) g3
  · have hbl : b < w.heap.size := Nat.lt_of_lt_of_le hb hI.size
    have hnw : ¬ wpOf ρ0 m0 b := by
      rintro ⟨i, e0, L0, q1, q2, q3, q4⟩
      obtain ⟨e', L', k1, k2, k3, k4, k5, k6⟩ := hcaller i e0 q1 q2
      rw [q3] at k5; cases k5
      rw [q4] at k6
      rcases k6 with h | h
      · exact hn h
      · omega
    rw [hI1.ext b hbl hnw]
    exact hI.ext b hb hn
  · exact Nat.le_trans hI.size hI1.size
  · rw [hI1.os]; exact hI.os
  · rw [hI1.out]; exact hI.out
  · rw [hI1.tape]; exact hI.tape
end
end Go.Proofs.YtodkhgofmgaafaaDoor.Av

namespace Go.Proofs.YtodkhgofmgaafaaDoor.Av
open Go
set_option linter.all false
set_option maxRecDepth 3000

/-! an operation looks at its operands alone -/
theorem evalL_congr {E E' : Operand → Option D} : ∀ {l : List Operand} (_ : ∀ x ∈ l, E x = E' x), evalL E l = evalL E' l
  | [], _ => rfl
  | x :: xs, h => by
    simp only [evalL, h x (by simp), evalL_congr (l := xs) (fun y hy => h y (by simp [hy]))]

theorem evalP_congr {E E' : Operand → Option D} : ∀ {l : List (Nat × Operand)} (_ : ∀ x ∈ l, E x.2 = E' x.2), evalP E l = evalP E' l
  | [], _ => rfl
  | (k, x) :: xs, h => by
    simp only [evalP, h (k, x) (by simp), evalP_congr (l := xs) (fun y hy => h y (by simp [hy]))]

theorem evalO_congr {E E' : Operand → Option D} {x : Option Operand} (h : ∀ y, x = some y → E y = E' y) : evalO E x = evalO E' x := by
  cases x with
  | none => rfl
  | some y => simp only [evalO, h y rfl]

theorem opE_congr {Γ : Tab} {nx : Nat} {mg : MG} {E E' : Operand → Option D} {alt : Nat} {op : Op} (h : ∀ x ∈ op.operands.toList, E x = E' x) : opE Γ nx mg E alt op = opE Γ nx mg E' alt op := by
  cases op <;> simp only [Op.operands, List.mem_cons, List.not_mem_nil, or_false, forall_eq_or_imp, forall_eq] at h <;> try (simp only [opE]; done)
  all_goals first
    | (simp only [opE, h]; done)
    | (simp only [opE, h.1, h.2]; done)
    | (simp only [opE, h.1, h.2.1, h.2.2]; done)
    | skip
  case build t ps =>
    simp only [opE]
    rw [evalP_congr (fun x hx => h x.2 (List.mem_map_of_mem hx))]
  case buildSlice t n ps =>
    simp only [opE]
    rw [evalP_congr (fun x hx => h x.2 (List.mem_map_of_mem hx))]
  case makeFunc fn first caps =>
    simp only [opE]
    rw [evalL_congr (l := first.toList) (fun x hx => h x (by simp; left; simpa using hx)), evalL_congr (l := caps.toList) (fun x hx => h x (by simp; right; simpa using hx))]
  case slice t x lo hi mx =>
    have h1 : E x = E' x := h x (by simp)
    have h2 : evalO E lo = evalO E' lo := evalO_congr fun y hy => h y (by subst hy; simp)
    have h3 : evalO E hi = evalO E' hi := evalO_congr fun y hy => h y (by subst hy; simp)
    have h4 : evalO E mx = evalO E' mx := evalO_congr fun y hy => h y (by subst hy; simp)
    simp only [opE, h1, h2, h3, h4]
  case call c =>
    simp only [opE]
    cases hc : c.callee with
    | builtin b =>
      simp only
      rw [evalL_congr (l := c.args.toList) (fun x hx => h x (by simp [Call.operands, hc]; simpa using hx))]
    | value f => rfl
    | invoke r n => rfl

/-! what an operation writes, it has looked at -/
def KeysOk (mg : MG) (nx : Nat) (e : Eff) : Prop := ∀ k ∈ e.up.map (·.1), mg k ≠ none ∨ (nx ≤ k ∧ k < nx + e.nw)

theorem KeysOk.pure {mg : MG} {nx : Nat} {ob : Prop} {v : D} : KeysOk mg nx ⟨ob, v, [], 0⟩ := fun k h => by simp at h

theorem newE_keys {mg : MG} {nx : Nat} {T : Ty} {d v : D} {ob : Prop} {e : Eff} (h : newE nx T d v ob = some e) : KeysOk mg nx e := by
  unfold newE at h
  split at h <;> try contradiction
  cases h
  intro k hk
  simp at hk
  subst hk
  exact .inr ⟨Nat.le_refl _, by simp⟩

theorem pureE_keys {mg : MG} {nx : Nat} {v : D} {ob : Prop} {e : Eff} (h : pureE ob v = some e) : KeysOk mg nx e := by
  cases h; exact KeysOk.pure

theorem opE_keys {Γ : Tab} {nx : Nat} {mg : MG} {E : Operand → Option D} {alt : Nat} {op : Op} {e : Eff} (h : opE Γ nx mg E alt op = some e) : KeysOk mg nx e := by
  unfold opE at h
  split at h
  case h_8 => 
    split at h <;> try contradiction
    obtain ⟨b, p, en, i, T, x, _, _, _, _, _, _, rfl⟩ := loadE_inv h
    exact KeysOk.pure
  case h_9 =>
    split at h <;> try contradiction
    split at h <;> try contradiction
    obtain ⟨b, p, en, i, T, x, d', _, hg, _, _, _, _, _, _, rfl⟩ := storeE_inv h
    intro k hk
    simp at hk; subst hk
    exact .inl (by rw [hg]; simp)
  case h_23 =>
    repeat' split at h
    all_goals try contradiction
    unfold builtinE at h
    split at h <;> try contradiction
    · unfold lenE at h
      repeat' split at h
      all_goals first | contradiction | exact pureE_keys h
    · unfold copyE at h
      repeat' split at h
      all_goals first
        | contradiction
        | exact pureE_keys h
        | (cases h
           intro k hk
           simp at hk; subst hk
           exact .inl (by simp [*]))
    · unfold appendE at h
      repeat' split at h
      all_goals first
        | contradiction
        | exact pureE_keys h
        | exact newE_keys h
        | (cases h
           intro k hk
           simp at hk
           rcases hk with rfl | rfl
           · exact .inr ⟨Nat.le_refl _, by simp⟩
           · exact .inl (by simp [*]))
    · unfold minmaxE at h
      repeat' split at h
      all_goals first | contradiction | exact pureE_keys h
    · unfold minmaxE at h
      repeat' split at h
      all_goals first | contradiction | exact pureE_keys h
    · unfold capE at h
      repeat' split at h
      all_goals first | contradiction | exact pureE_keys h
  all_goals (repeat' split at h)
  all_goals first
    | contradiction
    | exact pureE_keys h
    | exact newE_keys h
    | (unfold allocE at h; repeat' split at h
       all_goals first | contradiction | exact newE_keys h)
    | (unfold boxE at h; repeat' split at h
       all_goals first | contradiction | exact newE_keys h)
    | (unfold buildE at h; repeat' split at h
       all_goals first | contradiction | exact pureE_keys h)
    | (unfold buildSliceE at h; repeat' split at h
       all_goals first | contradiction | exact newE_keys h)
    | (unfold ofPair at h; repeat' split at h
       all_goals first | contradiction | (cases h; exact KeysOk.pure))
    | (unfold convE at h; repeat' split at h
       all_goals first | contradiction | exact pureE_keys h | exact newE_keys h | (cases h
                                                                                   intro k hk
                                                                                   simp at hk; subst hk
                                                                                   exact .inl (by simp [*])))
    | (unfold toArrE at h; repeat' split at h
       all_goals first | contradiction | exact pureE_keys h)
    | (unfold makeSliceE at h; repeat' split at h
       all_goals first | contradiction | exact newE_keys h)
    | (unfold sliceE at h; repeat' split at h
       all_goals first | contradiction | exact pureE_keys h)
    | (unfold fieldAddrE at h; repeat' split at h
       all_goals first | contradiction | exact pureE_keys h)
    | (unfold fieldE partE at h; repeat' split at h
       all_goals first | contradiction | (cases h; exact KeysOk.pure))
    | (unfold indexAddrE at h; repeat' split at h
       all_goals first | contradiction | exact pureE_keys h)
    | (unfold indexE partE at h; repeat' split at h
       all_goals first | contradiction | (cases h; exact KeysOk.pure))

/-! an operation that makes no block is the same at any name -/
theorem newE_nw {nx : Nat} {T : Ty} {d v : D} {ob : Prop} {e : Eff} (h : newE nx T d v ob = some e) (h0 : e.nw = 0) : False := by
  unfold newE at h
  split at h <;> try contradiction
  cases h
  cases h0

theorem appendE_nx {Γ : Tab} {nx nx' : Nat} {mg : MG} {alt ts tx : Nat} {s x : D} {e : Eff} (h : appendE Γ nx mg alt ts tx s x = some e) (h0 : e.nw = 0) : appendE Γ nx' mg alt ts tx s x = some e := by
  unfold appendE at h
  repeat' split at h
  all_goals first
    | contradiction
    | exact (newE_nw h h0).elim
    | (cases h; exact absurd h0 Nat.one_ne_zero)
    | (simp only [appendE, *])

theorem convE_nx {Γ : Tab} {nx nx' : Nat} {mg : MG} {s d : Nat} {x : D} {e : Eff} (h : convE Γ nx mg s d x = some e) (h0 : e.nw = 0) : convE Γ nx' mg s d x = some e := by
  unfold convE at h
  repeat' split at h
  all_goals first
    | contradiction
    | exact (newE_nw h h0).elim
    | (simp only [convE, *])

theorem opE_nx {Γ : Tab} {nx nx' : Nat} {mg : MG} {E : Operand → Option D} {alt : Nat} {op : Op} {e : Eff} (h : opE Γ nx mg E alt op = some e) (h0 : e.nw = 0) : opE Γ nx' mg E alt op = some e := by
  cases op
  case alloc t =>
    simp only [opE, allocE] at h
    split at h <;> first | contradiction | exact (newE_nw h h0).elim
  case box t x =>
    simp only [opE, boxE] at h
    repeat' split at h
    all_goals first | contradiction | exact (newE_nw h h0).elim
  case buildSlice t n ps =>
    simp only [opE, buildSliceE] at h
    repeat' split at h
    all_goals first | contradiction | exact (newE_nw h h0).elim
  case makeSlice t l c =>
    simp only [opE, makeSliceE] at h
    repeat' split at h
    all_goals first | contradiction | exact (newE_nw h h0).elim
  case convert s d x =>
    simp only [opE] at h ⊢
    split at h <;> try contradiction
    rename_i a ha
    exact convE_nx h h0
  case call c =>
    simp only [opE] at h ⊢
    cases hc : c.callee with
    | builtin b =>
      simp only [hc] at h ⊢
      split at h <;> try contradiction
      rename_i l hl
      unfold builtinE at h ⊢
      split at h <;> first | contradiction | exact appendE_nx h h0 | exact h
    | value f => simp only [hc] at h; cases h
    | invoke r n => simp only [hc] at h; cases h
  all_goals exact h
end Go.Proofs.YtodkhgofmgaafaaDoor.Av

namespace Go.Proofs.YtodkhgofmgaafaaDoor.Av
open Go
set_option linter.all false
set_option maxRecDepth 3000

def memB (i : Nat) : List Nat → Bool
  | [] => false
  | j :: r => match Nat.beq j i with
    | true => true
    | false => memB i r

theorem memB_iff {i : Nat} : ∀ {l : List Nat}, memB i l = true ↔ i ∈ l
  | [] => by simp [memB]
  | j :: r => by
    simp only [memB, List.mem_cons]
    split
    · rename_i h; simp [Nat.eq_of_beq_eq_true h]
    · rename_i h
      rw [memB_iff (l := r)]
      constructor
      · exact .inr
      · rintro (rfl | h')
        · rw [Nat.beq_refl] at h; cases h
        · exact h'

def restr (g : MG) (l : List Nat) : MG := fun i => match memB i l with
  | true => g i
  | false => none

/-- the blocks that an operation's operands name -/
def idsOf (E : Operand → Option D) : List Operand → List Nat
  | [] => []
  | x :: xs => match E x with
    | some (.ptr b _) => b :: idsOf E xs
    | some (.slice b _ _ _ _) => b :: idsOf E xs
    | _ => idsOf E xs

def tmpsOf : List Operand → List Nat
  | [] => []
  | .tmp t :: xs => t :: tmpsOf xs
  | _ :: xs => tmpsOf xs

theorem tmpsOf_mem {t : Nat} : ∀ {l : List Operand}, .tmp t ∈ l → t ∈ tmpsOf l
  | [], h => by simp at h
  | x :: xs, h => by
    rcases List.mem_cons.1 h with rfl | h
    · simp [tmpsOf]
    · have := tmpsOf_mem h
      cases x <;> simp [tmpsOf, this]

theorem idsOf_mem {E : Operand → Option D} {x : Operand} {b : Nat} {p : Path} (hE : E x = some (.ptr b p)) : ∀ {l : List Operand}, x ∈ l → b ∈ idsOf E l
  | [], h => by simp at h
  | y :: xs, h => by
    rcases List.mem_cons.1 h with rfl | h
    · simp [idsOf, hE]
    · have := idsOf_mem hE h
      simp only [idsOf]
      split <;> simp [this]

def callOf : Op → Option (Operand × List Operand)
  | .call c => match c.callee with
    | .value f => some (f, c.args.toList)
    | _ => none
  | _ => none

def isApp : Op → Bool
  | .call c => match c.callee with
    | .builtin .append => true
    | _ => false
  | _ => false

structure CallG (P : Program) (f : Nat) (args : List D) (m : Mem) (nx : Nat) (R : D → Mem → Nat → List Nat → Prop) : Prop where
  out : ∃ (np : Nat) (m0 : Mem) (args0 : List D) (o : Out) (σ : List Nat), AC P f args0 np m0 o ∧ (nx + o.nw.length ≤ 999999 ∧ np + o.nw.length ≤ 999999) ∧ args = D.rens (sig np nx o.nw.length σ) args0 ∧
    MatchM (sig np nx o.nw.length σ) m m0 ∧ namesB np (sig np nx o.nw.length σ) m0 m0 = true ∧ wrB m0 o.wr = true ∧
    R (o.ret.ren (sig np nx o.nw.length σ)) (upM (sig np nx o.nw.length σ) nx m0 o) o.nw.length (footM (sig np nx o.nw.length σ) m0)

def effP (Γ : Tab) (op : Op) (tm : TM) (m : Mem) (nx : Nat) (alt : Nat) (foot : List Nat) (R : D → Mem → Nat → List Nat → Prop) : Prop :=
  match opE Γ nx (restr (get m) foot) (opd tm (get m)) alt op with
  | some ⟨ob, v, up, nw⟩ => ob ∧ R v up nw foot
  | none => False

/-- an operation's effect, and what follows (a structure: a walk's rules meet it as it stands) -/
structure EffG (Γ : Tab) (op : Op) (tm : TM) (m : Mem) (nx : Nat) (alt : Nat) (foot : List Nat) (R : D → Mem → Nat → List Nat → Prop) : Prop where
  out : effP Γ op tm m nx alt foot R

/-- the blocks that an operation may look at: a move of what stands in a temporary looks at none -/
def footOf (op : Op) (E : Operand → Option D) : List Nat :=
  match op with
  | .move (.tmp _) => []
  | _ => idsOf E op.operands.toList

def step1 (P : Program) (Γ : Tab) (op : Op) (tm : TM) (m : Mem) (nx : Nat) (R : D → Mem → Nat → List Nat → Prop) : Prop :=
  match callOf op with
  | some (fv, args) => match opd tm (get m) fv with
    | some (.fn f bd caps) => match evalL (opd tm (get m)) args with
      | some ds => CallG P f (bd ++ (ds ++ caps)) m nx (fun v up nw ft => R v up nw (idsOf (opd tm (get m)) op.operands.toList ++ ft))
      | none => False
    | _ => False
  | none => match isApp op with
    | true => ∃ alt, EffG Γ op tm m nx alt (footOf op (opd tm (get m))) R
    | false => EffG Γ op tm m nx 0 (footOf op (opd tm (get m))) R

/-- an operation does this, wherever what it looks at is as it was -/
def Does0 (P : Program) (X : Ctx) (tm : TM) (g : MG) (o : Oper) (nx : Nat) (v : D) (up : Mem) (nw : Nat) (foot : List Nat) : Prop :=
  ∀ (ρ : Env) (m : Mem) (w : World) (a : Act), Inv X ρ m w → (∀ b ∈ foot, get m b = g b) → (∀ t ∈ tmpsOf o.op.operands.toList, ∀ d, lk tm t = some d → Rep ρ d (a.tmps.getD t undef)) →
    ρ 999999 = none → (∀ i, nx ≤ i → i < nx + nw → ρ i = none) →
    ∀ (next : Act → World → Prop) (Q : Exit → Act → World → Prop), (∀ ρ' v' w', ρ.le ρ' → (∀ i, ρ' i ≠ none → ρ i ≠ none ∨ (nx ≤ i ∧ i < nx + nw)) → Rep ρ' v v' → Inv X ρ' (up ++ m) w' → next (a.put o.dst v') w') →
      o.wp P a w next Q

theorem opd_rep {X : Ctx} {ρ : Env} {m : Mem} {w : World} (hI : Inv X ρ m w) {tm : TM} {g : MG} {a : Act} {ops : List Operand} (hg : ∀ b, b ∈ idsOf (opd tm g) ops → get m b = g b)
    (ht : ∀ t ∈ tmpsOf ops, ∀ d, lk tm t = some d → Rep ρ d (a.tmps.getD t undef)) {x : Operand} (hx : x ∈ ops) {d : D} (h : opd tm g x = some d) : Rep ρ d (a.eval x) := by
  cases x with
  | tmp t => exact ht t (tmpsOf_mem hx) d h
  | const v => exact ofConst_spec h ρ
  | func f =>
    simp only [opd, Option.some.injEq] at h
    subst h
    exact ⟨[], [], rfl, trivial, trivial⟩
  | global v =>
    have h0 := h
    simp only [opd] at h
    split at h <;> try contradiction
    rename_i e he
    cases h
    have := hg (gid v) (idsOf_mem h0 hx)
    rw [he] at this
    obtain ⟨L, h1, h2⟩ := hI.sat (gid v) e this
    obtain ⟨h3, h4⟩ := hI.glob v L h1
    refine ⟨L, h1, ?_⟩
    rw [h3, h4]
    rfl

theorem opd_repF {X : Ctx} {ρ : Env} {m : Mem} {w : World} (hI : Inv X ρ m w) {tm : TM} {g : MG} {a : Act} {op : Op} (hg : ∀ b, b ∈ footOf op (opd tm g) → get m b = g b)
    (ht : ∀ t ∈ tmpsOf op.operands.toList, ∀ d, lk tm t = some d → Rep ρ d (a.tmps.getD t undef)) {x : Operand} (hx : x ∈ op.operands.toList) {d : D} (h : opd tm g x = some d) : Rep ρ d (a.eval x) := by
  by_cases hm : ∃ t, op = .move (.tmp t)
  · obtain ⟨t, rfl⟩ := hm
    have hx' : x = .tmp t := by simpa [Op.operands] using hx
    subst hx'
    exact ht t (tmpsOf_mem hx) d h
  · have e : footOf op (opd tm g) = idsOf (opd tm g) op.operands.toList := by
      unfold footOf
      split
      · rename_i t; exact absurd ⟨t, rfl⟩ hm
      · rfl
    exact opd_rep hI (fun b hb => hg b (by rw [e]; exact hb)) ht hx h

theorem rens_mem (s : Nat → Nat) : ∀ {m0 : Mem} {i : Nat} {e : Option Ent}, (i, e) ∈ m0 → s i ∈ footM s m0
  | (j, e') :: r, i, e, h => by
    rcases List.mem_cons.1 h with h | h
    · cases h; simp [footM]
    · simp [footM, rens_mem s h]

theorem matchM_congr {s : Nat → Nat} {m m' : Mem} : ∀ {m0 : Mem}, (∀ b ∈ footM s m0, get m' b = get m b) → MatchM s m m0 → MatchM s m' m0
  | [], _, _ => trivial
  | (i, some e) :: r, h, H => by
    refine ⟨?_, matchM_congr (m0 := r) (fun b hb => h b (by simp [footM, hb])) H.2⟩
    obtain ⟨e', h1, h2⟩ := H.1
    exact ⟨e', by rw [h (s i) (by simp [footM])]; exact h1, h2⟩
  | (i, none) :: r, h, H => matchM_congr (m0 := r) (fun b hb => h b (by simp [footM, hb])) H

theorem step1_does0 {P : Program} {Γ : Tab} (hΓ : TabOk P Γ) {o : Oper} {tm : TM} {m : Mem} {nx : Nat} {R : D → Mem → Nat → List Nat → Prop} (h : step1 P Γ o.op tm m nx R) :
    ∃ v up nw foot, R v up nw foot ∧ (∀ X : Ctx, Does0 P X tm (get m) o nx v up nw foot) ∧ (∀ k ∈ up.map (·.1), k ∈ foot ∨ (nx ≤ k ∧ k < nx + nw)) := by
  obtain ⟨dst, op, type, pos, after, guard⟩ := o
  dsimp only at h
  unfold step1 at h
  split at h
  · -- a call
    rename_i fv args hcall
    split at h <;> try contradiction
    rename_i f bd caps hf
    split at h <;> try contradiction
    rename_i ds hds
    obtain ⟨np, m0, args0, o, σ, hac, ⟨hl1, hl2⟩, hargs, hmatch, hnames, hwr, hR⟩ := h.out
    obtain ⟨c, rfl, hc1, hc2⟩ : ∃ c, op = .call c ∧ c.callee = .value fv ∧ c.args.toList = args := by
      cases op <;> simp only [callOf] at hcall <;> try contradiction
      rename_i c
      cases hcc : c.callee <;> simp only [hcc] at hcall <;> try contradiction
      simp only [Option.some.injEq, Prod.mk.injEq] at hcall
      exact ⟨c, rfl, by rw [hcc, hcall.1], hcall.2⟩
    refine ⟨_, _, _, _, hR, ?_, ?_⟩
    · intro X ρ m' w a hI hg ht hres hnew next Q hnext
      have hops : (Op.call c).operands.toList = fv :: args := by
        simp only [Op.operands, Call.operands, hc1, Array.toList_append]
        rw [hc2]
        rfl
      have hrep : ∀ x, x ∈ fv :: args → ∀ d, opd tm (get m) x = some d → Rep ρ d (a.eval x) := fun x hx d hd =>
        opd_rep hI (fun b hb => hg b (List.mem_append.2 (.inl hb))) ht (by rw [hops]; exact hx) hd
      obtain ⟨bs, cs, hfv, hbs, hcs⟩ := hrep fv (by simp) _ hf
      have hds' : All2 (Rep ρ) ds (args.map a.eval) := by
        have hgen : ∀ (l : List Operand) (ds : List D), (∀ x ∈ l, x ∈ fv :: args) → evalL (opd tm (get m)) l = some ds → All2 (Rep ρ) ds (l.map a.eval) := by
          intro l
          induction l with
          | nil => intro ds _ h; simp only [evalL, Option.some.injEq] at h; subst h; trivial
          | cons x l ih =>
            intro ds hsub h
            simp only [evalL] at h
            split at h <;> try contradiction
            rename_i d hd
            split at h <;> try contradiction
            rename_i ds' hds'
            cases h
            exact ⟨hrep x (hsub x (by simp)) d hd, ih ds' (fun y hy => hsub y (by simp [hy])) hds'⟩
        exact hgen args ds (fun x hx => by simp [hx]) hds
      have hvals : All2 (Rep ρ) (D.rens (sig np nx o.nw.length σ) args0) (bs ++ (args.map a.eval ++ cs)) := by
        have hB : ∀ d v, RepB ρ d v → Rep ρ d v := fun d v h => by cases d <;> first | exact h | exact h.elim
        rw [← hargs]
        exact (hbs.mono hB).append (hds'.append (hcs.mono hB))
      have hsound := call_sound hI hac hres hnew hl1 hl2 (matchM_congr (fun b hb => hg b (List.mem_append.2 (.inr hb))) hmatch) hnames hwr hvals
      obtain ⟨fn, hfn, hbody, hname⟩ := hac.1
      unfold Oper.wp
      have hexec : (execOp a.eval ⟨dst, .call c, type, pos, after, guard⟩).run P w = .ok (.enter f (bs ++ (args.map a.eval ++ cs)).toArray) w := by
        have harr : c.args.map a.eval = (args.map a.eval).toArray := Array.ext' (by rw [Array.toList_map, hc2])
        simp only [execOp, resolve, hc1, hfv, Deferred.ofValue, Sem.run_bind, Sem.run_pure, Result.andThen_ok, invoke, harr]
        have : ((bs.toArray ++ (List.map a.eval args).toArray) ++ cs.toArray) = (bs ++ (args.map a.eval ++ cs)).toArray := by simp
        rw [this]
        simp only [callFunc, Sem.run_bind, run_program, Result.andThen_ok, hfn, hname, Bool.false_eq_true, if_false, hbody, Sem.run_pure]
      rw [hexec, Oper.upon_enter]
      refine hsound.mono ?_
      rintro e w' ⟨v, ρ', rfl, q1, q2, q3, q4⟩
      exact hnext ρ' v w' q1 q2 q3 q4
    · intro k hk
      unfold upM at hk
      rw [List.map_append, List.mem_append] at hk
      rcases hk with hk | hk
      · rw [newsM_keys, newsS_length] at hk; exact .inr hk
      · left
        have : ∀ l, wrB m0 l = true → k ∈ (wrS (sig np nx o.nw.length σ) m0 l).map (·.1) → k ∈ footM (sig np nx o.nw.length σ) m0 := by
          intro l
          induction l with
          | nil => intro _ h; simp [wrS] at h
          | cons x l ih =>
            intro hl h
            obtain ⟨i, d⟩ := x
            obtain ⟨e, he, hr⟩ := wrB_spec hl (i := i) (d := d) (by simp)
            have hrest : wrB m0 l = true := by simp only [wrB, he, hr] at hl; exact hl
            have hi := rens_mem (sig np nx o.nw.length σ) (get_mem he)
            cases d with
            | none =>
              simp only [wrS, List.map_cons, List.mem_cons] at h
              rcases h with rfl | h
              · exact hi
              · exact ih hrest h
            | some d =>
              simp only [wrS, he, List.map_cons, List.mem_cons] at h
              rcases h with rfl | h
              · exact hi
              · exact ih hrest h
        exact List.mem_append.2 (.inr (this o.wr hwr hk))
  · -- any other one
    have key : ∀ alt, effP Γ op tm m nx alt (footOf op (opd tm (get m))) R → _ := fun alt h => by
      show ∃ v up nw foot, R v up nw foot ∧ (∀ X : Ctx, Does0 P X tm (get m) ⟨dst, op, type, pos, after, guard⟩ nx v up nw foot) ∧ (∀ k ∈ up.map (·.1), k ∈ foot ∨ (nx ≤ k ∧ k < nx + nw))
      unfold effP at h
      split at h <;> try contradiction
      rename_i ob v up nw he
      refine ⟨v, up, nw, _, h.2, ?_, ?_⟩
      · intro X ρ m' w a hI hg ht hres hnew next Q hnext
        let E' : Operand → Option D := fun x => @ite _ (x ∈ op.operands.toList) (Classical.propDecidable _) (opd tm (get m) x) none
        have hE : ∀ x d, E' x = some d → Rep ρ d (a.eval x) := by
          intro x d hx
          by_cases hmem : x ∈ op.operands.toList
          · have : E' x = opd tm (get m) x := if_pos hmem
            rw [this] at hx
            exact opd_repF hI hg ht hmem hx
          · have : E' x = none := if_neg hmem
            rw [this] at hx; cases hx
        have he' : opE Γ nx (restr (get m) (footOf op (opd tm (get m)))) E' alt op = some ⟨ob, v, up, nw⟩ := by
          rw [← he]
          refine (opE_congr fun x hx => ?_).symm
          exact (if_pos hx).symm
        have hmg : ∀ b e, restr (get m) (footOf op (opd tm (get m))) b = some e → get m' b = some e := by
          intro b e hb
          unfold restr at hb
          split at hb <;> try contradiction
          rename_i hm
          rw [hg b (memB_iff.1 hm)]; exact hb
        have hos : OpSound P (execOp a.eval ⟨dst, op, type, pos, after, guard⟩) X ρ m' w nx ⟨ob, v, up, nw⟩ := by
          rcases Nat.eq_zero_or_pos nw with h0 | h0
          · subst h0
            obtain ⟨v', w', ρ', h1, h2, h3, h4⟩ := op_sound hΓ hI hmg hres hE (o := ⟨dst, op, type, pos, after, guard⟩) (opE_nx (nx' := 999999) he' rfl) h.1
            refine ⟨v', w', ρ', h1, h2, fun i hi => ?_, h4⟩
            rcases h3 i hi with h5 | h5
            · exact .inl h5
            · exact absurd h5 (by simp only [Nat.add_zero]; omega)
          · exact op_sound hΓ hI hmg (hnew nx (Nat.le_refl _) (by omega)) hE (o := ⟨dst, op, type, pos, after, guard⟩) he' h.1
        obtain ⟨v', w', ρ', h1, h2, h3, h4, h5⟩ := hos
        have := hnext ρ' v' w' h2 h3 h4 h5
        unfold Oper.wp
        rcases h1 with h1 | ⟨rfl, h1⟩
        · rw [h1, Oper.upon_value]; exact this
        · rw [h1, Oper.upon_skip]; exact this
      · intro k hk
        rcases opE_keys he k hk with h' | h'
        · left
          unfold restr at h'
          split at h'
          · rename_i hb; exact memB_iff.1 hb
          · exact absurd rfl h'
        · exact .inr h'
    split at h
    · obtain ⟨alt, h⟩ := h
      exact key alt h.out
    · exact key 0 h.out

/-! in a round's frame, and among what is no cells -/
/-- no fence: in a function's own frame, or in a round's -/
def FW (ro : Option Nat) : Fence := { Fence.wide with round := ro }
theorem callsIn_FW {ro : Option Nat} {n : Nat} {P : Program} {f : FuncId} {args : Array Value} {w : World} {R : Ending → World → Prop} : CallsIn (FW ro) n P f args w R ↔ Calls P f args w R := callsIn_wide (n := n)
abbrev KeepNC := KeepsOthers

theorem Inv.here {X : Ctx} {ρ : Env} {m : Mem} {w : World} (hI : Inv X ρ m w) : Inv ⟨w, wpOf ρ m⟩ ρ m w where
  glob := hI.glob
  sat := hI.sat
  inj := hI.inj
  own i e L h hr h1 := .inl ⟨i, e, L, h, hr, h1, rfl⟩
  ext _ _ _ := rfl
  size := Nat.le_refl _
  os := rfl
  out := rfl
  tape := rfl
theorem Inv.back {X : Ctx} {ρ ρ' : Env} {m m' : Mem} {w w' : World} (hI : Inv X ρ m w) (h : Inv ⟨w, wpOf ρ m⟩ ρ' m' w') : Inv X ρ' m' w' where
  glob := h.glob
  sat := h.sat
  inj := h.inj
  own i e L hg hr hL := by
    rcases h.own i e L hg hr hL with ⟨j, ej, Lj, h1, h2, h3, h4⟩ | h'
    · rw [← h4]; exact hI.own j ej Lj h1 h2 h3
    · exact .inr (Nat.le_trans hI.size h')
  ext b hb hn := by
    rw [h.ext b (Nat.lt_of_lt_of_le hb hI.size) (fun ⟨j, ej, Lj, h1, h2, h3, h4⟩ => ?_), hI.ext b hb hn]
    rcases hI.own j ej Lj h1 h2 h3 with h5 | h5
    · rw [h4] at h5; exact hn h5
    · rw [h4] at h5; omega
  size := Nat.le_trans hI.size h.size
  os := h.os.trans hI.os
  out := h.out.trans hI.out
  tape := h.tape.trans hI.tape
theorem SatE.cells {ρ : Env} {e : Ent} {L : Loc} {w : World} (h : SatE ρ e L w) : ∃ o, w.heap[L.blk]? = some o ∧ o.isCells = true := by
  obtain ⟨_, _, _, C, t, fr, _, _, _, h1, _⟩ := h
  exact ⟨_, h1, rfl⟩
theorem Inv.keepNC {X : Ctx} {ρ ρ' : Env} {m m' : Mem} {w w' : World} (hI : Inv X ρ m w) (h : Inv ⟨w, wpOf ρ m⟩ ρ' m' w') : KeepNC w w' := ⟨h.size, fun r o h1 h2 => by
  have hr : r < w.heap.size := (Array.getElem?_eq_some_iff.1 h1).1
  rw [h.ext r hr (fun ⟨j, ej, Lj, k1, k2, k3, k4⟩ => ?_), h1]
  obtain ⟨L, q1, q2⟩ := hI.sat j ej k1
  rw [k3] at q1; cases q1
  obtain ⟨o', q3, q4⟩ := q2.cells
  rw [k4, h1] at q3; cases q3
  rw [h2] at q4; cases q4⟩

theorem wpIn_of_wp {ro : Option Nat} {n : Nat} {P : Program} {o : Oper} {a : Act} {w : World} {next : Act → World → Prop} {Q : Exit → Act → World → Prop} (hd : ∀ c, o.op ≠ .defer c) (h : o.wp P a w next Q) : o.wpIn (FW ro) n P a w next Q := by
  refine ⟨fun _ _ => trivial, ?_⟩
  rw [Oper.semAt_eq (FW ro).round a.eval o hd]
  unfold Oper.wp at h
  generalize (execOp a.eval o).run P w = r at h ⊢
  unfold Oper.upon at h
  split at h
  · exact h
  · exact h
  · exact h
  · exact ⟨fun h => (nomatch h), callsIn_FW.2 h⟩
  · refine ⟨fun h => (nomatch h), fun c cs _ => ?_⟩
    obtain ⟨v, w', r, s⟩ := h c cs
    exact ⟨v, w', r, stepsIn_wide.2 s⟩
  · exact h
  · exact h.elim

/-- an operation does this, wherever what it looks at is as it was; what is no cells stays -/
def Does (P : Program) (X : Ctx) (tm : TM) (g : MG) (o : Oper) (nx : Nat) (v : D) (up : Mem) (nw : Nat) (foot : List Nat) : Prop :=
  ∀ (ρ : Env) (m : Mem) (w : World) (a : Act), Inv X ρ m w → (∀ b ∈ foot, get m b = g b) → (∀ t ∈ tmpsOf o.op.operands.toList, ∀ d, lk tm t = some d → Rep ρ d (a.tmps.getD t undef)) →
    ρ 999999 = none → (∀ i, nx ≤ i → i < nx + nw → ρ i = none) →
    ∀ (ro : Option Nat) (n : Nat) (next : Act → World → Prop) (Q : Exit → Act → World → Prop), (∀ ρ' v' w', ρ.le ρ' → (∀ i, ρ' i ≠ none → ρ i ≠ none ∨ (nx ≤ i ∧ i < nx + nw)) → Rep ρ' v v' → Inv X ρ' (up ++ m) w' → KeepNC w w' → next (a.put o.dst v') w') →
      o.wpIn (FW ro) n P a w next Q
theorem step1_nodefer {P : Program} {Γ : Tab} {op : Op} {tm : TM} {m : Mem} {nx : Nat} {R : D → Mem → Nat → List Nat → Prop} (h : step1 P Γ op tm m nx R) : ∀ c, op ≠ .defer c := by
  rintro c rfl
  unfold step1 at h
  simp only [callOf, isApp] at h
  have h := h.out
  simp only [effP, opE] at h
theorem step1_does {P : Program} {Γ : Tab} (hΓ : TabOk P Γ) {X : Ctx} {o : Oper} {tm : TM} {m : Mem} {nx : Nat} {R : D → Mem → Nat → List Nat → Prop} (h : step1 P Γ o.op tm m nx R) :
    ∃ v up nw foot, R v up nw foot ∧ Does P X tm (get m) o nx v up nw foot ∧ (∀ k ∈ up.map (·.1), k ∈ foot ∨ (nx ≤ k ∧ k < nx + nw)) := by
  obtain ⟨v, up, nw, foot, h1, h2, h3⟩ := step1_does0 hΓ h
  refine ⟨v, up, nw, foot, h1, fun ρ m' w a hI hg ht hres hnew ro n next Q hnext => ?_, h3⟩
  refine wpIn_of_wp (step1_nodefer h) (h2 ⟨w, wpOf ρ m'⟩ ρ m' w a hI.here hg ht hres hnew next Q fun ρ' v' w' hle hdom hv hinv => ?_)
  exact hnext ρ' v' w' hle hdom hv (hI.back hinv) (hI.keepNC hinv)
end Go.Proofs.YtodkhgofmgaafaaDoor.Av

namespace Go.Proofs.YtodkhgofmgaafaaDoor.Av
open Go
set_option linter.all false
set_option maxRecDepth 3000

/-- two ways on -/
structure Br (b : Bool) (A B : Prop) : Prop where
  pos : b = true → A
  neg : b = false → B

theorem Br.split {b : Bool} {A B : Prop} (h1 : b = true → A) (h2 : b = false → B) : Br b A B := ⟨h1, h2⟩
theorem Br.yes {b : Bool} {A B : Prop} (h : b = true) (h1 : A) : Br b A B := ⟨fun _ => h1, (fun h' => by rw [h] at h'; cases h')⟩
theorem Br.no {b : Bool} {A B : Prop} (h : b = false) (h1 : B) : Br b A B := ⟨(fun h' => by rw [h] at h'; cases h'), fun _ => h1⟩

def dstAt (ops : List Oper) (j : Nat) : Option Nat :=
  match ops, j with
  | o :: _, 0 => o.dst
  | _ :: r, j + 1 => dstAt r j
  | [], _ => none

theorem dstAt_eq : ∀ (ops : List Oper) (j : Nat), dstAt ops j = (ops[j]?).bind (·.dst)
  | [], _ => by simp [dstAt]
  | o :: _, 0 => by simp [dstAt]
  | _ :: r, j + 1 => by simp [dstAt, dstAt_eq r j]

/-- is it done? -/
def guardP (ops : List Oper) (o : Oper) (tm : TM) (A B : TM → Prop) : Prop :=
  match o.guard with
  | none => A tm
  | some (j, want) => match dstAt ops j with
    | some t => match lk tm t with
      | some (.bool b) => match want with
        | true => Br b (A ((t, .bool true) :: tm)) (B ((t, .bool false) :: tm))
        | false => Br b (B ((t, .bool true) :: tm)) (A ((t, .bool false) :: tm))
      | some (.tup []) => B tm
      | _ => False
    | none => False

def putP (N : Nat) (dst : Option Nat) (v : D) (tm : TM) (K : TM → Prop) : Prop :=
  match dst with
  | none => K tm
  | some t => match Nat.blt t N with
    | true => K ((t, v) :: tm)
    | false => False

def limP (nx nw : Nat) (K : Prop) : Prop :=
  match Nat.ble (nx + nw) 999998 with
  | true => K
  | false => False

/-- by the recursor itself: the kernel then meets the very terms that the elaborator made -/
noncomputable def seqP (P : Program) (Γ : Tab) (N : Nat) (ops : List Oper) (l : List Oper) : TM → Mem → Nat → (TM → Mem → Nat → Prop) → Prop :=
  @List.rec Oper (fun _ => TM → Mem → Nat → (TM → Mem → Nat → Prop) → Prop) (fun tm m nx K => K tm m nx)
    (fun o _ ih tm m nx K => guardP ops o tm
      (fun tm => step1 P Γ o.op tm m nx (fun v up nw _ => limP nx nw (putP N o.dst v tm (fun tm => ih tm (up ++ m) (nx + nw) K))))
      (fun tm => putP N o.dst (.tup []) tm (fun tm => ih tm m nx K))) l

theorem seqP_cons {P : Program} {Γ : Tab} {N : Nat} {ops : List Oper} {o : Oper} {r : List Oper} {tm : TM} {m : Mem} {nx : Nat} {K : TM → Mem → Nat → Prop} : seqP P Γ N ops (o :: r) tm m nx K = guardP ops o tm
      (fun tm => step1 P Γ o.op tm m nx (fun v up nw _ => limP nx nw (putP N o.dst v tm (fun tm => seqP P Γ N ops r tm (up ++ m) (nx + nw) K))))
      (fun tm => putP N o.dst (.tup []) tm (fun tm => seqP P Γ N ops r tm m nx K)) := rfl

/-- what the call may have done, and a world of which what is no cells stays -/
structure CtxK where
  c : Ctx
  k0 : World
/-- the marks among the deferred calls; what is no cells -/
structure Side (X : CtxK) (a : Act) (w : World) : Prop where
  marks : ∀ d ∈ a.defers, ∃ r, d = { target := .collected r, args := #[] } ∧ w.heap[r]? = some (.deferred (some [])) ∧ X.c.w0.heap.size ≤ r
  keep : KeepNC X.k0 w
  apart : a.defers.Pairwise (· ≠ ·)
theorem Side.step {X : CtxK} {a a' : Act} {w w' : World} (h : Side X a w) (k : KeepNC w w') (e : a'.defers = a.defers) : Side X a' w' :=
  ⟨fun d hd => by
    rw [e] at hd
    obtain ⟨r, h1, h2, h3⟩ := h.marks d hd
    exact ⟨r, h1, k.same r _ h2 rfl, h3⟩, h.keep.trans k, by rw [e]; exact h.apart⟩

structure StOk (X : CtxK) (ρ0 : Env) (np N : Nat) (tm : TM) (m : Mem) (nx : Nat) (ρ : Env) (a : Act) (w : World) : Prop where
  inv : Inv X.c ρ m w
  tmps : ∀ t d, lk tm t = some d → Rep ρ d (a.tmps.getD t undef)
  size : a.tmps.size = N
  defs : Side X a w
  fix : ∀ i, Fix np i → ρ i = ρ0 i
  used : ∀ i, ρ i ≠ none → i < nx ∨ 1000000 ≤ i
  lim : nx ≤ 999998
  le : np ≤ nx

theorem put_getD {a : Act} {t : Nat} {v : Value} {s : Nat} (h : t < a.tmps.size) : (a.put (some t) v).tmps.getD s undef = if t = s then v else a.tmps.getD s undef := by
  simp only [Act.put]
  by_cases hs : t = s
  · subst hs
    simp [Array.getD, h]
  · rw [if_neg hs]
    simp only [Array.getD_eq_getD_getElem?, Array.getElem?_setIfInBounds_ne hs]

theorem StOk.put {X : CtxK} {ρ0 : Env} {np N : Nat} {tm : TM} {m : Mem} {nx : Nat} {ρ : Env} {a : Act} {w : World} (H : StOk X ρ0 np N tm m nx ρ a w) {dst : Option Nat} {v : D} {v' : Value} {K : TM → Prop} (h : putP N dst v tm K) (hv : Rep ρ v v') :
    ∃ tm', K tm' ∧ StOk X ρ0 np N tm' m nx ρ (a.put dst v') w := by
  cases dst with
  | none => exact ⟨tm, h, H⟩
  | some t =>
    simp only [putP] at h
    split at h <;> try contradiction
    rename_i hb
    have hlt : t < a.tmps.size := by rw [H.size]; rw [blt_eq] at hb; simpa using hb
    refine ⟨_, h, ⟨H.inv, fun s d hs => ?_, by simp [Act.put, H.size], H.defs.step (KeepsOthers.refl w) (by simp [Act.put]), H.fix, H.used, H.lim, H.le⟩⟩
    rw [put_getD hlt]
    rw [lk_cons] at hs
    split at hs
    · rename_i heq; rw [if_pos heq]; cases hs; exact hv
    · rename_i heq; rw [if_neg heq]; exact H.tmps s d hs

theorem StOk.same {X : CtxK} {ρ0 : Env} {np N : Nat} {tm tm' : TM} {m : Mem} {nx : Nat} {ρ : Env} {a : Act} {w : World} (H : StOk X ρ0 np N tm m nx ρ a w) (h : ∀ t, lk tm' t = lk tm t) : StOk X ρ0 np N tm' m nx ρ a w :=
  ⟨H.inv, fun t d ht => H.tmps t d (by rw [← h]; exact ht), H.size, H.defs, H.fix, H.used, H.lim, H.le⟩

theorem wanted_skip {ops : List Oper} {o : Oper} {tmps : Array Value} {j t : Nat} {w : Bool} (hg : o.guard = some (j, w)) (ht : dstAt ops j = some t) (hv : tmps.getD t undef = .tuple #[]) : Region.wanted o (yielded ops.toArray tmps) = false := by
  have hy : yielded ops.toArray tmps j = none := by
    unfold yielded
    have : ((ops.toArray[j]?).bind (·.dst)) = some t := by rw [List.getElem?_toArray, ← dstAt_eq, ht]
    rw [this]
    simp only [Option.bind_some]
    cases h : tmps[t]? with
    | none => rfl
    | some v =>
      have : v = .tuple #[] := by
        rw [Array.getD_eq_getD_getElem?, h] at hv; exact hv
      subst this; rfl
  simp [Region.wanted, hg, hy]

theorem guard_spec {ops : List Oper} {o : Oper} {tm : TM} {A B : TM → Prop} {X : CtxK} {ρ0 : Env} {np N : Nat} {m : Mem} {nx : Nat} {ρ : Env} {a : Act} {w : World} (h : guardP ops o tm A B) (H : StOk X ρ0 np N tm m nx ρ a w) :
    ∃ tm', (∀ t, lk tm' t = lk tm t) ∧ ((Region.wanted o (yielded ops.toArray a.tmps) = true ∧ A tm') ∨ (Region.wanted o (yielded ops.toArray a.tmps) = false ∧ B tm')) := by
  unfold guardP at h
  cases hg : o.guard with
  | none =>
    simp only [hg] at h
    exact ⟨tm, fun _ => rfl, .inl ⟨by simp [Region.wanted, hg], h⟩⟩
  | some p =>
    obtain ⟨j, want⟩ := p
    simp only [hg] at h
    split at h <;> try contradiction
    rename_i t ht
    split at h <;> try contradiction
    rotate_left
    · rename_i hb
      obtain ⟨vs, hv, hvs⟩ : Rep ρ (.tup []) (a.tmps.getD t undef) := H.tmps t _ hb
      cases vs with
      | nil => exact ⟨tm, fun _ => rfl, .inr ⟨wanted_skip hg ht hv, h⟩⟩
      | cons => exact hvs.elim
    rename_i b hb
    have hv := H.tmps t _ hb
    have hv : a.tmps.getD t undef = .bool b := hv
    have hlt : t < a.tmps.size := by
      rcases Nat.lt_or_ge t a.tmps.size with h' | h'
      · exact h'
      · simp [Array.getD_eq_getD_getElem?, Array.getElem?_eq_none h', undef] at hv
    have hget : a.tmps[t]? = some (.bool b) := by
      rw [Array.getD_eq_getD_getElem?, Array.getElem?_eq_getElem hlt] at hv
      simp at hv
      rw [Array.getElem?_eq_getElem hlt, hv]
    have hy : yielded ops.toArray a.tmps j = some b := by
      unfold yielded
      have : ((ops.toArray[j]?).bind (·.dst)) = some t := by rw [List.getElem?_toArray, ← dstAt_eq, ht]
      rw [this]
      simp [hget]
    have hw : Region.wanted o (yielded ops.toArray a.tmps) = (b == want) := by
      simp [Region.wanted, hg, hy]
    have hlk : ∀ c : Bool, b = c → ∀ s, lk ((t, .bool c) :: tm) s = lk tm s := by
      intro c hc s
      rw [lk_cons]
      split
      · subst_vars; rw [hb]
      · rfl
    cases want with
    | true =>
      simp only at h
      cases b with
      | true => exact ⟨_, hlk true rfl, .inl ⟨by rw [hw]; rfl, h.1 rfl⟩⟩
      | false => exact ⟨_, hlk false rfl, .inr ⟨by rw [hw]; rfl, h.2 rfl⟩⟩
    | false =>
      simp only at h
      cases b with
      | true => exact ⟨_, hlk true rfl, .inr ⟨by rw [hw]; rfl, h.1 rfl⟩⟩
      | false => exact ⟨_, hlk false rfl, .inl ⟨by rw [hw]; rfl, h.2 rfl⟩⟩

theorem Inv.fresh {X : CtxK} {ρ0 : Env} {np N : Nat} {tm : TM} {m : Mem} {nx : Nat} {ρ : Env} {a : Act} {w : World} (H : StOk X ρ0 np N tm m nx ρ a w) {i : Nat} (h1 : nx ≤ i) (h2 : i ≤ 999999) : ρ i = none := by
  cases h : ρ i with
  | none => rfl
  | some L =>
    rcases H.used i (by rw [h]; simp) with h' | h' <;> omega

theorem seq_sound {ro : Option Nat} {n : Nat} {P : Program} {Γ : Tab} (hΓ : TabOk P Γ) {N : Nat} {X : CtxK} {ρ0 : Env} {np : Nat} {Q : Exit → Act → World → Prop} {K : TM → Mem → Nat → Prop}
    (hK : ∀ tm m nx ρ a w, K tm m nx → StOk X ρ0 np N tm m nx ρ a w → Q .normal a w) (ops : List Oper) :
    ∀ (r : List Oper) (k : Nat) (tm : TM) (m : Mem) (nx : Nat) (ρ : Env) (a : Act) (w : World), ops.drop k = r → seqP P Γ N ops r tm m nx K → StOk X ρ0 np N tm m nx ρ a w →
      wpOpsIn (FW ro) n P ops.toArray Q (List.range' k r.length) a w
  | [], k, tm, m, nx, ρ, a, w, _, h, H => by
    simp only [List.length_nil, List.range'_zero, wpOpsIn]
    exact hK tm m nx ρ a w h H
  | o :: r, k, tm, m, nx, ρ, a, w, hd, h, H => by
    have hget : ops.toArray[k]? = some o := by
      rw [List.getElem?_toArray, ← List.head?_drop, hd]; rfl
    have hd' : ops.drop (k + 1) = r := by rw [← List.tail_drop, hd]; rfl
    simp only [List.length_cons, List.range'_succ, wpOpsIn, hget]
    rw [seqP_cons] at h
    obtain ⟨tm', hsame, hw⟩ := guard_spec h H
    have H' := H.same hsame
    rcases hw with ⟨hw, h⟩ | ⟨hw, h⟩
    · rw [if_pos hw]
      obtain ⟨v, up, nw, foot, hR, hdoes, _⟩ := step1_does hΓ (X := X.c) h
      unfold limP at hR
      split at hR <;> try contradiction
      rename_i hlim
      have hlim : nx + nw ≤ 999998 := Nat.le_of_ble_eq_true hlim
      refine hdoes ρ m w a H'.inv (fun _ _ => rfl) (fun t _ d ht => H'.tmps t d ht) (Inv.fresh H' (by have := H'.lim; omega) (by omega)) (fun i h1 h2 => Inv.fresh H' h1 (by omega)) ro n _ Q ?_
      intro ρ' v' w' hle hdom hv hinv hkeep
      have H1 : StOk X ρ0 np N tm' (up ++ m) (nx + nw) ρ' a w' := by
        refine ⟨hinv, fun t d ht => (H'.tmps t d ht).mono hle, H'.size, H'.defs.step hkeep rfl, fun i hi => ?_, fun i hi => ?_, hlim, by have := H'.le; omega⟩
        · rw [← H'.fix i hi]
          cases hri : ρ i with
          | some L => exact hle i L hri
          | none =>
            cases hri' : ρ' i with
            | none => rfl
            | some L' =>
              exfalso
              rcases hdom i (by rw [hri']; simp) with h1 | h1
              · exact h1 hri
              · have := H'.le; unfold Fix at hi; omega
        · rcases hdom i hi with h1 | h1
          · rcases H'.used i h1 with h2 | h2
            · left; omega
            · exact .inr h2
          · left; omega
      obtain ⟨tm2, hk2, H2⟩ := H1.put hR hv
      exact seq_sound hΓ hK ops r (k + 1) tm2 _ _ ρ' _ w' hd' hk2 H2
    · rw [if_neg (by rw [hw]; simp)]
      refine ⟨fun _ _ => trivial, ?_⟩
      obtain ⟨tm2, hk2, H2⟩ := H'.put (v' := undef) h ⟨[], rfl, trivial⟩
      exact seq_sound hΓ hK ops r (k + 1) tm2 _ _ ρ _ w hd' hk2 H2
end Go.Proofs.YtodkhgofmgaafaaDoor.Av

namespace Go.Proofs.YtodkhgofmgaafaaDoor.Av
open Go
set_option linter.all false
set_option maxRecDepth 3000

/-! a region whose order is drawn -/

/-- what is known of an operation that was met -/
structure Info where
  dst : Option Nat
  looks : List Nat
  keys : List Nat
  foot : List Nat
  pre : List Nat

def disj : List Nat → List Nat → Bool
  | [], _ => true
  | x :: xs, ys => match memB x ys with
    | true => false
    | false => disj xs ys

theorem disj_spec {xs ys : List Nat} (h : disj xs ys = true) : ∀ x ∈ xs, x ∉ ys := by
  induction xs with
  | nil => intro x hx; simp at hx
  | cons y xs ih =>
    simp only [disj] at h
    split at h <;> try contradiction
    rename_i hb
    intro x hx
    rcases List.mem_cons.1 hx with rfl | hx
    · intro hm; rw [memB_iff.2 hm] at hb; cases hb
    · exact ih h x hx

def notIn (d : Option Nat) (l : List Nat) : Bool :=
  match d with
  | none => true
  | some t => match memB t l with
    | true => false
    | false => true

theorem notIn_spec {d : Option Nat} {l : List Nat} (h : notIn d l = true) : ∀ t, d = some t → t ∉ l := by
  intro t ht hm
  subst ht
  simp [notIn, memB_iff.2 hm] at h

def dstNe (d d' : Option Nat) : Bool :=
  match d, d' with
  | some t, some t' => match Nat.beq t t' with
    | true => false
    | false => true
  | _, _ => true

theorem dstNe_spec {d d' : Option Nat} (h : dstNe d d' = true) : ∀ t, d = some t → d' ≠ some t := by
  intro t h1 h2
  subst h1 h2
  simp [dstNe, Nat.beq_refl] at h

/-- two operations of which neither must wait -/
def indep (x y : Info) : Bool :=
  match disj x.keys y.foot with
  | true => match disj y.keys x.foot with
    | true => match disj x.keys y.keys with
      | true => match notIn x.dst y.looks with
        | true => notIn y.dst x.looks
        | false => false
      | false => false
    | false => false
  | false => false

/-- the log: the operations met, the last one first; the i-th of n stands at n - 1 - i -/
def chkLog (y : Info) : List Info → Nat → Bool
  | [], _ => true
  | x :: r, n => match dstNe x.dst y.dst with
    | true => match memB (n - 1) y.pre with
      | true => chkLog y r (n - 1)
      | false => match indep x y with
        | true => chkLog y r (n - 1)
        | false => false
    | false => false

def nthI : List Info → Nat → Option Info
  | x :: _, 0 => some x
  | _ :: r, i + 1 => nthI r i
  | [], _ => none

def uni : List Nat → List Nat → List Nat
  | [], b => b
  | x :: r, b => match memB x b with
    | true => uni r b
    | false => x :: uni r b

theorem uni_mem {x : Nat} : ∀ {a b : List Nat}, x ∈ uni a b → x ∈ a ∨ x ∈ b
  | [], _, h => .inr h
  | y :: r, b, h => by
    simp only [uni] at h
    split at h
    · rcases uni_mem h with h | h
      · exact .inl (List.mem_cons_of_mem _ h)
      · exact .inr h
    · rcases List.mem_cons.1 h with rfl | h
      · simp
      · rcases uni_mem h with h | h
        · exact .inl (List.mem_cons_of_mem _ h)
        · exact .inr h

/-- all that must be done ahead: the edges' ends, and what stands ahead of these -/
def preOf (log : List Info) (n : Nat) : List Edge → Option (List Nat)
  | [] => some []
  | e :: r => match preOf log n r with
    | some l => match Region.binds .any e with
      | true => match Nat.blt e.on n with
        | true => match nthI log (n - 1 - e.on) with
          | some x => some (uni (e.on :: x.pre) l)
          | none => none
        | false => none
      | false => some l
    | none => none

def guardTmp (ops : List Oper) (o : Oper) : List Nat :=
  match o.guard with
  | none => []
  | some (j, _) => match dstAt ops j with
    | some t => [t]
    | none => []

def keysOf : Mem → List Nat
  | [] => []
  | (i, _) :: r => i :: keysOf r

theorem keysOf_eq : ∀ m : Mem, keysOf m = m.map (·.1)
  | [] => rfl
  | (i, e) :: r => by simp [keysOf, keysOf_eq r]

/-- the checks over the whole region, in the text's order: each operation's edges and what is known of it -/
def chkR : List (List Edge × Info) → Nat → List Info → Bool
  | [], _, _ => true
  | (es, y) :: r, j, log => match preOf log j es with
    | some pre => match chkLog ⟨y.dst, y.looks, y.keys, y.foot, pre⟩ log j with
      | true => chkR r (j + 1) (⟨y.dst, y.looks, y.keys, y.foot, pre⟩ :: log)
      | false => false
    | none => false

structure ChkG (b : Bool) (K : Prop) : Prop where
  chk : b = true
  go : K

def revA : List (List Edge × Info) → List (List Edge × Info) → List (List Edge × Info)
  | [], l => l
  | x :: r, l => revA r (x :: l)

noncomputable def drwP (P : Program) (Γ : Tab) (N : Nat) (ops : List Oper) (l : List Oper) : List (List Edge × Info) → TM → Mem → Nat → (TM → Mem → Nat → Prop) → Prop :=
  @List.rec Oper (fun _ => List (List Edge × Info) → TM → Mem → Nat → (TM → Mem → Nat → Prop) → Prop) (fun acc tm m nx K => ChkG (chkR (revA acc []) 0 []) (K tm m nx))
    (fun o _ ih acc tm m nx K => guardP ops o tm
      (fun tm => step1 P Γ o.op tm m nx (fun v up nw foot => limP nx nw (putP N o.dst v tm (fun tm =>
        ih ((o.after.toList, ⟨o.dst, guardTmp ops o ++ tmpsOf o.op.operands.toList, keysOf up, foot, []⟩) :: acc) tm (up ++ m) (nx + nw) K))))
      (fun tm => putP N o.dst (.tup []) tm (fun tm => ih ((o.after.toList, ⟨o.dst, guardTmp ops o ++ tmpsOf o.op.operands.toList, [], [], []⟩) :: acc) tm m nx K))) l

theorem drwP_cons {P : Program} {Γ : Tab} {N : Nat} {ops : List Oper} {o : Oper} {r : List Oper} {acc : List (List Edge × Info)} {tm : TM} {m : Mem} {nx : Nat} {K : TM → Mem → Nat → Prop} : drwP P Γ N ops (o :: r) acc tm m nx K = guardP ops o tm
      (fun tm => step1 P Γ o.op tm m nx (fun v up nw foot => limP nx nw (putP N o.dst v tm (fun tm =>
        drwP P Γ N ops r ((o.after.toList, ⟨o.dst, guardTmp ops o ++ tmpsOf o.op.operands.toList, keysOf up, foot, []⟩) :: acc) tm (up ++ m) (nx + nw) K))))
      (fun tm => putP N o.dst (.tup []) tm (fun tm => drwP P Γ N ops r ((o.after.toList, ⟨o.dst, guardTmp ops o ++ tmpsOf o.op.operands.toList, [], [], []⟩) :: acc) tm m nx K)) := rfl

def putTm (dst : Option Nat) (v : D) (tm : TM) : TM :=
  match dst with
  | some t => (t, v) :: tm
  | none => tm

/-- a step of the canonical run -/
structure Rec where
  o : Oper
  want : Bool      -- is it done?
  tm : TM          -- ahead of it
  m : Mem
  nx : Nat
  v : D
  up : Mem
  nw : Nat
  foot : List Nat
  info : Info

/-- what a guard's operation yielded, and whether the guarded one is done -/
def GB (x : Option D) (w want : Bool) : Prop :=
  match x with
  | some (.bool b) => want = (b == w)
  | some (.tup []) => want = false
  | _ => False

/-- the canonical run, from the j-th operation on -/
def Run (P : Program) (X : Ctx) (N : Nat) (ops : List Oper) : List Rec → Nat → List Info → TM → Mem → Nat → (TM → Mem → Nat → Prop) → Prop
  | [], j, _, tm, m, nx, K => ops.drop j = [] ∧ K tm m nx
  | r :: rs, j, log, tm, m, nx, K => ops[j]? = some r.o ∧ (∀ t, lk r.tm t = lk tm t) ∧ r.m = m ∧ r.nx = nx ∧ nx + r.nw ≤ 999998 ∧
      (match r.o.guard with | none => r.want = true | some (g, w) => ∃ t, dstAt ops g = some t ∧ GB (lk tm t) w r.want) ∧
      (r.want = true → Does P X r.tm (get m) r.o nx r.v r.up r.nw r.foot ∧ (∀ k ∈ keysOf r.up, k ∈ r.foot ∨ (nx ≤ k ∧ k < nx + r.nw))) ∧
      (r.want = false → r.up = [] ∧ r.nw = 0 ∧ r.v = .tup [] ∧ r.foot = []) ∧
      r.info.dst = r.o.dst ∧ r.info.looks = guardTmp ops r.o ++ tmpsOf r.o.op.operands.toList ∧ r.info.keys = keysOf r.up ∧ r.info.foot = r.foot ∧
      preOf log j r.o.after.toList = some r.info.pre ∧ chkLog r.info log j = true ∧
      (∀ t, r.o.dst = some t → t < N) ∧
      Run P X N ops rs (j + 1) (r.info :: log) (putTm r.o.dst r.v r.tm) (r.up ++ m) (nx + r.nw) K

theorem putP_spec {N : Nat} {dst : Option Nat} {v : D} {tm : TM} {K : TM → Prop} (h : putP N dst v tm K) : (∀ t, dst = some t → t < N) ∧ K (putTm dst v tm) := by
  cases dst with
  | none => exact ⟨(fun t ht => by cases ht), h⟩
  | some t =>
    simp only [putP] at h
    split at h <;> try contradiction
    rename_i hb
    exact ⟨(fun s hs => by cases hs; rw [blt_eq] at hb; simpa using hb), h⟩

/-- a guard, read off the canonical state alone -/
theorem guardP_spec {ops : List Oper} {o : Oper} {tm : TM} {A B : TM → Prop} (h : guardP ops o tm A B) :
    ∃ (tm' : TM) (want : Bool), (∀ t, lk tm' t = lk tm t) ∧ (match o.guard with | none => want = true | some (g, w) => ∃ t, dstAt ops g = some t ∧ GB (lk tm t) w want) ∧
      ((want = true ∧ A tm') ∨ (want = false ∧ B tm')) := by
  unfold guardP at h
  cases hg : o.guard with
  | none => simp only [hg] at h; exact ⟨tm, true, fun _ => rfl, rfl, .inl ⟨rfl, h⟩⟩
  | some p =>
    obtain ⟨g, w⟩ := p
    simp only [hg] at h
    split at h <;> try contradiction
    rename_i t ht
    split at h <;> try contradiction
    rotate_left
    · rename_i hb
      exact ⟨tm, false, fun _ => rfl, ⟨t, ht, by rw [hb]; rfl⟩, .inr ⟨rfl, h⟩⟩
    rename_i b hb
    have hlk : ∀ c : Bool, b = c → ∀ s, lk ((t, .bool c) :: tm) s = lk tm s := by
      intro c hc s
      rw [lk_cons]
      split
      · subst_vars; rw [hb]
      · rfl
    cases w <;> simp only at h <;> cases b
    · exact ⟨_, true, hlk false rfl, ⟨t, ht, by rw [hb]; rfl⟩, .inl ⟨rfl, h.2 rfl⟩⟩
    · exact ⟨_, false, hlk true rfl, ⟨t, ht, by rw [hb]; rfl⟩, .inr ⟨rfl, h.1 rfl⟩⟩
    · exact ⟨_, false, hlk false rfl, ⟨t, ht, by rw [hb]; rfl⟩, .inr ⟨rfl, h.2 rfl⟩⟩
    · exact ⟨_, true, hlk true rfl, ⟨t, ht, by rw [hb]; rfl⟩, .inl ⟨rfl, h.1 rfl⟩⟩

/-- the canonical run, ahead of the checks -/
def Run0 (P : Program) (X : Ctx) (N : Nat) (ops : List Oper) : List Rec → (List (List Edge × Info) → Prop) → Nat → TM → Mem → Nat → (TM → Mem → Nat → Prop) → Prop
  | [], E, j, tm, m, nx, K => ops.drop j = [] ∧ E [] ∧ K tm m nx
  | r :: rs, E, j, tm, m, nx, K => ops[j]? = some r.o ∧ (∀ t, lk r.tm t = lk tm t) ∧ r.m = m ∧ r.nx = nx ∧ nx + r.nw ≤ 999998 ∧
      (match r.o.guard with | none => r.want = true | some (g, w) => ∃ t, dstAt ops g = some t ∧ GB (lk tm t) w r.want) ∧
      (r.want = true → Does P X r.tm (get m) r.o nx r.v r.up r.nw r.foot ∧ (∀ k ∈ keysOf r.up, k ∈ r.foot ∨ (nx ≤ k ∧ k < nx + r.nw))) ∧
      (r.want = false → r.up = [] ∧ r.nw = 0 ∧ r.v = .tup [] ∧ r.foot = []) ∧
      r.info.dst = r.o.dst ∧ r.info.looks = guardTmp ops r.o ++ tmpsOf r.o.op.operands.toList ∧ r.info.keys = keysOf r.up ∧ r.info.foot = r.foot ∧
      (∀ t, r.o.dst = some t → t < N) ∧
      Run0 P X N ops rs (fun l => E ((r.o.after.toList, r.info) :: l)) (j + 1) (putTm r.o.dst r.v r.tm) (r.up ++ m) (nx + r.nw) K

theorem run0_E {P : Program} {X : Ctx} {N : Nat} {ops : List Oper} {K : TM → Mem → Nat → Prop} : ∀ (rs : List Rec) (E : List (List Edge × Info) → Prop) (j : Nat) (tm : TM) (m : Mem) (nx : Nat), Run0 P X N ops rs E j tm m nx K → ∃ l, E l
  | [], E, j, tm, m, nx, h => ⟨[], h.2.1⟩
  | r :: rs, E, j, tm, m, nx, h => by
    obtain ⟨_, _, _, _, _, _, _, _, _, _, _, _, _, h⟩ := h
    obtain ⟨l, hl⟩ := run0_E rs _ _ _ _ _ h
    exact ⟨_, hl⟩

theorem run_of {P : Program} {X : Ctx} {N : Nat} {ops : List Oper} {K : TM → Mem → Nat → Prop} : ∀ (rs : List Rec) (j : Nat) (log : List Info) (tm : TM) (m : Mem) (nx : Nat), Run0 P X N ops rs (fun l => chkR l j log = true) j tm m nx K →
    ∃ rs', Run P X N ops rs' j log tm m nx K
  | [], j, log, tm, m, nx, h => ⟨[], h.1, h.2.2⟩
  | r :: rs, j, log, tm, m, nx, h => by
    obtain ⟨h1, h2, h3, h4, h5, h6, h7, h8, h9, h10, h11, h12, h13, h⟩ := h
    cases hp : preOf log j r.o.after.toList with
    | none =>
      obtain ⟨l, hl⟩ := run0_E rs _ _ _ _ _ h
      simp only [chkR, hp] at hl
      cases hl
    | some pre =>
      cases hc : chkLog ⟨r.info.dst, r.info.looks, r.info.keys, r.info.foot, pre⟩ log j with
      | false =>
        obtain ⟨l, hl⟩ := run0_E rs _ _ _ _ _ h
        simp only [chkR, hp, hc] at hl
        cases hl
      | true =>
        simp only [chkR, hp, hc] at h
        obtain ⟨rs', hr⟩ := run_of rs (j + 1) _ _ _ _ h
        exact ⟨⟨r.o, r.want, r.tm, r.m, r.nx, r.v, r.up, r.nw, r.foot, ⟨r.info.dst, r.info.looks, r.info.keys, r.info.foot, pre⟩⟩ :: rs', h1, h2, h3, h4, h5, h6, h7, h8, h9, h10, h11, h12, hp, hc, h13, hr⟩

theorem drw_run0 {P : Program} {Γ : Tab} (hΓ : TabOk P Γ) {X : Ctx} {N : Nat} (ops : List Oper) {K : TM → Mem → Nat → Prop} :
    ∀ (r : List Oper) (j : Nat) (acc : List (List Edge × Info)) (tm : TM) (m : Mem) (nx : Nat), ops.drop j = r → nx ≤ 999998 → drwP P Γ N ops r acc tm m nx K → ∃ rs, Run0 P X N ops rs (fun l => chkR (revA acc l) 0 [] = true) j tm m nx K
  | [], j, acc, tm, m, nx, hd, _, h => ⟨[], hd, ChkG.chk (K := K tm m nx) h, ChkG.go (b := chkR (revA acc []) 0 []) h⟩
  | o :: r, j, acc, tm, m, nx, hd, hnx, h => by
    have hget : ops[j]? = some o := by rw [← List.head?_drop, hd]; rfl
    have hd' : ops.drop (j + 1) = r := by rw [← List.tail_drop, hd]; rfl
    rw [drwP_cons] at h
    obtain ⟨tm', want, hsame, hgd, hw⟩ := guardP_spec h
    rcases hw with ⟨rfl, h⟩ | ⟨rfl, h⟩
    · obtain ⟨v, up, nw, foot, hR, hdoes, hkeys⟩ := step1_does hΓ (X := X) h
      unfold limP at hR
      split at hR <;> try contradiction
      rename_i hlim
      obtain ⟨h4, h5⟩ := putP_spec hR
      have hlim := Nat.le_of_ble_eq_true hlim
      obtain ⟨rs, h6⟩ := drw_run0 hΓ (X := X) ops r (j + 1) _ _ _ _ hd' hlim h5
      exact ⟨⟨o, true, tm', m, nx, v, up, nw, foot, ⟨o.dst, guardTmp ops o ++ tmpsOf o.op.operands.toList, keysOf up, foot, []⟩⟩ :: rs, hget, hsame, rfl, rfl, hlim, hgd, fun _ => ⟨hdoes, by rw [keysOf_eq]; exact hkeys⟩,
        (fun h => by cases h), rfl, rfl, rfl, rfl, h4, h6⟩
    · obtain ⟨h4, h5⟩ := putP_spec h
      obtain ⟨rs, h6⟩ := drw_run0 hΓ (X := X) ops r (j + 1) _ _ _ _ hd' hnx h5
      exact ⟨⟨o, false, tm', m, nx, .tup [], [], 0, [], ⟨o.dst, guardTmp ops o ++ tmpsOf o.op.operands.toList, [], [], []⟩⟩ :: rs, hget, hsame, rfl, rfl, hnx, hgd, (fun h => by cases h),
        fun _ => ⟨rfl, rfl, rfl, rfl⟩, rfl, rfl, rfl, rfl, h4, h6⟩

theorem drw_run {P : Program} {Γ : Tab} (hΓ : TabOk P Γ) {X : Ctx} {N : Nat} (ops : List Oper) {K : TM → Mem → Nat → Prop} {tm : TM} {m : Mem} {nx : Nat} (hnx : nx ≤ 999998) (h : drwP P Γ N ops ops [] tm m nx K) :
    ∃ rs, Run P X N ops rs 0 [] tm m nx K := by
  obtain ⟨rs, h1⟩ := drw_run0 hΓ (X := X) ops ops 0 [] tm m nx rfl hnx h
  exact run_of rs 0 [] tm m nx h1

/-- what the canonical state is, behind these steps -/
structure Char (tm0 : TM) (m0 : Mem) (nx0 : Nat) (ps : List Rec) (tm : TM) (m : Mem) (nx : Nat) : Prop where
  tmW : ∀ (i : Nat) (r : Rec) (t : Nat), ps[i]? = some r → r.o.dst = some t → lk tm t = some r.v
  tmO : ∀ t : Nat, (∀ (i : Nat) (r : Rec), ps[i]? = some r → r.o.dst ≠ some t) → lk tm t = lk tm0 t
  mW : ∀ (b i : Nat) (r : Rec), ps[i]? = some r → b ∈ keysOf r.up → (∀ (k : Nat) (r' : Rec), i < k → ps[k]? = some r' → b ∉ keysOf r'.up) → get m b = get r.up b
  mO : ∀ b : Nat, (∀ (i : Nat) (r : Rec), ps[i]? = some r → b ∉ keysOf r.up) → get m b = get m0 b
  nxs : ∀ (i : Nat) (r : Rec), ps[i]? = some r → nx0 ≤ r.nx ∧ r.nx + r.nw ≤ nx
  le : nx0 ≤ nx

structure Fact (P : Program) (X : Ctx) (N : Nat) (ops : List Oper) (tm0 : TM) (m0 : Mem) (nx0 : Nat) (ps : List Rec) (j : Nat) (r : Rec) : Prop where
  op : ops[j]? = some r.o
  char : Char tm0 m0 nx0 (ps.take j) r.tm r.m r.nx
  lim : r.nx + r.nw ≤ 999998
  guard : match r.o.guard with | none => r.want = true | some (g, w) => ∃ t, dstAt ops g = some t ∧ GB (lk r.tm t) w r.want
  does : r.want = true → Does P X r.tm (get r.m) r.o r.nx r.v r.up r.nw r.foot ∧ (∀ k ∈ keysOf r.up, k ∈ r.foot ∨ (r.nx ≤ k ∧ k < r.nx + r.nw))
  skip : r.want = false → r.up = [] ∧ r.nw = 0 ∧ r.v = .tup [] ∧ r.foot = []
  looks : r.info.looks = guardTmp ops r.o ++ tmpsOf r.o.op.operands.toList
  keys : r.info.keys = keysOf r.up
  foot : r.info.foot = r.foot
  dst : r.info.dst = r.o.dst
  small : ∀ t, r.o.dst = some t → t < N
  pair : ∀ (i : Nat) (r' : Rec), i < j → ps[i]? = some r' → dstNe r'.o.dst r.o.dst = true ∧ (i ∈ r.info.pre ∨ indep r'.info r.info = true)
  edge : ∀ e ∈ r.o.after.toList, Region.binds .any e = true → e.on < j
  pre : ∀ x ∈ r.info.pre, ∃ e ∈ r.o.after.toList, Region.binds .any e = true ∧ e.on < j ∧ (x = e.on ∨ ∃ r', ps[e.on]? = some r' ∧ x ∈ r'.info.pre)

theorem preOf_spec {log : List Info} {n : Nat} : ∀ {es : List Edge} {l : List Nat}, preOf log n es = some l →
    (∀ e ∈ es, Region.binds .any e = true → e.on < n) ∧ ∀ x ∈ l, ∃ e ∈ es, Region.binds .any e = true ∧ e.on < n ∧ (x = e.on ∨ ∃ i, nthI log (n - 1 - e.on) = some i ∧ x ∈ i.pre)
  | [], l, h => by
    simp only [preOf, Option.some.injEq] at h; subst h
    exact ⟨fun e he => by simp at he, fun x hx => by simp at hx⟩
  | e :: es, l, h => by
    simp only [preOf] at h
    cases h1 : preOf log n es with
    | none => simp [h1] at h
    | some l1 =>
      obtain ⟨ih1, ih2⟩ := preOf_spec h1
      simp only [h1] at h
      cases hb : Region.binds .any e with
      | false =>
        simp only [hb, Option.some.injEq] at h
        subst h
        refine ⟨fun e' he' hb' => ?_, fun x hx => ?_⟩
        · rcases List.mem_cons.1 he' with rfl | he'
          · rw [hb] at hb'; cases hb'
          · exact ih1 e' he' hb'
        · obtain ⟨e', he', h2⟩ := ih2 x hx
          exact ⟨e', by simp [he'], h2⟩
      | true =>
        simp only [hb] at h
        cases hlt : Nat.blt e.on n with
        | false => simp [hlt] at h
        | true =>
          simp only [hlt] at h
          have hlt' : e.on < n := by rw [blt_eq] at hlt; simpa using hlt
          cases hn : nthI log (n - 1 - e.on) with
          | none => simp [hn] at h
          | some i =>
            simp only [hn, Option.some.injEq] at h
            subst h
            refine ⟨fun e' he' hb' => ?_, fun x hx => ?_⟩
            · rcases List.mem_cons.1 he' with rfl | he'
              · exact hlt'
              · exact ih1 e' he' hb'
            · rcases uni_mem hx with hx | hx
              · rcases List.mem_cons.1 hx with rfl | hx
                · exact ⟨e, by simp, hb, hlt', .inl rfl⟩
                · exact ⟨e, by simp, hb, hlt', .inr ⟨i, hn, hx⟩⟩
              · obtain ⟨e', he', h2⟩ := ih2 x hx
                exact ⟨e', by simp [he'], h2⟩

theorem nthI_eq : ∀ (l : List Info) (i : Nat), nthI l i = l[i]?
  | [], _ => by simp [nthI]
  | _ :: _, 0 => by simp [nthI]
  | _ :: l, i + 1 => by simp [nthI, nthI_eq l i]

theorem chkLog_spec {y : Info} : ∀ {log : List Info} {n : Nat}, log.length = n → chkLog y log n = true → ∀ (i : Nat) (x : Info), i < n → log[n - 1 - i]? = some x → dstNe x.dst y.dst = true ∧ (i ∈ y.pre ∨ indep x y = true)
  | [], n, hl, _, i, x, hi, hx => by simp at hx
  | z :: r, n, hl, h, i, x, hi, hx => by
    simp only [List.length_cons] at hl
    simp only [chkLog] at h
    split at h <;> try contradiction
    rename_i hd
    have ih := chkLog_spec (y := y) (log := r) (n := n - 1) (by omega)
    by_cases hin : i = n - 1
    · rw [hin, show n - 1 - (n - 1) = 0 by omega] at hx
      simp at hx
      subst hx
      refine ⟨hd, ?_⟩
      split at h
      · rename_i hm; left; rw [hin]; exact memB_iff.1 hm
      · split at h <;> try contradiction
        rename_i hi'
        exact .inr hi'
    · have hx' : r[n - 1 - 1 - i]? = some x := by
        rw [show n - 1 - i = (n - 1 - 1 - i) + 1 by omega] at hx
        simpa using hx
      have hr : chkLog y r (n - 1) = true := by
        split at h
        · exact h
        · split at h <;> try contradiction
          exact h
      exact ih hr i x (by omega) hx'

theorem get_nokey {m : Mem} {b : Nat} : ∀ {up : Mem}, b ∉ keysOf up → get (up ++ m) b = get m b := by
  intro up h
  rw [get_append, if_neg (by rw [← keysOf_eq]; exact h)]

theorem get_key {m : Mem} {b : Nat} {up : Mem} (h : b ∈ keysOf up) : get (up ++ m) b = get up b := by
  rw [get_append, if_pos (by rw [← keysOf_eq]; exact h)]

theorem snoc_get {α : Type} {l : List α} {x y : α} {i : Nat} (h : (l ++ [x])[i]? = some y) : (i < l.length ∧ l[i]? = some y) ∨ (i = l.length ∧ y = x) := by
  rcases Nat.lt_trichotomy i l.length with h' | h' | h'
  · rw [List.getElem?_append_left h'] at h; exact .inl ⟨h', h⟩
  · subst h'; simp at h; exact .inr ⟨rfl, h.symm⟩
  · rw [List.getElem?_append_right (by omega)] at h
    rw [List.getElem?_eq_none (by simp; omega)] at h
    cases h

theorem Char.step {tm0 : TM} {m0 : Mem} {nx0 : Nat} {ps : List Rec} {r : Rec} (H : Char tm0 m0 nx0 ps r.tm r.m r.nx) (hd : ∀ (i : Nat) (r' : Rec), ps[i]? = some r' → dstNe r'.o.dst r.o.dst = true) :
    Char tm0 m0 nx0 (ps ++ [r]) (putTm r.o.dst r.v r.tm) (r.up ++ r.m) (r.nx + r.nw) := by
  refine ⟨fun i r' t hi ht => ?_, fun t h => ?_, fun b i r' hi hb hk => ?_, fun b h => ?_, fun i r' hi => ?_, by have := H.le; omega⟩
  · rcases snoc_get hi with ⟨h1, h2⟩ | ⟨h1, rfl⟩
    · cases hdr : r.o.dst with
      | none => exact H.tmW i r' t h2 ht
      | some t' =>
        simp only [putTm]
        rw [lk_cons, if_neg]
        · exact H.tmW i r' t h2 ht
        · intro e
          subst e
          exact dstNe_spec (hd i r' h2) t' ht hdr
    · rw [ht]; simp [putTm, lk_cons]
  · have hr : r.o.dst ≠ some t := h ps.length r (by simp)
    have : lk (putTm r.o.dst r.v r.tm) t = lk r.tm t := by
      cases hdr : r.o.dst with
      | none => rfl
      | some t' => simp only [putTm]; rw [lk_cons, if_neg (fun e => hr (by rw [hdr, e]))]
    rw [this]
    exact H.tmO t fun i r' hi => h i r' (by
      have : i < ps.length := by
        rcases Nat.lt_or_ge i ps.length with h' | h'
        · exact h'
        · rw [List.getElem?_eq_none h'] at hi; cases hi
      rw [List.getElem?_append_left this]; exact hi)
  · rcases snoc_get hi with ⟨h1, h2⟩ | ⟨h1, rfl⟩
    · have hnr : b ∉ keysOf r.up := hk ps.length r h1 (by simp)
      rw [get_nokey hnr]
      exact H.mW b i r' h2 hb fun k r'' hik hk' => hk k r'' hik (by
        have : k < ps.length := by
          rcases Nat.lt_or_ge k ps.length with h' | h'
          · exact h'
          · rw [List.getElem?_eq_none h'] at hk'; cases hk'
        rw [List.getElem?_append_left this]; exact hk')
    · exact get_key hb
  · have hnr : b ∉ keysOf r.up := h ps.length r (by simp)
    rw [get_nokey hnr]
    exact H.mO b fun i r' hi => h i r' (by
      have : i < ps.length := by
        rcases Nat.lt_or_ge i ps.length with h' | h'
        · exact h'
        · rw [List.getElem?_eq_none h'] at hi; cases hi
      rw [List.getElem?_append_left this]; exact hi)
  · rcases snoc_get hi with ⟨h1, h2⟩ | ⟨h1, rfl⟩
    · have := H.nxs i r' h2; omega
    · have := H.le; omega

theorem Char.congr {tm0 : TM} {m0 : Mem} {nx0 : Nat} {ps : List Rec} {tm tm' : TM} {m : Mem} {nx : Nat} (H : Char tm0 m0 nx0 ps tm m nx) (h : ∀ t, lk tm' t = lk tm t) : Char tm0 m0 nx0 ps tm' m nx :=
  ⟨fun i r t hi ht => by rw [h]; exact H.tmW i r t hi ht, fun t ht => by rw [h]; exact H.tmO t ht, H.mW, H.mO, H.nxs, H.le⟩

theorem run_facts {P : Program} {X : Ctx} {N : Nat} {ops : List Oper} {K : TM → Mem → Nat → Prop} {tm0 : TM} {m0 : Mem} {nx0 : Nat} :
    ∀ (rs ps : List Rec) (log : List Info) (tm : TM) (m : Mem) (nx : Nat), Run P X N ops rs ps.length log tm m nx K → log = (ps.map (·.info)).reverse → nx ≤ 999998 → Char tm0 m0 nx0 ps tm m nx →
      (∀ (j : Nat) (r : Rec), ps[j]? = some r → Fact P X N ops tm0 m0 nx0 ps j r) →
      ∃ qs tmF mF nxF, qs.length = ops.length ∧ (∀ (j : Nat) (r : Rec), qs[j]? = some r → Fact P X N ops tm0 m0 nx0 qs j r) ∧ Char tm0 m0 nx0 qs tmF mF nxF ∧ nxF ≤ 999998 ∧ K tmF mF nxF
  | [], ps, log, tm, m, nx, h, hlog, hnx, hc, hf => by
    obtain ⟨h1, h2⟩ := h
    refine ⟨ps, tm, m, nx, ?_, hf, hc, hnx, h2⟩
    have h3 : ops.length ≤ ps.length := List.drop_eq_nil_iff.1 h1
    rcases Nat.lt_or_ge ops.length ps.length with h4 | h4
    · have h5 : ps[ops.length]? = some ps[ops.length] := List.getElem?_eq_getElem h4
      have := (hf _ _ h5).op
      simp at this
    · omega
  | r :: rs, ps, log, tm, m, nx, h, hlog, hnx, hc, hf => by
    obtain ⟨h1, h2, h3, h4, h5, h6, h7, h8, h9, h10, h11, h12, h13, h14, h15, h16⟩ := h
    subst h3 h4
    obtain ⟨p1, p2⟩ := preOf_spec h13
    have hnth : ∀ i (r' : Rec), ps[i]? = some r' → log[ps.length - 1 - i]? = some r'.info := by
      intro i r' hi
      have hlt : i < ps.length := by
        rcases Nat.lt_or_ge i ps.length with h' | h'
        · exact h'
        · rw [List.getElem?_eq_none h'] at hi; cases hi
      rw [hlog, List.getElem?_reverse (by simp; omega)]
      simp only [List.length_map]
      rw [show ps.length - 1 - (ps.length - 1 - i) = i by omega]
      simp [hi]
    have hnth2 : ∀ i, i < ps.length → ∀ x, nthI log (ps.length - 1 - i) = some x → ∃ r', ps[i]? = some r' ∧ x = r'.info := by
      intro i hi x hx
      have h' := List.getElem?_eq_getElem hi
      refine ⟨ps[i], h', ?_⟩
      have := hnth i _ h'
      rw [nthI_eq, this] at hx
      cases hx; rfl
    have hpair : ∀ (i : Nat) (r' : Rec), i < ps.length → ps[i]? = some r' → dstNe r'.o.dst r.o.dst = true ∧ (i ∈ r.info.pre ∨ indep r'.info r.info = true) := by
      intro i r' hi hr'
      have := chkLog_spec (y := r.info) (log := log) (n := ps.length) (by rw [hlog]; simp) h14 i r'.info hi (hnth i r' hr')
      rw [(hf i r' hr').dst, h9] at this
      exact this
    have hc' : Char tm0 m0 nx0 ps r.tm r.m r.nx := hc.congr h2
    have hfact : Fact P X N ops tm0 m0 nx0 (ps ++ [r]) ps.length r := by
      refine ⟨h1, by rw [List.take_left]; exact hc', h5, ?_, h7, h8, h10, h11, h12, h9, h15, fun i r' hi hr' => ?_, p1, fun x hx => ?_⟩
      · cases hg : r.o.guard with
        | none => rw [hg] at h6; exact h6
        | some p =>
          obtain ⟨g, wnt⟩ := p
          rw [hg] at h6
          obtain ⟨t, k1, k2⟩ := h6
          exact ⟨t, k1, by rw [h2]; exact k2⟩
      · rw [List.getElem?_append_left hi] at hr'
        exact hpair i r' hi hr'
      · obtain ⟨e, he, hb, hlt, hor⟩ := p2 x hx
        refine ⟨e, he, hb, hlt, ?_⟩
        rcases hor with h | ⟨i, hi, hxi⟩
        · exact .inl h
        · obtain ⟨r', hr', rfl⟩ := hnth2 e.on hlt i hi
          exact .inr ⟨r', by rw [List.getElem?_append_left hlt]; exact hr', hxi⟩
    have hstep := hc'.step (r := r) fun i r' hi => by
      have hlt : i < ps.length := by
        rcases Nat.lt_or_ge i ps.length with h' | h'
        · exact h'
        · rw [List.getElem?_eq_none h'] at hi; cases hi
      exact (hpair i r' hlt hi).1
    have hf' : ∀ (j : Nat) (r' : Rec), (ps ++ [r])[j]? = some r' → Fact P X N ops tm0 m0 nx0 (ps ++ [r]) j r' := by
      intro j r' hj
      rcases snoc_get hj with ⟨hlt, hr'⟩ | ⟨rfl, rfl⟩
      · obtain ⟨q1, q2, q3, q4, q5, q6, q7, q8, q9, q10, q11, q12, q13, q14⟩ := hf j r' hr'
        refine ⟨q1, by rw [List.take_append_of_le_length (by omega)]; exact q2, q3, q4, q5, q6, q7, q8, q9, q10, q11, fun i r'' hi hr'' => ?_, q13, fun x hx => ?_⟩
        · rw [List.getElem?_append_left (by omega)] at hr''
          exact q12 i r'' hi hr''
        · obtain ⟨e, he, hb, hl, hor⟩ := q14 x hx
          refine ⟨e, he, hb, hl, ?_⟩
          rcases hor with h | ⟨r'', hr'', hx'⟩
          · exact .inl h
          · exact .inr ⟨r'', by rw [List.getElem?_append_left (by omega)]; exact hr'', hx'⟩
      · exact hfact
    have hlen : (ps ++ [r]).length = ps.length + 1 := by simp
    exact run_facts rs (ps ++ [r]) (r.info :: log) _ _ _ (by rw [hlen]; exact h16) (by rw [hlog]; simp) h5 hstep hf'
end Go.Proofs.YtodkhgofmgaafaaDoor.Av

namespace Go.Proofs.YtodkhgofmgaafaaDoor.Av
open Go
set_option linter.all false
set_option maxRecDepth 3000

theorem Inv.congr {X : Ctx} {ρ : Env} {m m' : Mem} {w : World} (H : Inv X ρ m w) (h : ∀ b, get m' b = get m b) : Inv X ρ m' w where
  glob := H.glob
  sat i e hi := H.sat i e (by rw [← h]; exact hi)
  inj i j ei ej Li Lj hi hj := H.inj i j ei ej Li Lj (by rw [← h]; exact hi) (by rw [← h]; exact hj)
  own i e L hi := H.own i e L (by rw [← h]; exact hi)
  ext := H.ext
  size := H.size
  os := H.os
  out := H.out
  tape := H.tape

theorem last_or_none (p : Nat → Prop) : ∀ n : Nat, (∃ i, i < n ∧ p i ∧ ∀ k, i < k → k < n → ¬ p k) ∨ ∀ i, i < n → ¬ p i
  | 0 => .inr fun i h => by omega
  | n + 1 => by
    by_cases hn : p n
    · exact .inl ⟨n, Nat.lt_succ_self n, hn, fun k h1 h2 => by omega⟩
    · rcases last_or_none p n with ⟨i, h1, h2, h3⟩ | h
      · refine .inl ⟨i, by omega, h2, fun k h4 h5 => ?_⟩
        by_cases hk : k = n
        · subst hk; exact hn
        · exact h3 k h4 (by omega)
      · refine .inr fun i h1 => ?_
        by_cases hk : i = n
        · subst hk; exact hn
        · exact h i (by omega)

/-- a guard that was read off is the one that the model reads -/
theorem wanted_of {ops : List Oper} {o : Oper} {tm : TM} {a : Act} {ρ : Env} {want : Bool} (h : match o.guard with | none => want = true | some (g, w) => ∃ t, dstAt ops g = some t ∧ GB (lk tm t) w want)
    (H : ∀ t ∈ guardTmp ops o, ∀ d, lk tm t = some d → Rep ρ d (a.tmps.getD t undef)) : Region.wanted o (yielded ops.toArray a.tmps) = want := by
  cases hg : o.guard with
  | none => rw [hg] at h; simp only at h; subst h; simp [Region.wanted, hg]
  | some p =>
    obtain ⟨j, w⟩ := p
    rw [hg] at h
    simp only at h
    obtain ⟨t, ht, hb⟩ := h
    unfold GB at hb
    split at hb <;> try contradiction
    rotate_left
    · rename_i hb'
      subst hb
      obtain ⟨vs, hv, hvs⟩ : Rep ρ (.tup []) (a.tmps.getD t undef) := H t (by simp [guardTmp, hg, ht]) _ hb'
      cases vs with
      | nil => exact wanted_skip hg ht hv
      | cons => exact hvs.elim
    rename_i b hb'
    subst hb
    have hv : a.tmps.getD t undef = .bool b := H t (by simp [guardTmp, hg, ht]) _ hb'
    have hlt : t < a.tmps.size := by
      rcases Nat.lt_or_ge t a.tmps.size with h' | h'
      · exact h'
      · simp [Array.getD_eq_getD_getElem?, Array.getElem?_eq_none h', undef] at hv
    have hget : a.tmps[t]? = some (.bool b) := by
      rw [Array.getD_eq_getD_getElem?, Array.getElem?_eq_getElem hlt] at hv
      simp at hv
      rw [Array.getElem?_eq_getElem hlt, hv]
    have hy : yielded ops.toArray a.tmps j = some b := by
      unfold yielded
      have : ((ops.toArray[j]?).bind (·.dst)) = some t := by rw [List.getElem?_toArray, ← dstAt_eq, ht]
      rw [this]
      simp [hget]
    simp [Region.wanted, hg, hy]

/-- what holds when these have been listed -/
structure Mid (X : CtxK) (ρ0 : Env) (np N : Nat) (tm0 : TM) (m0 : Mem) (nx0 : Nat) (qs : List Rec) (S : Nat → Prop) (ρ : Env) (m : Mem) (a : Act) (w : World) : Prop where
  lt : ∀ j, S j → j < qs.length
  down : ∀ j r, S j → qs[j]? = some r → ∀ e ∈ r.o.after.toList, Region.binds .any e = true → S e.on
  inv : Inv X.c ρ m w
  mW : ∀ (b i : Nat) (r : Rec), S i → qs[i]? = some r → b ∈ keysOf r.up → (∀ (k : Nat) (r' : Rec), S k → i < k → qs[k]? = some r' → b ∉ keysOf r'.up) → get m b = get r.up b
  mO : ∀ b : Nat, (∀ (i : Nat) (r : Rec), S i → qs[i]? = some r → b ∉ keysOf r.up) → get m b = get m0 b
  tW : ∀ (i : Nat) (r : Rec) (t : Nat), S i → qs[i]? = some r → r.o.dst = some t → Rep ρ r.v (a.tmps.getD t undef)
  tO : ∀ (t : Nat), (∀ (i : Nat) (r : Rec), S i → qs[i]? = some r → r.o.dst ≠ some t) → ∀ d, lk tm0 t = some d → Rep ρ d (a.tmps.getD t undef)
  size : a.tmps.size = N
  defs : Side X a w
  fix : ∀ i, Fix np i → ρ i = ρ0 i
  used : ∀ i, ρ i ≠ none → i < nx0 ∨ 1000000 ≤ i ∨ ∃ j r, S j ∧ qs[j]? = some r ∧ r.nx ≤ i ∧ i < r.nx + r.nw

theorem take_get {α : Type} {l : List α} {j i : Nat} {x : α} (h : (l.take j)[i]? = some x) : i < j ∧ l[i]? = some x := by
  rw [List.getElem?_take] at h
  split at h
  · rename_i hlt; exact ⟨hlt, h⟩
  · cases h

theorem get_take {α : Type} {l : List α} {j i : Nat} {x : α} (h : l[i]? = some x) (hlt : i < j) : (l.take j)[i]? = some x := by
  rw [List.getElem?_take, if_pos hlt]; exact h

theorem indep_spec {x y : Info} (h : indep x y = true) : disj x.keys y.foot = true ∧ disj y.keys x.foot = true ∧ disj x.keys y.keys = true ∧ notIn x.dst y.looks = true ∧ notIn y.dst x.looks = true := by
  unfold indep at h
  repeat' split at h
  all_goals first
    | contradiction
    | exact ⟨by assumption, by assumption, by assumption, by assumption, h⟩

section
variable {P : Program} {X : CtxK} {N : Nat} {ops : List Oper} {tm0 : TM} {m0 : Mem} {nx0 : Nat} {qs : List Rec} (hlen : qs.length = ops.length)
  (hf : ∀ (j : Nat) (r : Rec), qs[j]? = some r → Fact P X.c N ops tm0 m0 nx0 qs j r)

theorem ltOfGet {α : Type} {l : List α} {i : Nat} {x : α} (h : l[i]? = some x) : i < l.length := by
  rcases Nat.lt_or_ge i l.length with h' | h'
  · exact h'
  · rw [List.getElem?_eq_none h'] at h; cases h

include hf

theorem pre_sub {S : Nat → Prop} (hd : ∀ j r, S j → qs[j]? = some r → ∀ e ∈ r.o.after.toList, Region.binds .any e = true → S e.on) :
    ∀ (n j : Nat) (r : Rec), j < n → S j → qs[j]? = some r → ∀ x ∈ r.info.pre, S x
  | 0, j, r, h, _, _, _, _ => by omega
  | n + 1, j, r, h, hS, hr, x, hx => by
    obtain ⟨e, he, hb, hlt, hor⟩ := (hf j r hr).pre x hx
    have hSe := hd j r hS hr e he hb
    rcases hor with rfl | ⟨r', hr', hx'⟩
    · exact hSe
    · exact pre_sub hd n e.on r' (by omega) hSe hr' x hx'

theorem pre_sub' {S : Nat → Prop} (hd : ∀ j r, S j → qs[j]? = some r → ∀ e ∈ r.o.after.toList, Region.binds .any e = true → S e.on) {j : Nat} {r : Rec} (hr : qs[j]? = some r)
    (hj : ∀ e ∈ r.o.after.toList, Region.binds .any e = true → S e.on) : ∀ x ∈ r.info.pre, S x := by
  intro x hx
  obtain ⟨e, he, hb, hlt, hor⟩ := (hf j r hr).pre x hx
  have hSe := hj e he hb
  rcases hor with rfl | ⟨r', hr', hx'⟩
  · exact hSe
  · exact pre_sub hf hd (e.on + 1) e.on r' (by omega) hSe hr' x hx'

/-- the one at hand, and one that was listed, in whichever order they stand -/
theorem apart_of {ρ0 : Env} {np : Nat} {S : Nat → Prop} {ρ : Env} {m : Mem} {a : Act} {w : World} (H : Mid X ρ0 np N tm0 m0 nx0 qs S ρ m a w) {j : Nat} {r : Rec} (hr : qs[j]? = some r) (hj : ¬ S j) {i : Nat} {r' : Rec} (hi : qs[i]? = some r') (hji : j < i) (hS : S i) :
    indep r.info r'.info = true := by
  have h1 := ((hf i r' hi).pair j r hji hr).2
  rcases h1 with h1 | h1
  · exact absurd (pre_sub hf H.down (i + 1) i r' (by omega) hS hi j h1) hj
  · exact h1

theorem apart_of' {S : Nat → Prop} {j : Nat} {r : Rec} (hr : qs[j]? = some r) (hpre : ∀ x ∈ r.info.pre, S x) {i : Nat} {r' : Rec} (hi : qs[i]? = some r') (hij : i < j) (hS : ¬ S i) :
    indep r'.info r.info = true := by
  rcases ((hf j r hr).pair i r' hij hi).2 with h | h
  · exact absurd (hpre i h) hS
  · exact h

theorem mid_looks {ρ0 : Env} {np : Nat} {S : Nat → Prop} {ρ : Env} {m : Mem} {a : Act} {w : World} (H : Mid X ρ0 np N tm0 m0 nx0 qs S ρ m a w) {j : Nat} {r : Rec} (hr : qs[j]? = some r) (hj : ¬ S j) (hpre : ∀ x ∈ r.info.pre, S x) :
    ∀ t ∈ r.info.looks, ∀ d, lk r.tm t = some d → Rep ρ d (a.tmps.getD t undef) := by
  intro t ht d hd
  have hF := hf j r hr
  rcases Classical.em (∃ (i : Nat) (r' : Rec), i < j ∧ qs[i]? = some r' ∧ r'.o.dst = some t) with ⟨i, r', hij, hi, hdst⟩ | hno
  · have h1 := hF.char.tmW i r' t (get_take hi hij) hdst
    rw [hd] at h1; cases h1
    by_cases hS : S i
    · exact H.tW i r' t hS hi hdst
    · have := (indep_spec (apart_of' hf hr hpre hi hij hS)).2.2.2.1
      exact absurd ht (notIn_spec this t (by rw [(hf i r' hi).dst]; exact hdst))
  · have h1 : lk r.tm t = lk tm0 t := hF.char.tmO t fun i r' hi hdst => hno ⟨i, r', (take_get hi).1, (take_get hi).2, hdst⟩
    rw [h1] at hd
    refine H.tO t (fun i r' hS hi hdst => ?_) d hd
    rcases Nat.lt_trichotomy i j with h2 | h2 | h2
    · exact hno ⟨i, r', h2, hi, hdst⟩
    · subst h2; exact hj hS
    · have := (indep_spec (apart_of hf H hr hj hi h2 hS)).2.2.2.2
      exact notIn_spec this t (by rw [(hf i r' hi).dst]; exact hdst) ht

theorem mid_foot {ρ0 : Env} {np : Nat} {S : Nat → Prop} {ρ : Env} {m : Mem} {a : Act} {w : World} (H : Mid X ρ0 np N tm0 m0 nx0 qs S ρ m a w) {j : Nat} {r : Rec} (hr : qs[j]? = some r) (hj : ¬ S j) (hpre : ∀ x ∈ r.info.pre, S x) :
    ∀ b ∈ r.foot, get m b = get r.m b := by
  intro b hb
  have hF := hf j r hr
  have hb' : b ∈ r.info.foot := by rw [hF.foot]; exact hb
  have hlater : ∀ (k : Nat) (r' : Rec), S k → j < k → qs[k]? = some r' → b ∉ keysOf r'.up := by
    intro k r' hS hjk hk hm
    have := (indep_spec (apart_of hf H hr hj hk hjk hS)).2.1
    exact disj_spec this b (by rw [(hf k r' hk).keys]; exact hm) hb'
  rcases last_or_none (fun i => ∃ r', qs[i]? = some r' ∧ b ∈ keysOf r'.up) j with ⟨i, hij, ⟨r', hi, hm⟩, hl⟩ | hno
  · rw [hF.char.mW b i r' (get_take hi hij) hm fun k r'' hik hk hm' => hl k hik (take_get hk).1 ⟨r'', (take_get hk).2, hm'⟩]
    have hS : S i := by
      rcases Classical.em (S i) with h | h
      · exact h
      · have := (indep_spec (apart_of' hf hr hpre hi hij h)).1
        exact absurd hb' (disj_spec this b (by rw [(hf i r' hi).keys]; exact hm))
    refine H.mW b i r' hS hi hm fun k r'' hSk hik hk => ?_
    rcases Nat.lt_trichotomy k j with h2 | h2 | h2
    · exact fun hm' => hl k hik h2 ⟨r'', hk, hm'⟩
    · subst h2; exact absurd hSk hj
    · exact hlater k r'' hSk h2 hk
  · rw [hF.char.mO b fun i r' hi hm => hno i (take_get hi).1 ⟨r', (take_get hi).2, hm⟩]
    refine H.mO b fun k r'' hSk hk => ?_
    rcases Nat.lt_trichotomy k j with h2 | h2 | h2
    · exact fun hm' => hno k h2 ⟨r'', hk, hm'⟩
    · subst h2; exact absurd hSk hj
    · exact hlater k r'' hSk h2 hk

theorem mid_free {ρ0 : Env} {np : Nat} {S : Nat → Prop} {ρ : Env} {m : Mem} {a : Act} {w : World} (H : Mid X ρ0 np N tm0 m0 nx0 qs S ρ m a w) {j : Nat} {r : Rec} (hr : qs[j]? = some r) (hj : ¬ S j) :
    ∀ i, r.nx ≤ i → i < r.nx + r.nw → ρ i = none := by
  intro i h1 h2
  have hF := hf j r hr
  cases h : ρ i with
  | none => rfl
  | some L =>
    exfalso
    rcases H.used i (by rw [h]; simp) with h3 | h3 | ⟨k, r', hS, hk, h3, h4⟩
    · have := hF.char.le; omega
    · have := hF.lim; omega
    · rcases Nat.lt_trichotomy k j with h5 | h5 | h5
      · have := hF.char.nxs k r' (get_take hk h5); omega
      · subst h5; exact hj hS
      · have := (hf k r' hk).char.nxs j r (get_take hr h5); omega

/-- a step's end -/
theorem mid_step {ρ0 : Env} {np : Nat} {S : Nat → Prop} {ρ : Env} {m : Mem} {a : Act} {w : World} (H : Mid X ρ0 np N tm0 m0 nx0 qs S ρ m a w) (hnp : np ≤ nx0) {j : Nat} {r : Rec} (hr : qs[j]? = some r) (hj : ¬ S j)
    (hedges : ∀ e ∈ r.o.after.toList, Region.binds .any e = true → S e.on) {ρ' : Env} {v' : Value} {w' : World} (hle : ρ.le ρ') (hdom : ∀ i, ρ' i ≠ none → ρ i ≠ none ∨ (r.nx ≤ i ∧ i < r.nx + r.nw))
    (hv : Rep ρ' r.v v') (hinv : Inv X.c ρ' (r.up ++ m) w') (hkeep : KeepNC w w') : Mid X ρ0 np N tm0 m0 nx0 qs (fun i => i = j ∨ S i) ρ' (r.up ++ m) (a.put r.o.dst v') w' := by
  have hF := hf j r hr
  have hpre := pre_sub' hf H.down hr hedges
  have hput : ∀ t, (a.put r.o.dst v').tmps.getD t undef = if r.o.dst = some t then v' else a.tmps.getD t undef := by
    intro t
    cases hd : r.o.dst with
    | none => simp [Act.put]
    | some s =>
      rw [put_getD (by rw [H.size]; exact hF.small s hd)]
      simp
  have hdiff : ∀ i r' t, S i → qs[i]? = some r' → r'.o.dst = some t → r.o.dst ≠ some t := by
    intro i r' t hS hi ht ht'
    rcases Nat.lt_trichotomy i j with h | h | h
    · exact dstNe_spec (hF.pair i r' h hi).1 t ht ht'
    · subst h; exact hj hS
    · exact dstNe_spec ((hf i r' hi).pair j r h hr).1 t ht' ht
  refine ⟨?_, ?_, hinv, ?_, ?_, ?_, ?_, ?_, ?_, ?_, ?_⟩
  · rintro i (rfl | h)
    · exact ltOfGet hr
    · exact H.lt i h
  · rintro i r' (rfl | h) hi e he hb
    · rw [hr] at hi; cases hi; exact .inr (hedges e he hb)
    · exact .inr (H.down i r' h hi e he hb)
  · rintro b i r' (rfl | h) hi hb hl
    · rw [hr] at hi; cases hi
      exact get_key hb
    · have hnb : b ∉ keysOf r.up := by
        intro hb'
        rcases Nat.lt_trichotomy i j with h2 | h2 | h2
        · exact hl j r (.inl rfl) h2 hr hb'
        · subst h2; exact hj h
        · have := (indep_spec (apart_of hf H hr hj hi h2 h)).2.2.1
          exact disj_spec this b (by rw [hF.keys]; exact hb') (by rw [(hf i r' hi).keys]; exact hb)
      rw [get_nokey hnb]
      exact H.mW b i r' h hi hb fun k r'' hS hik hk => hl k r'' (.inr hS) hik hk
  · intro b hb
    rw [get_nokey (hb j r (.inl rfl) hr)]
    exact H.mO b fun i r' hS hi => hb i r' (.inr hS) hi
  · rintro i r' t (rfl | h) hi ht
    · rw [hr] at hi; cases hi
      rw [hput, if_pos ht]; exact hv
    · rw [hput, if_neg (hdiff i r' t h hi ht)]
      exact (H.tW i r' t h hi ht).mono hle
  · intro t ht d hd
    rw [hput, if_neg (ht j r (.inl rfl) hr)]
    exact (H.tO t (fun i r' hS hi => ht i r' (.inr hS) hi) d hd).mono hle
  · cases hd : r.o.dst <;> simp [Act.put, H.size]
  · exact H.defs.step hkeep (by cases hd : r.o.dst <;> rfl)
  · intro i hi
    rw [← H.fix i hi]
    cases hri : ρ i with
    | some L => exact hle i L hri
    | none =>
      cases hri' : ρ' i with
      | none => rfl
      | some L' =>
        exfalso
        rcases hdom i (by rw [hri']; simp) with h1 | h1
        · exact h1 hri
        · have := hF.char.le; have := hF.lim; unfold Fix at hi; omega
  · intro i hi
    rcases hdom i hi with h1 | h1
    · rcases H.used i h1 with h2 | h2 | ⟨k, r', hS, hk, h3⟩
      · exact .inl h2
      · exact .inr (.inl h2)
      · exact .inr (.inr ⟨k, r', .inr hS, hk, h3⟩)
    · exact .inr (.inr ⟨j, r, .inl rfl, hr, h1⟩)

omit hf in
/-- all are listed -/
theorem mid_end {ρ0 : Env} {np : Nat} {S : Nat → Prop} {ρ : Env} {m : Mem} {a : Act} {w : World} (H : Mid X ρ0 np N tm0 m0 nx0 qs S ρ m a w) (hnp : np ≤ nx0) (hall : ∀ j, j < qs.length → S j) {tmF : TM} {mF : Mem} {nxF : Nat}
    (hC : Char tm0 m0 nx0 qs tmF mF nxF) (hlim : nxF ≤ 999998) : StOk X ρ0 np N tmF mF nxF ρ a w := by
  refine ⟨H.inv.congr fun b => ?_, fun t d hd => ?_, H.size, H.defs, H.fix, fun i hi => ?_, hlim, by have := hC.le; omega⟩
  · rcases last_or_none (fun i => ∃ r', qs[i]? = some r' ∧ b ∈ keysOf r'.up) qs.length with ⟨i, hij, ⟨r', hi, hm⟩, hl⟩ | hno
    · rw [hC.mW b i r' hi hm fun k r'' hik hk hm' => hl k hik (ltOfGet hk) ⟨r'', hk, hm'⟩]
      exact (H.mW b i r' (hall i hij) hi hm fun k r'' _ hik hk hm' => hl k hik (ltOfGet hk) ⟨r'', hk, hm'⟩).symm
    · rw [hC.mO b fun i r' hi hm => hno i (ltOfGet hi) ⟨r', hi, hm⟩]
      exact (H.mO b fun i r' _ hi hm => hno i (ltOfGet hi) ⟨r', hi, hm⟩).symm
  · rcases Classical.em (∃ (i : Nat) (r' : Rec), qs[i]? = some r' ∧ r'.o.dst = some t) with ⟨i, r', hi, hdst⟩ | hno
    · rw [hC.tmW i r' t hi hdst] at hd; cases hd
      exact H.tW i r' t (hall i (ltOfGet hi)) hi hdst
    · rw [hC.tmO t fun i r' hi hdst => hno ⟨i, r', hi, hdst⟩] at hd
      exact H.tO t (fun i r' _ hi hdst => hno ⟨i, r', hi, hdst⟩) d hd
  · rcases H.used i hi with h | h | ⟨k, r', _, hk, h3⟩
    · left; have := hC.le; omega
    · exact .inr h
    · left; have := hC.nxs k r' hk; omega
end

def unl (ops : Array Oper) (listed : Array Bool) : List Nat := (List.range ops.size).filter fun i => !listed.getD i true

theorem ready_mem {md : Region.Mode} {ops : Array Oper} {listed : Array Bool} {i : Nat} (h : i ∈ Region.ready md ops listed) :
    i < ops.size ∧ listed.getD i true = false ∧ ∃ o, ops[i]? = some o ∧ ∀ e ∈ o.after.toList, Region.binds md e = true → listed.getD e.on false = true := by
  unfold Region.ready at h
  rw [List.mem_filter] at h
  obtain ⟨h1, h2⟩ := h
  have h1 := List.mem_range.1 h1
  refine ⟨h1, ?_⟩
  rw [Bool.and_eq_true] at h2
  obtain ⟨h2, h3⟩ := h2
  refine ⟨by simpa using h2, ?_⟩
  cases ho : ops[i]? with
  | none => rw [ho] at h3; simp at h3
  | some o =>
    rw [ho] at h3
    simp only [Option.map_some, Option.getD_some] at h3
    refine ⟨o, rfl, fun e he hb => ?_⟩
    rw [Array.all_eq_true'] at h3
    have := h3 e (Array.mem_toList_iff.1 he)
    simpa [hb] using this

theorem getD_any {l : Array Bool} {i : Nat} (h : i < l.size) (b c : Bool) : l.getD i b = l.getD i c := by
  simp [Array.getD, h]

theorem ready_nil {md : Region.Mode} {ops : Array Oper} {listed : Array Bool} (hsz : listed.size = ops.size) (hedge : ∀ j o, ops[j]? = some o → ∀ e ∈ o.after.toList, Region.binds md e = true → e.on < j)
    (h : Region.ready md ops listed = []) : ∀ j, j < ops.size → listed.getD j true = true := by
  have key : ∀ n j, j < n → j < ops.size → listed.getD j true = true := by
    intro n
    induction n with
    | zero => intro j h1; omega
    | succ n ih =>
      intro j h1 h2
      cases hj : listed.getD j true with
      | true => rfl
      | false =>
        exfalso
        have : j ∈ Region.ready md ops listed := by
          unfold Region.ready
          rw [List.mem_filter]
          refine ⟨List.mem_range.2 h2, ?_⟩
          rw [Array.getElem?_eq_getElem h2]
          simp only [Option.map_some, Option.getD_some, hj, Bool.not_false, Bool.true_and]
          rw [Array.all_eq_true']
          intro e he
          cases hb : Region.binds md e with
          | false => rfl
          | true =>
            have hlt := hedge j _ (Array.getElem?_eq_getElem h2) e (Array.mem_toList_iff.2 he) hb
            rw [getD_any (by omega) false true, ih e.on (by omega) (by omega)]
            rfl
        rw [h] at this
        cases this
  exact fun j hj => key (j + 1) j (by omega) hj

theorem unl_set {ops : Array Oper} {listed : Array Bool} (hsz : listed.size = ops.size) {i : Nat} (hi : i < ops.size) (hl : listed.getD i true = false) : (unl ops (listed.setIfInBounds i true)).length < (unl ops listed).length := by
  have hsub : unl ops (listed.setIfInBounds i true) = (unl ops listed).filter fun k => !(k == i) := by
    unfold unl
    rw [List.filter_filter]
    refine List.filter_congr fun k hk => ?_
    by_cases h : k = i
    · subst h
      simp [Array.getD_eq_getD_getElem?, hsz, hi]
    · have h' : ¬ i = k := fun e => h e.symm
      simp only [Array.getD_eq_getD_getElem?, Array.getElem?_setIfInBounds_ne h']
      have : (k == i) = false := by simp [h]
      rw [this]; simp
  rw [hsub]
  have hmem : i ∈ unl ops listed := by
    unfold unl
    rw [List.mem_filter]
    exact ⟨List.mem_range.2 hi, by rw [hl]; rfl⟩
  exact List.length_filter_lt_length_iff_exists.2 ⟨i, hmem, by simp⟩

section
variable {P : Program} {X : CtxK} {N : Nat} {ops : List Oper} {tm0 : TM} {m0 : Mem} {nx0 : Nat} {qs : List Rec} (hlen : qs.length = ops.length)
  (hf : ∀ (j : Nat) (r : Rec), qs[j]? = some r → Fact P X.c N ops tm0 m0 nx0 qs j r)
include hlen hf

theorem mid_any {ro : Option Nat} {n : Nat} {ρ0 : Env} {np : Nat} (hnp : np ≤ nx0) {tmF : TM} {mF : Mem} {nxF : Nat} (hC : Char tm0 m0 nx0 qs tmF mF nxF) (hlim : nxF ≤ 999998) {Q : Exit → Act → World → Prop}
    (hQ : ∀ ρ a w, StOk X ρ0 np N tmF mF nxF ρ a w → Q .normal a w) : ∀ (fuel : Nat) (listed : Array Bool) (ρ : Env) (m : Mem) (a : Act) (w : World), listed.size = ops.length → (unl ops.toArray listed).length ≤ fuel →
      Mid X ρ0 np N tm0 m0 nx0 qs (fun i => i < qs.length ∧ listed.getD i false = true) ρ m a w → wpAnyIn (FW ro) n P .any ops.toArray Q fuel listed a w := by
  have hedge : ∀ j o, ops.toArray[j]? = some o → ∀ e ∈ o.after.toList, Region.binds .any e = true → e.on < j := by
    intro j o ho e he hb
    rw [List.getElem?_toArray] at ho
    have hj : j < qs.length := by rw [hlen]; exact ltOfGet ho
    have hF := hf j _ (List.getElem?_eq_getElem hj)
    have := hF.op
    rw [ho] at this; cases this
    exact hF.edge e he hb
  have hend : ∀ (listed : Array Bool) (ρ : Env) (m : Mem) (a : Act) (w : World), listed.size = ops.length → Region.ready .any ops.toArray listed = [] →
      Mid X ρ0 np N tm0 m0 nx0 qs (fun i => i < qs.length ∧ listed.getD i false = true) ρ m a w → Q .normal a w := by
    intro listed ρ m a w hsz hr H
    refine hQ ρ a w (mid_end H hnp (fun j hj => ⟨hj, ?_⟩) hC hlim)
    rw [getD_any (by omega) false true]
    exact ready_nil (by simpa using hsz) hedge hr j (by simpa [hlen] using hj)
  intro fuel
  induction fuel with
  | zero =>
    intro listed ρ m a w hsz hun H
    have h0 : unl ops.toArray listed = [] := List.length_eq_zero_iff.1 (by omega)
    have hr : Region.ready .any ops.toArray listed = [] := by
      cases hr : Region.ready .any ops.toArray listed with
      | nil => rfl
      | cons i l =>
        obtain ⟨h1, h2, _⟩ := ready_mem (i := i) (md := .any) (ops := ops.toArray) (listed := listed) (by rw [hr]; simp)
        have : i ∈ unl ops.toArray listed := by
          unfold unl
          rw [List.mem_filter]
          exact ⟨List.mem_range.2 h1, by rw [h2]; rfl⟩
        rw [h0] at this; cases this
    exact ⟨hr, hend listed ρ m a w hsz hr H⟩
  | succ fuel ih =>
    intro listed ρ m a w hsz hun H
    refine ⟨fun hr => hend listed ρ m a w hsz hr H, fun j hj => ?_⟩
    obtain ⟨hlt, hnl, o, ho, hedges⟩ := ready_mem hj
    have hjq : j < qs.length := by rw [hlen]; simpa using hlt
    have hr := List.getElem?_eq_getElem hjq
    generalize qs[j] = r at hr
    have hF := hf j r hr
    have hoo : o = r.o := by
      have := hF.op
      rw [List.getElem?_toArray, this] at ho; cases ho; rfl
    subst hoo
    have hnS : ¬ (j < qs.length ∧ listed.getD j false = true) := by
      rintro ⟨_, h2⟩
      rw [getD_any (by omega) false true, hnl] at h2; cases h2
    have hedges' : ∀ e ∈ r.o.after.toList, Region.binds .any e = true → (e.on < qs.length ∧ listed.getD e.on false = true) := fun e he hb => ⟨by have := hF.edge e he hb; omega, hedges e he hb⟩
    have hpre := pre_sub' hf H.down hr hedges'
    have hlooks := mid_looks hf H hr hnS hpre
    have hw := wanted_of (a := a) (ρ := ρ) hF.guard fun t ht d hd => hlooks t (by rw [hF.looks]; exact List.mem_append.2 (.inl ht)) d hd
    have hnext : ∀ ρ' m' a' w', Mid X ρ0 np N tm0 m0 nx0 qs (fun i => i = j ∨ (i < qs.length ∧ listed.getD i false = true)) ρ' m' a' w' → wpAnyIn (FW ro) n P .any ops.toArray Q fuel (listed.setIfInBounds j true) a' w' := by
      intro ρ' m' a' w' H'
      have hun' := unl_set (ops := ops.toArray) (by simpa using hsz) hlt hnl
      refine ih _ ρ' m' a' w' (by simpa using hsz) (by omega) ?_
      have hS : (fun i => i = j ∨ (i < qs.length ∧ listed.getD i false = true)) = (fun i => i < qs.length ∧ (listed.setIfInBounds j true).getD i false = true) := by
        funext i
        apply propext
        by_cases hij : i = j
        · subst hij
          simp [Array.getD_eq_getD_getElem?, hjq, hsz, hlen ▸ hjq]
        · have hji : ¬ j = i := fun e => hij e.symm
          simp only [hij, false_or, Array.getD_eq_getD_getElem?, Array.getElem?_setIfInBounds_ne hji]
      rw [hS] at H'
      exact H'
    unfold wpOpIn
    rw [ho]
    simp only
    rw [hw]
    cases hwant : r.want with
    | true =>
      rw [if_pos rfl]
      obtain ⟨hd, hk⟩ := hF.does hwant
      have hres : ρ 999999 = none := by
        cases h : ρ 999999 with
        | none => rfl
        | some L =>
          exfalso
          rcases H.used 999999 (by rw [h]; simp) with h3 | h3 | ⟨k, r', hS, hk, h3, h4⟩
          · have := hF.char.le; have := hF.lim; omega
          · omega
          · have := (hf k r' hk).lim; omega
      refine hd ρ m w a H.inv (mid_foot hf H hr hnS hpre) (fun t ht d hd => hlooks t (by rw [hF.looks]; exact List.mem_append.2 (.inr ht)) d hd) hres (mid_free hf H hr hnS) ro n _ Q ?_
      intro ρ' v' w' hle hdom hv hinv hkeep
      exact hnext ρ' _ _ w' (mid_step hf H hnp hr hnS hedges' hle hdom hv hinv hkeep)
    | false =>
      rw [if_neg (by simp)]
      obtain ⟨h1, h2, h3, h4⟩ := hF.skip hwant
      refine ⟨fun _ _ => trivial, ?_⟩
      refine hnext ρ m _ w ?_
      have := mid_step hf H hnp hr hnS hedges' (ρ' := ρ) (v' := undef) (w' := w) (Env.le_refl ρ) (fun i h => .inl h) (by rw [h3]; exact ⟨[], rfl, trivial⟩) (by rw [h1]; exact H.inv) (KeepsOthers.refl w)
      rw [h1] at this
      exact this
end

theorem drw_sound {ro : Option Nat} {n : Nat} {P : Program} {Γ : Tab} (hΓ : TabOk P Γ) (hmix : P.follows .mixedOrders = true) {N : Nat} {X : CtxK} {ρ0 : Env} {np : Nat} {Q : Exit → Act → World → Prop} {K : TM → Mem → Nat → Prop}
    (hK : ∀ tm m nx ρ a w, K tm m nx → StOk X ρ0 np N tm m nx ρ a w → Q .normal a w) {id : Nat} {ops : List Oper} {tm : TM} {m : Mem} {nx : Nat} {ρ : Env} {a : Act} {w : World}
    (h : drwP P Γ N ops ops [] tm m nx K) (H : StOk X ρ0 np N tm m nx ρ a w) : (Code.region id ops.toArray true).wpIn (FW ro) n P Q a w := by
  obtain ⟨rs, hrun⟩ := drw_run hΓ (X := X.c) ops H.lim h
  obtain ⟨qs, tmF, mF, nxF, hlen, hf, hC, hlim, hk⟩ := run_facts (tm0 := tm) (m0 := m) (nx0 := nx) rs [] [] tm m nx hrun rfl H.lim
    ⟨fun i r t hi => by simp at hi, fun t _ => rfl, fun b i r hi => by simp at hi, fun b _ => rfl, fun i r hi => by simp at hi, Nat.le_refl _⟩ (fun j r hj => by simp at hj)
  refine wpIn_region_any hmix ?_
  refine mid_any (Q := Q) hlen hf H.le hC hlim (fun ρ a w h => hK _ _ _ ρ a w hk h) _ _ ρ m a _ (by simp) ?_ ?_
  · unfold unl
    exact Nat.le_trans (List.length_filter_le _ _) (by simp)
  · have hno : ∀ i, ¬ (i < qs.length ∧ (Array.replicate ops.toArray.size false).getD i false = true) := by
      rintro i ⟨_, h2⟩
      simp [Array.getD_eq_getD_getElem?, Array.getElem?_replicate] at h2
      split at h2 <;> simp at h2
    refine ⟨fun j h => absurd h (hno j), fun j r h => absurd h (hno j), H.inv.drew, fun b i r h => absurd h (hno i), fun b _ => rfl, fun i r t h => absurd h (hno i), fun t _ d hd => H.tmps t d hd, H.size, H.defs.step ⟨Nat.le_refl _, fun _ _ h _ => h⟩ rfl, H.fix, fun i hi => ?_⟩
    rcases H.used i hi with h | h
    · exact .inl h
    · exact .inr (.inl h)
end Go.Proofs.YtodkhgofmgaafaaDoor.Av

namespace Go.Proofs.YtodkhgofmgaafaaDoor.Av
open Go
set_option linter.all false
set_option maxRecDepth 3000

/-! the code's walk -/

def MatchT (s : Nat → Nat) (tm : TM) : TM → Prop
  | [] => True
  | (t, d) :: r => lk tm t = some (d.ren s) ∧ MatchT s tm r

theorem matchT_lk {s : Nat → Nat} {tm : TM} : ∀ {T : TM} {t : Nat} {d : D}, MatchT s tm T → lk T t = some d → lk tm t = some (d.ren s)
  | (u, e) :: r, t, d, h, hl => by
    rw [lk_cons] at hl
    split at hl
    · subst_vars; cases hl; exact h.1
    · exact matchT_lk (T := r) h.2 hl

/-- names that stay -/
def keepB (σ : List Nat) : Nat → Bool
  | 0 => true
  | i + 1 => match Nat.beq (σ.getD i 999999) i with
    | true => keepB σ i
    | false => false

theorem keepB_spec {σ : List Nat} : ∀ {n : Nat}, keepB σ n = true → ∀ i, i < n → σ.getD i 999999 = i
  | 0, _, i, h => by omega
  | n + 1, hk, i, h => by
    simp only [keepB] at hk
    split at hk <;> try contradiction
    rename_i hb
    by_cases hi : i = n
    · rw [hi]; exact Nat.eq_of_beq_eq_true hb
    · exact keepB_spec hk i (by omega)

/-- the state, as a loop's head sees it -/
def ViewG (np nh : Nat) (σ : List Nat) (T : TM) (M : Mem) (tm : TM) (m : Mem) : Prop :=
  (np ≤ nh ∧ nh ≤ 999998 ∧ keepB σ np = true) ∧ MatchT (sig nh 0 0 σ) tm T ∧ MatchM (sig nh 0 0 σ) m M ∧ namesB nh (sig nh 0 0 σ) M M = true

theorem sig0_fix {nh : Nat} {σ : List Nat} {i : Nat} (h : ¬ Fix nh i) : sig nh 0 0 σ i = 999999 := by
  unfold Fix at h
  unfold sig
  have e1 : Nat.blt i nh = false := by rw [blt_eq]; simp; omega
  have e2 : Nat.ble 1000000 i = false := by
    cases hb : Nat.ble 1000000 i with
    | false => rfl
    | true => have := Nat.le_of_ble_eq_true hb; omega
  have e3 : Nat.blt (i - nh) 0 = false := by rw [blt_eq]; simp
  rw [e1, e2, e3]

theorem view_ok {X : CtxK} {ρ0 : Env} {np N : Nat} {tm : TM} {m : Mem} {nx : Nat} {ρ : Env} {a : Act} {w : World} (H : StOk X ρ0 np N tm m nx ρ a w) {nh : Nat} {σ : List Nat} {T : TM} {M : Mem} (h : ViewG np nh σ T M tm m) :
    ∃ ρ', StOk X ρ0 np N T M nh ρ' a w := by
  obtain ⟨⟨h1, h2, h3⟩, h4, h5, h6⟩ := h
  generalize hs : sig nh 0 0 σ = s at *
  have s_gid : ∀ i, 1000000 ≤ i → s i = i := by
    intro i hi
    rw [← hs]
    unfold sig
    have e1 : Nat.blt i nh = false := by rw [blt_eq]; simp; omega
    have e2 : Nat.ble 1000000 i = true := by simpa using hi
    rw [e1, e2]
  have s_np : ∀ i, i < np → s i = i := by
    intro i hi
    rw [← hs]
    unfold sig
    have e1 : Nat.blt i nh = true := by rw [blt_eq]; simp; omega
    rw [e1]
    exact keepB_spec h3 i hi
  have hres : ρ 999999 = none := Inv.fresh H (by have := H.lim; omega) (Nat.le_refl _)
  have hρs : ∀ i, ρ (s i) ≠ none → Fix nh i := by
    intro i hi
    by_cases hf : Fix nh i
    · exact hf
    · rw [← hs, sig0_fix hf] at hi
      exact absurd hres hi
  let ρ' : Env := fun i => ρ (s i)
  have hget0 : ∀ i e, get M i = some e → Fix nh i ∧ ∃ e', get m (s i) = some e' ∧ e'.ty = e.ty ∧ e'.d = e.d.ren s ∧ (e.rw = true → e'.rw = true) := fun i e h =>
    ⟨(namesB_spec h6 (get_mem h)).1, matchM_get h5 (get_mem h)⟩
  refine ⟨ρ', ⟨fun g L h => ?_, fun i e h => ?_, fun i j ei ej Li Lj hi hj hne hr k1 k2 => ?_, fun i e L h hr k1 => ?_, H.inv.ext, H.inv.size, H.inv.os, H.inv.out, H.inv.tape⟩, fun t d h => ?_, H.size, H.defs, fun i hi => ?_, fun i hi => ?_, h2, h1⟩
  · have h : ρ (s (gid g)) = some L := h
    rw [s_gid _ (by unfold gid; omega)] at h
    exact H.inv.glob g L h
  · obtain ⟨hf, e', g1, g2, g3, g4⟩ := hget0 i e h
    obtain ⟨L, g5, g6⟩ := H.inv.sat (s i) e' g1
    refine ⟨L, g5, ?_⟩
    obtain ⟨q1, q2, q3, C, t, fr, pre, front, tail, q4, q5, q6, q7, q8, q9⟩ := g6
    refine ⟨by rw [q1, g2], by rw [← g2]; exact q2, ?_, C, t, fr, pre, front, tail, q4, q5, q6, q7, ?_, fun hr => q9 (g4 hr)⟩
    · rw [g2, g3, hasTy_ren] at q3; exact q3
    · rw [g3, flat_ren] at q8
      exact (All2.map_iff (fun a b => repS_ren)).1 q8
  · obtain ⟨hfi, ei', g1, g2, g3, g4⟩ := hget0 i ei hi
    obtain ⟨hfj, ej', p1, p2, p3, p4⟩ := hget0 j ej hj
    exact H.inv.inj (s i) (s j) ei' ej' Li Lj g1 p1 (apartB_spec (namesB_spec h6 (get_mem hi)).2 (get_mem hj) hne (.inl hr)) (g4 hr) k1 k2
  · obtain ⟨hf, e', g1, g2, g3, g4⟩ := hget0 i e h
    exact H.inv.own (s i) e' L g1 (g4 hr) k1
  · exact (rep_ren (ρ := ρ)).1 (H.tmps t _ (matchT_lk h4 h))
  · show ρ (s i) = ρ0 i
    rcases hi with hi | hi
    · rw [s_np i hi]; exact H.fix i (.inl hi)
    · rw [s_gid i hi]; exact H.fix i (.inr hi)
  · exact hρs i hi

structure LoopG (np : Nat) (body : TM → Mem → Nat → (TM → Mem → Nat → Prop) → Prop) (tm : TM) (m : Mem) : Prop where
  out : ∃ (α : Type) (T : α → TM) (M : α → Mem) (nh : Nat) (I : α → Prop) (μ : α → Nat), (∃ x σ, I x ∧ ViewG np nh σ (T x) (M x) tm m) ∧
    ∀ x, I x → body (T x) (M x) nh (fun tm' m' _ => ∃ y σ, I y ∧ μ y < μ x ∧ ViewG np nh σ (T y) (M y) tm' m')

/-- how a function is to be walked: where ways meet again, and which loops are walked round by round; by the first region's number -/
structure Pl where
  joins : List Nat := []
  unrolls : List Nat := []

def firstId : Code → Option Nat
  | .region id _ _ => some id
  | .seq a b => match firstId a with
    | some i => some i
    | none => firstId b
  | .block _ c => firstId c
  | .loop c => firstId c
  | _ => none

def atId (l : List Nat) (c : Code) : Bool :=
  match l with
  | [] => false
  | l => match firstId c with
    | some i => memB i l
    | none => false

def unrP (body : TM → Mem → Nat → (TM → Mem → Nat → Prop) → Prop) : Nat → TM → Mem → Nat → Prop
  | 0, _, _, _ => False
  | n + 1, tm, m, nx => body tm m nx (unrP body n)

structure UnrG (u : Nat → TM → Mem → Nat → Prop) (tm : TM) (m : Mem) (nx : Nat) : Prop where
  out : ∃ n, u n tm m nx

structure JoinG (np : Nat) (A : (TM → Mem → Nat → Prop) → Prop) (B : TM → Mem → Nat → Prop) : Prop where
  out : ∃ (α : Type) (T : α → TM) (M : α → Mem) (nh : Nat) (I : α → Prop), A (fun tm' m' _ => ∃ x σ, I x ∧ ViewG np nh σ (T x) (M x) tm' m') ∧ ∀ x, I x → B (T x) (M x) nh

/-- such a captured block holds this, whatever else has come -/
def SatX (ρ : Env) (e : Ent) (L : Loc) (w : World) : Prop := ∃ ρ', ρ.le ρ' ∧ SatE ρ' e L w
def KpE (ρ : Env) (E : List (Nat × Ent)) (A B : World) : Prop := ∀ p ∈ E, ∀ L, ρ p.1 = some L → SatX ρ p.2 L A → SatX ρ p.2 L B
/-- a function that is ranged over: what it yields -/
def GenC (P : Program) (f : Nat) (caps : List D) (E : List (Nat × Ent)) {α : Type} (d : α → D) (S : List α → Prop) (cnt : Nat) : Prop :=
  Callable P f ∧ ∀ (ρ : Env) (lb : List Value) (w : World) (n : Nat), All2 (RepB ρ) caps lb → (∀ p ∈ E, ∃ L, ρ p.1 = some L ∧ SatX ρ p.2 L w) →
    ∃ enc : α → Value, (∀ x, Rep ρ (d x) (enc x)) ∧ SeqStopsK (FW none) n P f lb.toArray (fun x => #[enc x]) (KpE ρ E) S (fun _ => True) cnt w

structure RangeG (P : Program) (N : Nat) (g : Operand) (ps : Array Tmp) (asg : Code) (body : TM → Mem → Nat → (TM → Mem → Nat → Prop) → Prop) (tm : TM) (m : Mem) (nx : Nat) (K : TM → Mem → Nat → Prop) : Prop where
  out : ∃ (f : Nat) (caps : List D) (E : List (Nat × Ent)) (α : Type) (d : α → D) (S : List α → Prop) (cnt p t id : Nat) (o : Oper) (M : List α → Mem) (nh : Nat) (σ : List Nat),
    opd tm (get m) g = some (.fn f [] caps) ∧ GenC P f caps E d S cnt ∧ (ps = #[p] ∧ asg = .region id #[o] false ∧ o.op = .assign (.tmp p) ∧ o.dst = some t ∧ o.guard = none ∧ p < N ∧ t < N) ∧
    (∀ q ∈ E, q.1 < nx ∧ get m q.1 = some q.2 ∧ ∀ pre, get (M pre) q.1 = some q.2) ∧ ViewG nx nh σ [] (M []) tm m ∧
    (∀ pre x, pre.length < cnt → body ((t, d x) :: (p, d x) :: tm) (M pre) nh (fun tm' m' _ => ∃ σ, ViewG nx nh σ [] (M (pre ++ [x])) tm' m')) ∧ ∀ xs, S xs → K tm (M xs) nh

abbrev CK := Bool → Nat → TM → Mem → Nat → (TM → Mem → Nat → Prop) → (Nat → TM → Mem → Nat → Prop) → (TM → Mem → Nat → Prop) → Prop

def noCK : CK := fun _ _ _ _ _ _ _ _ => False

noncomputable def codeR (P : Program) (Γ : Tab) (N : Nat) (pl : Pl) (c : Code) : CK :=
  @Code.rec (fun _ => CK)
    (fun _ _ tm m nx K _ _ => K tm m nx)
    (fun _ ops draw _ _ tm m nx K _ _ => match draw with
      | false => seqP P Γ N ops.toList ops.toList tm m nx K
      | true => drwP P Γ N ops.toList ops.toList [] tm m nx K)
    (fun _ b iha ihb top np tm m nx K Xk R => match atId pl.joins b with
      | false => iha top np tm m nx (fun tm m nx => ihb top np tm m nx K Xk R) Xk R
      | true => JoinG np (fun K' => iha top np tm m nx K' Xk R) (fun tm m nx => ihb top np tm m nx K Xk R))
    (fun c _ _ iha ihb top np tm m nx K Xk R => match opd tm (get m) c with
      | some (.bool t) => Br t (iha top np tm m nx K Xk R) (ihb top np tm m nx K Xk R)
      | _ => False)
    (fun id _ ih top np tm m nx K Xk R => ih top np tm m nx K (fun i => match Nat.beq i id with | true => K | false => Xk i) R)
    (fun c ih top np tm m nx _ Xk R => match atId pl.unrolls c with
      | false => LoopG np (fun tm m nx K => ih top np tm m nx K Xk R) tm m
      | true => UnrG (unrP (fun tm m nx K => ih top np tm m nx K Xk R)) tm m nx)
    (fun g ps asg _ _ ihb top _ tm m nx K _ _ => match top with
      | true => RangeG P N g ps asg (fun tm' m' nh K' => ihb false nx tm' m' nh K' (fun _ _ _ _ => False) (fun _ _ _ => False)) tm m nx K
      | false => False)
    (fun id _ _ tm m nx _ Xk _ => Xk id tm m nx)
    (fun _ _ => noCK)
    (fun _ => noCK)
    (fun _ => noCK)
    (fun _ _ tm m nx _ _ R => R tm m nx)
    (fun _ => noCK) c
noncomputable def codeP (P : Program) (Γ : Tab) (np N : Nat) (pl : Pl) (c : Code) (tm : TM) (m : Mem) (nx : Nat) (K : TM → Mem → Nat → Prop) (Xk : Nat → TM → Mem → Nat → Prop) (R : TM → Mem → Nat → Prop) : Prop := codeR P Γ N pl c true np tm m nx K Xk R

theorem opd_st {X : CtxK} {ρ0 : Env} {np N : Nat} {tm : TM} {m : Mem} {nx : Nat} {ρ : Env} {a : Act} {w : World} (H : StOk X ρ0 np N tm m nx ρ a w) {x : Operand} {d : D} (h : opd tm (get m) x = some d) : Rep ρ d (a.eval x) :=
  opd_rep H.inv (ops := [x]) (fun _ _ => rfl) (fun t _ d hd => H.tmps t d hd) (by simp) h

theorem leastOf {p : Nat → Prop} (h : ∃ n, p n) : ∃ n, p n ∧ ∀ k, p k → n ≤ k := by
  obtain ⟨n, hn⟩ := h
  induction n using Nat.strongRecOn with
  | _ n ih =>
    by_cases hk : ∃ k, k < n ∧ p k
    · obtain ⟨k, h1, h2⟩ := hk
      exact ih k h1 h2
    · exact ⟨n, hn, fun k hp => by
        rcases Nat.lt_or_ge k n with h | h
        · exact absurd ⟨k, h, hp⟩ hk
        · exact h⟩

/-- a loop whose measure is the invariant's -/
theorem wpIn_loop_ix {F : Fence} {k : Nat} {P : Program} {Q : Exit → Act → World → Prop} {c : Code} (J : Nat → Act → World → Prop) {n0 : Nat} {a : Act} {w : World} (h0 : J n0 a w)
    (round : ∀ n a w, J n a w → c.wpIn F k P (Exit.then (fun a' w' => ∃ n', n' < n ∧ J n' a' w') Q) a w) : (Code.loop c).wpIn F k P Q a w := by
  let μ : Act → World → Nat := fun a w => @dite _ (∃ n, J n a w) (Classical.propDecidable _) (fun h => Classical.choose (leastOf h)) (fun _ => 0)
  have hμ : ∀ a w, (h : ∃ n, J n a w) → J (μ a w) a w ∧ ∀ k, J k a w → μ a w ≤ k := by
    intro a w h
    have : μ a w = Classical.choose (leastOf h) := dif_pos h
    rw [this]
    exact Classical.choose_spec (leastOf h)
  refine wpIn_loop (fun a w => ∃ n, J n a w) μ ⟨n0, h0⟩ fun a w h => ?_
  refine wpIn_mono (round (μ a w) a w (hμ a w h).1) fun e a' w' hq => ?_
  cases e with
  | normal =>
    obtain ⟨n', hlt, hJ⟩ := hq
    exact ⟨⟨n', hJ⟩, Nat.lt_of_le_of_lt ((hμ a' w' ⟨n', hJ⟩).2 n' hJ) hlt⟩
  | _ => exact hq

theorem inv_grown {X : Ctx} {ρ : Env} {m : Mem} {W W' : World} {row : Option Nat} (H : Inv X ρ m W) (hg : W.grownBy W' row) {B : Nat} (hr : ∀ r, row = some r → B ≤ r ∧ ∃ o : Obj, W.heap[r]? = some o ∧ o.isCells = false) (hB : X.w0.heap.size ≤ B) : Inv X ρ m W' where
  glob := H.glob
  sat i e hi := by
    obtain ⟨L, h1, h2⟩ := H.sat i e hi
    refine ⟨L, h1, h2.same (hg.block _ h2.lt fun e => ?_)⟩
    obtain ⟨_, o, h3, h4⟩ := hr _ e.symm
    obtain ⟨o', h5, h6⟩ := h2.cells
    rw [h3] at h5; cases h5
    rw [h4] at h6; cases h6
  inj := H.inj
  own := H.own
  ext b hb hn := by
    rw [hg.block b (Nat.lt_of_lt_of_le hb H.size) (fun e => ?_), H.ext b hb hn]
    have := (hr b e.symm).1
    omega
  size := Nat.le_trans H.size hg.size
  os := hg.os.trans H.os
  out := hg.output.trans H.out
  tape := hg.tape.trans H.tape

theorem enters_callable {P : Program} {f : Nat} (h : Callable P f) (args : Array Value) (w : World) : (callFunc f args).run P w = .ok (.enter f args) w := by
  obtain ⟨fn, hfn, hbody, hname⟩ := h
  simp only [callFunc, Sem.run_bind, run_program, Result.andThen_ok, hfn, hname, Bool.false_eq_true, if_false, hbody, Sem.run_pure]

theorem code_sound {P : Program} {Γ : Tab} (hΓ : TabOk P Γ) (hmix : P.follows .mixedOrders = true) {N : Nat} {pl : Pl} :
    ∀ (c : Code) (top : Bool) (ro : Option Nat) (n : Nat) (_ : top = true → ro = none ∧ 1 ≤ n) (X : CtxK) (ρ0 : Env) (np : Nat) (tm : TM) (m : Mem) (nx : Nat) (ρ : Env) (a : Act) (w : World) (K : TM → Mem → Nat → Prop) (Xk : Nat → TM → Mem → Nat → Prop) (R : TM → Mem → Nat → Prop) (Q : Exit → Act → World → Prop),
      (∀ tm m nx ρ a w, K tm m nx → StOk X ρ0 np N tm m nx ρ a w → Q .normal a w) → (∀ i tm m nx ρ a w, Xk i tm m nx → StOk X ρ0 np N tm m nx ρ a w → Q (.exit i) a w) →
      (∀ tm m nx ρ a w, R tm m nx → StOk X ρ0 np N tm m nx ρ a w → Q .ret a w) → codeR P Γ N pl c top np tm m nx K Xk R → StOk X ρ0 np N tm m nx ρ a w → c.wpIn (FW ro) n P Q a w := by
  intro c
  induction c with
  | skip => intro top ro n ht X ρ0 np tm m nx ρ a w K Xk R Q hK hX hR h H; exact wpIn_skip (hK _ _ _ _ _ _ h H)
  | region id ops draw =>
    intro top ro n ht X ρ0 np tm m nx ρ a w K Xk R Q hK hX hR h H
    cases draw with
    | false =>
      refine wpIn_region ?_
      have := seq_sound (ro := ro) (n := n) hΓ hK ops.toList ops.toList 0 tm m nx ρ a w rfl h H
      rw [List.range_eq_range']
      simpa using this
    | true => exact drw_sound hΓ hmix hK (id := id) (ops := ops.toList) h H
  | seq x y ihx ihy =>
    intro top ro n ht X ρ0 np tm m nx ρ a w K Xk R Q hK hX hR h H
    change (match atId pl.joins y with
      | false => codeR P Γ N pl x top np tm m nx (fun tm m nx => codeR P Γ N pl y top np tm m nx K Xk R) Xk R
      | true => JoinG np (fun K' => codeR P Γ N pl x top np tm m nx K' Xk R) (fun tm m nx => codeR P Γ N pl y top np tm m nx K Xk R)) at h
    split at h
    · refine wpIn_seq (ihx top ro n ht X ρ0 np tm m nx ρ a w _ Xk R _ ?_ ?_ ?_ h H)
      · intro tm m nx ρ a w h H; exact ihy top ro n ht X ρ0 np tm m nx ρ a w K Xk R Q hK hX hR h H
      · exact hX
      · exact hR
    · obtain ⟨α, T, M, nh, I, h1, h2⟩ := h.out
      refine wpIn_seq (ihx top ro n ht X ρ0 np tm m nx ρ a w _ Xk R _ ?_ ?_ ?_ h1 H)
      · rintro tm m nx ρ a w ⟨x, σ, hI, hv⟩ H
        obtain ⟨ρ', H'⟩ := view_ok H hv
        exact ihy top ro n ht X ρ0 np (T x) (M x) nh ρ' a w K Xk R Q hK hX hR (h2 x hI) H'
      · exact hX
      · exact hR
  | cond c x y ihx ihy =>
    intro top ro n ht X ρ0 np tm m nx ρ a w K Xk R Q hK hX hR h H
    change (match opd tm (get m) c with
      | some (.bool t) => Br t (codeR P Γ N pl x top np tm m nx K Xk R) (codeR P Γ N pl y top np tm m nx K Xk R)
      | _ => False) at h
    split at h <;> try contradiction
    rename_i t hc
    have hv : a.eval c = .bool t := opd_st H hc
    exact wpIn_cond_split hv (fun ht' => ihx top ro n ht X ρ0 np _ _ _ _ _ _ _ _ _ _ hK hX hR (h.1 ht') H) (fun ht' => ihy top ro n ht X ρ0 np _ _ _ _ _ _ _ _ _ _ hK hX hR (h.2 ht') H)
  | block id c ih =>
    intro top ro n ht X ρ0 np tm m nx ρ a w K Xk R Q hK hX hR h H
    refine wpIn_block (ih top ro n ht X ρ0 np tm m nx ρ a w K _ R _ hK ?_ hR h H)
    intro i tm m nx ρ a w h H
    simp only [Exit.inBlock]
    cases hb : Nat.beq i id with
    | true =>
      simp only [hb] at h
      rw [if_pos (Nat.eq_of_beq_eq_true hb)]; exact hK _ _ _ _ _ _ h H
    | false =>
      simp only [hb] at h
      rw [if_neg]
      · exact hX _ _ _ _ _ _ _ h H
      · intro e; subst e; rw [Nat.beq_refl] at hb; cases hb
  | loop c ih =>
    intro top ro n ht X ρ0 np tm m nx ρ a w K Xk R Q hK hX hR h H
    change (match atId pl.unrolls c with
      | false => LoopG np (fun tm m nx K => codeR P Γ N pl c top np tm m nx K Xk R) tm m
      | true => UnrG (unrP (fun tm m nx K => codeR P Γ N pl c top np tm m nx K Xk R)) tm m nx) at h
    split at h
    · obtain ⟨α, T, M, nh, I, μ, ⟨x, σ, hI, hv⟩, hround⟩ := h.out
      obtain ⟨ρ', H'⟩ := view_ok H hv
      refine wpIn_loop_ix (fun n a w => ∃ x ρ, I x ∧ μ x = n ∧ StOk X ρ0 np N (T x) (M x) nh ρ a w) (n0 := μ x) ⟨x, ρ', hI, rfl, H'⟩ ?_
      rintro k a w ⟨x, ρ, hI, rfl, H⟩
      refine ih top ro n ht X ρ0 np (T x) (M x) nh ρ a w _ Xk R _ ?_ ?_ ?_ (hround x hI) H
      · rintro tm' m' nx' ρ a w ⟨y, σ, hIy, hlt, hv⟩ H
        obtain ⟨ρ', H'⟩ := view_ok H hv
        exact ⟨μ y, hlt, y, ρ', hIy, rfl, H'⟩
      · exact hX
      · exact hR
    · obtain ⟨k, h⟩ := h.out
      refine wpIn_loop_ix (fun k a w => ∃ tm m nx ρ, unrP (fun tm m nx K => codeR P Γ N pl c top np tm m nx K Xk R) k tm m nx ∧ StOk X ρ0 np N tm m nx ρ a w) (n0 := k) ⟨tm, m, nx, ρ, h, H⟩ ?_
      rintro k a w ⟨tm, m, nx, ρ, h, H⟩
      cases k with
      | zero => exact h.elim
      | succ k =>
        refine ih top ro n ht X ρ0 np tm m nx ρ a w _ Xk R _ ?_ ?_ ?_ h H
        · intro tm' m' nx' ρ a w h' H'
          exact ⟨k, Nat.lt_succ_self k, tm', m', nx', ρ, h', H'⟩
        · exact hX
        · exact hR
  | rangeFunc g ps asg body _ ihb =>
    intro top ro n ht X ρ0 np tm m nx ρ a w K Xk R Q hK hX hR h H
    cases top with
    | false => exact h.elim
    | true =>
    obtain ⟨rfl, hn⟩ := ht rfl
    change RangeG P N g ps asg (fun tm' m' nh K' => codeR P Γ N pl body false nx tm' m' nh K' (fun _ _ _ _ => False) (fun _ _ _ => False)) tm m nx K at h
    obtain ⟨f, caps, E, α, d, S, cnt, p, t, id, o, M, nh, σ, hg, hgen, ⟨rfl, rfl, ho1, ho2, ho3, hp, htN⟩, hE, hv0, hrounds, hafter⟩ := h.out
    obtain ⟨bs, cs, hfv, hbs, hcs⟩ : Rep ρ (.fn f [] caps) (a.eval g) := opd_st H hg
    cases bs with
    | cons => exact hbs.elim
    | nil =>
    obtain ⟨hcall, hgen⟩ := hgen
    obtain ⟨enc, henc, hseq⟩ := hgen ρ cs w (n - 1) hcs (fun q hq => by
      obtain ⟨L, h1, h2⟩ := H.inv.sat q.1 q.2 (hE q hq).2.1
      exact ⟨L, h1, ρ, Env.le_refl ρ, h2⟩)
    have H0 : StOk X ρ nx N tm m nx ρ a w := ⟨H.inv, H.tmps, H.size, H.defs, fun _ _ => rfl, H.used, H.lim, Nat.le_refl _⟩
    obtain ⟨ρ1, H1⟩ := view_ok H0 hv0
    have hle : ∀ ρ' : Env, (∀ i, Fix nx i → ρ' i = ρ i) → ρ.le ρ' := fun ρ' hf i L hi => by
      rw [hf i]
      · exact hi
      · rcases H.used i (by rw [hi]; simp) with h | h
        · exact .inl h
        · exact .inr h
    have hX0 := H.inv.size
    let I : List α → World → Prop := fun pre W => (∃ ρ', (∀ i, Fix nx i → ρ' i = ρ i) ∧ (∀ i, ρ' i ≠ none → i < nh ∨ 1000000 ≤ i) ∧ Inv X.c ρ' (M pre) W) ∧ w.heap.size ≤ W.heap.size ∧ ∀ (r : Nat) (o : Obj), w.heap[r]? = some o → o.isCells = false → W.heap[r]? = some o
    let a₁ : α → Act := fun x => { tmps := (a.tmps.setIfInBounds p (enc x)).setIfInBounds t (enc x), defers := [] }
    refine wpIn_rangeFunc_ownF (F := FW none) rfl hn (gf := f) (lb := cs.toArray) hfv trivial (enters_callable hcall) hseq (fun h1 h2 q hq L hL hs => h2 q hq L hL (h1 q hq L hL hs)) ?_ (RowKit.Below.refl _ _) (fun _ => rfl) I (fun _ _ _ => False) ?_ (fun _ _ _ _ _ hs _ _ => hs.elim) ⟨⟨ρ1, H1.fix, H1.used, H1.inv⟩, Nat.le_refl _, fun _ _ h _ => h⟩ a₁ ?_ ?_ ?_ (fun _ _ _ _ _ _ h _ => h.elim)
    · intro W l o o' _ hl ho _ q hq L hL ⟨ρ', hle', hs⟩
      refine ⟨ρ', hle', hs.same (World.putObj_heap_other fun e => ?_)⟩
      obtain ⟨o2, h1, h2⟩ := hs.cells
      rw [e, hl] at h1; cases h1
      rw [ho] at h2; cases h2
    · rintro pre W W' row ⟨⟨ρ', h1, h2, h3⟩, h4, h5⟩ hgr hrow
      refine ⟨⟨ρ', h1, h2, inv_grown h3 hgr hrow hX0⟩, Nat.le_trans h4 hgr.size, fun r o hr ho => ?_⟩
      have hrl : r < w.heap.size := (Array.getElem?_eq_some_iff.1 hr).1
      rw [hgr.block r (by omega) (fun e => by have := (hrow r e.symm).1; omega)]
      exact h5 r o hr ho
    · intro l x W K' hK'
      have e1 : (Array.zip #[p] #[enc x]).foldl (fun (t : Array Value) (pv : Tmp × Value) => t.setIfInBounds pv.1 pv.2) a.tmps = a.tmps.setIfInBounds p (enc x) := by simp
      refine wpIn_region ?_
      show wpOpsIn _ _ P #[o] _ [0] _ W
      simp only [wpOpsIn, List.getElem?_toArray, List.getElem?_cons_zero]
      rw [if_pos (by simp [Region.wanted, ho3])]
      refine wpIn_of_wp (ro := some l) (fun c hc => by rw [ho1] at hc; cases hc) ?_
      unfold Oper.wp
      have hx : (execOp (Act.eval { tmps := a.tmps.setIfInBounds p (enc x), defers := [] }) o).run P W = .ok (.value (enc x)) W := by
        have hsz : p < a.tmps.size := by rw [H.size]; exact hp
        simp [execOp, ho1, Act.eval, hsz]
      rw [e1, hx, Oper.upon_value]
      simp only [wpOpsIn, Exit.then, ho2, Act.put]
      exact hK'
    · rintro l pre x W ⟨⟨ρ', h1, h2, h3⟩, h4, h5⟩ hpre
      have hb := hrounds pre x hpre
      have hxr : Rep ρ' (d x) (enc x) := (henc x).mono (hle ρ' h1)
      refine ihb false (some l) (n - 1 - 1) (fun h => nomatch h) ⟨X.c, W⟩ ρ nx _ _ nh ρ' (a₁ x) W _ _ _ _ ?_ (fun _ _ _ _ _ _ _ h => h.elim) (fun _ _ _ _ _ _ h => h.elim) hb ?_
      · rintro tm' m' nx' ρ2 a' W' ⟨σ', hv'⟩ H2
        obtain ⟨ρ3, H3⟩ := view_ok H2 hv'
        refine ⟨H3.defs.keep, fun q hq L hL _ => ?_, ⟨ρ3, H3.fix, H3.used, H3.inv⟩, Nat.le_trans h4 H3.defs.keep.size, fun r o hr ho => H3.defs.keep.same r o (h5 r o hr ho) ho⟩
        obtain ⟨L', k1, k2⟩ := H3.inv.sat q.1 q.2 ((hE q hq).2.2 _)
        rw [H3.fix q.1 (.inl (hE q hq).1), hL] at k1
        cases k1
        exact ⟨ρ3, hle ρ3 H3.fix, k2⟩
      · refine ⟨h3, fun s e hs => ?_, by simp [a₁, H.size], ⟨(fun _ h => nomatch h), KeepsOthers.refl W, List.Pairwise.nil⟩, h1, h2, H1.lim, H1.le⟩
        have hget : ∀ s, (a₁ x).tmps.getD s undef = if s = t then enc x else if s = p then enc x else a.tmps.getD s undef := fun s => by
          have hp' : p < a.tmps.size := by rw [H.size]; exact hp
          have ht' : t < a.tmps.size := by rw [H.size]; exact htN
          show ((a.tmps.setIfInBounds p (enc x)).setIfInBounds t (enc x)).getD s undef = _
          simp only [Array.getD_eq_getD_getElem?, Array.getElem?_setIfInBounds, Array.size_setIfInBounds]
          by_cases hst : s = t
          · subst hst; simp [ht']
          · have : ¬ t = s := fun e => hst e.symm
            rw [if_neg this, if_neg hst]
            by_cases hsp : s = p
            · subst hsp; simp [hp']
            · have : ¬ p = s := fun e => hsp e.symm
              rw [if_neg this, if_neg hsp]
        rw [hget]
        rw [lk_cons] at hs
        split at hs
        · rename_i e1; cases hs; rw [if_pos e1.symm]; exact hxr
        · rename_i e1
          rw [if_neg (fun e => e1 e.symm)]
          rw [lk_cons] at hs
          split at hs
          · rename_i e2; cases hs; rw [if_pos e2.symm]; exact hxr
          · rename_i e2
            rw [if_neg (fun e => e2 e.symm)]
            exact (H.tmps s e hs).mono (hle ρ' h1)
    · rintro D xs W hD hS ⟨⟨ρ', h1, h2, h3⟩, h4, h5⟩ hWD
      refine hK tm (M xs) nh ρ' _ W (hafter xs hS) ⟨h3, fun s e hs => (H.tmps s e hs).mono (hle ρ' h1), H.size, ⟨fun dd hdd => ?_, ⟨Nat.le_trans H.defs.keep.size h4, fun r o hr ho => h5 r o (H.defs.keep.same r o hr ho) ho⟩, List.Pairwise.cons (fun dd hdd e => ?_) H.defs.apart⟩, fun i hi => ?_, h2, H1.lim, Nat.le_trans H.le H1.le⟩
      · rcases List.mem_cons.1 hdd with rfl | hdd
        · exact ⟨D, rfl, hWD, by omega⟩
        · obtain ⟨r, k1, k2, k3⟩ := H.defs.marks dd hdd
          exact ⟨r, k1, h5 r _ k2 rfl, k3⟩
      · obtain ⟨r, k1, k2, k3⟩ := H.defs.marks dd hdd
        have : r < w.heap.size := (Array.getElem?_eq_some_iff.1 k2).1
        rw [k1] at e
        cases e
        omega
      · rw [h1 i, H.fix i hi]
        rcases hi with hi | hi
        · exact .inl (Nat.lt_of_lt_of_le hi H.le)
        · exact .inr hi
  | exit id => intro top ro n ht X ρ0 np tm m nx ρ a w K Xk R Q hK hX hR h H; exact wpIn_exit (hX _ _ _ _ _ _ _ h H)
  | ret => intro top ro n ht X ρ0 np tm m nx ρ a w K Xk R Q hK hX hR h H; exact wpIn_ret (hR _ _ _ _ _ _ h H)
  | _ => intro top ro n ht X ρ0 np tm m nx ρ a w K Xk R Q hK hX hR h H; exact h.elim
end Go.Proofs.YtodkhgofmgaafaaDoor.Av

namespace Go.Proofs.YtodkhgofmgaafaaDoor.Av
open Go
set_option linter.all false
set_option maxRecDepth 3000

/-! a function's contract, from its code's walk -/

theorem ren_inv {X : Ctx} {ρ : Env} {m M : Mem} {w : World} (H : Inv X ρ m w) {s : Nat → Nat} (s_gid : ∀ i, 1000000 ≤ i → s i = i)
    (hget : ∀ i e, get M i = some e → ∃ e', get m (s i) = some e' ∧ e'.ty = e.ty ∧ e'.d = e.d.ren s ∧ (e.rw = true → e'.rw = true))
    (hap : ∀ i j ei ej, get M i = some ei → get M j = some ej → i ≠ j → ei.rw = true → s i ≠ s j) : Inv X (fun i => ρ (s i)) M w := by
  refine ⟨fun g L h => ?_, fun i e h => ?_, fun i j ei ej Li Lj hi hj hne hr k1 k2 => ?_, fun i e L h hr k1 => ?_, H.ext, H.size, H.os, H.out, H.tape⟩
  · rw [s_gid _ (by unfold gid; omega)] at h
    exact H.glob g L h
  · obtain ⟨e', g1, g2, g3, g4⟩ := hget i e h
    obtain ⟨L, g5, g6⟩ := H.sat (s i) e' g1
    refine ⟨L, g5, ?_⟩
    obtain ⟨q1, q2, q3, C, t, fr, pre, front, tail, q4, q5, q6, q7, q8, q9⟩ := g6
    refine ⟨by rw [q1, g2], by rw [← g2]; exact q2, ?_, C, t, fr, pre, front, tail, q4, q5, q6, q7, ?_, fun hr => q9 (g4 hr)⟩
    · rw [g2, g3, hasTy_ren] at q3; exact q3
    · rw [g3, flat_ren] at q8
      exact (All2.map_iff (fun a b => repS_ren)).1 q8
  · obtain ⟨ei', g1, g2, g3, g4⟩ := hget i ei hi
    obtain ⟨ej', p1, p2, p3, p4⟩ := hget j ej hj
    exact H.inj (s i) (s j) ei' ej' Li Lj g1 p1 (hap i j ei ej hi hj hne hr) (g4 hr) k1 k2
  · obtain ⟨e', g1, g2, g3, g4⟩ := hget i e h
    exact H.own (s i) e' L g1 (g4 hr) k1

def lkb : List (Nat × Option D) → Nat → Option (Option D)
  | [], _ => none
  | (i, d) :: r, j => match Nat.beq i j with
    | true => some d
    | false => lkb r j

theorem lkb_eq : ∀ (l : List (Nat × Option D)) (j : Nat), lkb l j = lkw l j
  | [], _ => rfl
  | (i, d) :: r, j => by
    simp only [lkb, lkw, lkb_eq r j]
    by_cases h : i = j
    · subst h; simp
    · have : Nat.beq i j = false := by
        cases hb : Nat.beq i j with
        | false => rfl
        | true => exact absurd (Nat.eq_of_beq_eq_true hb) h
      simp [h, this]

/-- the caller's blocks behind the call -/
def ovl (wr : List (Nat × Option D)) : Mem → Mem
  | [] => []
  | (i, some e) :: r => match lkb wr i with
    | none => (i, some e) :: ovl wr r
    | some none => ovl wr r
    | some (some d) => (i, some ⟨e.ty, d, true⟩) :: ovl wr r
  | (_, none) :: r => ovl wr r

def outM (np : Nat) (m0 : Mem) (o : Out) : Mem := newsM np o.nw ++ ovl o.wr m0

theorem ovl_mem {wr : List (Nat × Option D)} : ∀ {m0 : Mem} {i : Nat} {e : Ent}, (i, some e) ∈ m0 →
    (lkw wr i = none → (i, some e) ∈ ovl wr m0) ∧ ∀ d, lkw wr i = some (some d) → (i, some ⟨e.ty, d, true⟩) ∈ ovl wr m0
  | (j, some e') :: r, i, e, h => by
    have ih := fun h => ovl_mem (wr := wr) (m0 := r) (i := i) (e := e) h
    rcases List.mem_cons.1 h with h | h
    · cases h
      refine ⟨fun hl => ?_, fun d hl => ?_⟩ <;> simp [ovl, lkb_eq, hl]
    · refine ⟨fun hl => ?_, fun d hl => ?_⟩
      · have := (ih h).1 hl
        simp only [ovl]
        split <;> simp [this]
      · have := (ih h).2 d hl
        simp only [ovl]
        split <;> simp [this]
  | (j, none) :: r, i, e, h => by
    rcases List.mem_cons.1 h with h | h
    · cases h
    · exact ovl_mem (m0 := r) h

theorem newsM_mem : ∀ {l : List (Ty × D)} {n k : Nat} {x : Ty × D}, l[k]? = some x → (n + k, some ⟨x.1, x.2, true⟩) ∈ newsM n l
  | (t, d) :: r, n, 0, x, h => by simp at h; subst h; simp [newsM]
  | (t, d) :: r, n, k + 1, x, h => by
    have := newsM_mem (l := r) (n := n + 1) (k := k) (x := x) (by simpa using h)
    simp only [newsM, List.mem_cons]
    right
    rw [show n + (k + 1) = n + 1 + k by omega]
    exact this
  | [], n, k, x, h => by simp at h

theorem outM_mem {np : Nat} {m0 : Mem} {o : Out} {i : Nat} {e : Ent} (h : get (o.mem np m0) i = some e) : (i, some e) ∈ outM np m0 o := by
  rw [get_out] at h
  unfold outM
  rw [List.mem_append]
  split at h
  · rename_i hr
    left
    cases hx : o.nw[i - np]? with
    | none => rw [hx] at h; cases h
    | some x =>
      rw [hx] at h
      cases h
      have := newsM_mem (n := np) hx
      rw [show np + (i - np) = i by omega] at this
      exact this
  · right
    split at h
    · cases h
    · rename_i d hl
      cases he : get m0 i with
      | none => rw [he] at h; cases h
      | some e0 =>
        rw [he] at h
        cases h
        exact (ovl_mem (get_mem he)).2 d hl
    · rename_i hl
      exact (ovl_mem (get_mem h)).1 hl

def resP (Γ : Tab) (tm : TM) (m : Mem) : List ResultVar → (List D → Prop) → Prop
  | [], K => K []
  | .tmp t :: r, K => match lk tm t with
    | some d => resP Γ tm m r (fun ds => K (d :: ds))
    | none => False
  | .cell a t :: r, K => match lk tm a with
    | some d => match loadE Γ (get m) t d with
      | some ⟨ob, v, _, _⟩ => ob ∧ resP Γ tm m r (fun ds => K (v :: ds))
      | none => False
    | none => False

def noTup : List D → Bool
  | [] => true
  | d :: r => match d.isTup with
    | true => false
    | false => noTup r

def retIs (d : D) (ds : List D) : Prop :=
  match ds with
  | [x] => x = d
  | ds => noTup ds = true ∧ D.tup ds = d

/-- the function is left so -/
def RetG (Γ : Tab) (rs : List ResultVar) (np : Nat) (m0 : Mem) (o : Out) (tm : TM) (m : Mem) (_ : Nat) : Prop :=
  resP Γ tm m rs fun ds => ∃ σ, retIs (o.ret.ren (sig (np + o.nw.length) 0 0 σ)) ds ∧ keepB σ np = true ∧
    MatchM (sig (np + o.nw.length) 0 0 σ) m (outM np m0 o) ∧ namesB (np + o.nw.length) (sig (np + o.nw.length) 0 0 σ) (outM np m0 o) (outM np m0 o) = true

def parsT : Nat → List D → TM
  | _, [] => []
  | i, d :: r => (i, d) :: parsT (i + 1) r

theorem lk_pars : ∀ {l : List D} {i t : Nat} {d : D}, lk (parsT i l) t = some d → i ≤ t ∧ l[t - i]? = some d
  | [], i, t, d, h => by simp [parsT, lk] at h
  | x :: r, i, t, d, h => by
    simp only [parsT, lk_cons] at h
    split at h
    · subst_vars; cases h; simp
    · rename_i hne
      obtain ⟨h1, h2⟩ := lk_pars (l := r) h
      refine ⟨by omega, ?_⟩
      rw [show t - i = (t - (i + 1)) + 1 by omega]
      simpa using h2

theorem noTup_spec : ∀ {l : List D}, noTup l = true → ∀ d ∈ l, d.isTup = false
  | [], _, d, h => by simp at h
  | x :: r, h, d, hd => by
    simp only [noTup] at h
    split at h <;> try contradiction
    rename_i hx
    rcases List.mem_cons.1 hd with rfl | hd
    · exact hx
    · exact noTup_spec h d hd

theorem res_run {P : Program} {Γ : Tab} (hΓ : TabOk P Γ) {X : Ctx} {ρ : Env} {tm : TM} {m : Mem} {w : World} (hI : Inv X ρ m w) {tmps : Array Value} (ht : ∀ t d, lk tm t = some d → Rep ρ d (tmps.getD t undef)) :
    ∀ (rs : List ResultVar) (K : List D → Prop), resP Γ tm m rs K → ∃ ds vs, K ds ∧ All2 (Rep ρ) ds vs ∧
      (rs.mapM (fun | .tmp t => pure (tmps.getD t undef) | .cell a t => do loadVar t (← asAddr (tmps.getD a undef)) : ResultVar → Sem Value)).run P w = .ok vs w
  | [], K, h => ⟨[], [], h, trivial, rfl⟩
  | .tmp t :: r, K, h => by
    simp only [resP] at h
    split at h <;> try contradiction
    rename_i d hd
    obtain ⟨ds, vs, h1, h2, h3⟩ := res_run hΓ hI ht r _ h
    refine ⟨d :: ds, _ :: vs, h1, ⟨ht t d hd, h2⟩, ?_⟩
    rw [List.mapM_cons, Sem.run_bind]
    simp only [Sem.run_pure, Result.andThen_ok]
    rw [Sem.run_bind, h3]
    rfl
  | .cell a t :: r, K, h => by
    simp only [resP] at h
    split at h <;> try contradiction
    rename_i d hd
    split at h <;> try contradiction
    rename_i ob v up nw he
    obtain ⟨ho, h⟩ := h
    obtain ⟨ds, vs, h1, h2, h3⟩ := res_run hΓ hI ht r _ h
    obtain ⟨b, p, en, i, T, x, rfl, hg, hi, hT, hb, hx, hee⟩ := loadE_inv he
    cases hee
    obtain ⟨L, q1, q2⟩ := ht a _ hd
    obtain ⟨L', q3, q4⟩ := hI.sat b en hg
    rw [q1] at q3; cases q3
    have := Ty.eq_of_beq _ _ hb; subst this
    obtain ⟨q5, us, q6, q7⟩ := q4.read hT ho hx
    obtain ⟨v', q8, q9⟩ := run_loadVar hΓ hi q5 q6 (a := ⟨L.blk, L.base + offAt L.ty p, none⟩) (fun j v hj => by rw [add_none]; exact q7 j v hj)
    refine ⟨_ :: ds, v' :: vs, h1, ⟨q9, h2⟩, ?_⟩
    have q10 : (do loadVar t (← asAddr (tmps.getD a undef)) : Sem Value).run P w = .ok v' w := by
      rw [q2, Sem.run_bind]; exact q8
    rw [List.mapM_cons, Sem.run_bind]
    refine (congrArg (fun r => Result.andThen r _) q10).trans ?_
    simp only [Result.andThen_ok]
    rw [Sem.run_bind, h3]
    rfl

theorem rep_tup {ρ : Env} : ∀ {ds : List D} {vs : List Value}, noTup ds = true → All2 (Rep ρ) ds vs → All2 (RepV ρ) ds vs
  | [], [], _, _ => trivial
  | d :: ds, v :: vs, h, H => by
    have h1 := noTup_spec h d (by simp)
    have h2 : noTup ds = true := by
      simp only [noTup, h1] at h; exact h
    refine ⟨?_, rep_tup h2 H.2⟩
    have := H.1
    rw [rep_eq h1] at this
    exact this
  | [], _ :: _, _, H => H.elim
  | _ :: _, [], _, H => H.elim

theorem mapM_arr {P : Program} {α β : Type} (f : α → Sem β) (rs : Array α) {w w' : World} {vs : List β} (h : (rs.toList.mapM f).run P w = .ok vs w') : (rs.mapM f).run P w = .ok vs.toArray w' := by
  have hh : rs.mapM f = (do let l ← rs.toList.mapM f; pure l.toArray) := by
    cases rs
    simp [List.mapM_toArray]
  rw [hh, Sem.run_bind, h]
  rfl

theorem ret_ok {P : Program} {Γ : Tab} (hΓ : TabOk P Γ) {X : CtxK} {ρ0 : Env} {np N : Nat} {tm : TM} {m m0 : Mem} {nx : Nat} {ρ : Env} {a : Act} {w : World} {o : Out} {fn : Func} (hnp : np + o.nw.length ≤ 999998) (hret : RetG Γ fn.results.toList np m0 o tm m nx)
    (H : StOk X ρ0 np N tm m nx ρ a w) : ∃ v ρ', (results fn a.tmps).run P w = .ok v w ∧ (∀ i, Fix np i → ρ' i = ρ0 i) ∧ (∀ i, ρ' i ≠ none → Fix (np + o.nw.length) i) ∧ Rep ρ' o.ret v ∧ Inv X.c ρ' (o.mem np m0) w := by
  obtain ⟨ds, vs, ⟨σ, h1, h2, h3, h4⟩, h5, h6⟩ := res_run hΓ H.inv H.tmps _ _ hret
  generalize hs : sig (np + o.nw.length) 0 0 σ = s at *
  have s_gid : ∀ i, 1000000 ≤ i → s i = i := by
    intro i hi
    rw [← hs]
    unfold sig
    have e1 : Nat.blt i (np + o.nw.length) = false := by rw [blt_eq]; simp; omega
    have e2 : Nat.ble 1000000 i = true := by simpa using hi
    rw [e1, e2]
  have s_np : ∀ i, i < np → s i = i := by
    intro i hi
    rw [← hs]
    unfold sig
    have e1 : Nat.blt i (np + o.nw.length) = true := by rw [blt_eq]; simp; omega
    rw [e1]
    exact keepB_spec h2 i hi
  have hres : ρ 999999 = none := Inv.fresh H (by have := H.lim; omega) (Nat.le_refl _)
  have hval : ∃ v, (results fn a.tmps).run P w = .ok v w ∧ Rep ρ (o.ret.ren s) v := by
    have hr : (results fn a.tmps).run P w = .ok (if h : vs.toArray.size = 1 then vs.toArray[0] else .tuple vs.toArray) w := by
      unfold results
      rw [Sem.run_bind]
      have := mapM_arr (P := P) _ fn.results h6
      refine (congrArg (fun r => Result.andThen r _) this).trans ?_
      rfl
    match ds, vs, h1, h5, hr with
    | [d], [v], h1, h5, hr => exact ⟨v, hr, by rw [← (show d = _ from h1)]; exact h5.1⟩
    | [], [], h1, h5, hr => exact ⟨_, hr, by rw [← h1.2]; exact ⟨[], rfl, trivial⟩⟩
    | d :: d' :: ds, v :: v' :: vs, h1, h5, hr => exact ⟨_, hr, by rw [← h1.2]; exact ⟨v :: v' :: vs, rfl, rep_tup h1.1 h5⟩⟩
  obtain ⟨v, hv1, hv2⟩ := hval
  refine ⟨v, fun i => ρ (s i), hv1, fun i hi => ?_, fun i hi => ?_, (rep_ren (ρ := ρ)).1 hv2, ren_inv H.inv s_gid (fun i e h => matchM_get h3 (outM_mem h)) fun i j ei ej hi hj hne hr => ?_⟩
  · show ρ (s i) = ρ0 i
    rcases hi with hi | hi
    · rw [s_np i hi]; exact H.fix i (.inl hi)
    · rw [s_gid i hi]; exact H.fix i (.inr hi)
  · by_cases hf : Fix (np + o.nw.length) i
    · exact hf
    · have h' : ρ (s i) ≠ none := hi
      rw [← hs, sig0_fix hf] at h'
      exact absurd hres h'
  · exact apartB_spec (namesB_spec h4 (outM_mem hi)).2 (outM_mem hj) hne (.inl hr)

theorem leaves_ok {P : Program} {fn : Func} {X : Ctx} {ρ : Env} {m : Mem} {tmps : Array Value} {n : Nat} {R : Ending → World → Prop} (hret : ∀ w, Inv X ρ m w → ∃ v, (results fn tmps).run P w = .ok v w ∧ R (.returned v) w) :
    ∀ (ds : List Deferred) (w : World), Inv X ρ m w → (∀ d ∈ ds, ∃ r, d = { target := .collected r, args := #[] } ∧ w.heap[r]? = some (.deferred (some [])) ∧ X.w0.heap.size ≤ r) → ds.Pairwise (· ≠ ·) → LeavesInM (FW none) n P fn tmps R ds .returning w
  | [], w, hI, _, _ => hret w hI
  | d :: ds, w, hI, hm, hp => by
    obtain ⟨r, rfl, h1, h2⟩ := hm d (by simp)
    rw [List.pairwise_cons] at hp
    refine ⟨(fun h => by cases h), .inl ⟨r, _, rfl, run_takeDeferred h1, leaves_ok hret ds _ (inv_grown hI (grownBy_putObj' w r _) (B := r) (fun r' e => ?_) h2) (fun d' hd' => ?_) hp.2⟩⟩
    · cases e; exact ⟨Nat.le_refl _, _, h1, rfl⟩
    · obtain ⟨r', k1, k2, k3⟩ := hm d' (by simp [hd'])
      refine ⟨r', k1, (World.putObj_heap_other fun e => ?_).trans k2, k3⟩
      subst e
      exact hp.1 d' hd' k1.symm

/-- a function's contract -/
theorem ac_of {P : Program} {Γ : Tab} (hΓ : TabOk P Γ) (hmix : P.follows .mixedOrders = true) {f : Nat} {fn : Func} {c : Code} (hf : P.funcs[f]? = some fn) (hb : fn.body = some c) (hname : (fn.name == "runtime.NumGoroutine") = false)
    {args : List D} {np : Nat} {m0 : Mem} {o : Out} (hsz : Nat.ble args.length fn.ntmps = true) (hnp : Nat.ble (np + o.nw.length) 999998 = true)
    (pl : Pl) (h : codeP P Γ np fn.ntmps pl c (parsT 0 args) m0 np (RetG Γ fn.results.toList np m0 o) (fun _ _ _ _ => False) (RetG Γ fn.results.toList np m0 o)) : AC P f args np m0 o := by
  have hsz := Nat.le_of_ble_eq_true hsz
  have hnp := Nat.le_of_ble_eq_true hnp
  refine ⟨⟨fn, hf, by rw [hb]; rfl, hname⟩, fun ρ0 w0 vals hv hI hd => ?_⟩
  refine callsIn_FW.1 (callsIn_of_wp_marks (F := FW none) (n := 1) hf hb trivial ?_ rfl)
  have hl : vals.length = args.length := hv.length.symm
  have hret : ∀ tm m nx ρ a w, RetG Γ fn.results.toList np m0 o tm m nx → StOk ⟨⟨w0, wpOf ρ0 m0⟩, w0⟩ ρ0 np fn.ntmps tm m nx ρ a w → ∀ e, e = Exit.normal ∨ e = Exit.ret →
      bodyPostM (FW none) 1 P fn (fun e w' => ∃ v ρ', e = .returned v ∧ (∀ i, Fix np i → ρ' i = ρ0 i) ∧ (∀ i, ρ' i ≠ none → Fix (np + o.nw.length) i) ∧ Rep ρ' o.ret v ∧ Inv ⟨w0, wpOf ρ0 m0⟩ ρ' (o.mem np m0) w') e a w := by
    intro tm m nx ρ a w hr H e he
    have key : LeavesInM (FW none) 1 P fn a.tmps (fun e w' => ∃ v ρ', e = .returned v ∧ (∀ i, Fix np i → ρ' i = ρ0 i) ∧ (∀ i, ρ' i ≠ none → Fix (np + o.nw.length) i) ∧ Rep ρ' o.ret v ∧ Inv ⟨w0, wpOf ρ0 m0⟩ ρ' (o.mem np m0) w') a.defers .returning w := by
      refine leaves_ok (X := ⟨w0, wpOf ρ0 m0⟩) (ρ := ρ) (m := m) (fun w' hI' => ?_) a.defers w H.inv H.defs.marks H.defs.apart
      have H' : StOk ⟨⟨w0, wpOf ρ0 m0⟩, w'⟩ ρ0 np fn.ntmps tm m nx ρ { a with defers := [] } w' := ⟨hI', H.tmps, H.size, ⟨(fun _ h => nomatch h), KeepsOthers.refl w', List.Pairwise.nil⟩, H.fix, H.used, H.lim, H.le⟩
      obtain ⟨v, ρ', h1, h2⟩ := ret_ok hΓ hnp hr H'
      exact ⟨v, h1, v, ρ', rfl, h2⟩
    rcases he with rfl | rfl
    · exact key
    · exact key
  refine code_sound hΓ hmix c true none 1 (fun _ => ⟨rfl, Nat.le_refl _⟩) ⟨⟨w0, wpOf ρ0 m0⟩, w0⟩ ρ0 np _ _ _ ρ0 _ _ _ _ _ _ (fun tm m nx ρ a w hr H => hret tm m nx ρ a w hr H _ (.inl rfl)) (fun i tm m nx ρ a w h => h.elim) (fun tm m nx ρ a w hr H => hret tm m nx ρ a w hr H _ (.inr rfl)) h ?_
  refine ⟨hI, fun t d hd => ?_, ?_, ⟨(fun _ h => nomatch h), KeepsOthers.refl w0, List.Pairwise.nil⟩, fun _ _ => rfl, fun i hi => hd i hi, by omega, Nat.le_refl _⟩
  · obtain ⟨_, h1⟩ := lk_pars hd
    obtain ⟨v, h2, h3⟩ := hv.get t h1
    have hlt : t < vals.length := by
      rcases Nat.lt_or_ge t vals.length with h' | h'
      · exact h'
      · rw [List.getElem?_eq_none h'] at h2; cases h2
    have : (vals.toArray ++ Array.replicate (fn.ntmps - vals.toArray.size) undef).getD t undef = v := by
      rw [Array.getD_eq_getD_getElem?, Array.getElem?_append_left (by simpa using hlt), List.getElem?_toArray, h2]
      rfl
    rw [this]; exact h3
  · simp; omega
theorem callG {P : Program} {f : Nat} {args : List D} {m : Mem} {nx : Nat} {R : D → Mem → Nat → List Nat → Prop} {np : Nat} {m0 : Mem} {args0 : List D} {o : Out} (hac : AC P f args0 np m0 o) (σ : List Nat)
    (hl : (match Nat.ble (nx + o.nw.length) 999999 with | true => Nat.ble (np + o.nw.length) 999999 | false => false) = true) (hargs : args = D.rens (sig np nx o.nw.length σ) args0)
    (hm : MatchM (sig np nx o.nw.length σ) m m0) (hn : namesB np (sig np nx o.nw.length σ) m0 m0 = true) (hw : wrB m0 o.wr = true)
    (hR : R (o.ret.ren (sig np nx o.nw.length σ)) (upM (sig np nx o.nw.length σ) nx m0 o) o.nw.length (footM (sig np nx o.nw.length σ) m0)) : CallG P f args m nx R := by
  refine ⟨⟨np, m0, args0, o, σ, hac, ?_, hargs, hm, hn, hw, hR⟩⟩
  split at hl <;> try contradiction
  rename_i h
  exact ⟨Nat.le_of_ble_eq_true h, Nat.le_of_ble_eq_true hl⟩

theorem nextG {α : Type} {T : α → TM} {M : α → Mem} {np nh : Nat} {I : α → Prop} {μ : α → Nat} {x : α} {tm : TM} {m : Mem} (y : α) (σ : List Nat) (h1 : I y) (h2 : μ y < μ x) (h3 : ViewG np nh σ (T y) (M y) tm m) :
    ∃ y σ, I y ∧ μ y < μ x ∧ ViewG np nh σ (T y) (M y) tm m := ⟨y, σ, h1, h2, h3⟩

theorem meetG {α : Type} {T : α → TM} {M : α → Mem} {np nh : Nat} {I : α → Prop} {tm : TM} {m : Mem} (y : α) (σ : List Nat) (h1 : I y) (h3 : ViewG np nh σ (T y) (M y) tm m) :
    ∃ y σ, I y ∧ ViewG np nh σ (T y) (M y) tm m := ⟨y, σ, h1, h3⟩

theorem joinG {np : Nat} {A : (TM → Mem → Nat → Prop) → Prop} {B : TM → Mem → Nat → Prop} (α : Type) (T : α → TM) (M : α → Mem) (nh : Nat) (I : α → Prop) (h1 : A (fun tm' m' _ => ∃ x σ, I x ∧ ViewG np nh σ (T x) (M x) tm' m'))
    (h2 : ∀ x, I x → B (T x) (M x) nh) : JoinG np A B := ⟨⟨α, T, M, nh, I, h1, h2⟩⟩

theorem chkG {b : Bool} {K : Prop} (h : b = true) (k : K) : ChkG b K := ⟨h, k⟩

theorem unrG {u : Nat → TM → Mem → Nat → Prop} {tm : TM} {m : Mem} {nx : Nat} (n : Nat) (h : u n tm m nx) : UnrG u tm m nx := ⟨⟨n, h⟩⟩

theorem retG {o : Out} {np : Nat} {m0 m : Mem} {ds : List D} (σ : List Nat) (h1 : retIs (o.ret.ren (sig (np + o.nw.length) 0 0 σ)) ds) (h2 : keepB σ np = true) (h3 : MatchM (sig (np + o.nw.length) 0 0 σ) m (outM np m0 o))
    (h4 : namesB (np + o.nw.length) (sig (np + o.nw.length) 0 0 σ) (outM np m0 o) (outM np m0 o) = true) : ∃ σ, retIs (o.ret.ren (sig (np + o.nw.length) 0 0 σ)) ds ∧ keepB σ np = true ∧
      MatchM (sig (np + o.nw.length) 0 0 σ) m (outM np m0 o) ∧ namesB (np + o.nw.length) (sig (np + o.nw.length) 0 0 σ) (outM np m0 o) (outM np m0 o) = true := ⟨σ, h1, h2, h3, h4⟩

theorem viewG {np nh : Nat} {σ : List Nat} {T : TM} {M : Mem} {tm : TM} {m : Mem} (h1 : (match Nat.ble np nh with | true => (match Nat.ble nh 999998 with | true => keepB σ np | false => false) | false => false) = true)
    (h2 : MatchT (sig nh 0 0 σ) tm T) (h3 : MatchM (sig nh 0 0 σ) m M) (h4 : namesB nh (sig nh 0 0 σ) M M = true) : ViewG np nh σ T M tm m := by
  refine ⟨?_, h2, h3, h4⟩
  split at h1 <;> try contradiction
  rename_i h
  split at h1 <;> try contradiction
  rename_i h'
  exact ⟨Nat.le_of_ble_eq_true h, Nat.le_of_ble_eq_true h', h1⟩

theorem loopG {np : Nat} {body : TM → Mem → Nat → (TM → Mem → Nat → Prop) → Prop} {tm : TM} {m : Mem} (α : Type) (T : α → TM) (M : α → Mem) (nh : Nat) (I : α → Prop) (μ : α → Nat) (x : α) (σ : List Nat) (h0 : I x) (hv : ViewG np nh σ (T x) (M x) tm m)
    (hr : ∀ x, I x → body (T x) (M x) nh (fun tm' m' _ => ∃ y σ, I y ∧ μ y < μ x ∧ ViewG np nh σ (T y) (M y) tm' m')) : LoopG np body tm m := ⟨⟨α, T, M, nh, I, μ, ⟨x, σ, h0, hv⟩, hr⟩⟩
end Go.Proofs.YtodkhgofmgaafaaDoor.Av
