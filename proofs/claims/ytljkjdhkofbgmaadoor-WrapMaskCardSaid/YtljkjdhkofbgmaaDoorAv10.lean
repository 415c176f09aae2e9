import Derived.Test.YtljkjdhkofbgmaaDoorAv9
namespace Go.Proofs.YtljkjdhkofbgmaaDoor.Av
open Go
set_option linter.all false
set_option maxRecDepth 3000

/-! other names for blocks -/
mutual
def D.ren (s : Nat → Nat) : D → D
  | .ptr b p => .ptr (s b) p
  | .slice b p off len cap => .slice (s b) p off len cap
  | .fn f bs cs => .fn f (D.rens s bs) (D.rens s cs)
  | .node l => .node (D.rens s l)
  | .tup l => .tup (D.rens s l)
  | d => d
def D.rens (s : Nat → Nat) : List D → List D
  | [] => []
  | d :: ds => d.ren s :: D.rens s ds
end

theorem rens_map (s : Nat → Nat) : ∀ l : List D, D.rens s l = l.map (D.ren s)
  | [] => rfl
  | d :: ds => by simp only [D.rens, List.map_cons, rens_map s ds]

theorem ren_isCell (s : Nat → Nat) (d : D) : (d.ren s).isCell = d.isCell := by cases d <;> rfl
theorem ren_isAgg (s : Nat → Nat) (d : D) : (d.ren s).isAgg = d.isAgg := by cases d <;> rfl
theorem ren_isTup (s : Nat → Nat) (d : D) : (d.ren s).isTup = d.isTup := by cases d <;> rfl
theorem ren_isFn (s : Nat → Nat) (d : D) : (d.ren s).isFn = d.isFn := by cases d <;> rfl

mutual
theorem flat_ren (s : Nat → Nat) : ∀ d : D, (d.ren s).flat = d.flat.map (D.ren s)
  | .node l => by simp only [D.ren, D.flat]; exact flats_ren s l
  | .u8s l => by simp [D.ren, D.flat]
  | .u32s l => by simp [D.ren, D.flat]
  | .u64s l => by simp [D.ren, D.flat]
  | .tup l => by simp [D.ren, D.flat]
  | .undef | .bool _ | .u8 _ | .u16 _ | .u32 _ | .u64 _ | .i64 _ | .str _ | .nilptr | .ptr _ _ | .nilslice | .slice _ _ _ _ _ | .fn _ _ _ | .nilfn => by simp [D.ren, D.flat]
theorem flats_ren (s : Nat → Nat) : ∀ l : List D, D.flats (D.rens s l) = (D.flats l).map (D.ren s)
  | [] => rfl
  | d :: ds => by simp only [D.rens, D.flats, List.map_append, flat_ren s d, flats_ren s ds]
end

theorem repB_ren {ρ : Env} {s : Nat → Nat} {d : D} {v : Value} : RepB ρ (d.ren s) v ↔ RepB (fun i => ρ (s i)) d v := by
  cases d <;> exact Iff.rfl

theorem All2.map_iff {α β : Type} {R S : α → β → Prop} {f : α → α} (h : ∀ a b, R (f a) b ↔ S a b) : ∀ {as : List α} {bs : List β}, All2 R (as.map f) bs ↔ All2 S as bs
  | [], [] => Iff.rfl
  | a :: as, b :: bs => by simp only [List.map_cons, All2, h, All2.map_iff h (as := as) (bs := bs)]
  | [], _ :: _ => Iff.rfl
  | _ :: _, [] => Iff.rfl

theorem repS_ren {ρ : Env} {s : Nat → Nat} {d : D} {v : Value} : RepS ρ (d.ren s) v ↔ RepS (fun i => ρ (s i)) d v := by
  cases hd : d.isFn with
  | false => rw [repS_eq (by rw [ren_isFn, hd]), repS_eq hd]; exact repB_ren
  | true =>
    cases d <;> simp [D.isFn] at hd
    rename_i f bs cs
    show (∃ us vs : List Value, _ ∧ All2 (RepB ρ) (D.rens s bs) us ∧ All2 (RepB ρ) (D.rens s cs) vs) ↔ (∃ us vs : List Value, _ ∧ All2 (RepB fun i => ρ (s i)) bs us ∧ All2 (RepB fun i => ρ (s i)) cs vs)
    rw [rens_map, rens_map]
    simp only [All2.map_iff (R := RepB ρ) (S := RepB fun i => ρ (s i)) (fun a b => repB_ren)]

theorem repV_ren {ρ : Env} {s : Nat → Nat} {d : D} {v : Value} : RepV ρ (d.ren s) v ↔ RepV (fun i => ρ (s i)) d v := by
  unfold RepV
  rw [ren_isAgg, flat_ren]
  split
  · simp only [All2.map_iff (R := RepS ρ) (S := RepS fun i => ρ (s i)) (fun a b => repS_ren)]
  · exact repS_ren

theorem rep_ren {ρ : Env} {s : Nat → Nat} {d : D} {v : Value} : Rep ρ (d.ren s) v ↔ Rep (fun i => ρ (s i)) d v := by
  cases hd : d.isTup with
  | false => rw [rep_eq (by rw [ren_isTup, hd]), rep_eq hd]; exact repV_ren
  | true =>
    cases d <;> simp [D.isTup] at hd
    · exact Iff.rfl
    · rename_i l
      show (∃ vs : List Value, _ ∧ All2 (RepV ρ) (D.rens s l) vs) ↔ (∃ vs : List Value, _ ∧ All2 (RepV fun i => ρ (s i)) l vs)
      rw [rens_map]
      simp only [All2.map_iff (R := RepV ρ) (S := RepV fun i => ρ (s i)) (fun a b => repV_ren)]

theorem AllD_map {P Q : D → Prop} {f : D → D} (h : ∀ d, P (f d) ↔ Q d) : ∀ {l : List D}, AllD P (l.map f) ↔ AllD Q l
  | [] => Iff.rfl
  | d :: ds => by simp only [List.map_cons, AllD, h, AllD_map h (l := ds)]

mutual
theorem hasTy_ren (s : Nat → Nat) : ∀ (T : Ty) (d : D), hasTy T (d.ren s) ↔ hasTy T d
  | .cell, d => by show (d.ren s).isCell = true ↔ d.isCell = true; rw [ren_isCell]
  | .arr n t, d => by
    cases d <;> first | exact Iff.rfl | skip
    rename_i l
    show (D.rens s l).length = n ∧ AllD (hasTy t) (D.rens s l) ↔ l.length = n ∧ AllD (hasTy t) l
    rw [rens_map, List.length_map, AllD_map (fun d => hasTy_ren s t d)]
  | .row t, d => by
    cases d <;> first | exact Iff.rfl | skip
    rename_i l
    show AllD (hasTy t) (D.rens s l) ↔ AllD (hasTy t) l
    rw [rens_map, AllD_map (fun d => hasTy_ren s t d)]
  | .st fs, d => by
    cases d <;> first | exact Iff.rfl | skip
    rename_i l
    exact hasTys_ren s fs l
theorem hasTys_ren (s : Nat → Nat) : ∀ (fs : List Ty) (l : List D), hasTys fs (D.rens s l) ↔ hasTys fs l
  | [], [] => Iff.rfl
  | [], _ :: _ => Iff.rfl
  | t :: ts, [] => Iff.rfl
  | t :: ts, d :: ds => by
    show hasTy t (d.ren s) ∧ hasTys ts (D.rens s ds) ↔ hasTy t d ∧ hasTys ts ds
    rw [hasTy_ren s t d, hasTys_ren s ts ds]
end

/-! contracts -/
structure Out where
  ret : D
  wr : List (Nat × Option D) := []
  nw : List (Ty × D) := []

def newsM (n : Nat) : List (Ty × D) → Mem
  | [] => []
  | (t, d) :: r => (n, some ⟨t, d, true⟩) :: newsM (n + 1) r

def wrM (m0 : Mem) : List (Nat × Option D) → Mem
  | [] => []
  | (i, none) :: r => (i, none) :: wrM m0 r
  | (i, some d) :: r => match get m0 i with
    | some e => (i, some ⟨e.ty, d, true⟩) :: wrM m0 r
    | none => wrM m0 r

def Out.mem (np : Nat) (m0 : Mem) (o : Out) : Mem := newsM np o.nw ++ (wrM m0 o.wr ++ m0)

def Fix (np i : Nat) : Prop := i < np ∨ 1000000 ≤ i

def wpOf (ρ0 : Env) (m0 : Mem) (b : Nat) : Prop := ∃ i e L, get m0 i = some e ∧ e.rw = true ∧ ρ0 i = some L ∧ L.blk = b

def Callable (P : Program) (f : Nat) : Prop := ∃ fn, P.funcs[f]? = some fn ∧ fn.body.isNone = false ∧ (fn.name == "runtime.NumGoroutine") = false

/-- what a call does: over the blocks 0, 1, .. below np and the package's variables; new ones are np, np + 1, .. -/
def AC (P : Program) (f : Nat) (args : List D) (np : Nat) (m0 : Mem) (o : Out) : Prop :=
  Callable P f ∧ ∀ (ρ0 : Env) (w0 : World) (vals : List Value), All2 (Rep ρ0) args vals → Inv ⟨w0, wpOf ρ0 m0⟩ ρ0 m0 w0 → (∀ i, ρ0 i ≠ none → Fix np i) →
    Calls P f vals.toArray w0 fun e w' => ∃ v ρ', e = .returned v ∧ (∀ i, Fix np i → ρ' i = ρ0 i) ∧ (∀ i, ρ' i ≠ none → Fix (np + o.nw.length) i) ∧ Rep ρ' o.ret v ∧ Inv ⟨w0, wpOf ρ0 m0⟩ ρ' (o.mem np m0) w'

theorem get_newsM : ∀ (l : List (Ty × D)) (n j : Nat), get (newsM n l) j = if n ≤ j then (l[j - n]?).map (fun x => ⟨x.1, x.2, true⟩) else none
  | [], n, j => by simp [newsM, get]
  | (t, d) :: r, n, j => by
    simp only [newsM, get_cons, get_newsM r (n + 1) j]
    by_cases h : n = j
    · subst h; simp
    · rw [if_neg h]
      by_cases h2 : n ≤ j
      · rw [if_pos (by omega), if_pos h2]
        rw [show j - n = (j - (n + 1)) + 1 by omega]
        rfl
      · rw [if_neg (by omega), if_neg h2]

theorem newsM_keys : ∀ (l : List (Ty × D)) (n j : Nat), j ∈ (newsM n l).map (·.1) ↔ n ≤ j ∧ j < n + l.length
  | [], n, j => by simp [newsM]
  | (t, d) :: r, n, j => by
    simp only [newsM, List.map_cons, List.mem_cons, newsM_keys r (n + 1) j, List.length_cons]
    omega

/-- what is laid of a block by a contract -/
def lkw : List (Nat × Option D) → Nat → Option (Option D)
  | [], _ => none
  | (i, d) :: r, j => if i = j then some d else lkw r j

theorem get_wrM (m0 : Mem) : ∀ (l : List (Nat × Option D)) (j : Nat), get (wrM m0 l ++ m0) j = match lkw l j with
    | some none => none
    | some (some d) => (get m0 j).map fun e => ⟨e.ty, d, true⟩
    | none => get m0 j
  | [], j => rfl
  | (i, none) :: r, j => by
    simp only [wrM, List.cons_append, get_cons, lkw]
    by_cases h : i = j
    · simp [h]
    · simp only [if_neg h]; exact get_wrM m0 r j
  | (i, some d) :: r, j => by
    simp only [wrM, lkw]
    by_cases h : i = j
    · subst h
      cases he : get m0 i with
      | none =>
        simp only [if_true]
        rw [get_wrM m0 r i]
        cases lkw r i with
        | none => simp [he]
        | some x => cases x <;> simp [he]
      | some e => simp [get_cons]
    · simp only [if_neg h]
      cases he : get m0 i with
      | none => exact get_wrM m0 r j
      | some e =>
        simp only [List.cons_append, get_cons, if_neg h]
        exact get_wrM m0 r j

theorem get_out (np : Nat) (m0 : Mem) (o : Out) (j : Nat) : get (o.mem np m0) j = if np ≤ j ∧ j < np + o.nw.length then (o.nw[j - np]?).map (fun x => ⟨x.1, x.2, true⟩) else match lkw o.wr j with
    | some none => none
    | some (some d) => (get m0 j).map fun e => ⟨e.ty, d, true⟩
    | none => get m0 j := by
  unfold Out.mem
  rw [get_append]
  by_cases h : np ≤ j ∧ j < np + o.nw.length
  · rw [if_pos ((newsM_keys _ _ _).2 h), if_pos h, get_newsM, if_pos h.1]
  · rw [if_neg (fun hh => h ((newsM_keys _ _ _).1 hh)), if_neg h, get_wrM]

/-! a contract at a call -/
def sig (np nx nw : Nat) (σ : List Nat) (i : Nat) : Nat :=
  match Nat.blt i np with
  | true => σ.getD i 999999
  | false => match Nat.ble 1000000 i with
    | true => i
    | false => match Nat.blt (i - np) nw with
      | true => nx + (i - np)
      | false => 999999

def MatchM (s : Nat → Nat) (m : Mem) : Mem → Prop
  | [] => True
  | (i, some e) :: r => (∃ e', get m (s i) = some e' ∧ e'.ty = e.ty ∧ e'.d = e.d.ren s ∧ (e.rw = true → e'.rw = true)) ∧ MatchM s m r
  | (_, none) :: r => MatchM s m r

def fixB (np i : Nat) : Bool :=
  match Nat.blt i np with
  | true => true
  | false => Nat.ble 1000000 i

/-- the names of a contract's blocks: each is a parameter's or a variable's; unlike ones of which one is written stand for unlike ones -/
def apartB (s : Nat → Nat) (i : Nat) (rw : Bool) : Mem → Bool
  | [] => true
  | (j, some e) :: r => match Nat.beq i j with
    | true => apartB s i rw r
    | false => match rw with
      | true => match Nat.beq (s i) (s j) with
        | true => false
        | false => apartB s i rw r
      | false => match e.rw with
        | true => match Nat.beq (s i) (s j) with
          | true => false
          | false => apartB s i rw r
        | false => apartB s i rw r
  | (_, none) :: r => apartB s i rw r

def namesB (np : Nat) (s : Nat → Nat) (all : Mem) : Mem → Bool
  | [] => true
  | (i, some e) :: r => match fixB np i with
    | true => match apartB s i e.rw all with
      | true => namesB np s all r
      | false => false
    | false => false
  | (_, none) :: r => namesB np s all r

def wrB (m0 : Mem) : List (Nat × Option D) → Bool
  | [] => true
  | (i, _) :: r => match get m0 i with
    | some e => match e.rw with
      | true => wrB m0 r
      | false => false
    | none => false

def wrS (s : Nat → Nat) (m0 : Mem) : List (Nat × Option D) → Mem
  | [] => []
  | (i, none) :: r => (s i, none) :: wrS s m0 r
  | (i, some d) :: r => match get m0 i with
    | some e => (s i, some ⟨e.ty, d.ren s, true⟩) :: wrS s m0 r
    | none => wrS s m0 r

def newsS (s : Nat → Nat) : List (Ty × D) → List (Ty × D)
  | [] => []
  | (t, d) :: r => (t, d.ren s) :: newsS s r

def upM (s : Nat → Nat) (nx : Nat) (m0 : Mem) (o : Out) : Mem := newsM nx (newsS s o.nw) ++ wrS s m0 o.wr

def footM (s : Nat → Nat) : Mem → List Nat
  | [] => []
  | (i, _) :: r => s i :: footM s r

theorem blt_eq (a b : Nat) : Nat.blt a b = decide (a < b) := by
  unfold Nat.blt
  rw [Bool.eq_iff_iff, decide_eq_true_eq]
  exact ⟨fun h => Nat.le_of_ble_eq_true h, fun h => Nat.ble_eq_true_of_le h⟩

theorem get_mem {m : Mem} {i : Nat} {e : Ent} (h : get m i = some e) : (i, some e) ∈ m := by
  induction m with
  | nil => simp [get] at h
  | cons x m ih =>
    obtain ⟨j, e'⟩ := x
    rw [get_cons] at h
    split at h
    · subst_vars; simp
    · exact List.mem_cons_of_mem _ (ih h)

theorem matchM_get {s : Nat → Nat} {m : Mem} : ∀ {m0 : Mem} (_ : MatchM s m m0) {i : Nat} {e : Ent} (_ : (i, some e) ∈ m0), ∃ e', get m (s i) = some e' ∧ e'.ty = e.ty ∧ e'.d = e.d.ren s ∧ (e.rw = true → e'.rw = true)
  | (j, some e') :: r, h, i, e, hm => by
    rcases List.mem_cons.1 hm with h' | h'
    · cases h'; exact h.1
    · exact matchM_get h.2 h'
  | (j, none) :: r, h, i, e, hm => by
    rcases List.mem_cons.1 hm with h' | h'
    · cases h'
    · exact matchM_get (m0 := r) h h'

theorem apartB_spec {s : Nat → Nat} {i : Nat} {rw : Bool} : ∀ {m0 : Mem} (_ : apartB s i rw m0 = true) {j : Nat} {e : Ent} (_ : (j, some e) ∈ m0) (_ : i ≠ j) (_ : rw = true ∨ e.rw = true), s i ≠ s j
  | (k, some e') :: r, h, j, e, hm, hne, hr => by
    simp only [apartB] at h
    rcases List.mem_cons.1 hm with h' | h'
    · cases h'
      have hb : Nat.beq i k = false := by
        cases hb : Nat.beq i k with
        | false => rfl
        | true => exact absurd (Nat.eq_of_beq_eq_true hb) hne
      rw [hb] at h
      intro heq
      have hs : Nat.beq (s i) (s k) = true := by rw [heq]; exact Nat.beq_refl _
      rw [hs] at h
      rcases hr with hr | hr
      · rw [hr] at h; simp at h
      · rw [hr] at h; cases rw <;> simp at h
    · refine apartB_spec (m0 := r) ?_ h' hne hr
      repeat' split at h
      all_goals first | exact h | contradiction
  | (k, none) :: r, h, j, e, hm, hne, hr => by
    rcases List.mem_cons.1 hm with h' | h'
    · cases h'
    · exact apartB_spec (m0 := r) h h' hne hr

theorem namesB_spec {np : Nat} {s : Nat → Nat} {all : Mem} : ∀ {m0 : Mem} (_ : namesB np s all m0 = true) {i : Nat} {e : Ent} (_ : (i, some e) ∈ m0), Fix np i ∧ apartB s i e.rw all = true
  | (k, some e') :: r, h, i, e, hm => by
    simp only [namesB] at h
    repeat' split at h
    all_goals try contradiction
    rename_i h1 _ h2
    rcases List.mem_cons.1 hm with h' | h'
    · cases h'
      refine ⟨?_, h2⟩
      unfold fixB at h1
      split at h1
      · rename_i hb; left; rw [blt_eq] at hb; simpa using hb
      · right; simpa using h1
    · exact namesB_spec (m0 := r) h h'
  | (k, none) :: r, h, i, e, hm => by
    rcases List.mem_cons.1 hm with h' | h'
    · cases h'
    · exact namesB_spec (m0 := r) h h'

theorem wrB_spec {m0 : Mem} : ∀ {l : List (Nat × Option D)} (_ : wrB m0 l = true) {i : Nat} {d : Option D} (_ : (i, d) ∈ l), ∃ e, get m0 i = some e ∧ e.rw = true
  | (k, d') :: r, h, i, d, hm => by
    simp only [wrB] at h
    repeat' split at h
    all_goals try contradiction
    rcases List.mem_cons.1 hm with h' | h'
    · cases h'; exact ⟨_, by assumption, by assumption⟩
    · exact wrB_spec (l := r) h h'

theorem lkw_mem : ∀ {l : List (Nat × Option D)} {i : Nat} {d : Option D} (_ : lkw l i = some d), (i, d) ∈ l
  | (k, d') :: r, i, d, h => by
    simp only [lkw] at h
    split at h
    · subst_vars; cases h; simp
    · exact List.mem_cons_of_mem _ (lkw_mem h)

theorem newsS_length (s : Nat → Nat) : ∀ l, (newsS s l).length = l.length
  | [] => rfl
  | (t, d) :: r => by simp [newsS, newsS_length s r]

theorem newsS_get (s : Nat → Nat) : ∀ (l : List (Ty × D)) (k : Nat), (newsS s l)[k]? = (l[k]?).map fun x => (x.1, x.2.ren s)
  | [], k => by simp [newsS]
  | (t, d) :: r, 0 => by simp [newsS]
  | (t, d) :: r, k + 1 => by simp [newsS, newsS_get s r k]

/-- what the caller's blocks are behind the call -/
theorem get_wrS {s : Nat → Nat} {m0 m : Mem} : ∀ {l : List (Nat × Option D)} (_ : wrB m0 l = true) (j : Nat),
    (∃ i d, (i, d) ∈ l ∧ lkw l i = some d ∧ s i = j ∧ get (wrS s m0 l ++ m) j = (match d with | none => none | some d => (get m0 i).map fun e => ⟨e.ty, d.ren s, true⟩)) ∨
      ((∀ i d, (i, d) ∈ l → s i ≠ j) ∧ get (wrS s m0 l ++ m) j = get m j)
  | [], _, j => .inr ⟨fun i d h => by simp at h, rfl⟩
  | (i, d) :: r, h, j => by
    obtain ⟨e, he, hr⟩ := wrB_spec h (i := i) (d := d) (by simp)
    have hrest : wrB m0 r = true := by
      simp only [wrB, he, hr] at h; exact h
    by_cases hj : s i = j
    · refine .inl ⟨i, d, by simp, by simp [lkw], hj, ?_⟩
      cases d with
      | none => simp [wrS, get_cons, hj]
      | some d => simp [wrS, he, get_cons, hj]
    · have hget : get (wrS s m0 ((i, d) :: r) ++ m) j = get (wrS s m0 r ++ m) j := by
        cases d with
        | none => simp only [wrS, List.cons_append, get_cons, if_neg hj]
        | some d => simp only [wrS, he, List.cons_append, get_cons, if_neg hj]
      rcases get_wrS (m := m) hrest j with ⟨i', d', h1, h2, h3, h4⟩ | ⟨h1, h2⟩
      · by_cases hii : i = i'
        · subst hii; exact absurd h3 hj
        · exact .inl ⟨i', d', by simp [h1], by simp [lkw, hii, h2], h3, by rw [hget]; exact h4⟩
      · refine .inr ⟨fun i' d' hm => ?_, by rw [hget]; exact h2⟩
        rcases List.mem_cons.1 hm with h' | h'
        · cases h'; exact hj
        · exact h1 i' d' h'

section
variable {P : Program} {X : Ctx} {ρ : Env} {m : Mem} {w : World} {nx : Nat}

theorem call_sound (hI : Inv X ρ m w) {f : Nat} {np : Nat} {m0 : Mem} {args0 : List D} {o : Out} {σ : List Nat} (hac : AC P f args0 np m0 o)
    (hres : ρ 999999 = none) (hnx : ∀ i, nx ≤ i → i < nx + o.nw.length → ρ i = none) (hlim : nx + o.nw.length ≤ 999999) (hnp : np + o.nw.length ≤ 999999)
    (hmatch : MatchM (sig np nx o.nw.length σ) m m0) (hnames : namesB np (sig np nx o.nw.length σ) m0 m0 = true) (hwr : wrB m0 o.wr = true)
    {vals : List Value} (hargs : All2 (Rep ρ) (D.rens (sig np nx o.nw.length σ) args0) vals) :
    Calls P f vals.toArray w fun e w' => ∃ v ρ', e = .returned v ∧ ρ.le ρ' ∧ (∀ i, ρ' i ≠ none → ρ i ≠ none ∨ (nx ≤ i ∧ i < nx + o.nw.length)) ∧ Rep ρ' (o.ret.ren (sig np nx o.nw.length σ)) v ∧
      Inv X ρ' (upM (sig np nx o.nw.length σ) nx m0 o ++ m) w' := by
  generalize hs : sig np nx o.nw.length σ = s at *
  -- what the names stand for
  have s_gid : ∀ i, 1000000 ≤ i → ¬ i < np → s i = i := by
    intro i h1 h2
    rw [← hs]
    unfold sig
    have e1 : Nat.blt i np = false := by rw [blt_eq]; simp; omega
    have e2 : Nat.ble 1000000 i = true := by simpa using h1
    rw [e1, e2]
  have s_new : ∀ i, np ≤ i → i < np + o.nw.length → s i = nx + (i - np) := by
    intro i h1 h2
    rw [← hs]
    unfold sig
    have e1 : Nat.blt i np = false := by rw [blt_eq]; simp; omega
    have e2 : Nat.ble 1000000 i = false := by
      cases hb : Nat.ble 1000000 i with
      | false => rfl
      | true => have := Nat.le_of_ble_eq_true hb; omega
    have e3 : Nat.blt (i - np) o.nw.length = true := by rw [blt_eq]; simp; omega
    rw [e1, e2, e3]
  let ρ0 : Env := fun i => if i < np ∨ 1000000 ≤ i then ρ (s i) else none
  have hρ0 : ∀ i, Fix np i → ρ0 i = ρ (s i) := fun i h => if_pos h
  have hρs : ∀ i, ρ (s i) ≠ none → Fix np i := by
    intro i h
    by_cases h1 : i < np
    · exact .inl h1
    · by_cases h2 : 1000000 ≤ i
      · exact .inr h2
      · exfalso
        by_cases h3 : i < np + o.nw.length
        · rw [s_new i (by omega) h3] at h
          exact h (hnx _ (by omega) (by omega))
        · have : s i = 999999 := by
            rw [← hs]
            unfold sig
            have e1 : Nat.blt i np = false := by rw [blt_eq]; simp; omega
            have e2 : Nat.ble 1000000 i = false := by
              cases hb : Nat.ble 1000000 i with
              | false => rfl
              | true => have := Nat.le_of_ble_eq_true hb; omega
            have e3 : Nat.blt (i - np) o.nw.length = false := by rw [blt_eq]; simp; omega
            rw [e1, e2, e3]
          rw [this] at h
          exact h hres
  have hle0 : Env.le (fun i => ρ (s i)) ρ0 := by
    intro i L h
    have h : ρ (s i) = some L := h
    have hf := hρs i (by rw [h]; simp)
    rw [hρ0 i hf]; exact h
  have hget0 : ∀ i e, get m0 i = some e → Fix np i ∧ ∃ e', get m (s i) = some e' ∧ e'.ty = e.ty ∧ e'.d = e.d.ren s ∧ (e.rw = true → e'.rw = true) := fun i e h =>
    ⟨(namesB_spec hnames (get_mem h)).1, matchM_get hmatch (get_mem h)⟩
  have hapart : ∀ i j ei ej, get m0 i = some ei → get m0 j = some ej → i ≠ j → (ei.rw = true ∨ ej.rw = true) → s i ≠ s j := fun i j ei ej hi hj hne hr =>
    apartB_spec (namesB_spec hnames (get_mem hi)).2 (get_mem hj) hne hr
  -- the callee's view
  have hI0 : Inv ⟨w, wpOf ρ0 m0⟩ ρ0 m0 w := by
    refine ⟨fun g L h => ?_, fun i e h => ?_, fun i j ei ej Li Lj hi hj hne hr h1 h2 => ?_, fun i e L h hr h1 => .inl ⟨i, e, L, h, hr, h1, rfl⟩, fun _ _ _ => rfl, Nat.le_refl _, rfl, rfl, rfl⟩
    · by_cases hg : gid g < np
      · unfold gid at hg; omega
      · have hf : Fix np (gid g) := .inr (by unfold gid; omega)
        rw [hρ0 _ hf, s_gid _ (by unfold gid; omega) hg] at h
        exact hI.glob g L h
    · obtain ⟨hf, e', h1, h2, h3, h4⟩ := hget0 i e h
      obtain ⟨L, h5, h6⟩ := hI.sat (s i) e' h1
      refine ⟨L, by rw [hρ0 i hf]; exact h5, ?_⟩
      obtain ⟨q1, q2, q3, C, t, fr, pre, front, tail, q4, q5, q6, q7, q8, q9⟩ := h6
      refine ⟨by rw [q1, h2], by rw [← h2]; exact q2, ?_, C, t, fr, pre, front, tail, q4, q5, q6, q7, ?_, fun hr => q9 (h4 hr)⟩
      · rw [h2, h3, hasTy_ren] at q3; exact q3
      · rw [h3, flat_ren] at q8
        exact ((All2.map_iff (fun a b => repS_ren)).1 q8).mono fun _ _ => RepS.mono hle0
    · obtain ⟨hfi, ei', g1, g2, g3, g4⟩ := hget0 i ei hi
      obtain ⟨hfj, ej', k1, k2, k3, k4⟩ := hget0 j ej hj
      rw [hρ0 i hfi] at h1
      rw [hρ0 j hfj] at h2
      exact hI.inj (s i) (s j) ei' ej' Li Lj g1 k1 (hapart i j ei ej hi hj hne (.inl hr)) (g4 hr) h1 h2
  have hargs0 : All2 (Rep ρ0) args0 vals := by
    rw [rens_map] at hargs
    exact ((All2.map_iff (fun a b => rep_ren)).1 hargs).mono fun _ _ => Rep.mono hle0
  have hdom0 : ∀ i, ρ0 i ≠ none → Fix np i := by
    intro i h
    by_cases hf : Fix np i
    · exact hf
    · exact absurd (if_neg hf) h
  refine (hac.2 ρ0 w vals hargs0 hI0 hdom0).mono ?_
  rintro e w' ⟨v, ρ1, rfl, hfix, hdom, hret, hI1⟩
  -- the caller's names behind the call
  let ρ2 : Env := fun j => if nx ≤ j ∧ j < nx + o.nw.length then ρ1 (np + (j - nx)) else ρ j
  have hρ2old : ∀ j, ρ j ≠ none → ρ2 j = ρ j := by
    intro j h
    refine if_neg fun hh => h (hnx j hh.1 hh.2)
  have hρ2new : ∀ k, k < o.nw.length → ρ2 (nx + k) = ρ1 (np + k) := by
    intro k hk
    have : ρ2 (nx + k) = ρ1 (np + (nx + k - nx)) := if_pos ⟨by omega, by omega⟩
    rw [this, Nat.add_sub_cancel_left]
  have hle2 : ρ.le ρ2 := fun j L h => by rw [hρ2old j (by rw [h]; simp)]; exact h
  have hle1 : ρ1.le (fun i => ρ2 (s i)) := by
    intro i L h
    have hd := hdom i (by rw [h]; simp)
    by_cases hf : Fix np i
    · rw [hfix i hf, hρ0 i hf] at h
      show ρ2 (s i) = some L
      rw [hρ2old _ (by rw [h]; simp)]; exact h
    · have h1 : np ≤ i := by unfold Fix at hf; omega
      have h2 : i < np + o.nw.length := by unfold Fix at hf hd; omega
      show ρ2 (s i) = some L
      rw [s_new i h1 h2, hρ2new _ (by omega), show np + (i - np) = i by omega]; exact h
  have hrep : ∀ {d : D} {v : Value}, Rep ρ1 d v → Rep ρ2 (d.ren s) v := fun h => rep_ren.2 (h.mono hle1)
  have hrepS : ∀ {l : List D} {vs : List Value}, All2 (RepS ρ1) l vs → All2 (RepS ρ2) (l.map (D.ren s)) vs := fun h => (All2.map_iff (fun a b => repS_ren)).2 (h.mono fun _ _ => RepS.mono hle1)
  have hsat : ∀ {e : Ent} {L : Loc}, SatE ρ1 e L w' → SatE ρ2 ⟨e.ty, e.d.ren s, e.rw⟩ L w' := by
    intro e L h
    obtain ⟨q1, q2, q3, C, t, fr, pre, front, tail, q4, q5, q6, q7, q8, q9⟩ := h
    exact ⟨q1, q2, (hasTy_ren s _ _).2 q3, C, t, fr, pre, front, tail, q4, q5, q6, q7, by rw [flat_ren]; exact hrepS q8, q9⟩
  -- what each of the caller's blocks is now
  have hkeys : ∀ j, j ∈ (newsM nx (newsS s o.nw)).map (·.1) ↔ nx ≤ j ∧ j < nx + o.nw.length := by
    intro j; rw [newsM_keys, newsS_length]
  have hup : ∀ j e, get (upM s nx m0 o ++ m) j = some e →
      (∃ k x, k < o.nw.length ∧ j = nx + k ∧ o.nw[k]? = some x ∧ e = ⟨x.1, x.2.ren s, true⟩) ∨
      (∃ i e0 d, get m0 i = some e0 ∧ e0.rw = true ∧ lkw o.wr i = some (some d) ∧ s i = j ∧ e = ⟨e0.ty, d.ren s, true⟩) ∨
      (get m j = some e ∧ ∀ i d, (i, d) ∈ o.wr → s i ≠ j) := by
    intro j e h
    unfold upM at h
    rw [List.append_assoc, get_append] at h
    by_cases hn : nx ≤ j ∧ j < nx + o.nw.length
    · rw [if_pos ((hkeys j).2 hn), get_newsM, if_pos hn.1, newsS_get] at h
      cases hx : o.nw[j - nx]? with
      | none => simp [hx] at h
      | some x =>
        simp only [hx, Option.map_some, Option.some.injEq] at h
        exact .inl ⟨j - nx, x, by omega, by omega, hx, h.symm⟩
    · rw [if_neg (fun hh => hn ((hkeys j).1 hh))] at h
      rcases get_wrS (s := s) (m := m) hwr j with ⟨i, d, h1, h2, h3, h4⟩ | ⟨h1, h2⟩
      · rw [h4] at h
        cases d with
        | none => simp at h
        | some d =>
          obtain ⟨e0, he0, hr0⟩ := wrB_spec hwr h1
          simp only [he0, Option.map_some, Option.some.injEq] at h
          exact .inr (.inl ⟨i, e0, d, he0, hr0, h2, h3, h.symm⟩)
      · rw [h2] at h
        exact .inr (.inr ⟨h, h1⟩)
  -- the caller's block that a written one stands for
  have hcaller : ∀ i e0, get m0 i = some e0 → e0.rw = true → ∃ e' L, get m (s i) = some e' ∧ e'.rw = true ∧ ρ (s i) = some L ∧ L.blk < w.heap.size ∧ ρ0 i = some L ∧ (X.wp L.blk ∨ X.w0.heap.size ≤ L.blk) := by
    intro i e0 h hr
    obtain ⟨hf, e', h1, h2, h3, h4⟩ := hget0 i e0 h
    obtain ⟨L, h5, h6⟩ := hI.sat (s i) e' h1
    exact ⟨e', L, h1, h4 hr, h5, h6.lt, by rw [hρ0 i hf]; exact h5, hI.own (s i) e' L h1 (h4 hr) h5⟩
  have hnewget : ∀ k x, o.nw[k]? = some x → get (o.mem np m0) (np + k) = some ⟨x.1, x.2, true⟩ := by
    intro k x hx
    have hk : k < o.nw.length := by
      rcases Nat.lt_or_ge k o.nw.length with h | h
      · exact h
      · simp [List.getElem?_eq_none h] at hx
    rw [get_out, if_pos ⟨by omega, by omega⟩, Nat.add_sub_cancel_left, hx]
    rfl
  have hoget : ∀ i, Fix np i → get (o.mem np m0) i = match lkw o.wr i with | some none => none | some (some d) => (get m0 i).map fun e => ⟨e.ty, d, true⟩ | none => get m0 i := by
    intro i hf
    rw [get_out, if_neg (by unfold Fix at hf; omega)]
  -- where a block lies that the call has made, or been given
  have hnewloc : ∀ k x L, o.nw[k]? = some x → ρ1 (np + k) = some L → wpOf ρ0 m0 L.blk ∨ w.heap.size ≤ L.blk := fun k x L hx hL => hI1.own (np + k) _ L (hnewget k x hx) rfl hL
  have hkk : ∀ {k : Nat} {x : Ty × D}, o.nw[k]? = some x → k < o.nw.length := by
    intro k x hx
    rcases Nat.lt_or_ge k o.nw.length with h | h
    · exact h
    · simp [List.getElem?_eq_none h] at hx
  -- a block of the caller's that is there still: its place is as it was; and no other one's
  have hold : ∀ j e, get (upM s nx m0 o ++ m) j = some e → ¬ (nx ≤ j ∧ j < nx + o.nw.length) → ∃ e' L, get m j = some e' ∧ (e.rw = true → e'.rw = true) ∧ ρ j = some L ∧ ρ2 j = some L ∧ L.blk < w.heap.size ∧
      SatE ρ2 e L w' ∧ (∀ k x L', o.nw[k]? = some x → ρ1 (np + k) = some L' → L'.blk ≠ L.blk) := by
    intro j e h hn
    -- of a block that stands for a written one of the callee's, and is not given up
    have hvia : ∀ i e0 d, get m0 i = some e0 → e0.rw = true → get (o.mem np m0) i = some ⟨e0.ty, d, true⟩ → s i = j → e = ⟨e0.ty, d.ren s, true⟩ →
        ∃ e' L, get m j = some e' ∧ (e.rw = true → e'.rw = true) ∧ ρ j = some L ∧ ρ2 j = some L ∧ L.blk < w.heap.size ∧ SatE ρ2 e L w' ∧ (∀ k x L', o.nw[k]? = some x → ρ1 (np + k) = some L' → L'.blk ≠ L.blk) := by
      intro i e0 d h1 h2 h3 h4 h5
      obtain ⟨e', L, g1, g2, g3, g4, g5, g6⟩ := hcaller i e0 h1 h2
      have hf := (hget0 i e0 h1).1
      rw [h4] at g1 g3
      obtain ⟨L1, k1, k2⟩ := hI1.sat i _ h3
      have e1 : ρ1 i = some L := by rw [hfix i hf]; exact g5
      rw [e1] at k1; cases k1
      refine ⟨e', L, g1, fun _ => g2, g3, by rw [hρ2old j (by rw [g3]; simp)]; exact g3, g4, by rw [h5]; exact hsat k2, fun k x L' hx hL' => ?_⟩
      have := hkk hx
      exact hI1.inj (np + k) i _ _ L' L (hnewget k x hx) h3 (by unfold Fix at hf; omega) rfl hL' e1
    rcases hup j e h with ⟨k, x, hk, hj, hx, he⟩ | ⟨i, e0, d, h1, h2, h3, h4, h5⟩ | ⟨h1, h2⟩
    · exact absurd ⟨by omega, by omega⟩ hn
    · refine hvia i e0 d h1 h2 ?_ h4 h5
      rw [hoget i (hget0 i e0 h1).1, h3]
      simp [h1]
    · by_cases hw0 : ∃ i e0, get m0 i = some e0 ∧ e0.rw = true ∧ s i = j
      · obtain ⟨i, e0, g1, g2, g3⟩ := hw0
        obtain ⟨hf, e', k1, k2, k3, k4⟩ := hget0 i e0 g1
        rw [g3, h1] at k1; cases k1
        have hlk : lkw o.wr i = none := by
          cases hl : lkw o.wr i with
          | none => rfl
          | some d => exact absurd g3 (h2 i d (lkw_mem hl))
        refine hvia i e0 e0.d g1 g2 ?_ g3 ?_
        · rw [hoget i hf, hlk]
          simp only [g1]
          cases e0; simp only at g2; rw [g2]
        · have hr := k4 g2
          cases e; simp only at k2 k3 hr; rw [k2, k3, hr]
      · obtain ⟨L, g1, g2⟩ := hI.sat j e h1
        have hnw : ¬ wpOf ρ0 m0 L.blk := by
          rintro ⟨i, e0, L0, k1, k2, k3, k4⟩
          obtain ⟨e', L', q1, q2, q3, q4, q5, q6⟩ := hcaller i e0 k1 k2
          rw [k3] at q5; cases q5
          by_cases hij : s i = j
          · exact hw0 ⟨i, e0, k1, k2, hij⟩
          · exact hI.inj (s i) j e' e _ L q1 h1 hij q2 q3 g1 k4
        refine ⟨e, L, h1, id, g1, by rw [hρ2old j (by rw [g1]; simp)]; exact g1, g2.lt, (g2.mono hle2).same (hI1.ext L.blk g2.lt hnw), fun k x L' hx hL' heq => ?_⟩
        rcases hnewloc k x L' hx hL' with h | h
        · rw [heq] at h; exact hnw h
        · have := g2.lt; omega
  have hnew : ∀ j e, get (upM s nx m0 o ++ m) j = some e → (nx ≤ j ∧ j < nx + o.nw.length) → ∃ k x L, j = nx + k ∧ o.nw[k]? = some x ∧ ρ1 (np + k) = some L ∧ ρ2 j = some L ∧ SatE ρ2 e L w' := by
    intro j e h hn
    rcases hup j e h with ⟨k, x, hk, hj, hx, he⟩ | ⟨i, e0, d, h1, h2, h3, h4, h5⟩ | ⟨h1, h2⟩
    · obtain ⟨L, g1, g2⟩ := hI1.sat (np + k) _ (hnewget k x hx)
      exact ⟨k, x, L, hj, hx, g1, by rw [hj, hρ2new k hk]; exact g1, by rw [he]; exact hsat g2⟩
    · obtain ⟨e', L, g1, g2, g3, _⟩ := hcaller i e0 h1 h2
      rw [h4] at g3
      rw [hnx j hn.1 hn.2] at g3; cases g3
    · obtain ⟨L, g1, g2⟩ := hI.sat j e h1
      rw [hnx j hn.1 hn.2] at g1; cases g1
  refine ⟨v, ρ2, rfl, hle2, fun j h => ?_, hrep hret, ⟨fun g L h => ?_, fun j e h => ?_, fun j k ej ek Lj Lk hj hk hne hr h1 h2 => ?_, fun j e L h hr h1 => ?_, fun b hb hn => ?_, ?_, ?_, ?_, ?_⟩⟩
  · by_cases hn : nx ≤ j ∧ j < nx + o.nw.length
    · exact .inr hn
    · left
      have : ρ2 j = ρ j := if_neg hn
      rw [← this]; exact h
  · have : ρ2 (gid g) = ρ (gid g) := if_neg (by unfold gid; omega)
    rw [this] at h
    exact hI.glob g L h
  · by_cases hn : nx ≤ j ∧ j < nx + o.nw.length
    · obtain ⟨k, x, L, _, _, _, g1, g2⟩ := hnew j e h hn
      exact ⟨L, g1, g2⟩
    · obtain ⟨e', L, _, _, _, g1, _, g2, _⟩ := hold j e h hn
      exact ⟨L, g1, g2⟩
  · by_cases hnj : nx ≤ j ∧ j < nx + o.nw.length
    · obtain ⟨kj, xj, L1, a1, a2, a3, a4, _⟩ := hnew j ej hj hnj
      rw [h1] at a4; cases a4
      by_cases hnk : nx ≤ k ∧ k < nx + o.nw.length
      · obtain ⟨kk, xk, L2, b1, b2, b3, b4, _⟩ := hnew k ek hk hnk
        rw [h2] at b4; cases b4
        exact hI1.inj (np + kj) (np + kk) _ _ _ _ (hnewget kj xj a2) (hnewget kk xk b2) (by omega) rfl a3 b3
      · obtain ⟨e', L2, _, _, _, b1, _, _, b2⟩ := hold k ek hk hnk
        rw [h2] at b1; cases b1
        exact b2 kj xj _ a2 a3
    · obtain ⟨e', L1, a1, a2, a3, a4, _, _, a5⟩ := hold j ej hj hnj
      rw [h1] at a4; cases a4
      by_cases hnk : nx ≤ k ∧ k < nx + o.nw.length
      · obtain ⟨kk, xk, L2, b1, b2, b3, b4, _⟩ := hnew k ek hk hnk
        rw [h2] at b4; cases b4
        exact Ne.symm (a5 kk xk _ b2 b3)
      · obtain ⟨e2, L2, b1, b2, b3, b4, _, _, _⟩ := hold k ek hk hnk
        rw [h2] at b4; cases b4
        exact hI.inj j k e' e2 _ _ a1 b1 hne (a2 hr) a3 b3
  · by_cases hn : nx ≤ j ∧ j < nx + o.nw.length
    · obtain ⟨k, x, L', _, g1, g2, g3, _⟩ := hnew j e h hn
      rw [h1] at g3; cases g3
      rcases hnewloc k x _ g1 g2 with ⟨i, e0, L0, q1, q2, q3, q4⟩ | h'
      · obtain ⟨e', L', k1, k2, k3, k4, k5, k6⟩ := hcaller i e0 q1 q2
        rw [q3] at k5; cases k5
        rw [← q4]; exact k6
      · exact .inr (Nat.le_trans hI.size h')
    · obtain ⟨e', L', g1, g2, g3, g4, _⟩ := hold j e h hn
      rw [h1] at g4; cases g4
      exact hI.own j e' _ g1 (g2 hr) g3
  · have hbl : b < w.heap.size := Nat.lt_of_lt_of_le hb hI.size
    have hnw : ¬ wpOf ρ0 m0 b := by
      rintro ⟨i, e0, L0, q1, q2, q3, q4⟩
      obtain ⟨e', L', k1, k2, k3, k4, k5, k6⟩ := hcaller i e0 q1 q2
      rw [q3] at k5; cases k5
      rw [q4] at k6
      rcases k6 with h | h
      · exact hn h
      · omega
    rw [hI1.ext b hbl hnw]
    exact hI.ext b hb hn
  · exact Nat.le_trans hI.size hI1.size
  · rw [hI1.os]; exact hI.os
  · rw [hI1.out]; exact hI.out
  · rw [hI1.tape]; exact hI.tape
end
end Go.Proofs.YtljkjdhkofbgmaaDoor.Av
