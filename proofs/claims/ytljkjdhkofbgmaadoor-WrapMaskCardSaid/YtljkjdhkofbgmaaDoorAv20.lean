import Derived.Test.YtljkjdhkofbgmaaDoorAv19
import Derived.KernelRfl
namespace Go.Proofs.YtljkjdhkofbgmaaDoor.Av
open Go
set_option linter.all false
set_option maxRecDepth 3000

/-! a contract over a block that is only read serves where that block is a part of a greater one -/
mutual
def D.pre (i : Nat) (p : Path) : D → D
  | .ptr b q => .ptr b (match Nat.beq i b with | true => p ++ q | false => q)
  | .slice b q off len cap => .slice b (match Nat.beq i b with | true => p ++ q | false => q) off len cap
  | .fn f bs cs => .fn f (D.pres i p bs) (D.pres i p cs)
  | .node l => .node (D.pres i p l)
  | .tup l => .tup (D.pres i p l)
  | d => d
def D.pres (i : Nat) (p : Path) : List D → List D
  | [] => []
  | d :: ds => d.pre i p :: D.pres i p ds
end

theorem pres_map (i : Nat) (p : Path) : ∀ l : List D, D.pres i p l = l.map (D.pre i p)
  | [] => rfl
  | d :: ds => by simp only [D.pres, List.map_cons, pres_map i p ds]
theorem pre_isCell (i : Nat) (p : Path) (d : D) : (d.pre i p).isCell = d.isCell := by cases d <;> rfl
theorem pre_isAgg (i : Nat) (p : Path) (d : D) : (d.pre i p).isAgg = d.isAgg := by cases d <;> rfl
theorem pre_isTup (i : Nat) (p : Path) (d : D) : (d.pre i p).isTup = d.isTup := by cases d <;> rfl
theorem pre_isFn (i : Nat) (p : Path) (d : D) : (d.pre i p).isFn = d.isFn := by cases d <;> rfl
mutual
theorem flat_pre (i : Nat) (p : Path) : ∀ d : D, (d.pre i p).flat = d.flat.map (D.pre i p)
  | .node l => by simp only [D.pre, D.flat]; exact flats_pre i p l
  | .u8s l => by simp [D.pre, D.flat]
  | .u32s l => by simp [D.pre, D.flat]
  | .u64s l => by simp [D.pre, D.flat]
  | .tup l => by simp [D.pre, D.flat]
  | .undef | .bool _ | .u8 _ | .u16 _ | .u32 _ | .u64 _ | .i64 _ | .str _ | .nilptr | .ptr _ _ | .nilslice | .slice _ _ _ _ _ | .fn _ _ _ | .nilfn => by simp [D.pre, D.flat]
theorem flats_pre (i : Nat) (p : Path) : ∀ l : List D, D.flats (D.pres i p l) = (D.flats l).map (D.pre i p)
  | [] => rfl
  | d :: ds => by simp only [D.pres, D.flats, List.map_append, flat_pre i p d, flats_pre i p ds]
end
mutual
theorem hasTy_pre (i : Nat) (p : Path) : ∀ (T : Ty) (d : D), hasTy T (d.pre i p) ↔ hasTy T d
  | .cell, d => by show (d.pre i p).isCell = true ↔ d.isCell = true; rw [pre_isCell]
  | .arr n t, d => by
    cases d <;> first | exact Iff.rfl | skip
    rename_i l
    show (D.pres i p l).length = n ∧ AllD (hasTy t) (D.pres i p l) ↔ l.length = n ∧ AllD (hasTy t) l
    rw [pres_map, List.length_map, AllD_map (fun d => hasTy_pre i p t d)]
  | .row t, d => by
    cases d <;> first | exact Iff.rfl | skip
    rename_i l
    show AllD (hasTy t) (D.pres i p l) ↔ AllD (hasTy t) l
    rw [pres_map, AllD_map (fun d => hasTy_pre i p t d)]
  | .st fs, d => by
    cases d <;> first | exact Iff.rfl | skip
    rename_i l
    exact hasTys_pre i p fs l
theorem hasTys_pre (i : Nat) (p : Path) : ∀ (fs : List Ty) (l : List D), hasTys fs (D.pres i p l) ↔ hasTys fs l
  | [], [] => Iff.rfl
  | [], _ :: _ => Iff.rfl
  | t :: ts, [] => Iff.rfl
  | t :: ts, d :: ds => by
    show hasTy t (d.pre i p) ∧ hasTys ts (D.pres i p ds) ↔ hasTy t d ∧ hasTys ts ds
    rw [hasTy_pre i p t d, hasTys_pre i p ts ds]
end

theorem tyAt_cat : ∀ {p : Path} {T T' : Ty} (q : Path), tyAt T p = some T' → tyAt T (p ++ q) = tyAt T' q ∧ offAt T (p ++ q) = offAt T p + offAt T' q
  | [], T, T', q, h => by
    simp only [tyAt, Option.some.injEq] at h; subst h
    exact ⟨rfl, by simp [offAt]⟩
  | s :: p, T, T', q, h => by
    cases T with
    | cell => exact absurd h tyAt_cell_cons
    | st fs =>
      cases s <;> simp only [tyAt] at h <;> try contradiction
      rename_i i
      cases e : fs[i]? with
      | none => simp [e] at h
      | some t =>
        simp only [e] at h
        obtain ⟨h1, h2⟩ := tyAt_cat q h
        exact ⟨by simp only [List.cons_append, tyAt, e, h1], by simp only [List.cons_append, offAt, e, h2]; exact (Nat.add_assoc _ _ _).symm⟩
    | arr n t =>
      cases s <;> simp only [tyAt] at h <;> try contradiction
      all_goals
        obtain ⟨h1, h2⟩ := tyAt_cat q h
        exact ⟨by simp only [List.cons_append, tyAt, h1], by simp only [List.cons_append, offAt, h2]; omega⟩
    | row t =>
      cases s <;> simp only [tyAt] at h <;> try contradiction
      all_goals
        obtain ⟨h1, h2⟩ := tyAt_cat q h
        exact ⟨by simp only [List.cons_append, tyAt, h1], by simp only [List.cons_append, offAt, h2]; omega⟩

theorem tyAt_flats : ∀ {p : Path} {s : Step} {T S : Ty}, T.good → tyAt T (s :: p) = some S → S.flatTy
  | p, s, T, S, hg, h => by
    have key : ∀ (u : Ty), u.flatTy → tyAt u p = some S → S.flatTy := by
      intro u hu hp
      cases p with
      | nil => simp only [tyAt, Option.some.injEq] at hp; rw [← hp]; exact hu
      | cons s' p' => exact tyAt_flats (p := p') (s := s') (T := u) (by cases u <;> first | exact hu | exact hu.elim) hp
    cases T with
    | cell => exact absurd h tyAt_cell_cons
    | st fs =>
      cases s <;> simp only [tyAt] at h <;> try contradiction
      rename_i i
      cases e : fs[i]? with
      | none => simp [e] at h
      | some t =>
        simp only [e] at h
        exact key t (flatTys_get hg i e) h
    | arr n t =>
      cases s <;> simp only [tyAt] at h <;> try contradiction
      · exact key t hg h
      · exact key _ (show Ty.flatTy (.arr _ t) from hg) h
    | row t =>
      cases s <;> simp only [tyAt] at h <;> try contradiction
      · exact key t hg h
      · exact key _ (show Ty.flatTy (.arr _ t) from hg) h
theorem hasTy_row {n : Nat} {u : Ty} {d : D} (h : hasTy (.arr n u) d) : hasTy (.row u) d := by
  cases d with
  | u8s l => cases u <;> first | trivial | exact h.elim
  | u32s l => cases u <;> first | trivial | exact h.elim
  | u64s l => cases u <;> first | trivial | exact h.elim
  | node l => exact h.2
  | _ => exact h.elim

/-- the place of a part -/
structure SubL (L L' : Loc) (p : Path) : Prop where
  blk : L'.blk = L.blk
  n : L'.n = L.n
  base : L'.base = L.base + offAt L.ty p
  at_ : ∃ T, tyAt L.ty p = some T ∧ (L'.ty = T ∨ ∃ n t, T = .arr n t ∧ L'.ty = .row t)

theorem row_off (n : Nat) (t : Ty) (q : Path) : offAt (.row t) q = offAt (.arr n t) q := by
  cases q with
  | nil => rfl
  | cons s q => cases s <;> rfl
theorem row_el {n : Nat} {t u : Ty} {q : Path} : (∃ T, tyAt (.row t) q = some T ∧ elemTy T = some u) ↔ (∃ T, tyAt (.arr n t) q = some T ∧ elemTy T = some u) := by
  cases q with
  | nil => simp [tyAt, elemTy]
  | cons s q => cases s <;> simp [tyAt]

theorem SubL.off {L L' : Loc} {p : Path} (h : SubL L L' p) (q : Path) : L.base + offAt L.ty (p ++ q) = L'.base + offAt L'.ty q := by
  obtain ⟨T, h1, h2⟩ := h.at_
  rw [(tyAt_cat q h1).2, h.base]
  rcases h2 with h2 | ⟨n, t, h2, h3⟩
  · rw [h2]; omega
  · rw [h3, h2, row_off n]; omega
theorem SubL.el {L L' : Loc} {p : Path} (h : SubL L L' p) (q : Path) {u : Ty} : (∃ T, tyAt L.ty (p ++ q) = some T ∧ elemTy T = some u) ↔ (∃ T, tyAt L'.ty q = some T ∧ elemTy T = some u) := by
  obtain ⟨T, h1, h2⟩ := h.at_
  rw [(tyAt_cat q h1).1]
  rcases h2 with h2 | ⟨n, t, h2, h3⟩
  · rw [h2]
  · rw [h3, h2]; exact row_el.symm

theorem SubL.slice {L L' : Loc} {p : Path} (h : SubL L L' p) (q : Path) {off len : Nat} {cap : Option Nat} {v : Value} : SliceAt L (p ++ q) off len cap v ↔ SliceAt L' q off len cap v := by
  unfold SliceAt
  constructor
  · rintro ⟨T, t, a, c, h1, h2, h3, h4, h5, h6, h7⟩
    obtain ⟨T', h8, h9⟩ := (h.el q).1 ⟨T, h1, h2⟩
    exact ⟨T', t, a, c, h8, h9, h3, h4, h5, h6, fun hc => by rw [← h.off q, h.blk, h.n]; exact h7 hc⟩
  · rintro ⟨T, t, a, c, h1, h2, h3, h4, h5, h6, h7⟩
    obtain ⟨T', h8, h9⟩ := (h.el q).2 ⟨T, h1, h2⟩
    exact ⟨T', t, a, c, h8, h9, h3, h4, h5, h6, fun hc => by rw [h.off q, ← h.blk, ← h.n]; exact h7 hc⟩

structure SubE (i : Nat) (p : Path) (ρ ρ' : Env) : Prop where
  here : ∃ L L', ρ i = some L ∧ ρ' i = some L' ∧ SubL L L' p
  away : ∀ j, j ≠ i → ρ' j = ρ j

section
variable {i : Nat} {p : Path} {ρ ρ' : Env} (H : SubE i p ρ ρ')
include H
theorem repB_pre {d : D} {v : Value} : RepB ρ (d.pre i p) v ↔ RepB ρ' d v := by
  obtain ⟨L, L', h1, h2, h3⟩ := H.here
  cases d <;> try exact Iff.rfl
  · rename_i b q
    by_cases hb : i = b
    · subst hb
      have hi : Nat.beq i i = true := Nat.beq_refl i
      simp only [D.pre, hi, RepB, h1, h2, Option.some.injEq]
      constructor
      · rintro ⟨_, rfl, rfl⟩; exact ⟨_, rfl, by rw [h3.off q, h3.blk]⟩
      · rintro ⟨_, rfl, rfl⟩; exact ⟨_, rfl, by rw [h3.off q, h3.blk]⟩
    · have hi : Nat.beq i b = false := by
        cases e : Nat.beq i b with
        | false => rfl
        | true => exact absurd (Nat.eq_of_beq_eq_true e) hb
      simp only [D.pre, hi, RepB]
      rw [H.away b (fun e => hb e.symm)]
  · rename_i b q off len cap
    by_cases hb : i = b
    · subst hb
      have hi : Nat.beq i i = true := Nat.beq_refl i
      simp only [D.pre, hi, RepB, h1, h2, Option.some.injEq]
      constructor
      · rintro ⟨_, rfl, h⟩; exact ⟨_, rfl, (h3.slice q).1 h⟩
      · rintro ⟨_, rfl, h⟩; exact ⟨_, rfl, (h3.slice q).2 h⟩
    · have hi : Nat.beq i b = false := by
        cases e : Nat.beq i b with
        | false => rfl
        | true => exact absurd (Nat.eq_of_beq_eq_true e) hb
      simp only [D.pre, hi, RepB]
      rw [H.away b (fun e => hb e.symm)]

theorem repS_pre {d : D} {v : Value} : RepS ρ (d.pre i p) v ↔ RepS ρ' d v := by
  cases hd : d.isFn with
  | false => rw [repS_eq (by rw [pre_isFn, hd]), repS_eq hd]; exact repB_pre H
  | true =>
    cases d <;> simp [D.isFn] at hd
    rename_i f bs cs
    show (∃ us vs : List Value, _ ∧ All2 (RepB ρ) (D.pres i p bs) us ∧ All2 (RepB ρ) (D.pres i p cs) vs) ↔ (∃ us vs : List Value, _ ∧ All2 (RepB ρ') bs us ∧ All2 (RepB ρ') cs vs)
    rw [pres_map, pres_map]
    simp only [All2.map_iff (R := RepB ρ) (S := RepB ρ') (fun a b => repB_pre H)]

theorem repV_pre {d : D} {v : Value} : RepV ρ (d.pre i p) v ↔ RepV ρ' d v := by
  unfold RepV
  rw [pre_isAgg, flat_pre]
  split
  · simp only [All2.map_iff (R := RepS ρ) (S := RepS ρ') (fun a b => repS_pre H)]
  · exact repS_pre H

theorem rep_pre {d : D} {v : Value} : Rep ρ (d.pre i p) v ↔ Rep ρ' d v := by
  cases hd : d.isTup with
  | false => rw [rep_eq (by rw [pre_isTup, hd]), rep_eq hd]; exact repV_pre H
  | true =>
    cases d <;> simp [D.isTup] at hd
    · exact Iff.rfl
    · rename_i l
      show (∃ vs : List Value, _ ∧ All2 (RepV ρ) (D.pres i p l) vs) ↔ (∃ vs : List Value, _ ∧ All2 (RepV ρ') l vs)
      rw [pres_map]
      simp only [All2.map_iff (R := RepV ρ) (S := RepV ρ') (fun a b => repV_pre H)]

theorem sat_pre {e : Ent} {L : Loc} {w : World} : SatE ρ ⟨e.ty, e.d.pre i p, e.rw⟩ L w ↔ SatE ρ' e L w := by
  constructor
  · rintro ⟨q1, q2, q3, C, t, fr, pre, front, tail, q4, q5, q6, q7, q8, q9⟩
    refine ⟨q1, q2, (hasTy_pre i p _ _).1 q3, C, t, fr, pre, front, tail, q4, q5, q6, q7, ?_, q9⟩
    rw [flat_pre] at q8
    exact (All2.map_iff (fun a b => repS_pre H)).1 q8
  · rintro ⟨q1, q2, q3, C, t, fr, pre, front, tail, q4, q5, q6, q7, q8, q9⟩
    refine ⟨q1, q2, (hasTy_pre i p _ _).2 q3, C, t, fr, pre, front, tail, q4, q5, q6, q7, ?_, q9⟩
    show All2 _ (e.d.pre i p).flat _
    rw [flat_pre]
    exact (All2.map_iff (fun a b => repS_pre H)).2 q8
end

def preM (i : Nat) (p : Path) : Mem → Mem
  | [] => []
  | (j, some e) :: r => match Nat.beq i j with
    | true => preM i p r
    | false => (j, some ⟨e.ty, e.d.pre i p, e.rw⟩) :: preM i p r
  | (j, none) :: r => match Nat.beq i j with
    | true => preM i p r
    | false => (j, none) :: preM i p r
def preW (i : Nat) (p : Path) : List (Nat × Option D) → List (Nat × Option D)
  | [] => []
  | (j, some d) :: r => (j, some (d.pre i p)) :: preW i p r
  | (j, none) :: r => (j, none) :: preW i p r
def preN (i : Nat) (p : Path) : List (Ty × D) → List (Ty × D)
  | [] => []
  | (t, d) :: r => (t, d.pre i p) :: preN i p r
def Out.pre (i : Nat) (p : Path) (o : Out) : Out := ⟨o.ret.pre i p, preW i p o.wr, preN i p o.nw⟩

def entPre (i : Nat) (p : Path) (e : Ent) : Ent := ⟨e.ty, e.d.pre i p, e.rw⟩

theorem beq_ne {i j : Nat} (h : i ≠ j) : Nat.beq i j = false := by
  cases e : Nat.beq i j with
  | false => rfl
  | true => exact absurd (Nat.eq_of_beq_eq_true e) h

theorem get_preM (i : Nat) (p : Path) : ∀ (m : Mem) (j : Nat), j ≠ i → get (preM i p m) j = (get m j).map (entPre i p)
  | [], j, _ => rfl
  | (k, some e) :: r, j, h => by
    by_cases hk : i = k
    · subst hk
      simp only [preM, Nat.beq_refl]
      rw [get_preM i p r j h, get_cons, if_neg (fun e => h e.symm)]
    · simp only [preM, beq_ne hk, get_cons]
      split
      · rfl
      · exact get_preM i p r j h
  | (k, none) :: r, j, h => by
    by_cases hk : i = k
    · subst hk
      simp only [preM, Nat.beq_refl]
      rw [get_preM i p r j h, get_cons, if_neg (fun e => h e.symm)]
    · simp only [preM, beq_ne hk, get_cons]
      split
      · rfl
      · exact get_preM i p r j h

theorem lkw_preW (i : Nat) (p : Path) : ∀ (l : List (Nat × Option D)) (j : Nat), lkw (preW i p l) j = (lkw l j).map (fun x => x.map (D.pre i p))
  | [], _ => rfl
  | (k, some d) :: r, j => by simp only [preW, lkw, lkw_preW i p r j]; split <;> rfl
  | (k, none) :: r, j => by simp only [preW, lkw, lkw_preW i p r j]; split <;> rfl

theorem preN_get (i : Nat) (p : Path) : ∀ (l : List (Ty × D)) (k : Nat), (preN i p l)[k]? = (l[k]?).map fun x => (x.1, x.2.pre i p)
  | [], k => by simp [preN]
  | (t, d) :: r, 0 => by simp [preN]
  | (t, d) :: r, k + 1 => by simp [preN, preN_get i p r k]
theorem preN_length (i : Nat) (p : Path) : ∀ l, (preN i p l).length = l.length
  | [] => rfl
  | (t, d) :: r => by simp [preN, preN_length i p r]

/-- the memory with the greater block -/
def bigM (i : Nat) (p : Path) (T : Ty) (d : D) (m : Mem) : Mem := (i, some ⟨T, d, false⟩) :: preM i p m

theorem AC.sub {P : Program} {f : Nat} {args : List D} {np : Nat} {m0 : Mem} {o : Out} (hac : AC P f args np m0 o) (i : Nat) (p : Path) (T : Ty) (D0 : D) {S t : Ty} {d : D} 
    (hm : get m0 i = some ⟨t, d, false⟩) (hT : tyAt T p = some S) (hv : S = t ∨ ∃ n u, S = .arr n u ∧ t = .row u) (hg : getP D0 p = some (d.pre i p)) (hok : okP D0 p)
    (hi : i < np := by decide) (hi2 : i < 1000000 := by decide) (hw : lkw o.wr i = none := by rfl) : AC P f (D.pres i p args) np (bigM i p T D0 m0) (o.pre i p) := by
  refine ⟨hac.1, fun ρ1 w0 vals hvals hI hd => ?_⟩
  have hgi : get (bigM i p T D0 m0) i = some ⟨T, D0, false⟩ := by simp [bigM, get_cons]
  have hgj : ∀ j, j ≠ i → get (bigM i p T D0 m0) j = (get m0 j).map (entPre i p) := fun j hj => by
    unfold bigM
    rw [get_cons, if_neg (fun e => hj e.symm)]
    exact get_preM i p m0 j hj
  obtain ⟨L, hL, hsat⟩ := hI.sat i _ hgi
  let L' : Loc := ⟨L.blk, L.base + offAt L.ty p, L.n, t⟩
  have hty : L.ty = T := hsat.ty
  have hsub : SubL L L' p := ⟨rfl, rfl, rfl, S, by rw [hty]; exact hT, by
    rcases hv with h | ⟨n, u, h1, h2⟩
    · exact .inl h.symm
    · exact .inr ⟨n, u, h1, h2⟩⟩
  let ρ0 : Env := ρ1.put i L'
  have hρi : ρ0 i = some L' := if_pos rfl
  have hρj : ∀ j, j ≠ i → ρ0 j = ρ1 j := fun j hj => if_neg hj
  have hE : SubE i p ρ1 ρ0 := ⟨⟨L, L', hL, hρi, hsub⟩, hρj⟩
  have hsat' : SatE ρ0 ⟨t, d, false⟩ L' w0 := by
    rw [← sat_pre hE]
    obtain ⟨hST, vs, hr, hcell⟩ := hsat.read (p := p) hT hok hg
    obtain ⟨q1, q2, q3, C, tt, fr, pre, front, tail, q4, q5, q6, q7, q8, q9⟩ := hsat
    obtain ⟨hT', pr, po, h7, h8⟩ := getP_spec p T D0 _ S q2 q3 hT hok hg
    have q8 : All2 (RepS ρ1) D0.flat front := q8
    rw [h7] at q8
    obtain ⟨b12, b3, e1, ha, hb⟩ := All2.split_left q8
    obtain ⟨b1, b2, e2, hc, hd2⟩ := All2.split_left ha
    refine ⟨rfl, ?_, ?_, C, tt, fr, pre ++ b1, b2, b3 ++ tail, q4, by rw [q5, e1, e2]; simp, ?_, q7, hd2, fun h => by cases h⟩
    · show t.good
      have hSg : S.good ∧ (∀ n u, S = .arr n u → u.flatTy) := by
        have : S.good := by
          rcases p with _ | ⟨s, p⟩
          · simp only [tyAt, Option.some.injEq] at hT; rw [← hT]; exact q2
          · have := tyAt_flats (p := p) q2 hT
            cases S <;> first | exact this | exact this.elim
        refine ⟨this, fun n u e => ?_⟩
        rw [e] at this; exact this
      rcases hv with h | ⟨n, u, h1, h2⟩
      · rw [← h]; exact hSg.1
      · rw [h2]; exact hSg.2 n u h1
    · show hasTy t (d.pre i p)
      rcases hv with h | ⟨n, u, h1, h2⟩
      · rw [← h]; exact hST
      · rw [h2]; rw [h1] at hST; exact hasTy_row hST
    · show (pre ++ b1).length = L.base + offAt L.ty p
      rw [List.length_append, q6, ← hc.length, h8, hty]
  have hent : ∀ j ej, get m0 j = some ej → ∃ Lj, ρ0 j = some Lj ∧ SatE ρ0 ej Lj w0 ∧ ∃ L1 e1, get (bigM i p T D0 m0) j = some e1 ∧ e1.rw = ej.rw ∧ ρ1 j = some L1 ∧ L1.blk = Lj.blk := by
    intro j ej hj
    by_cases h : j = i
    · subst h
      rw [hm] at hj; cases hj
      exact ⟨L', hρi, hsat', L, _, hgi, rfl, hL, rfl⟩
    · have h1 : get (bigM i p T D0 m0) j = some (entPre i p ej) := by rw [hgj j h, hj]; rfl
      obtain ⟨Lj, h2, h3⟩ := hI.sat j _ h1
      exact ⟨Lj, by rw [hρj j h]; exact h2, (sat_pre hE).1 h3, Lj, _, h1, rfl, h2, rfl⟩
  have hwp : ∀ b, wpOf ρ0 m0 b → wpOf ρ1 (bigM i p T D0 m0) b := by
    rintro b ⟨j, ej, Lj, h1, h2, h3, h4⟩
    obtain ⟨L2, g1, _, L1, e1, g2, g3, g4, g5⟩ := hent j ej h1
    rw [h3] at g1; cases g1
    exact ⟨j, e1, L1, g2, by rw [g3]; exact h2, g4, by rw [g5, h4]⟩
  have hI0 : Inv ⟨w0, wpOf ρ0 m0⟩ ρ0 m0 w0 := by
    refine ⟨fun g L1 h => ?_, fun j ej hj => ?_, fun j k ej ek Lj Lk hj hk hne hr h1 h2 => ?_, fun j ej Lj h hr h1 => .inl ⟨j, ej, Lj, h, hr, h1, rfl⟩, fun _ _ _ => rfl, Nat.le_refl _, rfl, rfl, rfl⟩
    · have hne : gid g ≠ i := by unfold gid; omega
      rw [hρj _ hne] at h
      exact hI.glob g L1 h
    · obtain ⟨Lj, h1, h2, _⟩ := hent j ej hj
      exact ⟨Lj, h1, h2⟩
    · obtain ⟨L2, g1, _, L1, e1, g2, g3, g4, g5⟩ := hent j ej hj
      rw [h1] at g1; cases g1
      obtain ⟨L3, k1, _, L4, e4, k2, k3, k4, k5⟩ := hent k ek hk
      rw [h2] at k1; cases k1
      rw [← g5, ← k5]
      exact hI.inj j k e1 e4 L1 L4 g2 k2 hne (by rw [g3]; exact hr) g4 k4
  have hvals0 : All2 (Rep ρ0) args vals := by
    rw [pres_map] at hvals
    exact (All2.map_iff (fun a b => rep_pre hE)).1 hvals
  have hfixi : Fix np i := .inl hi
  refine (hac.2 ρ0 w0 vals hvals0 hI0 (fun j hj => ?_)).mono ?_
  · by_cases h : j = i
    · rw [h]; exact hfixi
    · rw [hρj j h] at hj; exact hd j hj
  rintro e w' ⟨v, ρ2, rfl, hfix, hdom, hret, hI2⟩
  let ρ3 : Env := ρ2.put i L
  have h3i : ρ3 i = some L := if_pos rfl
  have h3j : ∀ j, j ≠ i → ρ3 j = ρ2 j := fun j hj => if_neg hj
  have h2i : ρ2 i = some L' := by rw [hfix i hfixi]; exact hρi
  have hE3 : SubE i p ρ3 ρ2 := ⟨⟨L, L', h3i, h2i, hsub⟩, fun j hj => (h3j j hj).symm⟩
  have hle : ρ1.le ρ3 := by
    intro j Lj hj
    by_cases h : j = i
    · subst h; rw [hL] at hj; cases hj; exact h3i
    · rw [h3j j h, hfix j (hd j (by rw [hj]; simp)), hρj j h]; exact hj
  have hnl : (o.pre i p).nw.length = o.nw.length := preN_length i p o.nw
  have hnotwp : ¬ wpOf ρ0 m0 L.blk := by
    rintro ⟨j, ej, Lj, h1, h2, h3, h4⟩
    obtain ⟨L2, g1, _, L1, e1, g2, g3, g4, g5⟩ := hent j ej h1
    rw [h3] at g1; cases g1
    by_cases hji : j = i
    · subst hji; rw [hm] at h1; cases h1; cases h2
    · exact hI.inj j i e1 _ L1 L g2 hgi hji (by rw [g3]; exact h2) g4 hL (by rw [g5, h4])
  have hsat3 : SatE ρ3 ⟨T, D0, false⟩ L w' := (hsat.mono hle).same (hI2.ext L.blk hsat.lt hnotwp)
  have hoi : get ((o.pre i p).mem np (bigM i p T D0 m0)) i = some ⟨T, D0, false⟩ := by
    rw [get_out, if_neg (by omega), show lkw (o.pre i p).wr i = none by show lkw (preW i p o.wr) i = none; rw [lkw_preW, hw]; rfl]
    exact hgi
  have hoj : ∀ j, j ≠ i → get ((o.pre i p).mem np (bigM i p T D0 m0)) j = (get (o.mem np m0) j).map (entPre i p) := by
    intro j hj
    rw [get_out, get_out, hnl]
    split
    · show Option.map _ ((preN i p o.nw)[j - np]?) = _
      rw [preN_get]
      cases o.nw[j - np]? <;> rfl
    · show (match lkw (preW i p o.wr) j with | some none => none | some (some d) => _ | none => _) = _
      rw [lkw_preW, hgj j hj]
      cases lkw o.wr j with
      | none => rfl
      | some x =>
        cases x with
        | none => rfl
        | some d' =>
          simp only [Option.map_some, Option.map_map]
          rfl
  have hent3 : ∀ j ej, get ((o.pre i p).mem np (bigM i p T D0 m0)) j = some ej → ∃ L3 L2 e2, ρ3 j = some L3 ∧ SatE ρ3 ej L3 w' ∧ get (o.mem np m0) j = some e2 ∧ e2.rw = ej.rw ∧ ρ2 j = some L2 ∧ L2.blk = L3.blk := by
    intro j ej hj
    by_cases h : j = i
    · subst h
      rw [hoi] at hj; cases hj
      have : get (o.mem np m0) j = some ⟨t, d, false⟩ := by rw [get_out, if_neg (by omega), hw]; exact hm
      exact ⟨L, L', _, h3i, hsat3, this, rfl, h2i, rfl⟩
    · rw [hoj j h] at hj
      cases he : get (o.mem np m0) j with
      | none => rw [he] at hj; cases hj
      | some e2 =>
        rw [he] at hj; cases hj
        obtain ⟨L2, g1, g2⟩ := hI2.sat j e2 he
        exact ⟨L2, L2, e2, by rw [h3j j h]; exact g1, (sat_pre hE3).2 g2, rfl, rfl, g1, rfl⟩
  refine ⟨v, ρ3, rfl, fun j hj => ?_, fun j hj => ?_, (rep_pre hE3).2 hret, ⟨fun g L1 h => ?_, fun j ej hj => ?_, fun j k ej ek Lj Lk hj hk hne hr h1 h2 => ?_, fun j ej Lj hj hr h1 => ?_, fun b hb hn => hI2.ext b hb (fun h => hn (hwp b h)), hI2.size, hI2.os, hI2.out, hI2.tape⟩⟩
  · by_cases h : j = i
    · subst h; rw [h3i, hL]
    · rw [h3j j h, hfix j hj, hρj j h]
  · rw [hnl]
    by_cases h : j = i
    · rw [h]; exact .inl (by omega)
    · rw [h3j j h] at hj; exact hdom j hj
  · have hne : gid g ≠ i := by unfold gid; omega
    rw [h3j _ hne] at h
    exact hI2.glob g L1 h
  · obtain ⟨L3, _, _, g1, g2, _⟩ := hent3 j ej hj
    exact ⟨L3, g1, g2⟩
  · obtain ⟨L3, L2, e2, g1, _, g2, g3, g4, g5⟩ := hent3 j ej hj
    rw [h1] at g1; cases g1
    obtain ⟨K3, K2, k2, k1, _, kk2, k3, k4, k5⟩ := hent3 k ek hk
    rw [h2] at k1; cases k1
    rw [← g5, ← k5]
    exact hI2.inj j k e2 k2 L2 K2 g2 kk2 hne (by rw [g3]; exact hr) g4 k4
  · obtain ⟨L3, L2, e2, g1, _, g2, g3, g4, g5⟩ := hent3 j ej hj
    rw [h1] at g1; cases g1
    rcases hI2.own j e2 L2 g2 (by rw [g3]; exact hr) g4 with h | h
    · left; rw [← g5]; exact hwp _ h
    · right; rw [← g5]; exact h

/-- an array's bytes as a row -/
theorem AC.arr {P : Program} {f : Nat} {args : List D} {np : Nat} {m0 : Mem} {o : Out} (hac : AC P f args np m0 o) (i n : Nat) {l : List (BitVec 8)} (hm : get m0 i = some ⟨.row .cell, .u8s l, false⟩ := by rfl)
    (hi : i < np := by decide) (hi2 : i < 1000000 := by decide) (hw : lkw o.wr i = none := by rfl) : AC P f (D.pres i [] args) np (bigM i [] (.arr n .cell) (.u8s l) m0) (o.pre i []) :=
  AC.sub hac i [] (.arr n .cell) (.u8s l) hm rfl (.inr ⟨n, .cell, rfl, rfl⟩) rfl trivial hi hi2 hw
/-- the bytes of an array that lies in a greater block as a row -/
theorem AC.arrAt {P : Program} {f : Nat} {args : List D} {np : Nat} {m0 : Mem} {o : Out} (hac : AC P f args np m0 o) (i n : Nat) (p : Path) (T : Ty) (D0 : D) {l : List (BitVec 8)} (hm : get m0 i = some ⟨.row .cell, .u8s l, false⟩ := by rfl)
    (hT : tyAt T p = some (.arr n .cell) := by rfl) (hg : getP D0 p = some (.u8s l) := by rfl) (hok : okP D0 p := by trivial)
    (hi : i < np := by decide) (hi2 : i < 1000000 := by decide) (hw : lkw o.wr i = none := by rfl) : AC P f (D.pres i p args) np (bigM i p T D0 m0) (o.pre i p) :=
  AC.sub hac i p T D0 hm hT (.inr ⟨n, .cell, rfl, rfl⟩) hg hok hi hi2 hw
end Go.Proofs.YtljkjdhkofbgmaaDoor.Av
