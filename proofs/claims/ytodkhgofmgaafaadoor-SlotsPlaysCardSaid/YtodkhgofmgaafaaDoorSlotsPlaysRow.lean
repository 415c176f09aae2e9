/- Any passphrases that are added, removed and rotated leave the table that the document says, with the answers that it says: for every row of acts and every key, with the constants of the sums and the box as the program's texts lay them. -/
import Derived.Test.YtodkhgofmgaafaaDoorM8
import Derived.Test.YtodkhgofmgaafaaDoorRows
import Derived.Test.YtodkhgofmgaafaaDoorTie
import Derived.Test.YtodkhgofmgaafaaDoorCards
import Derived.SevenTiedAt
import Derived.SizedLaws
namespace Go.Proofs.YtodkhgofmgaafaaDoor
open Go Go.Proofs Go.Proofs.YtodkhgofmgaafaaDoor Go.ChangeShapes Go.WideShapes Go.ChangeAt Go.RowKit
set_option linter.all false
set_option maxRecDepth 3000

theorem SlotsPlaysR.own : ownKnob Tryd.prog.godebug = none := by kernel_rfl

theorem SlotsPlaysR.laid0 : (Rows.laid_reliquary_sha_roots : DataW Unit) = .agg (Av.K256.map fun b => .lit (.int .u32 b.toNat)) := by kernel_rfl

theorem SlotsPlaysR.sat0 {W : World} (h : laidMetH Tryd.prog Rows.slotsPlaysRow.laid W) : Av.SatE (fun _ => none) ⟨.arr 64 .cell, .u32s Av.K256, false⟩ ⟨2, 0, 64, .arr 64 .cell⟩ W := by
  rw [MakeChecks.laidMetH_plain _ _ _ (by kernel_rfl)] at h
  have hr := Lib.laidMet.reads h (n := "reliquary/sha.roots") (d := Rows.laid_reliquary_sha_roots) (by simp [Rows.slotsPlaysRow])
  rw [SlotsPlaysR.laid0] at hr
  exact Av.sat_u32s (t := 196) (e := 73) (by kernel_rfl) (by kernel_rfl) Tryd.underlying196 Tryd.underlying73 (by kernel_rfl) (by kernel_rfl) Av.K256_length hr

theorem SlotsPlaysR.laid1 : (Rows.laid_reliquary_reliquaryref06_Box : DataW Unit) = .agg (Av.boxL.map fun b => .lit (.int .u8 b.toNat)) := by kernel_rfl

theorem SlotsPlaysR.sat1 {W : World} (h : laidMetH Tryd.prog Rows.slotsPlaysRow.laid W) : Av.SatE (fun _ => none) ⟨.arr 256 .cell, .u8s Av.boxL, false⟩ ⟨1, 0, 256, .arr 256 .cell⟩ W := by
  rw [MakeChecks.laidMetH_plain _ _ _ (by kernel_rfl)] at h
  have hr := Lib.laidMet.reads h (n := "reliquary/reliquaryref06.Box") (d := Rows.laid_reliquary_reliquaryref06_Box) (by simp [Rows.slotsPlaysRow])
  rw [SlotsPlaysR.laid1] at hr
  exact Av.sat_u8s (t := 211) (e := 5) (by kernel_rfl) (by kernel_rfl) Tryd.underlying211 Tryd.underlying5 (by kernel_rfl) (by kernel_rfl) Av.boxL_length hr

theorem SlotsPlaysR.laid2 : (Rows.laid_reliquary_reliquaryref03_k : DataW Unit) = .agg (Av.K256.map fun b => .lit (.int .u32 b.toNat)) := by kernel_rfl

theorem SlotsPlaysR.sat2 {W : World} (h : laidMetH Tryd.prog Rows.slotsPlaysRow.laid W) : Av.SatE (fun _ => none) ⟨.arr 64 .cell, .u32s Av.K256, false⟩ ⟨0, 0, 64, .arr 64 .cell⟩ W := by
  rw [MakeChecks.laidMetH_plain _ _ _ (by kernel_rfl)] at h
  have hr := Lib.laidMet.reads h (n := "reliquary/reliquaryref03.k") (d := Rows.laid_reliquary_reliquaryref03_k) (by simp [Rows.slotsPlaysRow])
  rw [SlotsPlaysR.laid2] at hr
  exact Av.sat_u32s (t := 196) (e := 73) (by kernel_rfl) (by kernel_rfl) Tryd.underlying196 Tryd.underlying73 (by kernel_rfl) (by kernel_rfl) Av.K256_length hr

/-- acts, as they came in -/
theorem act_field : Av.fieldT Tryd.prog 45 = [5, 31, 31, 23, 3] := by kernel_rfl
theorem act_can {n : Nat} {bl : List (List (BitVec 8))} {ds : List Av.D} (h : Av.canF Tryd.prog 4 n bl (Av.fieldT Tryd.prog 45) ds) : ∃ a : Av.ActS, a.ok ∧ bl = [a.ks, a.fs] ∧ Av.D.node ds = Av.actAt n (n + 1) a := by
  rw [act_field] at h
  have hlen := Av.canF_length h
  match ds, hlen with
  | [d1, d2, d3, d4, d5], _ =>
    simp only [Av.canF, show Av.isBS Tryd.prog 5 = false by kernel_rfl, show Av.isBS Tryd.prog 31 = true by kernel_rfl, show Av.isBS Tryd.prog 23 = false by kernel_rfl, show Av.isBS Tryd.prog 3 = false by kernel_rfl] at h
    obtain ⟨h1, h⟩ := h
    cases bl with
    | nil => exact h.elim
    | cons l1 bl =>
      obtain ⟨⟨x1, hx1, rfl⟩, h⟩ := h
      cases bl with
      | nil => exact h.elim
      | cons l2 bl =>
        obtain ⟨⟨x2, hx2, rfl⟩, h4, h5, rfl⟩ := h
        simp only [Av.canE, Tryd.underlying5, Tryd.underlying23, Tryd.underlying3, show Av.oddB Tryd.prog 5 = 1 by kernel_rfl] at h1 h4 h5
        obtain ⟨kd, rfl⟩ := h1
        obtain ⟨salt, rfl, hs⟩ := h4
        obtain ⟨n5, rfl, _⟩ := h5
        exact ⟨⟨kd, l1, l2, x1, x2, salt, n5⟩, ⟨hx1, hx2, hs⟩, rfl, rfl⟩
theorem acts_can : ∀ (rows : List Av.RowO) (n : Nat), (∀ (i : Nat) r, rows[i]? = some r → Av.canF Tryd.prog 4 (n + i * 2) (r.bl.map (·.1)) (Av.fieldT Tryd.prog 45) r.ds) →
    ∃ A : List Av.ActS, A.length = rows.length ∧ (∀ a ∈ A, a.ok) ∧ (rows.map fun r => Av.D.node r.ds) = Av.actsD n A ∧ ∀ (i : Nat) r, rows[i]? = some r → r.bl.map (·.1) = [(A.getD i Av.a0).ks, (A.getD i Av.a0).fs]
  | [], _, _ => ⟨[], rfl, (fun _ h => nomatch h), rfl, (fun i r h => by simp at h)⟩
  | r :: rows, n, h => by
    have h0 := h 0 r rfl
    rw [Nat.zero_mul, Nat.add_zero] at h0
    obtain ⟨a, ha, hb, hd⟩ := act_can h0
    obtain ⟨A, h1, h2, h3, h4⟩ := acts_can rows (n + 2) (fun i r hi => by
      have := h (i + 1) r (by rw [List.getElem?_cons_succ]; exact hi)
      rw [show n + (i + 1) * 2 = n + 2 + i * 2 by omega] at this
      exact this)
    refine ⟨a :: A, by rw [List.length_cons, List.length_cons, h1], fun b hb => ?_, ?_, fun i r' hi => ?_⟩
    · rcases List.mem_cons.1 hb with rfl | hb
      · exact ha
      · exact h2 b hb
    · rw [List.map_cons, h3, hd]; rfl
    · cases i with
      | zero =>
        simp only [List.getElem?_cons_zero, Option.some.injEq] at hi
        subst hi
        exact hb
      | succ i =>
        rw [List.getElem?_cons_succ] at hi
        exact h4 i r' hi
/-- where the slices of acts lie -/
def actLoc (L0 L9 : Av.Loc) (rows : List Av.RowO) (i : Nat) : Av.Loc := if i = 0 then L0 else match rows[(i - 1) / 2]? with
  | some r => (match r.bl[(i - 1) % 2]? with
    | some p => p.2
    | none => L9)
  | none => L9
theorem actLoc_at {L0 L9 : Av.Loc} {rows : List Av.RowO} {i j : Nat} {r : Av.RowO} {p : List (BitVec 8) × Av.Loc} (hj : j < 2) (h1 : rows[i]? = some r) (h2 : r.bl[j]? = some p) : actLoc L0 L9 rows (1 + i * 2 + j) = p.2 := by
  unfold actLoc
  rw [if_neg (by omega), show (1 + i * 2 + j - 1) / 2 = i by omega, show (1 + i * 2 + j - 1) % 2 = j by omega, h1]
  simp only [h2]
theorem actLoc_no {L0 L9 : Av.Loc} {rows : List Av.RowO} {i j : Nat} (hj : j < 2) (h1 : rows[i]? = none) : actLoc L0 L9 rows (1 + i * 2 + j) = L9 := by
  unfold actLoc
  rw [if_neg (by omega), show (1 + i * 2 + j - 1) / 2 = i by omega, h1]

set_option maxRecDepth 100000 in
theorem slotsplays_lifted (os : Os) (started : os.Started) (H : Type) (enc : TypeId × Value → H) :
    ReturnsInHanded {} Tryd.checked os 4 .any (fun w args => (Rows.slotsPlaysSpec.pre enc Tryd.prog Tryd.f4 Rows.slotsPlaysRow.domain false w args ∧ laidMetH Tryd.prog Rows.slotsPlaysRow.laid w) ∧ sizedMet enc Tryd.prog Tryd.f4 (OpenSpec.ofChange Rows.slotsPlaysSpec) false w args)
      (Rows.slotsPlaysSpec.post enc Tryd.prog Tryd.f4 false true false false) := by
  refine returnsInHanded_of_change_and (C := Tryd.checked) (X := fun w _ => laidMetH Tryd.prog Rows.slotsPlaysRow.laid w) (fun _ _ _ hh h => h.of_heap hh) SlotsPlaysR.own started (by kernel_rfl) Tryd.func4
    (ChangeSpec.witness_shaped (enc := enc) (C := Tryd.checked) (os := os) (X := fun w _ => laidMetH Tryd.prog Rows.slotsPlaysRow.laid w) false (World.laidAll Tryd.prog os Rows.slotsPlaysRow.laid) #[.slice none 0 0, .agg (List.replicate 32 (.int .u8 0)).toArray] 8 (World.laidAll_os _ _ _)
      (World.shaped_of_ZipB (by kernel_rfl) (by kernel_rfl)) (by kernel_rfl) (by kernel_rfl) (by kernel_rfl)
      (by rw [MakeChecks.laidMetH_plain _ _ _ (by kernel_rfl)]; exact laidMet_laidAll _ (by kernel_rfl) (by kernel_rfl))) ?_
  intro W base args ds gs before hval0 hW _ hsz hL _
  have hval : ∀ (j : Nat) t v, Tryd.f4.params[j]? = some t → args[j]? = some v → Value.okWide Tryd.prog W .any base t v := hval0
  have hW' := hW
  obtain ⟨p, q, hA0, hV, rfl, _, _⟩ := hW
  have hA : DataW.TrodAll enc Tryd.prog W 0 (fun _ => true) true Tryd.f4.params.toList args.toList ds p := hA0
  rw [Tryd.params4] at hA hval hsz
  have hA1 := hA
  obtain ⟨v0, v1, d0, d1, p0, p1, rfl, rfl, rfl, h0, h1⟩ := trodAll_two hA
  obtain ⟨rfl, rfl⟩ := trodVars_none hV
  obtain ⟨master, hml, rfl, hrep1, hstay1⟩ := Av.open_u8s Tryd.underlying25 Tryd.underlying5 (by kernel_rfl) (by kernel_rfl) (hval 1 25 v1 rfl rfl) h1
  have hstay : ∀ (W' : World), (∀ b, b < W.heap.size → W'.heap[b]? = W.heap[b]?) → ∀ sp : Nat → Bool, (∀ p ∈ p0, sp p.block = true) → DataW.TrodAll enc Tryd.prog W' 0 sp true [41, 25] [v0, v1] [d0, d1] p0 := fun W' hW2 sp hsp =>
    Av.trodAll_stays (by kernel_rfl) (by kernel_rfl) (by kernel_rfl) hW2 (by decide +kernel) (by simpa using hA1) (fun p hp => hsp p (by simpa using hp))
  have h9 := Av.sat_none (SlotsPlaysR.sat0 hL)
  have hop := Av.open_recs 4 Tryd.underlying41 (e := 45) (by kernel_rfl) (by decide +kernel) 2 (by rw [act_field]; kernel_rfl) Av.tAct ⟨trivial, trivial, trivial, trivial, trivial, trivial⟩ (by kernel_rfl) (fun n bl ds h => by
    obtain ⟨a, ha, _, hd⟩ := act_can h
    rw [hd]
    exact ⟨rfl, Av.cell_slD _ _ _, Av.cell_slD _ _ _, ha.salt, rfl, trivial⟩) h9 (hval 0 41 v0 rfl rfl) h0
  clear hA0 hval0
  simp only [List.append_nil, List.nil_append] at hW'
  rcases hop with rfl | ⟨rows, L0, cap, hcap, hcap2, hrows, hsat, hrep0⟩
  · refine (Av.calls_bool_r (np := 0) (by decide) (Av.plays_nil_ac master hml) (W := W) (loc := fun _ => ⟨0, 0, 0, .cell⟩) (vals := [.slice none 0 0, v1]) ⟨rfl, hrep1 _, trivial⟩ (fun i e hi => ?_)).mono fun e W' ⟨he, q1, q2, q3, q4⟩ => ?_
    · rw [Av.get_cons] at hi
      split at hi
      · rename_i hg; cases hi; exact ⟨rfl, .inr ⟨_, hg.symm, _, ⟨rfl, rfl⟩, SlotsPlaysR.sat0 hL⟩⟩
      cases hi
    subst he
    exact ⟨_, rfl, Av.post_places hW' (fun _ _ _ => trodAll_mk1 (shut_bool Tryd.underlying4 true)) (fun sp hsp => hstay W' q4 sp hsp) (fun _ => rfl) (Av.kept_of_same q1 q2 q4 _)⟩
  obtain ⟨A, hA1', hA2, hA3, hA4⟩ := acts_can rows 1 (fun i r hi => (hrows i r hi).1)
  by_cases hlen : 12 < rows.length
  · refine (Av.calls_bool_r (np := 1) (by decide) (Av.plays_long_ac rows.length cap master hml hlen) (W := W) (loc := fun _ => L0) (vals := [v0, v1]) ⟨hrep0 _ 0 rfl, hrep1 _, trivial⟩ (fun i e hi => ?_)).mono fun e W' ⟨he, q1, q2, q3, q4⟩ => ?_
    · rw [Av.get_cons] at hi
      split at hi
      · rename_i hg; cases hi; exact ⟨rfl, .inr ⟨_, hg.symm, _, ⟨rfl, rfl⟩, SlotsPlaysR.sat0 hL⟩⟩
      cases hi
    subst he
    exact ⟨_, rfl, Av.post_places hW' (fun _ _ _ => trodAll_mk1 (shut_bool Tryd.underlying4 true)) (fun sp hsp => hstay W' q4 sp hsp) (fun _ => rfl) (Av.kept_of_same q1 q2 q4 _)⟩
  have hsl : ∀ i j, j < 2 → Av.SatE (fun _ => none) ⟨.row .cell, .u8s ([(A.getD i Av.a0).ks, (A.getD i Av.a0).fs].getD j []), false⟩ (actLoc L0 ⟨2, 0, 64, .row .cell⟩ rows (1 + i * 2 + j)) W := fun i j hj => by
    cases hr : rows[i]? with
    | none =>
      rw [actLoc_no hj hr]
      have : A.getD i Av.a0 = Av.a0 := by
        have hi : rows.length ≤ i := List.getElem?_eq_none_iff.1 hr
        rw [List.getD_eq_getElem?_getD, List.getElem?_eq_none (by omega)]; rfl
      rw [this]
      have : ([Av.a0.ks, Av.a0.fs].getD j []) = [] := by
        rcases (show j = 0 ∨ j = 1 by omega) with rfl | rfl <;> rfl
      rw [this]
      exact h9
    | some r =>
      obtain ⟨_, hbl, hs⟩ := hrows i r hr
      have hm := hA4 i r hr
      obtain ⟨p, hp⟩ : ∃ p, r.bl[j]? = some p := ⟨r.bl[j]'(by omega), List.getElem?_eq_getElem (by omega)⟩
      rw [actLoc_at hj hr hp]
      have : ([(A.getD i Av.a0).ks, (A.getD i Av.a0).fs].getD j []) = p.1 := by
        rw [← hm, List.getD_eq_getElem?_getD, List.getElem?_map, hp]; rfl
      rw [this]
      exact hs p (List.mem_of_getElem? hp)
  have hs0 := hsat (fun i => if i < 25 then some (actLoc L0 ⟨2, 0, 64, .row .cell⟩ rows i) else none) (fun i j r p hi hj => by
    have h1 : i < rows.length := (List.getElem?_eq_some_iff.1 hi).1
    have h2 : j < r.bl.length := (List.getElem?_eq_some_iff.1 hj).1
    have h3 := (hrows i r hi).2.1
    rw [if_pos (by omega), actLoc_at (by omega) hi hj])
  rw [hA3] at hs0
  refine (Av.calls_bool_r (np := 25) (by decide) (Av.plays_ac A rows.length cap master hml hA1' (by omega) hA2) (W := W) (loc := actLoc L0 ⟨2, 0, 64, .row .cell⟩ rows) (vals := [v0, v1]) ⟨hrep0 _ 0 rfl, hrep1 _, trivial⟩ (fun i e hi => ?_)).mono fun e W' ⟨he, q1, q2, q3, q4⟩ => ?_
  · rw [Av.get_cons] at hi
    split at hi
    · rename_i hg; cases hi; subst hg; exact ⟨rfl, .inl ⟨by decide, hs0⟩⟩
    rw [Av.get_cons] at hi
    split at hi
    · rename_i hg; cases hi; subst hg; exact ⟨rfl, .inl ⟨by decide, (hsl 0 0 (by decide)).mono fun _ _ h => by cases h⟩⟩
    rw [Av.get_cons] at hi
    split at hi
    · rename_i hg; cases hi; subst hg; exact ⟨rfl, .inl ⟨by decide, (hsl 0 1 (by decide)).mono fun _ _ h => by cases h⟩⟩
    rw [Av.get_cons] at hi
    split at hi
    · rename_i hg; cases hi; subst hg; exact ⟨rfl, .inl ⟨by decide, (hsl 1 0 (by decide)).mono fun _ _ h => by cases h⟩⟩
    rw [Av.get_cons] at hi
    split at hi
    · rename_i hg; cases hi; subst hg; exact ⟨rfl, .inl ⟨by decide, (hsl 1 1 (by decide)).mono fun _ _ h => by cases h⟩⟩
    rw [Av.get_cons] at hi
    split at hi
    · rename_i hg; cases hi; subst hg; exact ⟨rfl, .inl ⟨by decide, (hsl 2 0 (by decide)).mono fun _ _ h => by cases h⟩⟩
    rw [Av.get_cons] at hi
    split at hi
    · rename_i hg; cases hi; subst hg; exact ⟨rfl, .inl ⟨by decide, (hsl 2 1 (by decide)).mono fun _ _ h => by cases h⟩⟩
    rw [Av.get_cons] at hi
    split at hi
    · rename_i hg; cases hi; subst hg; exact ⟨rfl, .inl ⟨by decide, (hsl 3 0 (by decide)).mono fun _ _ h => by cases h⟩⟩
    rw [Av.get_cons] at hi
    split at hi
    · rename_i hg; cases hi; subst hg; exact ⟨rfl, .inl ⟨by decide, (hsl 3 1 (by decide)).mono fun _ _ h => by cases h⟩⟩
    rw [Av.get_cons] at hi
    split at hi
    · rename_i hg; cases hi; subst hg; exact ⟨rfl, .inl ⟨by decide, (hsl 4 0 (by decide)).mono fun _ _ h => by cases h⟩⟩
    rw [Av.get_cons] at hi
    split at hi
    · rename_i hg; cases hi; subst hg; exact ⟨rfl, .inl ⟨by decide, (hsl 4 1 (by decide)).mono fun _ _ h => by cases h⟩⟩
    rw [Av.get_cons] at hi
    split at hi
    · rename_i hg; cases hi; subst hg; exact ⟨rfl, .inl ⟨by decide, (hsl 5 0 (by decide)).mono fun _ _ h => by cases h⟩⟩
    rw [Av.get_cons] at hi
    split at hi
    · rename_i hg; cases hi; subst hg; exact ⟨rfl, .inl ⟨by decide, (hsl 5 1 (by decide)).mono fun _ _ h => by cases h⟩⟩
    rw [Av.get_cons] at hi
    split at hi
    · rename_i hg; cases hi; subst hg; exact ⟨rfl, .inl ⟨by decide, (hsl 6 0 (by decide)).mono fun _ _ h => by cases h⟩⟩
    rw [Av.get_cons] at hi
    split at hi
    · rename_i hg; cases hi; subst hg; exact ⟨rfl, .inl ⟨by decide, (hsl 6 1 (by decide)).mono fun _ _ h => by cases h⟩⟩
    rw [Av.get_cons] at hi
    split at hi
    · rename_i hg; cases hi; subst hg; exact ⟨rfl, .inl ⟨by decide, (hsl 7 0 (by decide)).mono fun _ _ h => by cases h⟩⟩
    rw [Av.get_cons] at hi
    split at hi
    · rename_i hg; cases hi; subst hg; exact ⟨rfl, .inl ⟨by decide, (hsl 7 1 (by decide)).mono fun _ _ h => by cases h⟩⟩
    rw [Av.get_cons] at hi
    split at hi
    · rename_i hg; cases hi; subst hg; exact ⟨rfl, .inl ⟨by decide, (hsl 8 0 (by decide)).mono fun _ _ h => by cases h⟩⟩
    rw [Av.get_cons] at hi
    split at hi
    · rename_i hg; cases hi; subst hg; exact ⟨rfl, .inl ⟨by decide, (hsl 8 1 (by decide)).mono fun _ _ h => by cases h⟩⟩
    rw [Av.get_cons] at hi
    split at hi
    · rename_i hg; cases hi; subst hg; exact ⟨rfl, .inl ⟨by decide, (hsl 9 0 (by decide)).mono fun _ _ h => by cases h⟩⟩
    rw [Av.get_cons] at hi
    split at hi
    · rename_i hg; cases hi; subst hg; exact ⟨rfl, .inl ⟨by decide, (hsl 9 1 (by decide)).mono fun _ _ h => by cases h⟩⟩
    rw [Av.get_cons] at hi
    split at hi
    · rename_i hg; cases hi; subst hg; exact ⟨rfl, .inl ⟨by decide, (hsl 10 0 (by decide)).mono fun _ _ h => by cases h⟩⟩
    rw [Av.get_cons] at hi
    split at hi
    · rename_i hg; cases hi; subst hg; exact ⟨rfl, .inl ⟨by decide, (hsl 10 1 (by decide)).mono fun _ _ h => by cases h⟩⟩
    rw [Av.get_cons] at hi
    split at hi
    · rename_i hg; cases hi; subst hg; exact ⟨rfl, .inl ⟨by decide, (hsl 11 0 (by decide)).mono fun _ _ h => by cases h⟩⟩
    rw [Av.get_cons] at hi
    split at hi
    · rename_i hg; cases hi; subst hg; exact ⟨rfl, .inl ⟨by decide, (hsl 11 1 (by decide)).mono fun _ _ h => by cases h⟩⟩
    rw [Av.get_cons] at hi
    split at hi
    · rename_i hg; cases hi; exact ⟨rfl, .inr ⟨_, hg.symm, _, ⟨rfl, rfl⟩, SlotsPlaysR.sat0 hL⟩⟩
    rw [Av.get_cons] at hi
    split at hi
    · rename_i hg; cases hi; exact ⟨rfl, .inr ⟨_, hg.symm, _, ⟨rfl, rfl⟩, SlotsPlaysR.sat1 hL⟩⟩
    rw [Av.get_cons] at hi
    split at hi
    · rename_i hg; cases hi; exact ⟨rfl, .inr ⟨_, hg.symm, _, ⟨rfl, rfl⟩, SlotsPlaysR.sat2 hL⟩⟩
    cases hi
  subst he
  exact ⟨_, rfl, Av.post_places hW' (fun _ _ _ => trodAll_mk1 (shut_bool Tryd.underlying4 true)) (fun sp hsp => hstay W' q4 sp hsp) (fun _ => rfl) (Av.kept_of_same q1 q2 q4 _)⟩

theorem slotsplays_holds : Rows.SlotsPlaysSaid :=
  OpenClaim.holds_of_wide 4 Tryd.f4 rfl rfl rfl rfl rfl rfl rfl ⟨rfl, rfl, rfl, rfl, rfl⟩ rfl rfl rfl rfl rfl (by kernel_rfl) Tryd.func4 (by kernel_rfl)
    (of_decide_eq_true (by kernel_rfl)) (by unfold Func.isWrapper; rw [if_neg (by decide +kernel)]; exact ⟨rfl, rfl⟩)
    (fun os started H enc _ => slotsplays_lifted os started H enc)

theorem slotsplays_card_holds : Rows.SlotsPlaysCardSaid :=
  Claim7.holds_tied_plain_at .later [] [.data, .data, .data] true (true, "f4e0c4aff804dd3c7e9e594ea7ca439caaff57e065a2579307a23311c8ac6e21") false slotsplays_holds (fun _ h => by cases h) (by kernel_rfl) (fun _ h => by cases h) slotsPlays_row_tie rfl ⟨rfl, rfl⟩ (by kernel_rfl) rfl
    (fun f fn hf hfn => by
      obtain rfl : f = 4 := Option.some.inj ((show Tryd.prog.funcNamed "reliquary/reliquarylaw12.SlotsPlays" = some 4 by kernel_rfl).symm.trans hf) |>.symm
      obtain rfl : fn = Tryd.f4 := (Option.some.inj (Tryd.func4.symm.trans hfn)).symm
      exact ⟨by kernel_rfl, fun j t ht => by
        rw [Tryd.params4] at ht
        have hm : t ∈ [41, 25] := by simpa using Array.mem_of_getElem? ht
        have hall : ([41, 25].all fun u => !Tryd.prog.wantsStandIn u) = true := by kernel_rfl
        exact (show Tryd.prog.wantsStandIn t = false by simpa using List.all_eq_true.1 hall t hm)⟩)
    (by kernel_rfl)
end Go.Proofs.YtodkhgofmgaafaaDoor
