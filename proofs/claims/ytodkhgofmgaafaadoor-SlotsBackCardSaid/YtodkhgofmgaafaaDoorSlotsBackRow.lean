/- A table that is laid is read as it was, if all its slots may be; a byte more, or less, is none; what is read is laid so: for every table and every row of bytes, with the constants of the sums as the program's texts lay them. -/
import Derived.Test.YtodkhgofmgaafaaDoorM7
import Derived.Test.YtodkhgofmgaafaaDoorM8
import Derived.Test.YtodkhgofmgaafaaDoorRows
import Derived.Test.YtodkhgofmgaafaaDoorTie
import Derived.Test.YtodkhgofmgaafaaDoorCards
import Derived.SevenTiedAt
import Derived.SizedLaws
namespace Go.Proofs.YtodkhgofmgaafaaDoor
open Go Go.Proofs Go.Proofs.YtodkhgofmgaafaaDoor Go.ChangeShapes Go.WideShapes Go.ChangeAt Go.RowKit
set_option linter.all false
set_option maxRecDepth 3000

theorem SlotsBackR.own : ownKnob Tryd.prog.godebug = none := by kernel_rfl

theorem SlotsBackR.laid0 : (Rows.laid_reliquary_sha_roots : DataW Unit) = .agg (Av.K256.map fun b => .lit (.int .u32 b.toNat)) := by kernel_rfl

theorem SlotsBackR.sat0 {W : World} (h : laidMetH Tryd.prog Rows.slotsBackRow.laid W) : Av.SatE (fun _ => none) ⟨.arr 64 .cell, .u32s Av.K256, false⟩ ⟨2, 0, 64, .arr 64 .cell⟩ W := by
  rw [MakeChecks.laidMetH_plain _ _ _ (by kernel_rfl)] at h
  have hr := Lib.laidMet.reads h (n := "reliquary/sha.roots") (d := Rows.laid_reliquary_sha_roots) (by simp [Rows.slotsBackRow])
  rw [SlotsBackR.laid0] at hr
  exact Av.sat_u32s (t := 196) (e := 73) (by kernel_rfl) (by kernel_rfl) Tryd.underlying196 Tryd.underlying73 (by kernel_rfl) (by kernel_rfl) Av.K256_length hr

theorem slot_can {x : Av.D} (h : Av.canE Tryd.prog 3 28 x) : ∃ s : Av.Slot, s.ok ∧ x = Av.slotD s := by
  simp only [Av.canE, Tryd.underlying28] at h
  obtain ⟨l, rfl, h⟩ := h
  match l, h with
  | [a, b, c, d, e], ⟨h1, h2, h3, h4, h5, _⟩ =>
    simp only [Av.canE, Tryd.underlying4, Tryd.underlying22, Tryd.underlying23, Tryd.underlying25, Tryd.underlying26, show Av.oddB Tryd.prog 5 = 1 by kernel_rfl] at h1 h2 h3 h4 h5
    obtain ⟨u, rfl⟩ := h1
    obtain ⟨t, rfl⟩ := h2
    obtain ⟨sa, rfl, hsa⟩ := h3
    obtain ⟨se, rfl, hse⟩ := h4
    obtain ⟨ch, rfl, hch⟩ := h5
    exact ⟨⟨u, t, sa, se, ch⟩, ⟨hsa, hse, hch⟩, rfl⟩
theorem slots_can : ∀ {l : List Av.D}, Av.AllD (Av.canE Tryd.prog 3 28) l → ∃ ss : List Av.Slot, (∀ s ∈ ss, s.ok) ∧ l = ss.map Av.slotD
  | [], _ => ⟨[], fun s h => (nomatch h), rfl⟩
  | a :: l, h => by
    obtain ⟨s, h1, rfl⟩ := slot_can h.1
    obtain ⟨ss, h2, rfl⟩ := slots_can h.2
    exact ⟨s :: ss, fun x hx => by
      rcases List.mem_cons.1 hx with e | e
      · rw [e]; exact h1
      · exact h2 x e, rfl⟩
theorem tab_can {x : Av.D} (h : Av.canE Tryd.prog 4 30 x) : ∃ ss : List Av.Slot, Av.TabS ss ∧ x = Av.tabD ss := by
  have h : ∃ l, x = .node l ∧ l.length = 8 ∧ Av.AllD (Av.canE Tryd.prog 3 28) l := by
    rw [Av.canE, Tryd.underlying30] at h
    simp only [show Av.oddB Tryd.prog 28 = 0 by kernel_rfl] at h
    exact h
  obtain ⟨l, rfl, hl, h⟩ := h
  obtain ⟨ss, h1, rfl⟩ := slots_can h
  exact ⟨ss, ⟨by rw [← hl, List.length_map], h1⟩, rfl⟩

set_option maxRecDepth 100000 in
theorem slotsback_lifted (os : Os) (started : os.Started) (H : Type) (enc : TypeId × Value → H) :
    ReturnsInHanded {} Tryd.checked os 8 .any (fun w args => (Rows.slotsBackSpec.pre enc Tryd.prog Tryd.f8 Rows.slotsBackRow.domain false w args ∧ laidMetH Tryd.prog Rows.slotsBackRow.laid w) ∧ sizedMet enc Tryd.prog Tryd.f8 (OpenSpec.ofChange Rows.slotsBackSpec) false w args)
      (Rows.slotsBackSpec.post enc Tryd.prog Tryd.f8 false true false false) := by
  refine returnsInHanded_of_change_and (C := Tryd.checked) (X := fun w _ => laidMetH Tryd.prog Rows.slotsBackRow.laid w) (fun _ _ _ hh h => h.of_heap hh) SlotsBackR.own started (by kernel_rfl) Tryd.func8
    (ChangeSpec.witness_shaped (enc := enc) (C := Tryd.checked) (os := os) (X := fun w _ => laidMetH Tryd.prog Rows.slotsBackRow.laid w) false (World.laidAll Tryd.prog os Rows.slotsBackRow.laid) #[.agg ((List.replicate 8 ([.bool false, .int .u16 0] ++ List.replicate 80 (.int .u8 0))).flatten).toArray, .slice none 0 0] 8 (World.laidAll_os _ _ _)
      (World.shaped_of_ZipB (by kernel_rfl) (by kernel_rfl)) (by kernel_rfl) (by kernel_rfl) (by kernel_rfl)
      (by rw [MakeChecks.laidMetH_plain _ _ _ (by kernel_rfl)]; exact laidMet_laidAll _ (by kernel_rfl) (by kernel_rfl))) ?_
  intro W base args ds gs before hval0 hW _ hsz hL _
  have hval : ∀ (j : Nat) t v, Tryd.f8.params[j]? = some t → args[j]? = some v → Value.okWide Tryd.prog W .any base t v := hval0
  have hW' := hW
  obtain ⟨p, q, hA0, hV, rfl, _, _⟩ := hW
  have hA : DataW.TrodAll enc Tryd.prog W 0 (fun _ => true) true Tryd.f8.params.toList args.toList ds p := hA0
  rw [Tryd.params8] at hA hval hsz
  obtain ⟨v0, v1, d0, d1, p0, p1, rfl, rfl, rfl, h0, h1⟩ := trodAll_two hA
  obtain ⟨rfl, rfl⟩ := trodVars_none hV
  obtain ⟨x0, hx0, rfl, hrep0, hstay0⟩ := Av.open_flat 4 (by kernel_rfl) (hval 0 30 v0 rfl rfl) (by rw [Tryd.underlying30]) h0
  obtain ⟨ss, hss, rfl⟩ := tab_can hx0
  have hrep0 : ∀ ρ, Av.Rep ρ (Av.tabD ss) v0 := fun ρ => by
    obtain ⟨h2, xs, h3⟩ := hrep0 ρ
    subst h3
    exact ⟨xs.toList, by simp, by simpa [Value.cells] using h2⟩
  obtain ⟨l0, L0, y0, hy0, hs0, hr0, hst0, hes0⟩ := Av.open_slD2 Tryd.underlying31 Tryd.underlying5 (by kernel_rfl) (Av.sat_none (SlotsBackR.sat0 hL)) (hval 1 31 v1 rfl rfl) h1
  have hlen : l0.length ≤ 140737488355328 := by
    rcases hes0 with h | ⟨es, sp0, hd2, hes⟩
    · omega
    · subst hd2
      have := sized_slice hsz (j := 1) (t := 31) (e := 5) (elems := es) (spare := sp0) rfl rfl Tryd.underlying31
      rw [show Tryd.checked.prog.bytesOf 5 = 1 by kernel_rfl, hes] at this
      have h2 := reachBytes_lt
      omega
  clear hA0 hval0
  simp only [List.append_nil, List.nil_append] at hW'
  refine (Av.calls_bool_n (np := 1) (by decide) (Av.slotsback_ac ss l0 l0.length y0 hss rfl hy0 hlen) (W := W) (loc := fun _ => L0) (vals := [v0, v1]) ⟨hrep0 _, hr0 _ 0 rfl, trivial⟩ (fun i e hi => ?_)).mono fun e W' ⟨he, q1, q2, q3, q4⟩ => ?_
  · rw [Av.get_cons] at hi
    split at hi
    · rename_i hg; cases hi; subst hg; exact ⟨rfl, .inl ⟨by decide, hs0⟩⟩
    rw [Av.get_cons] at hi
    split at hi
    · rename_i hg; cases hi; exact ⟨rfl, .inr ⟨_, hg.symm, _, ⟨rfl, rfl⟩, SlotsBackR.sat0 hL⟩⟩
    cases hi
  subst he
  exact ⟨_, rfl, Av.post_places hW' (fun _ _ _ => trodAll_mk1 (shut_bool Tryd.underlying4 true))
    (fun sp hsp => trodAll_cons_mk (p := []) (hstay0 _ _ _ _) (trodAll_mk1 (hst0 W' sp q4 hsp))) (fun _ => rfl)
    (Av.kept_of_same q1 q2 q4 _)⟩

theorem slotsback_holds : Rows.SlotsBackSaid :=
  OpenClaim.holds_of_wide 8 Tryd.f8 rfl rfl rfl rfl rfl rfl rfl ⟨rfl, rfl, rfl, rfl, rfl⟩ rfl rfl rfl rfl rfl (by kernel_rfl) Tryd.func8 (by kernel_rfl)
    (of_decide_eq_true (by kernel_rfl)) (by unfold Func.isWrapper; rw [if_neg (by decide +kernel)]; exact ⟨rfl, rfl⟩)
    (fun os started H enc _ => slotsback_lifted os started H enc)

theorem slotsback_card_holds : Rows.SlotsBackCardSaid :=
  Claim7.holds_tied_plain_at .later [] [.data] true (true, "f4e0c4aff804dd3c7e9e594ea7ca439caaff57e065a2579307a23311c8ac6e21") false slotsback_holds (fun _ h => by cases h) (by kernel_rfl) (fun _ h => by cases h) slotsBack_row_tie rfl ⟨rfl, rfl⟩ (by kernel_rfl) rfl
    (fun f fn hf hfn => by
      obtain rfl : f = 8 := Option.some.inj ((show Tryd.prog.funcNamed "reliquary/reliquarylaw12.SlotsBack" = some 8 by kernel_rfl).symm.trans hf) |>.symm
      obtain rfl : fn = Tryd.f8 := (Option.some.inj (Tryd.func8.symm.trans hfn)).symm
      exact ⟨by kernel_rfl, fun j t ht => by
        rw [Tryd.params8] at ht
        have hm : t ∈ [30, 31] := by simpa using Array.mem_of_getElem? ht
        have hall : ([30, 31].all fun u => !Tryd.prog.wantsStandIn u) = true := by kernel_rfl
        exact (show Tryd.prog.wantsStandIn t = false by simpa using List.all_eq_true.1 hall t hm)⟩)
    (by kernel_rfl)
end Go.Proofs.YtodkhgofmgaafaaDoor
