/- Any sectors are opened with any keys as the document says, or it is told why not; they stay as they are: for every two keys, every sector number and every bytes, with the document's box as the program's text lays it. -/
import Derived.Test.YtljkjdhkofbgmaaDoorXtsOpens
import Derived.Test.YtljkjdhkofbgmaaDoorRowW
import Derived.Test.YtljkjdhkofbgmaaDoorRows
import Derived.Test.YtljkjdhkofbgmaaDoorTie
import Derived.Test.YtljkjdhkofbgmaaDoorCards
import Derived.SevenTiedAt
import Derived.SizedLaws
namespace Go.Proofs.YtljkjdhkofbgmaaDoor
open Go Go.Proofs Go.Proofs.YtljkjdhkofbgmaaDoor Go.ChangeShapes Go.WideShapes Go.ChangeAt Go.RowKit
set_option linter.all false
set_option maxRecDepth 3000

theorem XtsOpensR.own : ownKnob Tryd.prog.godebug = none := by kernel_rfl

theorem box_laid : (Rows.laid_reliquary_reliquaryref06_Box : DataW Unit) = .agg (Av.boxL.map fun b => .lit (.int .u8 b.toNat)) := by kernel_rfl

theorem box_sat {W : World} (h : laidMetH Tryd.prog Rows.xtsOpensRow.laid W) : Av.SatE (fun _ => none) ⟨Av.t256, .u8s Av.boxL, false⟩ ⟨0, 0, 256, Av.t256⟩ W := by
  rw [MakeChecks.laidMetH_plain _ _ _ (by kernel_rfl)] at h
  have hr := Lib.laidMet.reads h (n := "reliquary/reliquaryref06.Box") (d := Rows.laid_reliquary_reliquaryref06_Box) (List.mem_singleton.2 rfl)
  rw [box_laid] at hr
  exact Av.sat_u8s (t := 74) (e := 5) (by kernel_rfl) (by kernel_rfl) Tryd.underlying74 Tryd.underlying5 (by kernel_rfl) (by kernel_rfl) Av.boxL_length hr

set_option maxRecDepth 100000 in
theorem xtsopens_lifted (os : Os) (started : os.Started) (H : Type) (enc : TypeId × Value → H) :
    ReturnsInHanded {} Tryd.checked os 4 .any (fun w args => (Rows.xtsOpensSpec.pre enc Tryd.prog Tryd.f4 Rows.xtsOpensRow.domain false w args ∧ laidMetH Tryd.prog Rows.xtsOpensRow.laid w) ∧ sizedMet enc Tryd.prog Tryd.f4 (OpenSpec.ofChange Rows.xtsOpensSpec) false w args)
      (Rows.xtsOpensSpec.post enc Tryd.prog Tryd.f4 false true false false) := by
  refine returnsInHanded_of_change_and (C := Tryd.checked) (X := fun w _ => laidMetH Tryd.prog Rows.xtsOpensRow.laid w) (fun _ _ _ hh h => h.of_heap hh) XtsOpensR.own started (by kernel_rfl) Tryd.func4
    (ChangeSpec.witness_shaped (enc := enc) (C := Tryd.checked) (os := os) (X := fun w _ => laidMetH Tryd.prog Rows.xtsOpensRow.laid w) false (World.laidAll Tryd.prog os Rows.xtsOpensRow.laid) #[.agg (List.replicate 64 (.int .u8 0)).toArray, .int .u64 0, .slice none 0 0] 8 (World.laidAll_os _ _ _)
      (World.shaped_of_ZipB (by kernel_rfl) (by kernel_rfl)) (by kernel_rfl) (by kernel_rfl) (by kernel_rfl)
      (by rw [MakeChecks.laidMetH_plain _ _ _ (by kernel_rfl)]; exact laidMet_laidAll _ (by kernel_rfl) (by kernel_rfl))) ?_
  intro W base args ds gs before hval0 hW _ hsz hL _
  have hval : ∀ (j : Nat) t v, Tryd.f4.params[j]? = some t → args[j]? = some v → Value.okWide Tryd.prog W .any base t v := hval0
  have hW' := hW
  obtain ⟨p, q, hA0, hV, rfl, _, _⟩ := hW
  have hA : DataW.TrodAll enc Tryd.prog W 0 (fun _ => true) true Tryd.f4.params.toList args.toList ds p := hA0
  rw [Tryd.params4] at hA hval hsz
  obtain ⟨v0, v1, v2, d0, d1, d2, p0, p1, p2, rfl, rfl, rfl, h0, h1, h2⟩ := trodAll_three hA
  obtain ⟨rfl, rfl⟩ := trodVars_none hV
  obtain ⟨a, b, ha, hb, rfl, hrep0, hstay0⟩ := Av.open_pair Tryd.underlying24 Tryd.underlying23 Tryd.underlying5 (by kernel_rfl) (by kernel_rfl) (by kernel_rfl) (hval 0 24 v0 rfl rfl) h0
  obtain ⟨n, rfl, rfl, rfl, wn⟩ := open_int Tryd.underlying25 (hval 1 25 v1 rfl rfl) h1
  clear hA0 hval0
  rcases Av.open_slice Tryd.underlying26 Tryd.underlying5 (by kernel_rfl) (hval 2 26 v2 rfl rfl) h2 with ⟨rfl, rfl, hst⟩ | ⟨l, L, cap, hcap, hcap2, hsat, hrep, hst, es, sp0, hd2, hes⟩
  · simp only [List.append_nil] at hW'
    refine (Av.calls_bool_g 0 (Av.xtsopens_nil_ac a b (BitVec.ofNat 64 n.toNat) ha hb) (W := W) (vals := [v0, .int .u64 n, .slice none 0 0]) ⟨hrep0 _, Av.rep_u64 wn, rfl, trivial⟩ ⟨rfl, rfl⟩ (box_sat hL)).mono fun e W' ⟨he, q1, q2, q3, q4⟩ => ?_
    subst he
    exact ⟨_, rfl, Av.post_flat hW' (fun _ _ _ => trodAll_mk1 (shut_bool Tryd.underlying4 true))
      (fun sp => trodAll_cons_mk (hstay0 _ _ _ _) (trodAll_cons_mk (shut_int Tryd.underlying25 wn) (trodAll_mk1 (hst _ _)))) (fun _ => rfl)
      (Av.kept_of_same q1 q2 q4 _)⟩
  · have hlen : l.length ≤ 140737488355328 := by
      subst hd2
      have := sized_slice hsz (j := 2) (t := 26) (e := 5) (elems := es) (spare := sp0) rfl rfl Tryd.underlying26
      rw [show Tryd.checked.prog.bytesOf 5 = 1 by kernel_rfl, hes] at this
      have h2 := reachBytes_lt
      omega
    simp only [List.append_nil, List.nil_append] at hW'
    have hac : Av.AC Tryd.prog 4 [.node [.u8s a, .u8s b], .u64 (BitVec.ofNat 64 n.toNat), .slice 0 [] 0 l.length (some cap)] 1 [(0, some ⟨.row .cell, .u8s l, false⟩), (Av.gid 0, some ⟨Av.t256, .u8s Av.boxL, false⟩)] ⟨.bool true, [], []⟩ := by
      by_cases hbad : l.length % 512 ≠ 0 ∨ 65536 < l.length
      · exact Av.xtsopens_bad_ac a b _ ha hb l cap hlen hbad
      by_cases hfew : l.length ≤ 2048
      · rcases Nat.eq_zero_or_pos l.length with h0 | h0
        · obtain rfl := List.eq_nil_of_length_eq_zero h0
          exact Av.xtsopens_emp_ac a b _ ha hb cap
        · exact Av.xtsopens_good_ac a b _ ha hb l cap hlen (l.length / 512 - 1) (by omega) (by omega)
      · exact Av.xtsopens_many_ac a b _ ha hb l cap hlen (by omega) (by omega) (by omega)
    refine (Av.calls_bool_sg 0 hac (W := W) (L := L) (vals := [v0, .int .u64 n, v2]) ⟨hrep0 _, Av.rep_u64 wn, hrep _ 0 (if_pos rfl), trivial⟩ hsat ⟨rfl, rfl⟩ (box_sat hL)).mono fun e W' ⟨he, q1, q2, q3, q4⟩ => ?_
    subst he
    exact ⟨_, rfl, Av.post_places hW' (fun _ _ _ => trodAll_mk1 (shut_bool Tryd.underlying4 true))
      (fun sp hsp => trodAll_cons_mk (p := []) (hstay0 _ _ _ _) (trodAll_cons_mk (p := []) (shut_int Tryd.underlying25 wn) (trodAll_mk1 (hst W' sp q4 hsp)))) (fun _ => rfl)
      (Av.kept_of_same q1 q2 q4 _)⟩

theorem xtsopens_holds : Rows.XtsOpensSaid :=
  OpenClaim.holds_of_wide 4 Tryd.f4 rfl rfl rfl rfl rfl rfl rfl ⟨rfl, rfl, rfl, rfl, rfl⟩ rfl rfl rfl rfl rfl (by kernel_rfl) Tryd.func4 (by kernel_rfl)
    (of_decide_eq_true (by kernel_rfl)) (by unfold Func.isWrapper; rw [if_neg (by decide +kernel)]; exact ⟨rfl, rfl⟩)
    (fun os started H enc _ => xtsopens_lifted os started H enc)

theorem xtsopens_card_holds : Rows.XtsOpensCardSaid :=
  Claim7.holds_tied_plain_at .later [] [.data] true (true, "192871fda26b039d4e11870829b0fb84508158fea38dce0d1f0733807df76226") false xtsopens_holds (fun _ h => by cases h) (by kernel_rfl) (fun _ h => by cases h) xtsOpens_row_tie rfl ⟨rfl, rfl⟩ (by kernel_rfl) rfl
    (fun f fn hf hfn => by
      obtain rfl : f = 4 := Option.some.inj ((show Tryd.prog.funcNamed "reliquary/reliquarylaw07.XtsOpens" = some 4 by kernel_rfl).symm.trans hf) |>.symm
      obtain rfl : fn = Tryd.f4 := (Option.some.inj (Tryd.func4.symm.trans hfn)).symm
      exact ⟨by kernel_rfl, fun j t ht => by
        rw [Tryd.params4] at ht
        have hm : t ∈ [24, 25, 26] := by simpa using Array.mem_of_getElem? ht
        have hall : ([24, 25, 26].all fun u => !Tryd.prog.wantsStandIn u) = true := by kernel_rfl
        exact (show Tryd.prog.wantsStandIn t = false by simpa using List.all_eq_true.1 hall t hm)⟩)
    (by kernel_rfl)
end Go.Proofs.YtljkjdhkofbgmaaDoor
