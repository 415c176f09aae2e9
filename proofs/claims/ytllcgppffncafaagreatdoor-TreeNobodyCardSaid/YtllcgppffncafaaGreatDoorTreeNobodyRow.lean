/- A tree of no pages reads no page, lays nothing upon nothing, and knows no ref: for every ref and every int, with the constants of the sums and the table of bits as the program's texts lay them. -/
import Derived.Test.YtllcgppffncafaaGreatDoorM7
import Derived.Test.YtllcgppffncafaaGreatDoorRows
import Derived.Test.YtllcgppffncafaaGreatDoorTie
import Derived.Test.YtllcgppffncafaaGreatDoorCards
import Derived.SevenTiedAt
import Derived.SizedLaws
namespace Go.Proofs.YtllcgppffncafaaGreatDoor
open Go Go.Proofs Go.Proofs.YtllcgppffncafaaGreatDoor Go.ChangeShapes Go.WideShapes Go.ChangeAt Go.RowKit
set_option linter.all false
set_option maxRecDepth 3000
theorem TreeNobodyR.own : ownKnob Tryz.prog.godebug = none := by kernel_rfl
theorem TreeNobodyR.laid0 : (Rows.laid_reliquary_sha_roots : DataW Unit) = .agg (Av.K256.map fun b => .lit (.int .u32 b.toNat)) := by kernel_rfl
theorem TreeNobodyR.laid1 : (Rows.laid_math_bits_deBruijn64tab : DataW Unit) = .agg (Av.debl.map fun b => .lit (.int .u8 b.toNat)) := by kernel_rfl
theorem TreeNobodyR.sat0 {W : World} (h : laidMetH Tryz.prog Rows.treeNobodyRow.laid W) : Av.SatE (fun _ => none) ⟨.arr 64 .cell, .u32s Av.K256, false⟩ ⟨1, 0, 64, .arr 64 .cell⟩ W := by
 rw [MakeChecks.laidMetH_plain _ _ _ (by kernel_rfl)] at h
 have hr := Lib.laidMet.reads h (n := "reliquary/sha.roots") (d := Rows.laid_reliquary_sha_roots) (by simp [Rows.treeNobodyRow])
 rw [TreeNobodyR.laid0] at hr
 exact Av.aDX (t := 252) (e := 22) (by kernel_rfl) (by kernel_rfl) Tryz.underlying252 Tryz.underlying22 (by kernel_rfl) (by kernel_rfl) Av.jQ hr
theorem TreeNobodyR.sat1 {W : World} (h : laidMetH Tryz.prog Rows.treeNobodyRow.laid W) : Av.SatE (fun _ => none) ⟨.arr 64 .cell, .u8s Av.debl, false⟩ ⟨2, 0, 64, .arr 64 .cell⟩ W := by
 rw [MakeChecks.laidMetH_plain _ _ _ (by kernel_rfl)] at h
 have hr := Lib.laidMet.reads h (n := "math/bits.deBruijn64tab") (d := Rows.laid_math_bits_deBruijn64tab) (by simp [Rows.treeNobodyRow])
 rw [TreeNobodyR.laid1] at hr
 exact Av.aFS (t := 224) (e := 5) (by kernel_rfl) (by kernel_rfl) Tryz.underlying224 Tryz.underlying5 (by kernel_rfl) (by kernel_rfl) (by kernel_rfl) hr
set_option maxRecDepth 100000 in
theorem tref_can {x : Av.D} (h : Av.oT Tryz.prog 3 26 x) : ∃ (a : BitVec 32) (r : List (BitVec 8)), r.length = 32 ∧ x = Av.aA a r := by
 simp only [Av.oT, Tryz.underlying26] at h
 obtain ⟨l, rfl, h⟩ := h
 match l, h with
 |[a, b], ⟨h1, h2, _⟩ =>
  simp only [Av.oT, Tryz.underlying22, Tryz.underlying24, show Av.aFe Tryz.prog 5 = 1 by kernel_rfl] at h1 h2
  obtain ⟨c, rfl⟩ := h1
  obtain ⟨r, rfl, hr⟩ := h2
  exact ⟨c, r, hr, rfl⟩
set_option maxRecDepth 100000 in
theorem treenobody_lifted (os : Os) (started : os.Started) (H : Type) (enc : TypeId × Value → H) :
  ReturnsInHanded {} Tryz.checked os 3 .any (fun w args => (Rows.treeNobodySpec.pre enc Tryz.prog Tryz.f3 Rows.treeNobodyRow.domain false w args ∧ laidMetH Tryz.prog Rows.treeNobodyRow.laid w) ∧ sizedMet enc Tryz.prog Tryz.f3 (OpenSpec.ofChange Rows.treeNobodySpec) false w args)
   (Rows.treeNobodySpec.post enc Tryz.prog Tryz.f3 false true false false) := by
 refine returnsInHanded_of_change_and (C := Tryz.checked) (X := fun w _ => laidMetH Tryz.prog Rows.treeNobodyRow.laid w) (fun _ _ _ hh h => h.of_heap hh) TreeNobodyR.own started (by kernel_rfl) Tryz.func3
  (ChangeSpec.witness_shaped (enc := enc) (C := Tryz.checked) (os := os) (X := fun w _ => laidMetH Tryz.prog Rows.treeNobodyRow.laid w) false (World.laidAll Tryz.prog os Rows.treeNobodyRow.laid) #[.agg ([Value.int .u32 0] ++ List.replicate 32 (Value.int .u8 0)).toArray, .int .i64 0] 8 (World.laidAll_os _ _ _)
   (World.shaped_of_ZipB (by kernel_rfl) (by kernel_rfl)) (by kernel_rfl) (by kernel_rfl) (by kernel_rfl)
   (by rw [MakeChecks.laidMetH_plain _ _ _ (by kernel_rfl)]; exact laidMet_laidAll _ (by kernel_rfl) (by kernel_rfl))) ?_
 intro W base args ds gs before hval0 hW _ hsz hL _
 have hval : ∀ (j : Nat) t v, Tryz.f3.params[j]? = some t → args[j]? = some v → Value.okWide Tryz.prog W .any base t v := hval0
 have hW' := hW
 obtain ⟨p, q, hA0, hV, rfl, _, _⟩ := hW
 have hA : DataW.TrodAll enc Tryz.prog W 0 (fun _ => true) true Tryz.f3.params.toList args.toList ds p := hA0
 rw [Tryz.params3] at hA hval hsz
 obtain ⟨v0, v1, d0, d1, p0, p1, rfl, rfl, rfl, h0, h1⟩ := trodAll_two hA
 obtain ⟨rfl, rfl⟩ := trodVars_none hV
 obtain ⟨x0, hx0, rfl, hrep0, hstay0⟩ := Av.aCD 3 (by kernel_rfl) (hval 0 26 v0 rfl rfl) (by rw [Tryz.underlying26]) h0
 obtain ⟨a, r, hr, rfl⟩ := tref_can hx0
 have hrep0 : ∀ ρ, Av.Rep ρ (Av.aA a r) v0 := fun ρ => by
  obtain ⟨h2, xs, h3⟩ := hrep0 ρ
  subst h3
  exact ⟨xs.toList, by simp, by simpa [Value.cells] using h2⟩
 obtain ⟨n, rfl, rfl, rfl, wn⟩ := open_int Tryz.underlying3 (hval 1 3 v1 rfl rfl) h1
 clear hA0 hval0
 simp only [List.append_nil, List.nil_append] at hW'
 refine (Av.vN (np := 0) (by decide) (Av.aAM a r hr n) (W := W) (loc := fun _ => ⟨0, 0, 0, .cell⟩) (vals := [v0, .int .i64 n]) ⟨hrep0 _, ⟨rfl, Av.rH wn⟩, trivial⟩ (fun i e hi => ?_)).mono fun e W' ⟨he, q1, q2, q3, q4⟩ => ?_
 ·rw [Av.aK] at hi
  split at hi
  ·rename_i hg; cases hi; exact ⟨rfl, .inr ⟨_, ⟨hg.symm, by decide⟩, _, ⟨rfl, rfl⟩, TreeNobodyR.sat0 hL⟩⟩
  rw [Av.aK] at hi
  split at hi
  ·rename_i hg; cases hi; exact ⟨rfl, .inr ⟨_, ⟨hg.symm, by decide⟩, _, ⟨rfl, rfl⟩, TreeNobodyR.sat1 hL⟩⟩
  cases hi
 subst he
 exact ⟨_, rfl, Av.aBz hW' (fun _ _ _ => trodAll_mk1 (shut_bool Tryz.underlying4 true))
  (fun sp => trodAll_cons_mk (hstay0 _ _ _ _) (trodAll_mk1 (shut_int Tryz.underlying3 wn))) (fun _ => rfl)
  (Av.uN q1 q2 q4 _)⟩
theorem treenobody_holds : Rows.TreeNobodySaid :=
 OpenClaim.holds_of_wide 3 Tryz.f3 rfl rfl rfl rfl rfl rfl rfl ⟨rfl, rfl, rfl, rfl, rfl⟩ rfl rfl rfl rfl rfl (by kernel_rfl) Tryz.func3 (by kernel_rfl)
  (of_decide_eq_true (by kernel_rfl)) (by unfold Func.isWrapper; rw [if_neg (by decide +kernel)]; exact ⟨rfl, rfl⟩)
  (fun os started H enc _ => treenobody_lifted os started H enc)
theorem treenobody_card_holds : Rows.TreeNobodyCardSaid :=
 Claim7.holds_tied_plain_at .later [] [.data, .data] true (true, "9b5f5e5fe9f43bb0d6025089bd8d724d0e99a5ef81392532880a234850bb54c6") false treenobody_holds (fun _ h => by cases h) (by kernel_rfl) (fun _ h => by cases h) treeNobody_row_tie rfl ⟨rfl, rfl⟩ (by kernel_rfl) rfl
  (fun f fn hf hfn => by
   obtain rfl : f = 3 := Option.some.inj ((show Tryz.prog.funcNamed "reliquary/reliquarylaw19.TreeNobody" = some 3 by kernel_rfl).symm.trans hf) |>.symm
   obtain rfl : fn = Tryz.f3 := (Option.some.inj (Tryz.func3.symm.trans hfn)).symm
   exact ⟨by kernel_rfl, fun j t ht => by
    rw [Tryz.params3] at ht
    have hm : t ∈ [26, 3] := by simpa using Array.mem_of_getElem? ht
    have hall : ([26, 3].all fun u => !Tryz.prog.wantsStandIn u) = true := by kernel_rfl
    exact (show Tryz.prog.wantsStandIn t = false by simpa using List.all_eq_true.1 hall t hm)⟩)
  (by kernel_rfl)
end Go.Proofs.YtllcgppffncafaaGreatDoor
