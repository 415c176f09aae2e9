/- A cluster in which bytes were changed is seen by its ref, but where it has the very same sum; so is one that was cut off: for every key, 512 bytes and changes, with the constants of the sums as the program's texts lay them. -/
import Derived.Test.YtodkhgofmgaafaaDoorM7
import Derived.Test.YtodkhgofmgaafaaDoorRows
import Derived.Test.YtodkhgofmgaafaaDoorTie
import Derived.Test.YtodkhgofmgaafaaDoorCards
import Derived.SevenTiedAt
import Derived.SizedLaws
namespace Go.Proofs.YtodkhgofmgaafaaDoor
open Go Go.Proofs Go.Proofs.YtodkhgofmgaafaaDoor Go.ChangeShapes Go.WideShapes Go.ChangeAt Go.RowKit
set_option linter.all false
set_option maxRecDepth 3000

theorem SpaceTurnedR.own : ownKnob Tryd.prog.godebug = none := by kernel_rfl

theorem SpaceTurnedR.laid0 : (Rows.laid_reliquary_sha_roots : DataW Unit) = .agg (Av.K256.map fun b => .lit (.int .u32 b.toNat)) := by kernel_rfl

theorem SpaceTurnedR.sat0 {W : World} (h : laidMetH Tryd.prog Rows.spaceTurnedRow.laid W) : Av.SatE (fun _ => none) ⟨.arr 64 .cell, .u32s Av.K256, false⟩ ⟨2, 0, 64, .arr 64 .cell⟩ W := by
  rw [MakeChecks.laidMetH_plain _ _ _ (by kernel_rfl)] at h
  have hr := Lib.laidMet.reads h (n := "reliquary/sha.roots") (d := Rows.laid_reliquary_sha_roots) (by simp [Rows.spaceTurnedRow])
  rw [SpaceTurnedR.laid0] at hr
  exact Av.sat_u32s (t := 196) (e := 73) (by kernel_rfl) (by kernel_rfl) Tryd.underlying196 Tryd.underlying73 (by kernel_rfl) (by kernel_rfl) Av.K256_length hr

theorem key_can {x : Av.D} (h : Av.canE Tryd.prog 2 25 x) : ∃ l : List (BitVec 8), x = .u8s l ∧ l.length = 32 := by
  simp only [Av.canE, Tryd.underlying25, show Av.oddB Tryd.prog 5 = 1 by kernel_rfl] at h
  exact h
theorem b512_can {x : Av.D} (h : Av.canE Tryd.prog 2 86 x) : ∃ l : List (BitVec 8), x = .u8s l ∧ l.length = 512 := by
  simp only [Av.canE, Tryd.underlying86, show Av.oddB Tryd.prog 5 = 1 by kernel_rfl] at h
  exact h
theorem two16_can {x : Av.D} (h : Av.canE Tryd.prog 2 87 x) : ∃ a b : BitVec 16, x = .node [.u16 a, .u16 b] := by
  simp only [Av.canE, Tryd.underlying87, Tryd.underlying22, show Av.oddB Tryd.prog 22 = 0 by kernel_rfl] at h
  obtain ⟨l, rfl, hl, ha⟩ := h
  match l, hl, ha with
  | [u, v], _, ha =>
    obtain ⟨⟨a, rfl⟩, ⟨b, rfl⟩, _⟩ := ha
    exact ⟨a, b, rfl⟩

set_option maxRecDepth 100000 in
theorem spaceturned_lifted (os : Os) (started : os.Started) (H : Type) (enc : TypeId × Value → H) :
    ReturnsInHanded {} Tryd.checked os 12 .any (fun w args => (Rows.spaceTurnedSpec.pre enc Tryd.prog Tryd.f12 Rows.spaceTurnedRow.domain false w args ∧ laidMetH Tryd.prog Rows.spaceTurnedRow.laid w) ∧ sizedMet enc Tryd.prog Tryd.f12 (OpenSpec.ofChange Rows.spaceTurnedSpec) false w args)
      (Rows.spaceTurnedSpec.post enc Tryd.prog Tryd.f12 false true false false) := by
  refine returnsInHanded_of_change_and (C := Tryd.checked) (X := fun w _ => laidMetH Tryd.prog Rows.spaceTurnedRow.laid w) (fun _ _ _ hh h => h.of_heap hh) SpaceTurnedR.own started (by kernel_rfl) Tryd.func12
    (ChangeSpec.witness_shaped (enc := enc) (C := Tryd.checked) (os := os) (X := fun w _ => laidMetH Tryd.prog Rows.spaceTurnedRow.laid w) false (World.laidAll Tryd.prog os Rows.spaceTurnedRow.laid) #[.agg (List.replicate 32 (Value.int .u8 0)).toArray, .agg (List.replicate 512 (Value.int .u8 0)).toArray, .agg (List.replicate 2 (Value.int .u16 0)).toArray] 8 (World.laidAll_os _ _ _)
      (World.shaped_of_ZipB (by kernel_rfl) (by kernel_rfl)) (by kernel_rfl) (by kernel_rfl) (by kernel_rfl)
      (by rw [MakeChecks.laidMetH_plain _ _ _ (by kernel_rfl)]; exact laidMet_laidAll _ (by kernel_rfl) (by kernel_rfl))) ?_
  intro W base args ds gs before hval0 hW _ _ hL _
  have hval : ∀ (j : Nat) t v, Tryd.f12.params[j]? = some t → args[j]? = some v → Value.okWide Tryd.prog W .any base t v := hval0
  have hW' := hW
  obtain ⟨p, q, hA0, hV, rfl, _, _⟩ := hW
  have hA : DataW.TrodAll enc Tryd.prog W 0 (fun _ => true) true Tryd.f12.params.toList args.toList ds p := hA0
  rw [Tryd.params12] at hA hval
  obtain ⟨v0, v1, v2, d0, d1, d2, p0, p1, p2, rfl, rfl, rfl, h0, h1, h2⟩ := trodAll_three hA
  obtain ⟨rfl, rfl⟩ := trodVars_none hV
  obtain ⟨x0, hx0, rfl, hrep0, hstay0⟩ := Av.open_flat 2 (by kernel_rfl) (hval 0 25 v0 rfl rfl) (by rw [Tryd.underlying25]) h0
  obtain ⟨K, rfl, hK⟩ := key_can hx0
  have hrep0 : ∀ ρ, Av.Rep ρ (.u8s K) v0 := fun ρ => by
    obtain ⟨h2, xs, h3⟩ := hrep0 ρ
    subst h3
    exact ⟨xs.toList, by simp, by simpa [Value.cells] using h2⟩
  obtain ⟨x1, hx1, rfl, hrep1, hstay1⟩ := Av.open_flat 2 (by kernel_rfl) (hval 1 86 v1 rfl rfl) (by rw [Tryd.underlying86]) h1
  obtain ⟨b, rfl, hb⟩ := b512_can hx1
  have hrep1 : ∀ ρ, Av.Rep ρ (.u8s b) v1 := fun ρ => by
    obtain ⟨h2, xs, h3⟩ := hrep1 ρ
    subst h3
    exact ⟨xs.toList, by simp, by simpa [Value.cells] using h2⟩
  obtain ⟨x2, hx2, rfl, hrep2, hstay2⟩ := Av.open_flat 2 (by kernel_rfl) (hval 2 87 v2 rfl rfl) (by rw [Tryd.underlying87]) h2
  obtain ⟨ha, hc, rfl⟩ := two16_can hx2
  have hrep2 : ∀ ρ, Av.Rep ρ (.node [.u16 ha, .u16 hc]) v2 := fun ρ => by
    obtain ⟨h2, xs, h3⟩ := hrep2 ρ
    subst h3
    exact ⟨xs.toList, by simp, by simpa [Value.cells] using h2⟩
  clear hA0 hval0
  simp only [List.append_nil] at hW'
  refine (Av.calls_bool_g 2 (Av.sturn_ac K b ha hc hK hb) (W := W) (vals := [v0, v1, v2]) ⟨hrep0 _, hrep1 _, hrep2 _, trivial⟩ ⟨rfl, rfl⟩ (SpaceTurnedR.sat0 hL)).mono fun e W' ⟨he, q1, q2, q3, q4⟩ => ?_
  subst he
  exact ⟨_, rfl, Av.post_flat hW' (fun _ _ _ => trodAll_mk1 (shut_bool Tryd.underlying4 true)) (fun sp => trodAll_cons_mk (hstay0 _ _ _ _) (trodAll_cons_mk (hstay1 _ _ _ _) (trodAll_mk1 (hstay2 _ _ _ _)))) (fun _ => rfl)
    (Av.kept_of_same q1 q2 q4 _)⟩

theorem spaceturned_holds : Rows.SpaceTurnedSaid :=
  OpenClaim.holds_of_wide 12 Tryd.f12 rfl rfl rfl rfl rfl rfl rfl ⟨rfl, rfl, rfl, rfl, rfl⟩ rfl rfl rfl rfl rfl (by kernel_rfl) Tryd.func12 (by kernel_rfl)
    (of_decide_eq_true (by kernel_rfl)) (by unfold Func.isWrapper; rw [if_neg (by decide +kernel)]; exact ⟨rfl, rfl⟩)
    (fun os started H enc _ => spaceturned_lifted os started H enc)

theorem spaceturned_card_holds : Rows.SpaceTurnedCardSaid :=
  Claim7.holds_tied_plain_at .later [] [.data] true (true, "f4e0c4aff804dd3c7e9e594ea7ca439caaff57e065a2579307a23311c8ac6e21") false spaceturned_holds (fun _ h => by cases h) (by kernel_rfl) (fun _ h => by cases h) spaceTurned_row_tie rfl ⟨rfl, rfl⟩ (by kernel_rfl) rfl
    (fun f fn hf hfn => by
      obtain rfl : f = 12 := Option.some.inj ((show Tryd.prog.funcNamed "reliquary/reliquarylaw16.SpaceTurned" = some 12 by kernel_rfl).symm.trans hf) |>.symm
      obtain rfl : fn = Tryd.f12 := (Option.some.inj (Tryd.func12.symm.trans hfn)).symm
      exact ⟨by kernel_rfl, fun j t ht => by
        rw [Tryd.params12] at ht
        have hm : t ∈ [25, 86, 87] := by simpa using Array.mem_of_getElem? ht
        have hall : ([25, 86, 87].all fun u => !Tryd.prog.wantsStandIn u) = true := by kernel_rfl
        exact (show Tryd.prog.wantsStandIn t = false by simpa using List.all_eq_true.1 hall t hm)⟩)
    (by kernel_rfl)
end Go.Proofs.YtodkhgofmgaafaaDoor
