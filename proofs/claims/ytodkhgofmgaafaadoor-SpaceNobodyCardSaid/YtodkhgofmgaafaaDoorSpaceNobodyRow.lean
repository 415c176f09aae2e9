/- There is no space without a device, or of a geometry that may not be; none reads or lays anything: for every geometry, ref and bytes, with the constants of the sums as the program's texts lay them. -/
import Derived.Test.YtodkhgofmgaafaaDoorM8
import Derived.Test.YtodkhgofmgaafaaDoorM9
import Derived.Test.YtodkhgofmgaafaaDoorRows
import Derived.Test.YtodkhgofmgaafaaDoorTie
import Derived.Test.YtodkhgofmgaafaaDoorCards
import Derived.SevenTiedAt
import Derived.SizedLaws
namespace Go.Proofs.YtodkhgofmgaafaaDoor
open Go Go.Proofs Go.Proofs.YtodkhgofmgaafaaDoor Go.ChangeShapes Go.WideShapes Go.ChangeAt Go.RowKit
set_option linter.all false
set_option maxRecDepth 3000

theorem SpaceNobodyR.own : ownKnob Tryd.prog.godebug = none := by kernel_rfl

theorem SpaceNobodyR.laid0 : (Rows.laid_reliquary_sha_roots : DataW Unit) = .agg (Av.K256.map fun b => .lit (.int .u32 b.toNat)) := by kernel_rfl

theorem SpaceNobodyR.sat0 {W : World} (h : laidMetH Tryd.prog Rows.spaceNobodyRow.laid W) : Av.SatE (fun _ => none) ⟨.arr 64 .cell, .u32s Av.K256, false⟩ ⟨2, 0, 64, .arr 64 .cell⟩ W := by
  rw [MakeChecks.laidMetH_plain _ _ _ (by kernel_rfl)] at h
  have hr := Lib.laidMet.reads h (n := "reliquary/sha.roots") (d := Rows.laid_reliquary_sha_roots) (by simp [Rows.spaceNobodyRow])
  rw [SpaceNobodyR.laid0] at hr
  exact Av.sat_u32s (t := 196) (e := 73) (by kernel_rfl) (by kernel_rfl) Tryd.underlying196 Tryd.underlying73 (by kernel_rfl) (by kernel_rfl) Av.K256_length hr

theorem canEs2 {F : TypeId → Av.D → Prop} {t u : TypeId} : ∀ {ds : List Av.D}, Av.canEs F [t, u] ds → ∃ a b, ds = [a, b] ∧ F t a ∧ F u b
  | [a, b], ⟨h1, h2, _⟩ => ⟨a, b, rfl, h1, h2⟩
  | [], h => h.elim
  | [_], h => h.2.elim
  | _ :: _ :: _ :: _, h => h.2.2.elim
theorem can_i64 {P : Program} {n : Nat} {t : TypeId} {x : Av.D} (hu : P.underlying t = some (.int .i64)) (h : Av.canE P (n + 1) t x) : ∃ c : Int, x = .i64 c := by
  unfold Av.canE at h
  rw [hu] at h
  obtain ⟨c, h, _⟩ := h
  exact ⟨c, h⟩
theorem geo_can {x : Av.D} (h : Av.canE Tryd.prog 3 72 x) : ∃ c p : Int, x = .node [.i64 c, .i64 p] := by
  unfold Av.canE at h
  rw [Tryd.underlying72] at h
  obtain ⟨l, rfl, h⟩ := h
  obtain ⟨a, b, rfl, h1, h2⟩ := canEs2 (t := 3) (u := 3) h
  obtain ⟨c, rfl⟩ := can_i64 (n := 1) Tryd.underlying3 h1
  obtain ⟨p, rfl⟩ := can_i64 (n := 1) Tryd.underlying3 h2
  exact ⟨c, p, rfl⟩
set_option maxRecDepth 100000 in
theorem ref_can {x : Av.D} (h : Av.canE Tryd.prog 3 75 x) : ∃ (a : BitVec 32) (r : List (BitVec 8)), r.length = 32 ∧ x = Av.refD a r := by
  simp only [Av.canE, Tryd.underlying75] at h
  obtain ⟨l, rfl, h⟩ := h
  match l, h with
  | [a, b], ⟨h1, h2, _⟩ =>
    simp only [Av.canE, Tryd.underlying73, Tryd.underlying26, show Av.oddB Tryd.prog 5 = 1 by kernel_rfl] at h1 h2
    obtain ⟨c, rfl⟩ := h1
    obtain ⟨r, rfl, hr⟩ := h2
    exact ⟨c, r, hr, rfl⟩

set_option maxRecDepth 100000 in
theorem spacenobody_lifted (os : Os) (started : os.Started) (H : Type) (enc : TypeId × Value → H) :
    ReturnsInHanded {} Tryd.checked os 10 .any (fun w args => (Rows.spaceNobodySpec.pre enc Tryd.prog Tryd.f10 Rows.spaceNobodyRow.domain false w args ∧ laidMetH Tryd.prog Rows.spaceNobodyRow.laid w) ∧ sizedMet enc Tryd.prog Tryd.f10 (OpenSpec.ofChange Rows.spaceNobodySpec) false w args)
      (Rows.spaceNobodySpec.post enc Tryd.prog Tryd.f10 false true false false) := by
  refine returnsInHanded_of_change_and (C := Tryd.checked) (X := fun w _ => laidMetH Tryd.prog Rows.spaceNobodyRow.laid w) (fun _ _ _ hh h => h.of_heap hh) SpaceNobodyR.own started (by kernel_rfl) Tryd.func10
    (ChangeSpec.witness_shaped (enc := enc) (C := Tryd.checked) (os := os) (X := fun w _ => laidMetH Tryd.prog Rows.spaceNobodyRow.laid w) false (World.laidAll Tryd.prog os Rows.spaceNobodyRow.laid) #[.agg #[.int .i64 0, .int .i64 0], .agg ([Value.int .u32 0] ++ List.replicate 32 (Value.int .u8 0)).toArray, .slice none 0 0] 8 (World.laidAll_os _ _ _)
      (World.shaped_of_ZipB (by kernel_rfl) (by kernel_rfl)) (by kernel_rfl) (by kernel_rfl) (by kernel_rfl)
      (by rw [MakeChecks.laidMetH_plain _ _ _ (by kernel_rfl)]; exact laidMet_laidAll _ (by kernel_rfl) (by kernel_rfl))) ?_
  intro W base args ds gs before hval0 hW _ hsz hL _
  have hval : ∀ (j : Nat) t v, Tryd.f10.params[j]? = some t → args[j]? = some v → Value.okWide Tryd.prog W .any base t v := hval0
  have hW' := hW
  obtain ⟨p, q, hA0, hV, rfl, _, _⟩ := hW
  have hA : DataW.TrodAll enc Tryd.prog W 0 (fun _ => true) true Tryd.f10.params.toList args.toList ds p := hA0
  rw [Tryd.params10] at hA hval hsz
  obtain ⟨v0, v1, v2, d0, d1, d2, p0, p1, p2, rfl, rfl, rfl, h0, h1, h2⟩ := trodAll_three hA
  obtain ⟨rfl, rfl⟩ := trodVars_none hV
  obtain ⟨x0, hx0, rfl, hrep0, hstay0⟩ := Av.open_flat 3 (by kernel_rfl) (hval 0 72 v0 rfl rfl) (by rw [Tryd.underlying72]) h0
  obtain ⟨c, g, rfl⟩ := geo_can hx0
  have hrep0 : ∀ ρ, Av.Rep ρ (.node [.i64 c, .i64 g]) v0 := fun ρ => by
    obtain ⟨h2, xs, h3⟩ := hrep0 ρ
    subst h3
    exact ⟨xs.toList, by simp, by simpa [Value.cells] using h2⟩
  obtain ⟨x1, hx1, rfl, hrep1, hstay1⟩ := Av.open_flat 3 (by kernel_rfl) (hval 1 75 v1 rfl rfl) (by rw [Tryd.underlying75]) h1
  obtain ⟨a, r, hr, rfl⟩ := ref_can hx1
  have hrep1 : ∀ ρ, Av.Rep ρ (Av.refD a r) v1 := fun ρ => by
    obtain ⟨h2, xs, h3⟩ := hrep1 ρ
    subst h3
    exact ⟨xs.toList, by simp, by simpa [Value.cells] using h2⟩
  obtain ⟨l0, L0, y0, hy0, hs0, hr0, hst0, hes0⟩ := Av.open_slD2 Tryd.underlying31 Tryd.underlying5 (by kernel_rfl) (Av.sat_none (SpaceNobodyR.sat0 hL)) (hval 2 31 v2 rfl rfl) h2
  clear hA0 hval0
  simp only [List.append_nil, List.nil_append] at hW'
  refine (Av.calls_bool_n (np := 1) (by decide) (Av.snobody_ac c g a r l0 l0.length y0 hr) (W := W) (loc := fun _ => L0) (vals := [v0, v1, v2]) ⟨hrep0 _, hrep1 _, hr0 _ 0 rfl, trivial⟩ (fun i e hi => ?_)).mono fun e W' ⟨he, q1, q2, q3, q4⟩ => ?_
  · rw [Av.get_cons] at hi
    split at hi
    · rename_i hg; cases hi; subst hg; exact ⟨rfl, .inl ⟨by decide, hs0⟩⟩
    rw [Av.get_cons] at hi
    split at hi
    · rename_i hg; cases hi; exact ⟨rfl, .inr ⟨_, hg.symm, _, ⟨rfl, rfl⟩, SpaceNobodyR.sat0 hL⟩⟩
    cases hi
  subst he
  exact ⟨_, rfl, Av.post_places hW' (fun _ _ _ => trodAll_mk1 (shut_bool Tryd.underlying4 true))
    (fun sp hsp => trodAll_cons_mk (p := []) (hstay0 _ _ _ _) (trodAll_cons_mk (p := []) (hstay1 _ _ _ _) (trodAll_mk1 (hst0 W' sp q4 hsp)))) (fun _ => rfl)
    (Av.kept_of_same q1 q2 q4 _)⟩

theorem spacenobody_holds : Rows.SpaceNobodySaid :=
  OpenClaim.holds_of_wide 10 Tryd.f10 rfl rfl rfl rfl rfl rfl rfl ⟨rfl, rfl, rfl, rfl, rfl⟩ rfl rfl rfl rfl rfl (by kernel_rfl) Tryd.func10 (by kernel_rfl)
    (of_decide_eq_true (by kernel_rfl)) (by unfold Func.isWrapper; rw [if_neg (by decide +kernel)]; exact ⟨rfl, rfl⟩)
    (fun os started H enc _ => spacenobody_lifted os started H enc)

theorem spacenobody_card_holds : Rows.SpaceNobodyCardSaid :=
  Claim7.holds_tied_plain_at .later [] [.data] true (true, "f4e0c4aff804dd3c7e9e594ea7ca439caaff57e065a2579307a23311c8ac6e21") false spacenobody_holds (fun _ h => by cases h) (by kernel_rfl) (fun _ h => by cases h) spaceNobody_row_tie rfl ⟨rfl, rfl⟩ (by kernel_rfl) rfl
    (fun f fn hf hfn => by
      obtain rfl : f = 10 := Option.some.inj ((show Tryd.prog.funcNamed "reliquary/reliquarylaw16.SpaceNobody" = some 10 by kernel_rfl).symm.trans hf) |>.symm
      obtain rfl : fn = Tryd.f10 := (Option.some.inj (Tryd.func10.symm.trans hfn)).symm
      exact ⟨by kernel_rfl, fun j t ht => by
        rw [Tryd.params10] at ht
        have hm : t ∈ [72, 75, 31] := by simpa using Array.mem_of_getElem? ht
        have hall : ([72, 75, 31].all fun u => !Tryd.prog.wantsStandIn u) = true := by kernel_rfl
        exact (show Tryd.prog.wantsStandIn t = false by simpa using List.all_eq_true.1 hall t hm)⟩)
    (by kernel_rfl)
end Go.Proofs.YtodkhgofmgaafaaDoor
