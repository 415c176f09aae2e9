/- Clusters that are laid, read, and changed behind one's back, in any order, are told, or refused, and stand on the device, as the document says: for every number, key and row of acts, with the constants of the sums and the box as the program's texts lay them. -/
import Derived.Test.YtodkhgofmgaafaaGreatDoorM9
import Derived.Test.YtodkhgofmgaafaaGreatDoorRows
import Derived.Test.YtodkhgofmgaafaaGreatDoorTie
import Derived.Test.YtodkhgofmgaafaaGreatDoorCards
import Derived.SevenTiedAt
import Derived.SizedLaws
namespace Go.Proofs.YtodkhgofmgaafaaGreatDoor
open Go Go.Proofs Go.Proofs.YtodkhgofmgaafaaGreatDoor Go.ChangeShapes Go.WideShapes Go.ChangeAt Go.RowKit
set_option linter.all false
set_option maxRecDepth 3000
theorem SpacePlaysR.own : ownKnob Tryz.prog.godebug = none := by kernel_rfl
theorem SpacePlaysR.laid0 : (Rows.laid_reliquary_sha_roots : DataW Unit) = .agg (Av.K256.map fun b => .lit (.int .u32 b.toNat)) := by kernel_rfl
theorem SpacePlaysR.sat0 {W : World} (h : laidMetH Tryz.prog Rows.spacePlaysRow.laid W) : Av.SatE (fun _ => none) ⟨.arr 64 .cell, .u32s Av.K256, false⟩ ⟨2, 0, 64, .arr 64 .cell⟩ W := by
 rw [MakeChecks.laidMetH_plain _ _ _ (by kernel_rfl)] at h
 have hr := Lib.laidMet.reads h (n := "reliquary/sha.roots") (d := Rows.laid_reliquary_sha_roots) (by simp [Rows.spacePlaysRow])
 rw [SpacePlaysR.laid0] at hr
 exact Av.aCq (t := 208) (e := 45) (by kernel_rfl) (by kernel_rfl) Tryz.underlying208 Tryz.underlying45 (by kernel_rfl) (by kernel_rfl) Av.gT hr
theorem SpacePlaysR.laid1 : (Rows.laid_reliquary_reliquaryref06_Box : DataW Unit) = .agg (Av.boxL.map fun b => .lit (.int .u8 b.toNat)) := by kernel_rfl
theorem SpacePlaysR.sat1 {W : World} (h : laidMetH Tryz.prog Rows.spacePlaysRow.laid W) : Av.SatE (fun _ => none) ⟨.arr 256 .cell, .u8s Av.boxL, false⟩ ⟨0, 0, 256, .arr 256 .cell⟩ W := by
 rw [MakeChecks.laidMetH_plain _ _ _ (by kernel_rfl)] at h
 have hr := Lib.laidMet.reads h (n := "reliquary/reliquaryref06.Box") (d := Rows.laid_reliquary_reliquaryref06_Box) (by simp [Rows.spacePlaysRow])
 rw [SpacePlaysR.laid1] at hr
 exact Av.aJG (t := 168) (e := 5) (by kernel_rfl) (by kernel_rfl) Tryz.underlying168 Tryz.underlying5 (by kernel_rfl) (by kernel_rfl) Av.eZ hr
theorem SpacePlaysR.laid2 : (Rows.laid_reliquary_reliquaryref03_k : DataW Unit) = .agg (Av.K256.map fun b => .lit (.int .u32 b.toNat)) := by kernel_rfl
theorem SpacePlaysR.sat2 {W : World} (h : laidMetH Tryz.prog Rows.spacePlaysRow.laid W) : Av.SatE (fun _ => none) ⟨.arr 64 .cell, .u32s Av.K256, false⟩ ⟨1, 0, 64, .arr 64 .cell⟩ W := by
 rw [MakeChecks.laidMetH_plain _ _ _ (by kernel_rfl)] at h
 have hr := Lib.laidMet.reads h (n := "reliquary/reliquaryref03.k") (d := Rows.laid_reliquary_reliquaryref03_k) (by simp [Rows.spacePlaysRow])
 rw [SpacePlaysR.laid2] at hr
 exact Av.aCq (t := 208) (e := 45) (by kernel_rfl) (by kernel_rfl) Tryz.underlying208 Tryz.underlying45 (by kernel_rfl) (by kernel_rfl) Av.gT hr
theorem act_field : Av.jI Tryz.prog 53 = [5, 45, 46, 51, 5, 49] := by kernel_rfl
set_option maxRecDepth 100000 in
theorem ref_can {n : Nat} {x : Av.D} (h : Av.pZ Tryz.prog (n + 2) 49 x) : ∃ (a : BitVec 32) (r : List (BitVec 8)), r.length = 32 ∧ x = Av.aB a r := by
 simp only [Av.pZ, Tryz.underlying49] at h
 obtain ⟨l, rfl, h⟩ := h
 match l, h with
 |[a, b], ⟨h1, h2, _⟩ =>
  simp only [Av.pZ, Tryz.underlying45, Tryz.underlying47, show Av.aIc Tryz.prog 5 = 1 by kernel_rfl] at h1 h2
  obtain ⟨c, rfl⟩ := h1
  obtain ⟨r, rfl, hr⟩ := h2
  exact ⟨c, r, hr, rfl⟩
theorem node_can {x : Av.D} (h : Av.pZ Tryz.prog 4 51 x) : ∃ X : Av.NodeS, X.ok ∧ x = X.D := by
 unfold Av.pZ at h
 rw [Tryz.underlying51] at h
 simp only [show Av.aIc Tryz.prog 49 = 0 by kernel_rfl] at h
 obtain ⟨l, rfl, hl, ha⟩ := h
 match l, hl, ha with
 |[x0, x1, x2, x3, x4, x5, x6, x7], _, ⟨h0, h1, h2, h3, h4, h5, h6, h7, _⟩ =>
  obtain ⟨a0, s0, g0, rfl⟩ := ref_can (n := 1) h0
  obtain ⟨a1, s1, g1, rfl⟩ := ref_can (n := 1) h1
  obtain ⟨a2, s2, g2, rfl⟩ := ref_can (n := 1) h2
  obtain ⟨a3, s3, g3, rfl⟩ := ref_can (n := 1) h3
  obtain ⟨a4, s4, g4, rfl⟩ := ref_can (n := 1) h4
  obtain ⟨a5, s5, g5, rfl⟩ := ref_can (n := 1) h5
  obtain ⟨a6, s6, g6, rfl⟩ := ref_can (n := 1) h6
  obtain ⟨a7, s7, g7, rfl⟩ := ref_can (n := 1) h7
  exact ⟨⟨a0, a1, a2, a3, a4, a5, a6, a7, s0, s1, s2, s3, s4, s5, s6, s7⟩, ⟨g0, g1, g2, g3, g4, g5, g6, g7⟩, rfl⟩
theorem act_can {n : Nat} {bl : List (List (BitVec 8))} {ds : List Av.D} (h : Av.aB8 Tryz.prog 4 n bl (Av.jI Tryz.prog 53) ds) : ∃ a : Av.ActW, a.okr ∧ bl = [a.bs] ∧ Av.D.node ds = Av.cT n a := by
 rw [act_field] at h
 have hlen := Av.mY h
 match ds, hlen with
 |[d1, d2, d3, d4, d5, d6], _ =>
  simp only [Av.aB8, show Av.aCW Tryz.prog 5 = false by kernel_rfl, show Av.aCW Tryz.prog 45 = false by kernel_rfl, show Av.aCW Tryz.prog 46 = true by kernel_rfl, show Av.aCW Tryz.prog 51 = false by kernel_rfl, show Av.aCW Tryz.prog 49 = false by kernel_rfl] at h
  obtain ⟨h1, h2, h⟩ := h
  cases bl with
  |nil => exact h.elim
  |cons l1 bl =>
   obtain ⟨⟨x1, hx1, rfl⟩, h4, h5, h6, rfl⟩ := h
   obtain ⟨X, hX, rfl⟩ := node_can h4
   obtain ⟨ra, rr, hr, rfl⟩ := ref_can (n := 2) h6
   simp only [Av.pZ, Tryz.underlying5, Tryz.underlying45] at h1 h2 h5
   obtain ⟨kd, rfl⟩ := h1
   obtain ⟨an, rfl⟩ := h2
   obtain ⟨wh, rfl⟩ := h5
   exact ⟨⟨kd, an, l1, x1, X, wh, ra, rr⟩, ⟨hx1, hX, hr⟩, rfl, rfl⟩
theorem acts_can : ∀ (rows : List Av.RowO) (n : Nat), (∀ (i : Nat) r, rows[i]? = some r → Av.aB8 Tryz.prog 4 (n + i * 1) (r.bl.map (·.1)) (Av.jI Tryz.prog 53) r.ds) →
  ∃ A : List Av.ActW, A.length = rows.length ∧ (∀ a ∈ A, a.okr) ∧ (rows.map fun r => Av.D.node r.ds) = Av.eP n A ∧ ∀ (i : Nat) r, rows[i]? = some r → r.bl.map (·.1) = [(A.getD i Av.a0W).bs]
 |[], _, _ => ⟨[], rfl, (fun _ h => nomatch h), rfl, (fun i r h => by simp at h)⟩
 |r :: rows, n, h => by
  have h0 := h 0 r rfl
  rw [Nat.zero_mul, Nat.add_zero] at h0
  obtain ⟨a, ha, hb, hd⟩ := act_can h0
  obtain ⟨A, h1, h2, h3, h4⟩ := acts_can rows (n + 1) (fun i r hi => by
   have := h (i + 1) r (by rw [List.getElem?_cons_succ]; exact hi)
   rw [show n + (i + 1) * 1 = n + 1 + i * 1 by omega] at this
   exact this)
  refine ⟨a :: A, by rw [List.length_cons, List.length_cons, h1], fun b hb => ?_, ?_, fun i r' hi => ?_⟩
  ·rcases List.mem_cons.1 hb with rfl | hb
   ·exact ha
   ·exact h2 b hb
  ·rw [List.map_cons, h3, hd]; rfl
  ·cases i with
   |zero =>
    simp only [List.getElem?_cons_zero, Option.some.injEq] at hi
    subst hi
    exact hb
   |succ i =>
    rw [List.getElem?_cons_succ] at hi
    exact h4 i r' hi
def actLoc (L0 L9 : Av.Loc) (rows : List Av.RowO) (i : Nat) : Av.Loc := if i = 0 then L0 else match rows[i - 1]? with
 |some r => (match r.bl[0]? with
  |some p => p.2
  |none => L9)
 |none => L9
theorem actLoc_at {L0 L9 : Av.Loc} {rows : List Av.RowO} {i : Nat} {r : Av.RowO} {p : List (BitVec 8) × Av.Loc} (h1 : rows[i]? = some r) (h2 : r.bl[0]? = some p) : actLoc L0 L9 rows (1 + i) = p.2 := by
 unfold actLoc
 rw [if_neg (by omega), show 1 + i - 1 = i by omega, h1]
 simp only [h2]
theorem actLoc_no {L0 L9 : Av.Loc} {rows : List Av.RowO} {i : Nat} (h1 : rows[i]? = none) : actLoc L0 L9 rows (1 + i) = L9 := by
 unfold actLoc
 rw [if_neg (by omega), show 1 + i - 1 = i by omega, h1]
set_option maxRecDepth 100000 in
theorem spaceplays_lifted (os : Os) (started : os.Started) (H : Type) (enc : TypeId × Value → H) :
  ReturnsInHanded {} Tryz.checked os 3 .any (fun w args => (Rows.spacePlaysSpec.pre enc Tryz.prog Tryz.f3 Rows.spacePlaysRow.domain false w args ∧ laidMetH Tryz.prog Rows.spacePlaysRow.laid w) ∧ sizedMet enc Tryz.prog Tryz.f3 (OpenSpec.ofChange Rows.spacePlaysSpec) false w args)
   (Rows.spacePlaysSpec.post enc Tryz.prog Tryz.f3 false true false false) := by
 refine returnsInHanded_of_change_and (C := Tryz.checked) (X := fun w _ => laidMetH Tryz.prog Rows.spacePlaysRow.laid w) (fun _ _ _ hh h => h.of_heap hh) SpacePlaysR.own started (by kernel_rfl) Tryz.func3
  (ChangeSpec.witness_shaped (enc := enc) (C := Tryz.checked) (os := os) (X := fun w _ => laidMetH Tryz.prog Rows.spacePlaysRow.laid w) false (World.laidAll Tryz.prog os Rows.spacePlaysRow.laid) #[.int .u8 0, .agg (List.replicate 32 (.int .u8 0)).toArray, .slice none 0 0] 8 (World.laidAll_os _ _ _)
   (World.shaped_of_ZipB (by kernel_rfl) (by kernel_rfl)) (by kernel_rfl) (by kernel_rfl) (by kernel_rfl)
   (by rw [MakeChecks.laidMetH_plain _ _ _ (by kernel_rfl)]; exact laidMet_laidAll _ (by kernel_rfl) (by kernel_rfl))) ?_
 intro W base args ds gs before hval0 hW _ hsz hL _
 have hval : ∀ (j : Nat) t v, Tryz.f3.params[j]? = some t → args[j]? = some v → Value.okWide Tryz.prog W .any base t v := hval0
 have hW' := hW
 obtain ⟨p, q, hA0, hV, rfl, _, _⟩ := hW
 have hA : DataW.TrodAll enc Tryz.prog W 0 (fun _ => true) true Tryz.f3.params.toList args.toList ds p := hA0
 rw [Tryz.params3] at hA hval hsz
 have hA1 := hA
 obtain ⟨v0, v1, v2, d0, d1, d2, p0, p1, p2, rfl, rfl, rfl, h0, h1, h2⟩ := trodAll_three hA
 obtain ⟨rfl, rfl⟩ := trodVars_none hV
 obtain ⟨per, rfl, rfl, rfl, wa⟩ := open_int Tryz.underlying5 (hval 0 5 v0 rfl rfl) h0
 obtain ⟨master, hml, rfl, hrep1, hstay1⟩ := Av.aHd Tryz.underlying23 Tryz.underlying5 (by kernel_rfl) (by kernel_rfl) (hval 1 23 v1 rfl rfl) h1
 have hrepP : ∀ ρ, Av.Rep ρ (.u8 (BitVec.ofNat 8 per.toNat)) (.int .u8 per) := fun ρ => Av.aAK wa
 have hstay : ∀ (W' : World), (∀ b, b < W.heap.size → W'.heap[b]? = W.heap[b]?) → ∀ sp : Nat → Bool, (∀ p ∈ p2, sp p.block = true) → DataW.TrodAll enc Tryz.prog W' 0 sp true [5, 23, 24] [.int .u8 per, v1, v2] [_, d1, d2] p2 := fun W' hW2 sp hsp =>
  Av.nB (by kernel_rfl) (by kernel_rfl) (by kernel_rfl) hW2 (by decide +kernel) (by simpa using hA1) (fun p hp => hsp p (by simpa using hp))
 have h9 := Av.aHP (SpacePlaysR.sat0 hL)
 have hop := Av.aGC 4 Tryz.underlying24 (e := 53) (by kernel_rfl) (by decide +kernel) 1 (by rw [act_field]; kernel_rfl) Av.eA ⟨trivial, trivial, trivial, ⟨trivial, trivial, trivial⟩, trivial, ⟨trivial, trivial, trivial⟩, trivial⟩ (by kernel_rfl) (fun n bl ds h => by
  obtain ⟨a, ha, _, hd⟩ := act_can h
  rw [hd]
  exact ⟨rfl, rfl, Av.cellW _ _ _, ha.nd.ty, rfl, ⟨rfl, ha.r, trivial⟩, trivial⟩) h9 (hval 2 24 v2 rfl rfl) h2
 clear hA0 hval0
 simp only [List.append_nil, List.nil_append] at hW'
 rcases hop with rfl | ⟨rows, L0, cap, hcap, hcap2, hrows, hsat, hrep0⟩
 ·refine (Av.kK (np := 0) (by decide) (Av.u0 (BitVec.ofNat 8 per.toNat) master hml) (W := W) (loc := fun _ => ⟨0, 0, 0, .cell⟩) (vals := [.int .u8 per, v1, .slice none 0 0]) ⟨hrepP _, hrep1 _, rfl, trivial⟩ (fun i e hi => ?_)).mono fun e W' ⟨he, q1, q2, q3, q4⟩ => ?_
  ·simp only [Av.gRBK] at hi
   rw [Av.aO] at hi
   split at hi
   ·rename_i hg; cases hi; exact ⟨rfl, .inr ⟨_, hg.symm, _, ⟨rfl, rfl⟩, SpacePlaysR.sat0 hL⟩⟩
   rw [Av.aO] at hi
   split at hi
   ·rename_i hg; cases hi; exact ⟨rfl, .inr ⟨_, hg.symm, _, ⟨rfl, rfl⟩, SpacePlaysR.sat1 hL⟩⟩
   rw [Av.aO] at hi
   split at hi
   ·rename_i hg; cases hi; exact ⟨rfl, .inr ⟨_, hg.symm, _, ⟨rfl, rfl⟩, SpacePlaysR.sat2 hL⟩⟩
   cases hi
  subst he
  exact ⟨_, rfl, Av.l8 hW' (fun _ _ _ => trodAll_mk1 (shut_bool Tryz.underlying4 true)) (fun sp hsp => hstay W' q4 sp hsp) (fun _ => rfl) (Av.kC q1 q2 q4 _)⟩
 obtain ⟨A, hA1', hA2, hA3, hA4⟩ := acts_can rows 1 (fun i r hi => (hrows i r hi).1)
 by_cases hlen : 20 < rows.length
 ·refine (Av.kK (np := 1) (by decide) (Av.sS (BitVec.ofNat 8 per.toNat) master hml rows.length cap hlen) (W := W) (loc := fun _ => L0) (vals := [.int .u8 per, v1, v2]) ⟨hrepP _, hrep1 _, hrep0 _ 0 rfl, trivial⟩ (fun i e hi => ?_)).mono fun e W' ⟨he, q1, q2, q3, q4⟩ => ?_
  ·rw [Av.aO] at hi
   split at hi
   ·rename_i hg; cases hi; exact ⟨rfl, .inr ⟨_, hg.symm, _, ⟨rfl, rfl⟩, SpacePlaysR.sat0 hL⟩⟩
   cases hi
  subst he
  exact ⟨_, rfl, Av.l8 hW' (fun _ _ _ => trodAll_mk1 (shut_bool Tryz.underlying4 true)) (fun sp hsp => hstay W' q4 sp hsp) (fun _ => rfl) (Av.kC q1 q2 q4 _)⟩
 have hsl : ∀ i, Av.SatE (fun _ => none) ⟨.row .cell, .u8s (A.getD i Av.a0W).bs, false⟩ (actLoc L0 ⟨2, 0, 64, .row .cell⟩ rows (1 + i)) W := fun i => by
  cases hr : rows[i]? with
  |none =>
   rw [actLoc_no hr]
   have : A.getD i Av.a0W = Av.a0W := by
    have hi : rows.length ≤ i := List.getElem?_eq_none_iff.1 hr
    rw [List.getD_eq_getElem?_getD, List.getElem?_eq_none (by omega)]; rfl
   rw [this]
   exact h9
  |some r =>
   obtain ⟨_, hbl, hs⟩ := hrows i r hr
   have hm := hA4 i r hr
   obtain ⟨p, hp⟩ : ∃ p, r.bl[0]? = some p := ⟨r.bl[0]'(by omega), List.getElem?_eq_getElem (by omega)⟩
   rw [actLoc_at hr hp]
   have : (A.getD i Av.a0W).bs = p.1 := by
    have h5 := congrArg (fun l => l[0]?) hm
    simp only [List.getElem?_map, hp, Option.map_some, List.getElem?_cons_zero, Option.some.injEq] at h5
    exact h5.symm
   rw [this]
   exact hs p (List.mem_of_getElem? hp)
 have hs0 := hsat (fun i => if i < 21 then some (actLoc L0 ⟨2, 0, 64, .row .cell⟩ rows i) else none) (fun i j r p hi hj => by
  have h1 : i < rows.length := (List.getElem?_eq_some_iff.1 hi).1
  have h2 : j < r.bl.length := (List.getElem?_eq_some_iff.1 hj).1
  have h3 := (hrows i r hi).2.1
  obtain rfl : j = 0 := by omega
  rw [if_pos (by omega), show 1 + i * 1 + 0 = 1 + i by omega, actLoc_at hi hj])
 rw [hA3] at hs0
 have hac : Av.AC Tryz.prog 3 [.u8 (BitVec.ofNat 8 per.toNat), .u8s master, .slice 0 [] 0 rows.length (some cap)] 21 (Av.aDS A) ⟨.bool true, [], []⟩ := by
  by_cases hf : Av.yC A rows.length ≤ 20000
  ·exact Av.aEK _ master hml A rows.length cap hA1' (by omega) hA2 hf
  ·exact Av.sR _ master hml A rows.length cap hA1' (by omega) hA2 (by omega)
 refine (Av.kK (np := 21) (by decide) hac (W := W) (loc := actLoc L0 ⟨2, 0, 64, .row .cell⟩ rows) (vals := [.int .u8 per, v1, v2]) ⟨hrepP _, hrep1 _, hrep0 _ 0 rfl, trivial⟩ (fun i e hi => ?_)).mono fun e W' ⟨he, q1, q2, q3, q4⟩ => ?_
 ·simp only [Av.aDS, Av.datW, Av.gRBK, List.cons_append, List.nil_append] at hi
  rw [Av.aO] at hi
  split at hi
  ·rename_i hg; cases hi; subst hg; exact ⟨rfl, .inl ⟨by decide, hs0⟩⟩
  rw [Av.aO] at hi
  split at hi
  ·rename_i hg; cases hi; subst hg; exact ⟨rfl, .inl ⟨by decide, (hsl 0).mono fun _ _ h => by cases h⟩⟩
  rw [Av.aO] at hi
  split at hi
  ·rename_i hg; cases hi; subst hg; exact ⟨rfl, .inl ⟨by decide, (hsl 1).mono fun _ _ h => by cases h⟩⟩
  rw [Av.aO] at hi
  split at hi
  ·rename_i hg; cases hi; subst hg; exact ⟨rfl, .inl ⟨by decide, (hsl 2).mono fun _ _ h => by cases h⟩⟩
  rw [Av.aO] at hi
  split at hi
  ·rename_i hg; cases hi; subst hg; exact ⟨rfl, .inl ⟨by decide, (hsl 3).mono fun _ _ h => by cases h⟩⟩
  rw [Av.aO] at hi
  split at hi
  ·rename_i hg; cases hi; subst hg; exact ⟨rfl, .inl ⟨by decide, (hsl 4).mono fun _ _ h => by cases h⟩⟩
  rw [Av.aO] at hi
  split at hi
  ·rename_i hg; cases hi; subst hg; exact ⟨rfl, .inl ⟨by decide, (hsl 5).mono fun _ _ h => by cases h⟩⟩
  rw [Av.aO] at hi
  split at hi
  ·rename_i hg; cases hi; subst hg; exact ⟨rfl, .inl ⟨by decide, (hsl 6).mono fun _ _ h => by cases h⟩⟩
  rw [Av.aO] at hi
  split at hi
  ·rename_i hg; cases hi; subst hg; exact ⟨rfl, .inl ⟨by decide, (hsl 7).mono fun _ _ h => by cases h⟩⟩
  rw [Av.aO] at hi
  split at hi
  ·rename_i hg; cases hi; subst hg; exact ⟨rfl, .inl ⟨by decide, (hsl 8).mono fun _ _ h => by cases h⟩⟩
  rw [Av.aO] at hi
  split at hi
  ·rename_i hg; cases hi; subst hg; exact ⟨rfl, .inl ⟨by decide, (hsl 9).mono fun _ _ h => by cases h⟩⟩
  rw [Av.aO] at hi
  split at hi
  ·rename_i hg; cases hi; subst hg; exact ⟨rfl, .inl ⟨by decide, (hsl 10).mono fun _ _ h => by cases h⟩⟩
  rw [Av.aO] at hi
  split at hi
  ·rename_i hg; cases hi; subst hg; exact ⟨rfl, .inl ⟨by decide, (hsl 11).mono fun _ _ h => by cases h⟩⟩
  rw [Av.aO] at hi
  split at hi
  ·rename_i hg; cases hi; subst hg; exact ⟨rfl, .inl ⟨by decide, (hsl 12).mono fun _ _ h => by cases h⟩⟩
  rw [Av.aO] at hi
  split at hi
  ·rename_i hg; cases hi; subst hg; exact ⟨rfl, .inl ⟨by decide, (hsl 13).mono fun _ _ h => by cases h⟩⟩
  rw [Av.aO] at hi
  split at hi
  ·rename_i hg; cases hi; subst hg; exact ⟨rfl, .inl ⟨by decide, (hsl 14).mono fun _ _ h => by cases h⟩⟩
  rw [Av.aO] at hi
  split at hi
  ·rename_i hg; cases hi; subst hg; exact ⟨rfl, .inl ⟨by decide, (hsl 15).mono fun _ _ h => by cases h⟩⟩
  rw [Av.aO] at hi
  split at hi
  ·rename_i hg; cases hi; subst hg; exact ⟨rfl, .inl ⟨by decide, (hsl 16).mono fun _ _ h => by cases h⟩⟩
  rw [Av.aO] at hi
  split at hi
  ·rename_i hg; cases hi; subst hg; exact ⟨rfl, .inl ⟨by decide, (hsl 17).mono fun _ _ h => by cases h⟩⟩
  rw [Av.aO] at hi
  split at hi
  ·rename_i hg; cases hi; subst hg; exact ⟨rfl, .inl ⟨by decide, (hsl 18).mono fun _ _ h => by cases h⟩⟩
  rw [Av.aO] at hi
  split at hi
  ·rename_i hg; cases hi; subst hg; exact ⟨rfl, .inl ⟨by decide, (hsl 19).mono fun _ _ h => by cases h⟩⟩
  rw [Av.aO] at hi
  split at hi
  ·rename_i hg; cases hi; exact ⟨rfl, .inr ⟨_, hg.symm, _, ⟨rfl, rfl⟩, SpacePlaysR.sat0 hL⟩⟩
  rw [Av.aO] at hi
  split at hi
  ·rename_i hg; cases hi; exact ⟨rfl, .inr ⟨_, hg.symm, _, ⟨rfl, rfl⟩, SpacePlaysR.sat1 hL⟩⟩
  rw [Av.aO] at hi
  split at hi
  ·rename_i hg; cases hi; exact ⟨rfl, .inr ⟨_, hg.symm, _, ⟨rfl, rfl⟩, SpacePlaysR.sat2 hL⟩⟩
  cases hi
 subst he
 exact ⟨_, rfl, Av.l8 hW' (fun _ _ _ => trodAll_mk1 (shut_bool Tryz.underlying4 true)) (fun sp hsp => hstay W' q4 sp hsp) (fun _ => rfl) (Av.kC q1 q2 q4 _)⟩
theorem spaceplays_holds : Rows.SpacePlaysSaid :=
 OpenClaim.holds_of_wide 3 Tryz.f3 rfl rfl rfl rfl rfl rfl rfl ⟨rfl, rfl, rfl, rfl, rfl⟩ rfl rfl rfl rfl rfl (by kernel_rfl) Tryz.func3 (by kernel_rfl)
  (of_decide_eq_true (by kernel_rfl)) (by unfold Func.isWrapper; rw [if_neg (by decide +kernel)]; exact ⟨rfl, rfl⟩)
  (fun os started H enc _ => spaceplays_lifted os started H enc)
theorem spaceplays_card_holds : Rows.SpacePlaysCardSaid :=
 Claim7.holds_tied_plain_at .later [] [.data, .data, .data] true (true, "f198d27b6b71231285e6fbbcb4f5cbedf5731b0a01e10f3d0c9102b75e27e948") false spaceplays_holds (fun _ h => by cases h) (by kernel_rfl) (fun _ h => by cases h) spacePlays_row_tie rfl ⟨rfl, rfl⟩ (by kernel_rfl) rfl
  (fun f fn hf hfn => by
   obtain rfl : f = 3 := Option.some.inj ((show Tryz.prog.funcNamed "reliquary/reliquarylaw16.SpacePlays" = some 3 by kernel_rfl).symm.trans hf) |>.symm
   obtain rfl : fn = Tryz.f3 := (Option.some.inj (Tryz.func3.symm.trans hfn)).symm
   exact ⟨by kernel_rfl, fun j t ht => by
    rw [Tryz.params3] at ht
    have hm : t ∈ [5, 23, 24] := by simpa using Array.mem_of_getElem? ht
    have hall : ([5, 23, 24].all fun u => !Tryz.prog.wantsStandIn u) = true := by kernel_rfl
    exact (show Tryz.prog.wantsStandIn t = false by simpa using List.all_eq_true.1 hall t hm)⟩)
  (by kernel_rfl)
end Go.Proofs.YtodkhgofmgaafaaGreatDoor
