import Derived.Test.YtljkjdhkofbgmaaDoorRowS
namespace Go.Proofs.YtljkjdhkofbgmaaDoor.Av
open Go Go.ChangeShapes Go.WideShapes
set_option linter.all false
set_option maxRecDepth 3000

/-! a law whose code reads some of the package's variables -/
theorem calls_bool_m {P : Program} {f : Nat} {args : List D} {m0 : Mem} (h : AC P f args 0 m0 ⟨.bool true, [], []⟩) {W : World} {vals : List Value} (hv : All2 (Rep (fun _ => none)) args vals)
    (hm : ∀ i e, get m0 i = some e → e.rw = false ∧ ∃ g, i = gid g ∧ ∃ L : Loc, (L.blk = g ∧ L.base = 0) ∧ SatE (fun _ => none) e L W) :
    Calls P f vals.toArray W fun e W' => e = .returned (.bool true) ∧ W'.os = W.os ∧ W'.output = W.output ∧ W.heap.size ≤ W'.heap.size ∧ ∀ b, b < W.heap.size → W'.heap[b]? = W.heap[b]? := by
  let ρ0 : Env := fun i => @dite _ (∃ e, get m0 i = some e) (Classical.propDecidable _) (fun hi => some (hm i hi.choose hi.choose_spec).2.choose_spec.2.choose) (fun _ => none)
  have hle : Env.le (fun _ => none) ρ0 := fun i L h => by cases h
  have hρ : ∀ i e, get m0 i = some e → ∃ g L, i = gid g ∧ ρ0 i = some L ∧ (L.blk = g ∧ L.base = 0) ∧ SatE (fun _ => none) e L W := fun i e hi => by
    have hx : ∃ e, get m0 i = some e := ⟨e, hi⟩
    have he : hx.choose = e := Option.some.inj (hx.choose_spec.symm.trans hi)
    have hs := (hm i hx.choose hx.choose_spec).2.choose_spec.2.choose_spec
    have hg := (hm i hx.choose hx.choose_spec).2.choose_spec.1
    refine ⟨_, _, hg, dif_pos hx, hs.1, ?_⟩
    have h2 := hs.2
    generalize (hm i hx.choose hx.choose_spec).2.choose_spec.2.choose = L at h2
    rw [he] at h2
    exact h2
  have hno : ∀ i L, ρ0 i = some L → ∃ e, get m0 i = some e := fun i L hi => by
    by_cases hx : ∃ e, get m0 i = some e
    · exact hx
    · have : ρ0 i = none := dif_neg hx
      rw [this] at hi; cases hi
  have hgi : ∀ {a b : Nat}, gid a = gid b → a = b := fun h => by unfold gid at h; omega
  refine (h.2 ρ0 W vals (hv.mono fun a b hab => Rep.mono hle hab)
    ⟨fun g L h' => ?_, fun i e hi => ?_, fun i j ei ej Li Lj hi hj hne hr => ?_, fun i e L' hi hr => ?_, fun _ _ _ => rfl, Nat.le_refl _, rfl, rfl, rfl⟩ (fun i hi => ?_)).mono fun e W' ⟨v, ρ', he, _, _, hr, hI⟩ => ?_
  · obtain ⟨e, he⟩ := hno _ _ h'
    obtain ⟨g', L', h1, h2, h3, _⟩ := hρ _ e he
    rw [h'] at h2; cases h2
    rw [hgi h1]; exact h3
  · obtain ⟨g', L', h1, h2, h3, h4⟩ := hρ i e hi
    exact ⟨L', h2, h4.mono hle⟩
  · rw [(hm i ei hi).1] at hr; cases hr
  · rw [(hm i e hi).1] at hr; cases hr
  · cases hL : ρ0 i with
    | none => exact absurd hL hi
    | some L =>
      obtain ⟨e, he⟩ := hno _ _ hL
      obtain ⟨g', L', h1, _⟩ := hρ _ e he
      right; rw [h1]; unfold gid; omega
  · have hr : v = .bool true := hr
    subst hr
    refine ⟨he, hI.os, hI.out, hI.size, fun b hb => hI.ext b hb (fun ⟨i, e, L', h1, h2, _⟩ => ?_)⟩
    rw [(hm i e h1).1] at h2; cases h2

/-- a variable that is an array of words, as its reading says -/
theorem sat_u32s {P : Program} {W : World} {name : String} {g t e n : Nat} (hg : P.globalNamed name = some g) (hty : (P.globals[g]?).map (·.type) = some t) (ht : P.underlying t = some (.array n e)) (he : P.underlying e = some (.int .u32))
    (hc : P.cellsOf e = 1) (hs : P.cellsOf t = n) {l : List (BitVec 32)} (hl : l.length = n) (h : Lib.VarReads P W name (.agg (l.map fun b => .lit (.int .u32 b.toNat)))) :
    SatE (fun _ => none) ⟨.arr n .cell, .u32s l, false⟩ ⟨g, 0, n, .arr n .cell⟩ W := by
  obtain ⟨g', t', cs, fuel, p, q1, q2, q3, q4⟩ := h
  obtain rfl := Option.some.inj (hg.symm.trans q1)
  obtain rfl := Option.some.inj (hty.symm.trans q2)
  have hcs : cs.toList = (l.map fun b => (b.toNat : Int)).map fun z => Value.int .u32 z := by
    have q5 : DataW.trod (fun _ => ()) P W 0 (fun _ => true) false fuel t cs.toList = some (Lib.tabData .u32 (l.map fun b => (b.toNat : Int)), p) := by
      rw [q4]; unfold Lib.tabData; rw [List.map_map]; rfl
    exact Lib.cells_of_tab ht he hc hs q5
  simp only [World.var?, hg, Option.bind_some] at q3
  split at q3 <;> try contradiction
  rename_i C T fr hC
  cases q3
  have hlen : cs.size = n := by
    have := congrArg List.length hcs
    simpa [hl] using this
  refine ⟨rfl, trivial, hl, cs, T, fr, [], cs.toList, [], hC, by simp, rfl, hlen, ?_, fun h => by cases h⟩
  rw [hcs, List.map_map]
  show All2 _ (l.map D.u32) _
  have : ∀ l : List (BitVec 32), All2 (RepS (fun _ => none)) (l.map D.u32) (l.map ((fun z => Value.int .u32 z) ∘ fun b => (b.toNat : Int))) := by
    intro l
    induction l with
    | nil => trivial
    | cons a r ih => exact ⟨rfl, ih⟩
  exact this l

section
variable {H : Type} {enc : TypeId × Value → H} {P : Program}
/-- three arrays of bytes -/
theorem open_triple {t t' e : TypeId} {n : Nat} (ht : P.underlying t = some (.array 3 t')) (ht' : P.underlying t' = some (.array n e)) (he : P.underlying e = some (.int .u8)) (hc : P.cellsOf e = 1) (hs' : P.cellsOf t' = n) (hs : P.cellsOf t = n + n + n) {r : Reach} {b0 base : Nat} {W : World} {v : Value} {d : DataW H} {ps : List MemPlace}
    {sp : Nat → Bool} {held : Bool} (hval : Value.okWide P W r b0 t v) (hd : DataW.Trod enc P W base sp held t v d ps) :
    ∃ a b c : List (BitVec 8), a.length = n ∧ b.length = n ∧ c.length = n ∧ ps = [] ∧ (∀ ρ, Rep ρ (.node [.u8s a, .u8s b, .u8s c]) v) ∧ ∀ (W' : World) (base' : Nat) (sp' : Nat → Bool) (held' : Bool), DataW.Trod enc P W' base' sp' held' t v d [] := by
  simp only [Value.okWide, ht] at hval
  obtain ⟨xs, rfl, hn, _⟩ := hval
  obtain ⟨fuel, hf⟩ := hd
  have hcells : (Value.agg xs).cells.toList = xs.toList := by simp [Value.cells]
  rw [hcells] at hf
  obtain ⟨ys, m, rfl, hx, hl, hys, hi⟩ := DataW.trod_array ht hf
  obtain ⟨y0, y1, y2, rfl⟩ : ∃ y0 y1 y2, ys = [y0, y1, y2] := by
    match ys, hys with
    | [y0, y1, y2], _ => exact ⟨y0, y1, y2, rfl⟩
  have i0 := hi 0 (by omega)
  have i1 := hi 1 (by omega)
  have i2 := hi 2 (by omega)
  rw [hs'] at i0 i1 i2
  simp only [Nat.zero_mul, List.drop_zero, Nat.one_mul] at i0 i1 i2
  obtain ⟨p0, ⟨a, ha, hra⟩, st0⟩ := trod_u8s ht' he hc hs' (show DataW.trod enc P W base sp held m t' (xs.toList.take n) = some y0 from i0)
  obtain ⟨p1, ⟨b, hb, hrb⟩, st1⟩ := trod_u8s ht' he hc hs' (show DataW.trod enc P W base sp held m t' ((xs.toList.drop n).take n) = some y1 from i1)
  obtain ⟨p2, ⟨c, hcl, hrc⟩, st2⟩ := trod_u8s ht' he hc hs' (show DataW.trod enc P W base sp held m t' ((xs.toList.drop (2 * n)).take n) = some y2 from i2)
  have hsz : xs.toList.length = n + n + n := by rw [hl, hs]
  have hsplit : xs.toList = xs.toList.take n ++ ((xs.toList.drop n).take n ++ (xs.toList.drop (2 * n)).take n) := by
    rw [List.take_of_length_le (l := xs.toList.drop (2 * n)) (by rw [List.length_drop]; omega), show 2 * n = n + n by omega, ← List.drop_drop, List.take_append_drop, List.take_append_drop]
  have hstay : ∀ (W' : World) (base' : Nat) (sp' : Nat → Bool) (held' : Bool), DataW.trod enc P W' base' sp' held' (m + 1) t xs.toList = some (d, ps) ∧ ps = [] := by
    intro W' base' sp' held'
    unfold DataW.trod at hf ⊢
    rw [ht] at hf ⊢
    simp only [hl, if_true, Option.map_eq_some_iff] at hf ⊢
    obtain ⟨zs, hz, hzx⟩ := hf
    obtain ⟨h3, h4⟩ := mapM_none (g := fun i => DataW.trod enc P W' base' sp' held' m t' ((xs.toList.drop (i * P.cellsOf t')).take (P.cellsOf t'))) hz (fun i y _ hy => by
      obtain ⟨e1, _, e2⟩ := trod_u8s ht' he hc hs' hy
      exact ⟨e1, e2 W' base' sp' held'⟩)
    refine ⟨⟨zs, h3, hzx⟩, ?_⟩
    have := congrArg Prod.snd hzx
    exact this.symm.trans h4
  refine ⟨a, b, c, ha, hb, hcl, (hstay W 0 sp held).2, fun ρ => ⟨xs.toList, by simp, ?_⟩, fun W' base' sp' held' => ?_⟩
  · show All2 (RepS ρ) (a.map D.u8 ++ (b.map D.u8 ++ (c.map D.u8 ++ []))) _
    rw [hsplit, List.append_nil]
    exact (hra ρ).append ((hrb ρ).append (hrc ρ))
  · obtain ⟨h5, h6⟩ := hstay W' base' sp' held'
    refine ⟨m + 1, ?_⟩
    rw [hcells, h5, h6]
end
end Go.Proofs.YtljkjdhkofbgmaaDoor.Av
