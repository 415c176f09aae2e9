import Derived.Test.YtodkhgofmgaafaaDoorM7
import Derived.Test.YtodkhgofmgaafaaDoorM4
namespace Go.Proofs.YtodkhgofmgaafaaDoor.Av
open Go Go.ChangeShapes Go.WideShapes
set_option linter.all false
set_option maxRecDepth 3000

/-! a law that reads a row of bytes, and some of the package's variables -/
theorem calls_bool_sm {P : Program} {f : Nat} {args : List D} {m0 : Mem} (h : AC P f args 1 m0 ⟨.bool true, [], []⟩) {W : World} {vals : List Value} {L0 : Loc} (hv : All2 (Rep (fun i => if i = 0 then some L0 else none)) args vals)
    (hm : ∀ i e, get m0 i = some e → e.rw = false ∧ ((i = 0 ∧ SatE (fun _ => none) e L0 W) ∨ ∃ g, i = gid g ∧ ∃ L : Loc, (L.blk = g ∧ L.base = 0) ∧ SatE (fun _ => none) e L W)) :
    Calls P f vals.toArray W fun e W' => e = .returned (.bool true) ∧ W'.os = W.os ∧ W'.output = W.output ∧ W.heap.size ≤ W'.heap.size ∧ ∀ b, b < W.heap.size → W'.heap[b]? = W.heap[b]? := by
  have hgi : ∀ {a b : Nat}, gid a = gid b → a = b := fun h => by unfold gid at h; omega
  have hg0 : ∀ g, gid g ≠ 0 := fun g => by unfold gid; omega
  have hm2 : ∀ i e, get m0 i = some e → i ≠ 0 → ∃ g, i = gid g ∧ ∃ L : Loc, (L.blk = g ∧ L.base = 0) ∧ SatE (fun _ => none) e L W := fun i e hi h0 => by
    rcases (hm i e hi).2 with ⟨h1, _⟩ | h1
    · exact absurd h1 h0
    · exact h1
  let ρ0 : Env := fun i => if h0 : i = 0 then some L0 else @dite _ (∃ e, get m0 i = some e) (Classical.propDecidable _) (fun hi => some (hm2 i hi.choose hi.choose_spec h0).choose_spec.2.choose) (fun _ => none)
  have hle : Env.le (fun _ => none) ρ0 := fun i L h => by cases h
  have hle0 : Env.le (fun i => if i = 0 then some L0 else none) ρ0 := fun i L h => by
    have h : (if i = 0 then some L0 else none) = some L := h
    split at h
    · rename_i h0
      show dite _ _ _ = _
      rw [dif_pos h0]; exact h
    · cases h
  have h00 : ρ0 0 = some L0 := dif_pos rfl
  have hρ : ∀ i e, get m0 i = some e → i ≠ 0 → ∃ g L, i = gid g ∧ ρ0 i = some L ∧ (L.blk = g ∧ L.base = 0) ∧ SatE (fun _ => none) e L W := fun i e hi h0 => by
    have hx : ∃ e, get m0 i = some e := ⟨e, hi⟩
    have he : hx.choose = e := Option.some.inj (hx.choose_spec.symm.trans hi)
    have hs := (hm2 i hx.choose hx.choose_spec h0).choose_spec.2.choose_spec
    have hg := (hm2 i hx.choose hx.choose_spec h0).choose_spec.1
    refine ⟨_, _, hg, (dif_neg h0).trans (dif_pos hx), hs.1, ?_⟩
    have h2 := hs.2
    generalize (hm2 i hx.choose hx.choose_spec h0).choose_spec.2.choose = L at h2
    rw [he] at h2
    exact h2
  have hno : ∀ i L, ρ0 i = some L → i ≠ 0 → ∃ e, get m0 i = some e := fun i L hi h0 => by
    by_cases hx : ∃ e, get m0 i = some e
    · exact hx
    · have : ρ0 i = none := (dif_neg h0).trans (dif_neg hx)
      rw [this] at hi; cases hi
  have hsat : ∀ i e, get m0 i = some e → ∃ L, ρ0 i = some L ∧ SatE ρ0 e L W := fun i e hi => by
    by_cases h0 : i = 0
    · subst h0
      rcases (hm 0 e hi).2 with ⟨_, h1⟩ | ⟨g, h1, _⟩
      · exact ⟨L0, h00, h1.mono hle⟩
      · exact absurd h1.symm (hg0 g)
    · obtain ⟨g', L', h1, h2, h3, h4⟩ := hρ i e hi h0
      exact ⟨L', h2, h4.mono hle⟩
  refine (h.2 ρ0 W vals (hv.mono fun a b hab => Rep.mono hle0 hab)
    ⟨fun g L h' => ?_, hsat, fun i j ei ej Li Lj hi hj hne hr => ?_, fun i e L' hi hr => ?_, fun _ _ _ => rfl, Nat.le_refl _, rfl, rfl, rfl⟩ (fun i hi => ?_)).mono fun e W' ⟨v, ρ', he, _, _, hr, hI⟩ => ?_
  · obtain ⟨e, he⟩ := hno _ _ h' (hg0 g)
    obtain ⟨g', L', h1, h2, h3, _⟩ := hρ _ e he (hg0 g)
    rw [h'] at h2; cases h2
    rw [hgi h1]; exact h3
  · rw [(hm i ei hi).1] at hr; cases hr
  · rw [(hm i e hi).1] at hr; cases hr
  · by_cases h0 : i = 0
    · left; omega
    · cases hL : ρ0 i with
      | none => exact absurd hL hi
      | some L =>
        obtain ⟨e, he⟩ := hno _ _ hL h0
        obtain ⟨g', L', h1, _⟩ := hρ _ e he h0
        right; rw [h1]; unfold gid; omega
  · have hr : v = .bool true := hr
    subst hr
    refine ⟨he, hI.os, hI.out, hI.size, fun b hb => hI.ext b hb (fun ⟨i, e, L', h1, h2, _⟩ => ?_)⟩
    rw [(hm i e h1).1] at h2; cases h2

/-- no bytes at all lie anywhere -/
theorem sat_none {e : Ent} {L : Loc} {W : World} (h : SatE (fun _ => none) e L W) : SatE (fun _ => none) ⟨.row .cell, .u8s [], false⟩ ⟨L.blk, 0, L.n, .row .cell⟩ W := by
  obtain ⟨q1, q2, q3, C, t, fr, pre, front, tail, q4, q5, q6, q7, q8, q9⟩ := h
  exact ⟨rfl, trivial, trivial, C, t, fr, [], [], C.toList, q4, by simp, rfl, q7, trivial, fun h => by cases h⟩
end Go.Proofs.YtodkhgofmgaafaaDoor.Av

namespace Go.Proofs.YtodkhgofmgaafaaDoor.Av
open Go Go.ChangeShapes Go.WideShapes
set_option linter.all false
set_option maxRecDepth 3000

/-! a law that reads some rows of bytes, and some of the package's variables -/
theorem calls_bool_n {P : Program} {f : Nat} {args : List D} {m0 : Mem} {np : Nat} (hnp : np ≤ 1000) (h : AC P f args np m0 ⟨.bool true, [], []⟩) {W : World} {vals : List Value} {loc : Nat → Loc} (hv : All2 (Rep (fun i => if i < np then some (loc i) else none)) args vals)
    (hm : ∀ i e, get m0 i = some e → e.rw = false ∧ ((i < np ∧ SatE (fun _ => none) e (loc i) W) ∨ ∃ g, i = gid g ∧ ∃ L : Loc, (L.blk = g ∧ L.base = 0) ∧ SatE (fun _ => none) e L W)) :
    Calls P f vals.toArray W fun e W' => e = .returned (.bool true) ∧ W'.os = W.os ∧ W'.output = W.output ∧ W.heap.size ≤ W'.heap.size ∧ ∀ b, b < W.heap.size → W'.heap[b]? = W.heap[b]? := by
  have hgi : ∀ {a b : Nat}, gid a = gid b → a = b := fun h => by unfold gid at h; omega
  have hg0 : ∀ g, ¬ gid g < np := fun g => by unfold gid; omega
  have hm2 : ∀ i e, get m0 i = some e → ¬ i < np → ∃ g, i = gid g ∧ ∃ L : Loc, (L.blk = g ∧ L.base = 0) ∧ SatE (fun _ => none) e L W := fun i e hi h0 => by
    rcases (hm i e hi).2 with ⟨h1, _⟩ | h1
    · exact absurd h1 h0
    · exact h1
  let ρ0 : Env := fun i => if h0 : i < np then some (loc i) else @dite _ (∃ e, get m0 i = some e) (Classical.propDecidable _) (fun hi => some (hm2 i hi.choose hi.choose_spec h0).choose_spec.2.choose) (fun _ => none)
  have hle : Env.le (fun _ => none) ρ0 := fun i L h => by cases h
  have hle0 : Env.le (fun i => if i < np then some (loc i) else none) ρ0 := fun i L h => by
    have h : (if i < np then some (loc i) else none) = some L := h
    split at h
    · rename_i h0
      show dite _ _ _ = _
      rw [dif_pos h0]; exact h
    · cases h
  have h00 : ∀ i, i < np → ρ0 i = some (loc i) := fun i h => dif_pos h
  have hρ : ∀ i e, get m0 i = some e → ¬ i < np → ∃ g L, i = gid g ∧ ρ0 i = some L ∧ (L.blk = g ∧ L.base = 0) ∧ SatE (fun _ => none) e L W := fun i e hi h0 => by
    have hx : ∃ e, get m0 i = some e := ⟨e, hi⟩
    have he : hx.choose = e := Option.some.inj (hx.choose_spec.symm.trans hi)
    have hs := (hm2 i hx.choose hx.choose_spec h0).choose_spec.2.choose_spec
    have hg := (hm2 i hx.choose hx.choose_spec h0).choose_spec.1
    refine ⟨_, _, hg, (dif_neg h0).trans (dif_pos hx), hs.1, ?_⟩
    have h2 := hs.2
    generalize (hm2 i hx.choose hx.choose_spec h0).choose_spec.2.choose = L at h2
    rw [he] at h2
    exact h2
  have hno : ∀ i L, ρ0 i = some L → ¬ i < np → ∃ e, get m0 i = some e := fun i L hi h0 => by
    by_cases hx : ∃ e, get m0 i = some e
    · exact hx
    · have : ρ0 i = none := (dif_neg h0).trans (dif_neg hx)
      rw [this] at hi; cases hi
  have hsat : ∀ i e, get m0 i = some e → ∃ L, ρ0 i = some L ∧ SatE ρ0 e L W := fun i e hi => by
    by_cases h0 : i < np
    · rcases (hm i e hi).2 with ⟨_, h1⟩ | ⟨g, h1, _⟩
      · exact ⟨loc i, h00 i h0, h1.mono hle⟩
      · exact absurd (h1 ▸ h0) (hg0 g)
    · obtain ⟨g', L', h1, h2, h3, h4⟩ := hρ i e hi h0
      exact ⟨L', h2, h4.mono hle⟩
  refine (h.2 ρ0 W vals (hv.mono fun a b hab => Rep.mono hle0 hab)
    ⟨fun g L h' => ?_, hsat, fun i j ei ej Li Lj hi hj hne hr => ?_, fun i e L' hi hr => ?_, fun _ _ _ => rfl, Nat.le_refl _, rfl, rfl, rfl⟩ (fun i hi => ?_)).mono fun e W' ⟨v, ρ', he, _, _, hr, hI⟩ => ?_
  · obtain ⟨e, he⟩ := hno _ _ h' (hg0 g)
    obtain ⟨g', L', h1, h2, h3, _⟩ := hρ _ e he (hg0 g)
    rw [h'] at h2; cases h2
    rw [hgi h1]; exact h3
  · rw [(hm i ei hi).1] at hr; cases hr
  · rw [(hm i e hi).1] at hr; cases hr
  · by_cases h0 : i < np
    · exact .inl h0
    · cases hL : ρ0 i with
      | none => exact absurd hL hi
      | some L =>
        obtain ⟨e, he⟩ := hno _ _ hL h0
        obtain ⟨g', L', h1, _⟩ := hρ _ e he h0
        right; rw [h1]; unfold gid; omega
  · have hr : v = .bool true := hr
    subst hr
    refine ⟨he, hI.os, hI.out, hI.size, fun b hb => hI.ext b hb (fun ⟨i, e, L', h1, h2, _⟩ => ?_)⟩
    rw [(hm i e h1).1] at h2; cases h2


section
variable {H : Type} {enc : TypeId × Value → H} {P : Program}
/-- a slice of bytes, nil or not: its bytes, and where they lie -/
theorem open_slD {t e : TypeId} (ht : P.underlying t = some (.slice e)) (he : P.underlying e = some (.int .u8)) (hc : P.cellsOf e = 1) {r : Reach} {b0 : Nat} {W : World} {v : Value} {d : DataW H} {ps : List MemPlace} {L9 : Loc}
    (h9 : SatE (fun _ => none) ⟨.row .cell, .u8s [], false⟩ L9 W) (hval : Value.okWide P W r b0 t v) (hd : DataW.Trod enc P W 0 (fun _ => true) true t v d ps) :
    ∃ (l : List (BitVec 8)) (L : Loc) (x : Option Nat), (x = none → l.length = 0) ∧ SatE (fun _ => none) ⟨.row .cell, .u8s l, false⟩ L W ∧ (∀ (ρ : Env) (i : Nat), ρ i = some L → Rep ρ (slD i l.length x) v) ∧
      (∀ (W' : World) (sp : Nat → Bool), (∀ b, b < W.heap.size → W'.heap[b]? = W.heap[b]?) → (∀ p ∈ ps, sp p.block = true) → DataW.Trod enc P W' 0 sp true t v d ps) := by
  rcases open_slice ht he hc hval hd with ⟨rfl, rfl, hst⟩ | ⟨l, L, cap, hcap, hcap2, hsat, hrep, hst, es, sp0, hd2, hes⟩
  · exact ⟨[], L9, none, fun _ => rfl, h9, fun ρ i _ => rfl, fun W' sp _ _ => hst W' sp⟩
  · exact ⟨l, L, some cap, fun h => (nomatch h), hsat, hrep, hst⟩
/-- .. and how many it may be -/
theorem open_slD2 {t e : TypeId} (ht : P.underlying t = some (.slice e)) (he : P.underlying e = some (.int .u8)) (hc : P.cellsOf e = 1) {r : Reach} {b0 : Nat} {W : World} {v : Value} {d : DataW H} {ps : List MemPlace} {L9 : Loc}
    (h9 : SatE (fun _ => none) ⟨.row .cell, .u8s [], false⟩ L9 W) (hval : Value.okWide P W r b0 t v) (hd : DataW.Trod enc P W 0 (fun _ => true) true t v d ps) :
    ∃ (l : List (BitVec 8)) (L : Loc) (x : Option Nat), (x = none → l.length = 0) ∧ SatE (fun _ => none) ⟨.row .cell, .u8s l, false⟩ L W ∧ (∀ (ρ : Env) (i : Nat), ρ i = some L → Rep ρ (slD i l.length x) v) ∧
      (∀ (W' : World) (sp : Nat → Bool), (∀ b, b < W.heap.size → W'.heap[b]? = W.heap[b]?) → (∀ p ∈ ps, sp p.block = true) → DataW.Trod enc P W' 0 sp true t v d ps) ∧ (l.length = 0 ∨ ∃ es sp, d = .slice es sp ∧ es.length = l.length) := by
  rcases open_slice ht he hc hval hd with ⟨rfl, rfl, hst⟩ | ⟨l, L, cap, hcap, hcap2, hsat, hrep, hst, hes⟩
  · exact ⟨[], L9, none, fun _ => rfl, h9, fun ρ i _ => rfl, fun W' sp _ _ => hst W' sp, .inl rfl⟩
  · exact ⟨l, L, some cap, fun h => (nomatch h), hsat, hrep, hst, .inr hes⟩
end
end Go.Proofs.YtodkhgofmgaafaaDoor.Av
