import Derived.Test.YtljkjdhkofbgmaaDoorRowS
namespace Go.Proofs.YtljkjdhkofbgmaaDoor.Av
open Go Go.Proofs Go.ChangeShapes Go.WideShapes Go.ChangeAt Go.RowKit
set_option linter.all false
set_option maxRecDepth 3000

theorem okWide_bytes {P : Program} {w : World} {base n : Nat} {t e : TypeId} (hu : P.underlying t = some (.array n e)) (hc : P.cellsOf t = n) (ht : P.cellTypes P.depth t = some (List.replicate n e)) (hn : 0 < n)
    (he : Cell.okWideB P w e (.int .u8 0) = true) : Value.okWide P w .any base t (.agg (List.replicate n (.int .u8 0)).toArray) := by
  simp only [Value.okWide, hu]
  refine ⟨_, rfl, by simp [hc], ?_⟩
  refine ⟨_, ht, ⟨1, by simp⟩, fun i v hv => ?_⟩
  have hi : i < n := by
    have := (Array.getElem?_eq_some_iff.1 hv).1
    simpa using this
  have ev : v = .int .u8 0 := by
    simp [List.getElem?_replicate, hi] at hv
    exact hv.symm
  subst ev
  exact ⟨e, by simp [List.getElem?_replicate, Nat.mod_lt _ hn], Cell.okWide_of_okWideB he⟩

theorem witness7 {H : Type} {enc : TypeId × Value → H} {C : Checked} {os : Os} {f : FuncId} {fn : Func} {s : ChangeSpec} {conds : List PathCond} {apart : Bool} (modest : Bool) (i : Input) (fuel : Nat)
    (hv : (World.plainHolding C.prog os i).variablesB C.prog = true)
    (hr : ((World.plainHolding C.prog os i).heap.toList.drop C.prog.globals.size).take ((begin C.prog (fun _ _ => 0) default).world.heap.size - C.prog.globals.size) =
      (begin C.prog (fun _ _ => 0) default).world.heap.toList.drop C.prog.globals.size)
    (hi : (C.prog.inits.idxOf? f) = none) (hfn : C.prog.funcs[f]? = some fn) (h1 : fn.body.isSome = true) (h2 : fn.ours = false) (h3 : fn.nfree = 0) (h4 : i.args.size = fn.params.size)
    (hok : ∀ (w : World) (base j : Nat) t v, fn.params[j]? = some t → i.args[j]? = some v → Value.okWide C.prog w .any base t v)
    (hpre : s.preB enc C.prog fn conds apart (World.plainHolding C.prog os i).memory i.args fuel = true)
    (hsz : s.sizedB enc C.prog fn apart (World.plainHolding C.prog os i).memory i.args fuel = true) :
    ∃ (w : World) (tape : Tape) (i : Input), w.os = os ∧ (w.forCall tape i).Shaped C.prog ∧ i.vars = [] ∧ Input.okWide C.prog (w.forCall tape i) .any w.heap.size f i ∧
      s.pre6 enc C.prog fn conds apart (w.forCall tape i).memory i.args ∧ ({ modest := modest } : Assume).holds C.prog (lone (Frame.enter C.prog f i.args .normal) [] (w.forCall tape i)) :=
  ⟨World.holding C.prog os i, fun _ _ => 0, ⟨#[], i.args, []⟩, rfl, World.shaped_of_B hv hr, rfl, ⟨by simp, by simp, hi, fn, hfn, h1, h2, h3, h4, hok _ _⟩, ⟨ChangeSpec.pre_of_preB hpre, sizedMet_of_sizedB hsz⟩, by
    simp only [Assume.holds]
    exact ⟨by simp, by simp, fun _ => Modest.zero, by simp, by simp⟩⟩

/-- a slice that is only read, and one of the package's variables -/
theorem calls_bool_sg {P : Program} {f : Nat} {args : List D} (g : Nat) {T T' : Ty} {d d' : D} (h : AC P f args 1 [(0, some ⟨T, d, false⟩), (gid g, some ⟨T', d', false⟩)] ⟨.bool true, [], []⟩) {W : World} {vals : List Value} {L L' : Loc}
    (hv : All2 (Rep (fun i => if i = 0 then some L else none)) args vals) (hs : SatE (fun _ => none) ⟨T, d, false⟩ L W) (hL : L'.blk = g ∧ L'.base = 0) (hs' : SatE (fun _ => none) ⟨T', d', false⟩ L' W) :
    Calls P f vals.toArray W fun e W' => e = .returned (.bool true) ∧ W'.os = W.os ∧ W'.output = W.output ∧ W.heap.size ≤ W'.heap.size ∧ ∀ b, b < W.heap.size → W'.heap[b]? = W.heap[b]? := by
  let ρ0 : Env := fun i => if i = 0 then some L else if i = gid g then some L' else none
  have hle : Env.le (fun _ => none) ρ0 := fun i L h => by cases h
  have hle0 : Env.le (fun i => if i = 0 then some L else none) ρ0 := fun i L1 h => by
    show (if i = 0 then some L else if i = gid g then some L' else none) = some L1
    have h : (if i = 0 then some L else none) = some L1 := h
    split at h
    · rename_i e1; rw [if_pos e1]; exact h
    · cases h
  have hget : ∀ i e, get [(0, some ⟨T, d, false⟩), (gid g, some ⟨T', d', false⟩)] i = some e → (i = 0 ∧ e = ⟨T, d, false⟩) ∨ (i = gid g ∧ e = ⟨T', d', false⟩) := fun i e h => by
    rw [get_cons] at h
    split at h
    · rename_i e1; cases h; exact .inl ⟨e1.symm, rfl⟩
    · rw [get_cons] at h
      split at h
      · rename_i e1; cases h; exact .inr ⟨e1.symm, rfl⟩
      · cases h
  have hrw : ∀ i e, get [(0, some ⟨T, d, false⟩), (gid g, some ⟨T', d', false⟩)] i = some e → e.rw = false := fun i e h => by
    rcases hget i e h with ⟨_, rfl⟩ | ⟨_, rfl⟩ <;> rfl
  refine (h.2 ρ0 W vals (hv.mono fun a b hab => Rep.mono hle0 hab)
    ⟨fun g' L1 h' => ?_, fun i e hi => ?_, fun i j ei ej Li Lj hi hj hne hr => ?_, fun i e L1 hi hr => ?_, fun _ _ _ => rfl, Nat.le_refl _, rfl, rfl, rfl⟩ (fun i hi => ?_)).mono fun e W' ⟨v, ρ', he, _, _, hr, hI⟩ => ?_
  · have h' : (if gid g' = 0 then some L else if gid g' = gid g then some L' else none) = some L1 := h'
    rw [if_neg (by unfold gid; omega)] at h'
    split at h'
    · rename_i e1
      cases h'
      have : g' = g := by unfold gid at e1; omega
      rw [this]; exact hL
    · cases h'
  · rcases hget i e hi with ⟨rfl, rfl⟩ | ⟨rfl, rfl⟩
    · exact ⟨L, if_pos rfl, hs.mono hle⟩
    · refine ⟨L', ?_, hs'.mono hle⟩
      show (if gid g = 0 then some L else if gid g = gid g then some L' else none) = some L'
      rw [if_neg (by unfold gid; omega), if_pos rfl]
  · rw [hrw i ei hi] at hr; cases hr
  · rw [hrw i e hi] at hr; cases hr
  · have hi : (if i = 0 then some L else if i = gid g then some L' else none) ≠ none := hi
    split at hi
    · rename_i e1
      left; omega
    · split at hi
      · rename_i e1
        right; rw [e1]; unfold gid; omega
      · exact absurd rfl hi
  · have hr : v = .bool true := hr
    subst hr
    refine ⟨he, hI.os, hI.out, hI.size, fun b hb => hI.ext b hb (fun ⟨i, e, L1, h1, h2, _⟩ => ?_)⟩
    rw [hrw i e h1] at h2; cases h2
end Go.Proofs.YtljkjdhkofbgmaaDoor.Av
