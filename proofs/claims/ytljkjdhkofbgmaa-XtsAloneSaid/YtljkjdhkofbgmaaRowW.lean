import Derived.Test.YtljkjdhkofbgmaaRowS
namespace Go.Proofs.Ytljkjdhkofbgmaa.Av
open Go Go.Proofs Go.ChangeShapes Go.WideShapes Go.ChangeAt Go.RowKit
set_option linter.all false

theorem okWide_bytes {P : Program} {w : World} {base n : Nat} {t e : TypeId} (hu : P.underlying t = some (.array n e)) (hc : P.cellsOf t = n) (ht : P.cellTypes P.depth t = some (List.replicate n e)) (hn : 0 < n)
    (he : Cell.okWideB P w e (.int .u8 0) = true) : Value.okWide P w .any base t (.agg (List.replicate n (.int .u8 0)).toArray) := by
  simp only [Value.okWide, hu]
  refine ⟨_, rfl, by simp [hc], ?_⟩
  refine ⟨_, ht, ⟨1, by simp⟩, fun i v hv => ?_⟩
  have hi : i < n := by
    have := (Array.getElem?_eq_some_iff.1 hv).1
    simpa using this
  have ev : v = .int .u8 0 := by
    simp [List.getElem?_replicate, hi] at hv
    exact hv.symm
  subst ev
  exact ⟨e, by simp [List.getElem?_replicate, Nat.mod_lt _ hn], Cell.okWide_of_okWideB he⟩

theorem witness7 {H : Type} {enc : TypeId × Value → H} {C : Checked} {os : Os} {f : FuncId} {fn : Func} {s : ChangeSpec} {conds : List PathCond} {apart : Bool} (modest : Bool) (i : Input) (fuel : Nat)
    (hv : (World.plainHolding C.prog os i).variablesB C.prog = true)
    (hr : ((World.plainHolding C.prog os i).heap.toList.drop C.prog.globals.size).take ((begin C.prog (fun _ _ => 0) default).world.heap.size - C.prog.globals.size) =
      (begin C.prog (fun _ _ => 0) default).world.heap.toList.drop C.prog.globals.size)
    (hi : (C.prog.inits.idxOf? f) = none) (hfn : C.prog.funcs[f]? = some fn) (h1 : fn.body.isSome = true) (h2 : fn.ours = false) (h3 : fn.nfree = 0) (h4 : i.args.size = fn.params.size)
    (hok : ∀ (w : World) (base j : Nat) t v, fn.params[j]? = some t → i.args[j]? = some v → Value.okWide C.prog w .any base t v)
    (hpre : s.preB enc C.prog fn conds apart (World.plainHolding C.prog os i).memory i.args fuel = true)
    (hsz : s.sizedB enc C.prog fn apart (World.plainHolding C.prog os i).memory i.args fuel = true) :
    ∃ (w : World) (tape : Tape) (i : Input), w.os = os ∧ (w.forCall tape i).Shaped C.prog ∧ i.vars = [] ∧ Input.okWide C.prog (w.forCall tape i) .any w.heap.size f i ∧
      s.pre6 enc C.prog fn conds apart (w.forCall tape i).memory i.args ∧ ({ modest := modest } : Assume).holds C.prog (lone (Frame.enter C.prog f i.args .normal) [] (w.forCall tape i)) :=
  ⟨World.holding C.prog os i, fun _ _ => 0, ⟨#[], i.args, []⟩, rfl, World.shaped_of_B hv hr, rfl, ⟨by simp, by simp, hi, fn, hfn, h1, h2, h3, h4, hok _ _⟩, ⟨ChangeSpec.pre_of_preB hpre, sizedMet_of_sizedB hsz⟩, by
    simp only [Assume.holds]
    exact ⟨by simp, by simp, fun _ => Modest.zero, by simp, by simp⟩⟩
end Go.Proofs.Ytljkjdhkofbgmaa.Av
