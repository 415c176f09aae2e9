import Derived.Test.YtdnfagiajenfjaaAv19
import Derived.ProofKit
namespace Go.Proofs.Ytdnfagiajenfjaa.Av
open Go Go.ChangeShapes Go.WideShapes
set_option linter.all false

/-! from a contract to a row of a law over plain data -/

theorem calls_bool {P : Program} {f : Nat} {args : List D} (h : AC P f args 0 [] ⟨.bool true, [], []⟩) {W : World} {vals : List Value} (hv : All2 (Rep (fun _ => none)) args vals) :
    Calls P f vals.toArray W fun e W' => e = .returned (.bool true) ∧ W'.os = W.os ∧ W'.output = W.output ∧ W.heap.size ≤ W'.heap.size ∧ ∀ b, b < W.heap.size → W'.heap[b]? = W.heap[b]? := by
  refine (h.2 (fun _ => none) W vals hv ⟨(fun _ _ h => nomatch h), (fun i e h => nomatch h), (fun i j ei ej Li Lj h => nomatch h), (fun i e L h => nomatch h), fun _ _ _ => rfl, Nat.le_refl _, rfl, rfl, rfl⟩ (fun i h => absurd rfl h)).mono fun e W' ⟨v, ρ', he, _, _, hr, hI⟩ => ?_
  have hr : v = .bool true := hr
  subst hr
  exact ⟨he, hI.os, hI.out, hI.size, fun b hb => hI.ext b hb (fun ⟨i, e, L, h, _⟩ => nomatch h)⟩

theorem rep_u8 {ρ : Env} {n : Int} (h : (Lit.int .u8 n).wf = true) : Rep ρ (.u8 (BitVec.ofNat 8 n.toNat)) (.int .u8 n) := by
  simp only [Lit.wf, Bool.and_eq_true, decide_eq_true_eq] at h
  have h1 : (0 : Int) ≤ n := h.1
  have h2 : n < 256 := by
    have := h.2
    have e : IntKind.u8.max = 255 := by decide
    omega
  show Value.int _ _ = .int _ _
  congr 1
  simp; omega

theorem kept_of_same {W W' : World} (ho : W'.os = W.os) (hp : W'.output = W.output) (hs : ∀ b, b < W.heap.size → W'.heap[b]? = W.heap[b]?) (may : MemPlace → Prop) : W.keptBut W' may := by
  refine ⟨ho, hp, fun i hi => ?_⟩
  rw [hs i hi]
  split
  · rename_i h1 h2
    rw [h1] at h2; cases h2
    exact ⟨rfl, rfl, rfl, fun _ _ => rfl⟩
  · rename_i h1 h2
    rw [h1] at h2; cases h2
    exact .inr ⟨rfl, rfl⟩
  · rfl

section
variable {H : Type} {enc : TypeId × Value → H} {P : Program}
theorem post_flat {f : Func} {s : ChangeSpec} {apart fresh handsOn : Bool} {W W' : World} {args : Array Value} {v : Value} {ds gs : List (DataW H)}
    (hW : DataW.Whole enc P f.params.toList s.vars apart W args.toList ds gs [])
    (hres : ∀ (b : Nat) (sp : Nat → Bool) (hd : Bool), DataW.TrodAll enc P W' b sp hd f.resultTypes.toList (v.resultList f.resultTypes.size) (s.fn H (ds ++ gs)).results [])
    (hargs : ∀ sp : Nat → Bool, DataW.TrodAll enc P W' 0 sp true f.params.toList args.toList (s.fn H (ds ++ gs)).args [])
    (hvars : ∀ sp : Nat → Bool, DataW.TrodVars enc P W' sp s.vars (s.fn H (ds ++ gs)).vars [])
    (hk : W.keptBut W' (fun _ => False)) : s.post enc P f apart fresh handsOn false W args v W' :=
  ⟨ds, gs, [], [], [], [], hW, hres _ _ _, hargs _, hvars _, World.keptBut_mono (fun _ h => h.elim) hk, (fun h => nomatch h)⟩
end
end Go.Proofs.Ytdnfagiajenfjaa.Av
