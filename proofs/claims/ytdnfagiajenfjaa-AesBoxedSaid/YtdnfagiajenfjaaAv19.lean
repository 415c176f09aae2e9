import Derived.Test.YtdnfagiajenfjaaAv18
namespace Go.Proofs.Ytdnfagiajenfjaa.Av
open Go
set_option linter.all false

/-! aids of a walk: a call whose outcome is given by hand; rows of byte rows -/

theorem callR {P : Program} {f : Nat} {args : List D} {m : Mem} {nx : Nat} {R : D → Mem → Nat → List Nat → Prop} {np : Nat} {m0 : Mem} {args0 : List D} {o : Out} (hac : AC P f args0 np m0 o) (σ : List Nat) (r : D) (up : Mem)
    (hl : (match Nat.ble (nx + o.nw.length) 999999 with | true => Nat.ble (np + o.nw.length) 999999 | false => false) = true) (hargs : args = D.rens (sig np nx o.nw.length σ) args0)
    (hm : MatchM (sig np nx o.nw.length σ) m m0) (hn : namesB np (sig np nx o.nw.length σ) m0 m0 = true) (hw : wrB m0 o.wr = true)
    (hr : o.ret.ren (sig np nx o.nw.length σ) = r) (hu : upM (sig np nx o.nw.length σ) nx m0 o = up)
    (hR : R r up o.nw.length (footM (sig np nx o.nw.length σ) m0)) : CallG P f args m nx R :=
  callG hac σ hl hargs hm hn hw (by rw [hr, hu]; exact hR)

theorem rens_u8s (s : Nat → Nat) : ∀ (l : List (List (BitVec 8))), D.rens s (l.map D.u8s) = l.map D.u8s
  | [] => rfl
  | a :: r => congrArg (D.u8s a :: ·) (rens_u8s s r)

theorem nth_u8s : ∀ {l : List (List (BitVec 8))} {i : Nat}, i < l.length → nth (l.map D.u8s) i = some (.u8s (l.getD i []))
  | a :: r, 0, _ => rfl
  | a :: r, i + 1, h => by
    have := nth_u8s (l := r) (i := i) (by simpa using h)
    simpa [nth, List.getD] using this

theorem nthD_u8s {l : List (List (BitVec 8))} {i : Nat} (h : i < l.length) : nthD (l.map D.u8s) i = .u8s (l.getD i []) := by
  unfold nthD
  rw [nth_u8s h]

theorem getD_mem {α : Type} {l : List α} {i : Nat} {d : α} (h : i < l.length) : l.getD i d ∈ l := by
  rw [List.getD_eq_getElem?_getD, List.getElem?_eq_getElem h]
  exact List.getElem_mem h
end Go.Proofs.Ytdnfagiajenfjaa.Av
