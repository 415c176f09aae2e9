import Derived.Test.YtljkjdhkofbgmaaDoorAv18
namespace Go.Proofs.YtljkjdhkofbgmaaDoor.Av
open Go
set_option linter.all false
set_option maxRecDepth 3000

/-! aids of a walk: a call whose outcome is given by hand; rows of byte rows -/

theorem callR {P : Program} {f : Nat} {args : List D} {m : Mem} {nx : Nat} {R : D → Mem → Nat → List Nat → Prop} {np : Nat} {m0 : Mem} {args0 : List D} {o : Out} (hac : AC P f args0 np m0 o) (σ : List Nat) (r : D) (up : Mem)
    (hl : (match Nat.ble (nx + o.nw.length) 999999 with | true => Nat.ble (np + o.nw.length) 999999 | false => false) = true) (hargs : args = D.rens (sig np nx o.nw.length σ) args0)
    (hm : MatchM (sig np nx o.nw.length σ) m m0) (hn : namesB np (sig np nx o.nw.length σ) m0 m0 = true) (hw : wrB m0 o.wr = true)
    (hr : o.ret.ren (sig np nx o.nw.length σ) = r) (hu : upM (sig np nx o.nw.length σ) nx m0 o = up)
    (hR : R r up o.nw.length (footM (sig np nx o.nw.length σ) m0)) : CallG P f args m nx R :=
  callG hac σ hl hargs hm hn hw (by rw [hr, hu]; exact hR)

/-- a load through a path, the value given by hand -/
theorem loadG {Γ : Tab} {t : Nat} {x : Operand} {tm : TM} {m : Mem} {nx : Nat} {foot : List Nat} {R : D → Mem → Nat → List Nat → Prop} {b : Nat} {p : Path} {e : Ent} {i : TI} {T : Ty} (v : D)
    (hx : opd tm (get m) x = some (.ptr b p)) (hb : restr (get m) foot b = some e) (hi : ti Γ t = some i) (hT : tyAt e.ty p = some T) (hq : T.beq i.ty = true)
    (hg : getP e.d p = some v) (ob : okP e.d p) (hR : R v [] 0 foot) : EffG Γ (.load t x) tm m nx 0 foot R := by
  refine ⟨?_⟩
  unfold effP
  have : opE Γ nx (restr (get m) foot) (opd tm (get m)) 0 (.load t x) = some ⟨okP e.d p, v, [], 0⟩ := by
    simp only [opE, hx, loadE, hb, hi, hT, hq, hg]
  rw [this]
  exact ⟨ob, hR⟩

/-- a store through a path, the block behind it given by hand -/
theorem storeG {Γ : Tab} {t : Nat} {x z : Operand} {tm : TM} {m : Mem} {nx : Nat} {foot : List Nat} {R : D → Mem → Nat → List Nat → Prop} {b : Nat} {p : Path} {e : Ent} {i : TI} {T : Ty} {v0 y : D} (d' : D)
    (hx : opd tm (get m) x = some (.ptr b p)) (hz : opd tm (get m) z = some y) (hb : restr (get m) foot b = some e) (hi : ti Γ t = some i) (hT : tyAt e.ty p = some T) (hq : T.beq i.ty = true)
    (hrw : e.rw = true) (hg : getP e.d p = some v0) (hs : setP e.d p y = some d') (ob : okP e.d p) (hty : hasTy i.ty y)
    (hR : R .undef [(b, some ⟨e.ty, d', true⟩)] 0 foot) : EffG Γ (.store t x z) tm m nx 0 foot R := by
  refine ⟨?_⟩
  unfold effP
  have : opE Γ nx (restr (get m) foot) (opd tm (get m)) 0 (.store t x z) = some ⟨okP e.d p ∧ hasTy i.ty y, .undef, [(b, some ⟨e.ty, d', true⟩)], 0⟩ := by
    simp only [opE, hx, hz, storeE, hb, hi, hT, hq, hrw, hg, hs]
  rw [this]
  exact ⟨⟨ob, hty⟩, hR⟩

theorem getD_set {α : Type} {l : List α} {i j : Nat} {v d : α} (h : j < l.length) : (l.set j v).getD i d = if i = j then v else l.getD i d := by
  simp only [List.getD_eq_getElem?_getD, List.getElem?_set]
  by_cases hij : j = i
  · subst hij; simp [h]
  · rw [if_neg hij, if_neg (fun h => hij h.symm)]

theorem getD_drop {α : Type} {l : List α} {n i : Nat} {d : α} : (l.drop n).getD i d = l.getD (n + i) d := by
  simp only [List.getD_eq_getElem?_getD, List.getElem?_drop]

theorem getD_take {α : Type} {l : List α} {n i : Nat} {d : α} (h : i < n) : (l.take n).getD i d = l.getD i d := by
  simp only [List.getD_eq_getElem?_getD, List.getElem?_take, h, if_true]

theorem getD_append_left {α : Type} {l r : List α} {i : Nat} {d : α} (h : i < l.length) : (l ++ r).getD i d = l.getD i d := by
  simp only [List.getD_eq_getElem?_getD, List.getElem?_append_left h]

theorem rens_u8s (s : Nat → Nat) : ∀ (l : List (List (BitVec 8))), D.rens s (l.map D.u8s) = l.map D.u8s
  | [] => rfl
  | a :: r => congrArg (D.u8s a :: ·) (rens_u8s s r)

theorem nth_u8s : ∀ {l : List (List (BitVec 8))} {i : Nat}, i < l.length → nth (l.map D.u8s) i = some (.u8s (l.getD i []))
  | a :: r, 0, _ => rfl
  | a :: r, i + 1, h => by
    have := nth_u8s (l := r) (i := i) (by simpa using h)
    simpa [nth, List.getD] using this

theorem nthD_u8s {l : List (List (BitVec 8))} {i : Nat} (h : i < l.length) : nthD (l.map D.u8s) i = .u8s (l.getD i []) := by
  unfold nthD
  rw [nth_u8s h]

theorem getD_mem {α : Type} {l : List α} {i : Nat} {d : α} (h : i < l.length) : l.getD i d ∈ l := by
  rw [List.getD_eq_getElem?_getD, List.getElem?_eq_getElem h]
  exact List.getElem_mem h

theorem byte_nat {p : BitVec 8 → Prop} (h : ∀ n, n < 256 → p (BitVec.ofNat 8 n)) (b : BitVec 8) : p b := by
  have h := h b.toNat b.isLt
  rwa [BitVec.ofNat_toNat, BitVec.setWidth_eq] at h

/-! rows of rows of bytes -/
def Rows (n m : Nat) (ws : List (List (BitVec 8))) : Prop := ws.length = n ∧ ∀ r ∈ ws, r.length = m
theorem Rows.set {n m : Nat} {ws : List (List (BitVec 8))} (h : Rows n m ws) (i : Nat) {r : List (BitVec 8)} (hr : r.length = m) : Rows n m (ws.set i r) :=
  ⟨by rw [List.length_set, h.1], fun x hx => by
    rcases List.mem_or_eq_of_mem_set hx with hx | hx
    · exact h.2 x hx
    · rw [hx, hr]⟩
theorem Rows.get {n m : Nat} {ws : List (List (BitVec 8))} (h : Rows n m ws) {i : Nat} (hi : i < n) : (ws.getD i []).length = m := h.2 _ (getD_mem (by rw [h.1]; exact hi))
theorem Rows.rep (n m : Nat) : Rows n m (List.replicate n (List.replicate m 0)) :=
  ⟨List.length_replicate, fun r hr => by rw [(List.mem_replicate.1 hr).2, List.length_replicate]⟩
theorem Rows.ty {n m : Nat} {ws : List (List (BitVec 8))} (h : Rows n m ws) : hasTy (.arr n (.arr m .cell)) (.node (ws.map .u8s)) := by
  refine ⟨by rw [List.length_map, h.1], AllD_mem.2 fun d hd => ?_⟩
  obtain ⟨k, hk, rfl⟩ := List.mem_map.1 hd
  exact h.2 k hk

theorem getP_row {ws : List (List (BitVec 8))} {i : Nat} (k : Nat) (hi : i < ws.length) : getP (.node (ws.map .u8s)) [.idx i, .idx k] = some (.u8 ((ws.getD i []).getD k 0)) := by
  show getP (nthD (ws.map .u8s) i) [.idx k] = _
  rw [nthD_u8s hi]; rfl
theorem okP_row {ws : List (List (BitVec 8))} {i k : Nat} (hi : i < ws.length) (hk : k < (ws.getD i []).length) : okP (.node (ws.map .u8s)) [.idx i, .idx k] := by
  refine ⟨by rw [List.length_map]; exact hi, ?_⟩
  show okP (nthD (ws.map .u8s) i) [.idx k]
  rw [nthD_u8s hi]
  exact ⟨hk, trivial⟩
theorem setP_row {ws : List (List (BitVec 8))} {i : Nat} (k : Nat) (v : BitVec 8) (hi : i < ws.length) : setP (.node (ws.map .u8s)) [.idx i, .idx k] (.u8 v) = some (.node ((ws.set i ((ws.getD i []).set k v)).map .u8s)) := by
  have e : setP (nthD (ws.map .u8s) i) [.idx k] (.u8 v) = some (.u8s ((ws.getD i []).set k v)) := by rw [nthD_u8s hi]; rfl
  simp only [setP, e]
  rw [List.map_set]
theorem ren_rows (s : Nat → Nat) (ws : List (List (BitVec 8))) : (D.node (ws.map .u8s)).ren s = .node (ws.map .u8s) := congrArg D.node (rens_u8s s ws)
theorem rows_map_set {ws : List (List (BitVec 8))} {i : Nat} {r : List (BitVec 8)} : (ws.map D.u8s).set i (.u8s r) = (ws.set i r).map D.u8s := List.map_set.symm
end Go.Proofs.YtljkjdhkofbgmaaDoor.Av
