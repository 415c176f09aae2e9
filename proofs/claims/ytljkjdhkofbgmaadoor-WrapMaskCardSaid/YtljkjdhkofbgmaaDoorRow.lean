import Derived.Test.YtljkjdhkofbgmaaDoorAv19
import Derived.ProofKit
import Derived.OpenShut
import Derived.Lib.LaidU8
import Derived.Lay
import Derived.MakeChecks
namespace Go.Proofs.YtljkjdhkofbgmaaDoor.Av
open Go Go.ChangeShapes Go.WideShapes
set_option linter.all false
set_option maxRecDepth 3000

/-! from a contract to a row of a law over plain data -/

theorem calls_bool {P : Program} {f : Nat} {args : List D} (h : AC P f args 0 [] ⟨.bool true, [], []⟩) {W : World} {vals : List Value} (hv : All2 (Rep (fun _ => none)) args vals) :
    Calls P f vals.toArray W fun e W' => e = .returned (.bool true) ∧ W'.os = W.os ∧ W'.output = W.output ∧ W.heap.size ≤ W'.heap.size ∧ ∀ b, b < W.heap.size → W'.heap[b]? = W.heap[b]? := by
  refine (h.2 (fun _ => none) W vals hv ⟨(fun _ _ h => nomatch h), (fun i e h => nomatch h), (fun i j ei ej Li Lj h => nomatch h), (fun i e L h => nomatch h), fun _ _ _ => rfl, Nat.le_refl _, rfl, rfl, rfl⟩ (fun i h => absurd rfl h)).mono fun e W' ⟨v, ρ', he, _, _, hr, hI⟩ => ?_
  have hr : v = .bool true := hr
  subst hr
  exact ⟨he, hI.os, hI.out, hI.size, fun b hb => hI.ext b hb (fun ⟨i, e, L, h, _⟩ => nomatch h)⟩

/-- the same, where the code reads one of the package's variables -/
theorem calls_bool_g {P : Program} {f : Nat} {args : List D} (g : Nat) {T : Ty} {d : D} (h : AC P f args 0 [(gid g, some ⟨T, d, false⟩)] ⟨.bool true, [], []⟩) {W : World} {vals : List Value} (hv : All2 (Rep (fun _ => none)) args vals)
    {L : Loc} (hL : L.blk = g ∧ L.base = 0) (hs : SatE (fun _ => none) ⟨T, d, false⟩ L W) :
    Calls P f vals.toArray W fun e W' => e = .returned (.bool true) ∧ W'.os = W.os ∧ W'.output = W.output ∧ W.heap.size ≤ W'.heap.size ∧ ∀ b, b < W.heap.size → W'.heap[b]? = W.heap[b]? := by
  let ρ0 : Env := fun i => if i = gid g then some L else none
  have hle : Env.le (fun _ => none) ρ0 := fun i L h => by cases h
  have hget : ∀ i e, get [(gid g, some ⟨T, d, false⟩)] i = some e → i = gid g ∧ e = ⟨T, d, false⟩ := fun i e h => by
    rw [get_cons] at h
    split at h
    · rename_i e1; cases h; exact ⟨e1.symm, rfl⟩
    · cases h
  refine (h.2 ρ0 W vals (hv.mono fun a b hab => Rep.mono hle hab)
    ⟨fun g' L' h' => ?_, fun i e hi => ?_, fun i j ei ej Li Lj hi hj hne hr => ?_, fun i e L' hi hr => ?_, fun _ _ _ => rfl, Nat.le_refl _, rfl, rfl, rfl⟩ (fun i hi => ?_)).mono fun e W' ⟨v, ρ', he, _, _, hr, hI⟩ => ?_
  · have h' : (if gid g' = gid g then some L else none) = some L' := h'
    split at h'
    · rename_i e1
      cases h'
      have : g' = g := by unfold gid at e1; omega
      rw [this]; exact hL
    · cases h'
  · obtain ⟨rfl, rfl⟩ := hget i e hi
    exact ⟨L, if_pos rfl, hs.mono hle⟩
  · obtain ⟨_, rfl⟩ := hget i ei hi
    cases hr
  · obtain ⟨_, rfl⟩ := hget i e hi
    cases hr
  · have hi : (if i = gid g then some L else none) ≠ none := hi
    split at hi
    · rename_i e1
      right; rw [e1]; unfold gid; omega
    · exact absurd rfl hi
  · have hr : v = .bool true := hr
    subst hr
    refine ⟨he, hI.os, hI.out, hI.size, fun b hb => hI.ext b hb (fun ⟨i, e, L', h1, h2, _⟩ => ?_)⟩
    obtain ⟨_, rfl⟩ := hget i e h1
    cases h2

/-- a variable that is an array of bytes, as its reading says -/
theorem sat_u8s {P : Program} {W : World} {name : String} {g t e n : Nat} (hg : P.globalNamed name = some g) (hty : (P.globals[g]?).map (·.type) = some t) (ht : P.underlying t = some (.array n e)) (he : P.underlying e = some (.int .u8))
    (hc : P.cellsOf e = 1) (hs : P.cellsOf t = n) {l : List (BitVec 8)} (hl : l.length = n) (h : Lib.VarReads P W name (.agg (l.map fun b => .lit (.int .u8 b.toNat)))) :
    SatE (fun _ => none) ⟨.arr n .cell, .u8s l, false⟩ ⟨g, 0, n, .arr n .cell⟩ W := by
  obtain ⟨g', t', cs, fuel, p, q1, q2, q3, q4⟩ := h
  obtain rfl := Option.some.inj (hg.symm.trans q1)
  obtain rfl := Option.some.inj (hty.symm.trans q2)
  have hcs : cs.toList = (l.map fun b => (b.toNat : Int)).map fun z => Value.int .u8 z := by
    have q5 : DataW.trod (fun _ => ()) P W 0 (fun _ => true) false fuel t cs.toList = some (Lib.tabData .u8 (l.map fun b => (b.toNat : Int)), p) := by
      rw [q4]; unfold Lib.tabData; rw [List.map_map]; rfl
    exact Lib.cells_of_tab ht he hc hs q5
  simp only [World.var?, hg, Option.bind_some] at q3
  split at q3 <;> try contradiction
  rename_i C T fr hC
  cases q3
  have hlen : cs.size = n := by
    have := congrArg List.length hcs
    simpa [hl] using this
  refine ⟨rfl, ?_, hl, cs, T, fr, [], cs.toList, [], hC, by simp, rfl, hlen, ?_, fun h => by cases h⟩
  · exact trivial
  · rw [hcs, List.map_map]
    show All2 _ (l.map D.u8) _
    have : ∀ l : List (BitVec 8), All2 (RepS (fun _ => none)) (l.map D.u8) (l.map ((fun z => Value.int .u8 z) ∘ fun b => (b.toNat : Int))) := by
      intro l
      induction l with
      | nil => trivial
      | cons a r ih => exact ⟨rfl, ih⟩
    exact this l

theorem rep_u8 {ρ : Env} {n : Int} (h : (Lit.int .u8 n).wf = true) : Rep ρ (.u8 (BitVec.ofNat 8 n.toNat)) (.int .u8 n) := by
  simp only [Lit.wf, Bool.and_eq_true, decide_eq_true_eq] at h
  have h1 : (0 : Int) ≤ n := h.1
  have h2 : n < 256 := by
    have := h.2
    have e : IntKind.u8.max = 255 := by decide
    omega
  show Value.int _ _ = .int _ _
  congr 1
  simp; omega

theorem kept_of_same {W W' : World} (ho : W'.os = W.os) (hp : W'.output = W.output) (hs : ∀ b, b < W.heap.size → W'.heap[b]? = W.heap[b]?) (may : MemPlace → Prop) : W.keptBut W' may := by
  refine ⟨ho, hp, fun i hi => ?_⟩
  rw [hs i hi]
  split
  · rename_i h1 h2
    rw [h1] at h2; cases h2
    exact ⟨rfl, rfl, rfl, fun _ _ => rfl⟩
  · rename_i h1 h2
    rw [h1] at h2; cases h2
    exact .inr ⟨rfl, rfl⟩
  · rfl

section
variable {H : Type} {enc : TypeId × Value → H} {P : Program}
theorem post_flat {f : Func} {s : ChangeSpec} {apart fresh handsOn : Bool} {W W' : World} {args : Array Value} {v : Value} {ds gs : List (DataW H)}
    (hW : DataW.Whole enc P f.params.toList s.vars apart W args.toList ds gs [])
    (hres : ∀ (b : Nat) (sp : Nat → Bool) (hd : Bool), DataW.TrodAll enc P W' b sp hd f.resultTypes.toList (v.resultList f.resultTypes.size) (s.fn H (ds ++ gs)).results [])
    (hargs : ∀ sp : Nat → Bool, DataW.TrodAll enc P W' 0 sp true f.params.toList args.toList (s.fn H (ds ++ gs)).args [])
    (hvars : ∀ sp : Nat → Bool, DataW.TrodVars enc P W' sp s.vars (s.fn H (ds ++ gs)).vars [])
    (hk : W.keptBut W' (fun _ => False)) : s.post enc P f apart fresh handsOn false W args v W' :=
  ⟨ds, gs, [], [], [], [], hW, hres _ _ _, hargs _, hvars _, World.keptBut_mono (fun _ h => h.elim) hk, (fun h => nomatch h)⟩

theorem mapM_none {α β : Type} {f g : α → Option (β × List MemPlace)} : ∀ {l : List α} {r : List (β × List MemPlace)}, l.mapM f = some r → (∀ x y, x ∈ l → f x = some y → y.2 = [] ∧ g x = some y) → l.mapM g = some r ∧ r.flatMap (·.2) = []
  | [], r, h, _ => by
    simp at h; subst h; exact ⟨rfl, rfl⟩
  | a :: l, r, h, hfg => by
    rw [List.mapM_cons] at h ⊢
    simp only [bind, Option.bind_eq_some_iff, pure, Option.some.injEq] at h
    obtain ⟨y, hy, ys, hys, rfl⟩ := h
    obtain ⟨h1, h2⟩ := hfg a y (by simp) hy
    obtain ⟨h3, h4⟩ := mapM_none hys (fun x y hx => hfg x y (List.mem_cons_of_mem _ hx))
    rw [h2, h3]
    exact ⟨rfl, by rw [List.flatMap_cons, h1, h4]; rfl⟩

/-- an array of bytes by value: its bytes; it reads so anywhere -/
theorem open_u8s {t e : TypeId} {n : Nat} (ht : P.underlying t = some (.array n e)) (he : P.underlying e = some (.int .u8)) (hc : P.cellsOf e = 1) (hs : P.cellsOf t = n) {r : Reach} {b0 base : Nat} {W : World} {v : Value} {d : DataW H} {ps : List MemPlace}
    {sp : Nat → Bool} {held : Bool} (hval : Value.okWide P W r b0 t v) (hd : DataW.Trod enc P W base sp held t v d ps) :
    ∃ l : List (BitVec 8), l.length = n ∧ ps = [] ∧ (∀ ρ, Rep ρ (.u8s l) v) ∧ ∀ (W' : World) (base' : Nat) (sp' : Nat → Bool) (held' : Bool), DataW.Trod enc P W' base' sp' held' t v d [] := by
  simp only [Value.okWide, ht] at hval
  obtain ⟨xs, rfl, hn, _⟩ := hval
  obtain ⟨fuel, hf⟩ := hd
  have hcells : (Value.agg xs).cells.toList = xs.toList := by simp [Value.cells]
  rw [hcells] at hf
  obtain ⟨ys, m, rfl, hx, hl, hys, hi⟩ := DataW.trod_array ht hf
  have hcell : ∀ i, i < n → ∃ a, (xs.toList.drop (i * P.cellsOf e)).take (P.cellsOf e) = [.int .u8 a] ∧ (Lit.int .u8 a).wf = true := by
    intro i hin
    have h := hi i hin
    rw [List.getElem?_eq_getElem (by omega)] at h
    obtain ⟨a, h1, _, h2⟩ := DataW.trod_int he h
    exact ⟨a, h1, h2⟩
  have hget : ∀ i, i < n → ∃ a, xs.toList[i]? = some (.int .u8 a) ∧ (Lit.int .u8 a).wf = true := by
    intro i hin
    obtain ⟨a, h1, h2⟩ := hcell i hin
    rw [hc, Nat.mul_one] at h1
    refine ⟨a, ?_, h2⟩
    have := congrArg (·[0]?) h1
    simpa [List.getElem?_take, List.getElem?_drop] using this
  have hlen : xs.toList.length = n := by rw [hl, hs]
  have key : ∀ (cs : List Value), (∀ i, i < cs.length → ∃ a, cs[i]? = some (.int .u8 a) ∧ (Lit.int .u8 a).wf = true) → ∃ l : List (BitVec 8), l.length = cs.length ∧ ∀ ρ, All2 (RepS ρ) (l.map D.u8) cs := by
    intro cs
    induction cs with
    | nil => intro _; exact ⟨[], rfl, fun _ => trivial⟩
    | cons c cs ih =>
      intro h
      obtain ⟨a, h1, h2⟩ := h 0 (by simp)
      simp at h1; subst h1
      obtain ⟨l, h3, h4⟩ := ih (fun i hi => by simpa using h (i + 1) (by simpa using hi))
      exact ⟨BitVec.ofNat 8 a.toNat :: l, by simp [h3], fun ρ => ⟨rep_u8 (ρ := ρ) h2, h4 ρ⟩⟩
  obtain ⟨l, h1, h2⟩ := key xs.toList (by rw [hlen]; exact hget)
  have hstay : ∀ (W' : World) (base' : Nat) (sp' : Nat → Bool) (held' : Bool), DataW.trod enc P W' base' sp' held' (m + 1) t xs.toList = some (d, ps) ∧ ps = [] := by
    intro W' base' sp' held'
    unfold DataW.trod at hf ⊢
    rw [ht] at hf ⊢
    simp only [hl, if_true, Option.map_eq_some_iff] at hf ⊢
    obtain ⟨zs, hz, hzx⟩ := hf
    obtain ⟨h3, h4⟩ := mapM_none (g := fun i => DataW.trod enc P W' base' sp' held' m e ((xs.toList.drop (i * P.cellsOf e)).take (P.cellsOf e))) hz (fun i y _ hy => by
      obtain ⟨a, e1, e2, e3⟩ := DataW.trod_int he hy
      rw [e2]
      refine ⟨rfl, ?_⟩
      rw [e1]
      cases m with
      | zero => simp [DataW.trod] at hy
      | succ m => simp [DataW.trod, he, e3])
    refine ⟨⟨zs, h3, hzx⟩, ?_⟩
    have := congrArg Prod.snd hzx
    exact this.symm.trans h4
  refine ⟨l, by rw [h1, hlen], (hstay W 0 sp held).2, fun ρ => ⟨xs.toList, by simp, h2 ρ⟩, fun W' base' sp' held' => ?_⟩
  obtain ⟨h5, h6⟩ := hstay W' base' sp' held'
  refine ⟨m + 1, ?_⟩
  rw [hcells, h5, h6]
end
end Go.Proofs.YtljkjdhkofbgmaaDoor.Av
