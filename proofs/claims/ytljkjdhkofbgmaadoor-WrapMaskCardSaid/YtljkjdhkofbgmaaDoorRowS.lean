import Derived.Test.YtljkjdhkofbgmaaDoorRow
import Derived.ChangeSlices
import Derived.ChangeSame
namespace Go.Proofs.YtljkjdhkofbgmaaDoor.Av
open Go Go.ChangeShapes Go.WideShapes
set_option linter.all false
set_option maxRecDepth 3000

/-! slices of bytes that came in, and are only read -/

section
variable {H : Type} {enc : TypeId × Value → H} {P : Program}

theorem shape_cells {w : World} {b row cells : Nat} (h : w.shape? b = some (row, cells)) : ∃ C t fr, w.heap[b]? = some (.cells C t fr) := by
  unfold World.shape? at h
  split at h
  · rename_i C t fr hC
    exact ⟨C, t, fr, hC⟩
  · cases h

/-- what a slice of bytes gives a walk: its bytes; a place from which it is read; it reads the same wherever its block is as it was -/
theorem open_slice {t e : TypeId} (ht : P.underlying t = some (.slice e)) (he : P.underlying e = some (.int .u8)) (hc : P.cellsOf e = 1) {r : Reach} {b0 : Nat} {W : World} {v : Value} {d : DataW H} {ps : List MemPlace}
    (hval : Value.okWide P W r b0 t v) (hd : DataW.Trod enc P W 0 (fun _ => true) true t v d ps) :
    (v = .slice none 0 0 ∧ ps = [] ∧ ∀ (W' : World) (sp : Nat → Bool), DataW.Trod enc P W' 0 sp true t v d []) ∨
    ∃ (l : List (BitVec 8)) (L : Loc) (cap : Nat), l.length ≤ cap ∧ cap < 9223372036854775808 ∧ SatE (fun _ => none) ⟨.row .cell, .u8s l, false⟩ L W ∧
      (∀ (ρ : Env) (i : Nat), ρ i = some L → Rep ρ (.slice i [] 0 l.length (some cap)) v) ∧
      (∀ (W' : World) (sp : Nat → Bool), (∀ b, b < W.heap.size → W'.heap[b]? = W.heap[b]?) → (∀ p ∈ ps, sp p.block = true) → DataW.Trod enc P W' 0 sp true t v d ps) ∧ ∃ es sp, d = .slice es sp ∧ es.length = l.length := by
  obtain ⟨fuel, hf⟩ := hd
  have hval' : Cell.okWide P W r b0 t v := by
    simp only [Value.okWide, ht] at hval; exact hval
  rcases open_ints ht he hc hf with ⟨hcs, hx⟩ | ⟨a, len, cap, zs, hcs, _, hl, hm, hz, hx, hcell, hwz⟩
  · left
    have hv : v = .slice none 0 0 := by
      cases v <;> simp_all [Value.cells]
      simp only [Cell.okWide, ht, Cell.ok] at hval'
    subst hv
    cases hx
    refine ⟨rfl, rfl, fun W' sp => ⟨1, ?_⟩⟩
    simp [DataW.trod, ht, Value.cells]
  right
  have hv : v = .slice (some a) len cap := by
    cases v <;> simp_all [Value.cells]
    simp only [Cell.okWide, ht, Cell.ok] at hval'
  subst hv
  cases hx
  simp only [if_true] at hz
  simp only [Cell.okWide, ht, Cell.ok] at hval'
  obtain ⟨_, _, _, hspot, row, cells, hsh, _⟩ := hval'
  obtain ⟨C, T, fr, hC⟩ := shape_cells hsh
  obtain ⟨ab, ao, spot⟩ := a
  have hspot : spot = none := hspot
  subst hspot
  have hC : W.heap[ab]? = some (.cells C T fr) := hC
  have hcell' : ∀ i, i < cap → C[ao + i]? = some (.int .u8 (zs.getD i 0)) := by
    intro i hi
    have := hcell i (by omega)
    rw [Addr.add_lit] at this
    simpa [World.cell?, hC] using this
  have hbd : 0 < cap → ao + cap ≤ C.size := by
    intro h0
    have := hcell' (cap - 1) (by omega)
    rcases Nat.lt_or_ge (ao + (cap - 1)) C.size with h | h
    · omega
    · rw [Array.getElem?_eq_none h] at this; cases this
  let l : List (BitVec 8) := (zs.take len).map fun n => BitVec.ofNat 8 n.toNat
  have hll : l.length = len := by simp [l]; omega
  let base : Nat := if cap = 0 then 0 else ao
  have hbase : base + len ≤ C.size := by
    by_cases h : cap = 0
    · simp only [base, if_pos h]; omega
    · simp only [base, if_neg h]
      have := hbd (by omega)
      omega
  have hreads : ∀ i, i < len → C[base + i]? = some (.int .u8 (zs.getD i 0)) := by
    intro i hi
    have h : ¬ cap = 0 := by omega
    simp only [base, if_neg h]
    exact hcell' i (by omega)
  refine ⟨l, ⟨ab, base, C.size, .row .cell⟩, cap, by omega, ?_, ⟨rfl, trivial, trivial, C, T, fr, C.toList.take base, (C.toList.drop base).take len, C.toList.drop (base + len), hC, list_win C.toList base len, ?_, rfl, ?_, fun h => by cases h⟩, fun ρ i hρ => ?_, fun W' sp hW hsp => ?_, _, _, rfl, by simp only [lits, List.length_map, List.length_take, hll]; omega⟩
  · unfold maxLen at hm; omega
  · rw [List.length_take, Array.length_toList]
    show min base C.size = base
    omega
  · show All2 _ (l.map D.u8) _
    have key : ∀ (n : Nat) (zs : List Int) (cs : List Value), n ≤ zs.length → (∀ z ∈ zs, (Lit.int .u8 z).wf = true) → (∀ i, i < n → cs[i]? = some (.int .u8 (zs.getD i 0))) → cs.length = n →
        All2 (RepS (fun _ => none)) (((zs.take n).map fun n => BitVec.ofNat 8 n.toNat).map D.u8) cs := by
      intro n
      induction n with
      | zero =>
        intro zs cs _ _ _ hlen
        have : cs = [] := List.eq_nil_of_length_eq_zero hlen
        subst this
        exact trivial
      | succ n ih =>
        intro zs cs hn hw hcs hlen
        match zs, cs, hn, hlen with
        | z :: zs, c :: cs, hn, hlen =>
          have h0 := hcs 0 (by omega)
          simp at h0
          subst h0
          refine ⟨rep_u8 (ρ := fun _ => none) (hw z (by simp)), ih zs cs (by simpa using hn) (fun x hx => hw x (List.mem_cons_of_mem _ hx)) (fun i hi => ?_) (by simpa using hlen)⟩
          simpa using hcs (i + 1) (by omega)
    refine key len zs _ (by omega) hwz (fun i hi => ?_) ?_
    · rw [List.getElem?_take, if_pos hi, List.getElem?_drop, Array.getElem?_toList]
      exact hreads i hi
    · rw [List.length_take, List.length_drop, Array.length_toList]; omega
  · refine ⟨_, hρ, .row .cell, .cell, ⟨ab, ao, none⟩, cap, rfl, rfl, by rw [hll], by omega, by unfold maxLen at hm; omega, fun k hk => by cases hk; rfl, fun h0 => ?_⟩
    have h : ¬ cap = 0 := by omega
    have := hbd h0
    simp only [base, if_neg h, offAt, Ty.size]
    exact ⟨by simp, by omega⟩
  · refine ⟨2, ?_⟩
    have hcells : (Value.slice (some ⟨ab, ao, none⟩) len cap).cells.toList = [.slice (some ⟨ab, ao, none⟩) len cap] := by simp [Value.cells]
    rw [hcells]
    have hab : ab < W.heap.size := by
      rcases Nat.lt_or_ge ab W.heap.size with h | h
      · exact h
      · rw [Array.getElem?_eq_none h] at hC; cases hC
    refine shut_ints' 0 ht he hc (Nat.zero_le _) hl hm ?_ (fun i hi => ?_) hwz
    · rw [hz]
      by_cases h : cap = 0
      · split <;> omega
      · have : sp ab = true := hsp (.cell ab ao) (MemPlace.mem_row.2 ⟨0, by omega, rfl⟩)
        rw [if_pos this]
    · have := hcell' i (by omega)
      simp only [World.cell?, hW ab hab, hC]
      simpa using this
end

section
variable {H : Type} {enc : TypeId × Value → H} {P : Program}

/-- an array of bytes among cells: its bytes; it reads so anywhere -/
theorem trod_u8s {t e : TypeId} {n : Nat} (ht : P.underlying t = some (.array n e)) (he : P.underlying e = some (.int .u8)) (hc : P.cellsOf e = 1) (hs : P.cellsOf t = n) {base : Nat} {W : World} {cs : List Value} {y : DataW H × List MemPlace}
    {sp : Nat → Bool} {held : Bool} {fuel : Nat} (hf : DataW.trod enc P W base sp held fuel t cs = some y) :
    y.2 = [] ∧ (∃ l : List (BitVec 8), l.length = n ∧ ∀ ρ, All2 (RepS ρ) (l.map D.u8) cs) ∧ ∀ (W' : World) (base' : Nat) (sp' : Nat → Bool) (held' : Bool), DataW.trod enc P W' base' sp' held' fuel t cs = some y := by
  obtain ⟨ys, m, rfl, hx, hl, hys, hi⟩ := DataW.trod_array ht hf
  have hget : ∀ i, i < n → ∃ a, cs[i]? = some (.int .u8 a) ∧ (Lit.int .u8 a).wf = true := by
    intro i hin
    have h := hi i hin
    rw [List.getElem?_eq_getElem (by omega)] at h
    obtain ⟨a, h1, _, h2⟩ := DataW.trod_int he h
    rw [hc, Nat.mul_one] at h1
    refine ⟨a, ?_, h2⟩
    have := congrArg (·[0]?) h1
    simpa [List.getElem?_take, List.getElem?_drop] using this
  have hlen : cs.length = n := by rw [hl, hs]
  have key : ∀ (cs : List Value), (∀ i, i < cs.length → ∃ a, cs[i]? = some (.int .u8 a) ∧ (Lit.int .u8 a).wf = true) → ∃ l : List (BitVec 8), l.length = cs.length ∧ ∀ ρ, All2 (RepS ρ) (l.map D.u8) cs := by
    intro cs
    induction cs with
    | nil => intro _; exact ⟨[], rfl, fun _ => trivial⟩
    | cons c cs ih =>
      intro h
      obtain ⟨a, h1, h2⟩ := h 0 (by simp)
      simp at h1; subst h1
      obtain ⟨l, h3, h4⟩ := ih (fun i hi => by simpa using h (i + 1) (by simpa using hi))
      exact ⟨BitVec.ofNat 8 a.toNat :: l, by simp [h3], fun ρ => ⟨rep_u8 (ρ := ρ) h2, h4 ρ⟩⟩
  obtain ⟨l, h1, h2⟩ := key cs (by rw [hlen]; exact hget)
  have hstay : ∀ (W' : World) (base' : Nat) (sp' : Nat → Bool) (held' : Bool), DataW.trod enc P W' base' sp' held' (m + 1) t cs = some y ∧ y.2 = [] := by
    intro W' base' sp' held'
    unfold DataW.trod at hf ⊢
    rw [ht] at hf ⊢
    simp only [hl, if_true, Option.map_eq_some_iff] at hf ⊢
    obtain ⟨zs, hz, hzx⟩ := hf
    obtain ⟨h3, h4⟩ := mapM_none (g := fun i => DataW.trod enc P W' base' sp' held' m e ((cs.drop (i * P.cellsOf e)).take (P.cellsOf e))) hz (fun i y _ hy => by
      obtain ⟨a, e1, e2, e3⟩ := DataW.trod_int he hy
      rw [e2]
      refine ⟨rfl, ?_⟩
      rw [e1]
      cases m with
      | zero => simp [DataW.trod] at hy
      | succ m => simp [DataW.trod, he, e3])
    refine ⟨⟨zs, h3, hzx⟩, ?_⟩
    rw [← hzx]; exact h4
  exact ⟨(hstay W 0 sp held).2, ⟨l, by rw [h1, hlen], h2⟩, fun W' base' sp' held' => (hstay W' base' sp' held').1⟩

/-- two arrays of bytes by value -/
theorem open_pair {t t' e : TypeId} {n : Nat} (ht : P.underlying t = some (.array 2 t')) (ht' : P.underlying t' = some (.array n e)) (he : P.underlying e = some (.int .u8)) (hc : P.cellsOf e = 1) (hs' : P.cellsOf t' = n) (hs : P.cellsOf t = n + n) {r : Reach} {b0 base : Nat} {W : World} {v : Value} {d : DataW H} {ps : List MemPlace}
    {sp : Nat → Bool} {held : Bool} (hval : Value.okWide P W r b0 t v) (hd : DataW.Trod enc P W base sp held t v d ps) :
    ∃ a b : List (BitVec 8), a.length = n ∧ b.length = n ∧ ps = [] ∧ (∀ ρ, Rep ρ (.node [.u8s a, .u8s b]) v) ∧ ∀ (W' : World) (base' : Nat) (sp' : Nat → Bool) (held' : Bool), DataW.Trod enc P W' base' sp' held' t v d [] := by
  simp only [Value.okWide, ht] at hval
  obtain ⟨xs, rfl, hn, _⟩ := hval
  obtain ⟨fuel, hf⟩ := hd
  have hcells : (Value.agg xs).cells.toList = xs.toList := by simp [Value.cells]
  rw [hcells] at hf
  obtain ⟨ys, m, rfl, hx, hl, hys, hi⟩ := DataW.trod_array ht hf
  obtain ⟨y0, y1, rfl⟩ : ∃ y0 y1, ys = [y0, y1] := by
    match ys, hys with
    | [y0, y1], _ => exact ⟨y0, y1, rfl⟩
  have i0 := hi 0 (by omega)
  have i1 := hi 1 (by omega)
  rw [hs'] at i0 i1
  simp only [Nat.zero_mul, List.drop_zero, Nat.one_mul] at i0 i1
  obtain ⟨p0, ⟨a, ha, hra⟩, st0⟩ := trod_u8s ht' he hc hs' (show DataW.trod enc P W base sp held m t' (xs.toList.take n) = some y0 from i0)
  obtain ⟨p1, ⟨b, hb, hrb⟩, st1⟩ := trod_u8s ht' he hc hs' (show DataW.trod enc P W base sp held m t' ((xs.toList.drop n).take n) = some y1 from i1)
  have hsz : xs.toList.length = n + n := by rw [hl, hs]
  have hsplit : xs.toList = xs.toList.take n ++ (xs.toList.drop n).take n := by
    rw [List.take_of_length_le (l := xs.toList.drop n) (by rw [List.length_drop]; omega), List.take_append_drop]
  have hstay : ∀ (W' : World) (base' : Nat) (sp' : Nat → Bool) (held' : Bool), DataW.trod enc P W' base' sp' held' (m + 1) t xs.toList = some (d, ps) ∧ ps = [] := by
    intro W' base' sp' held'
    unfold DataW.trod at hf ⊢
    rw [ht] at hf ⊢
    simp only [hl, if_true, Option.map_eq_some_iff] at hf ⊢
    obtain ⟨zs, hz, hzx⟩ := hf
    obtain ⟨h3, h4⟩ := mapM_none (g := fun i => DataW.trod enc P W' base' sp' held' m t' ((xs.toList.drop (i * P.cellsOf t')).take (P.cellsOf t'))) hz (fun i y _ hy => by
      obtain ⟨e1, _, e2⟩ := trod_u8s ht' he hc hs' hy
      exact ⟨e1, e2 W' base' sp' held'⟩)
    refine ⟨⟨zs, h3, hzx⟩, ?_⟩
    have := congrArg Prod.snd hzx
    exact this.symm.trans h4
  refine ⟨a, b, ha, hb, (hstay W 0 sp held).2, fun ρ => ⟨xs.toList, by simp, ?_⟩, fun W' base' sp' held' => ?_⟩
  · show All2 (RepS ρ) (a.map D.u8 ++ (b.map D.u8 ++ [])) _
    rw [hsplit, List.append_nil]
    exact (hra ρ).append (hrb ρ)
  · obtain ⟨h5, h6⟩ := hstay W' base' sp' held'
    refine ⟨m + 1, ?_⟩
    rw [hcells, h5, h6]

theorem rep_u64 {ρ : Env} {n : Int} (h : (Lit.int .u64 n).wf = true) : Rep ρ (.u64 (BitVec.ofNat 64 n.toNat)) (.int .u64 n) := by
  simp only [Lit.wf, Bool.and_eq_true, decide_eq_true_eq] at h
  have h1 : (0 : Int) ≤ n := h.1
  have h2 : n < 18446744073709551616 := by
    have := h.2
    have e : IntKind.u64.max = 18446744073709551615 := by decide
    omega
  show Value.int _ _ = .int _ _
  congr 1
  simp; omega

/-- the call of a law that reads a slice of bytes -/
theorem calls_bool_s {f : Nat} {args : List D} {T : Ty} {d : D} (h : AC P f args 1 [(0, some ⟨T, d, false⟩)] ⟨.bool true, [], []⟩) {W : World} {vals : List Value} {L : Loc} (hv : All2 (Rep (fun i => if i = 0 then some L else none)) args vals)
    (hs : SatE (fun _ => none) ⟨T, d, false⟩ L W) :
    Calls P f vals.toArray W fun e W' => e = .returned (.bool true) ∧ W'.os = W.os ∧ W'.output = W.output ∧ W.heap.size ≤ W'.heap.size ∧ ∀ b, b < W.heap.size → W'.heap[b]? = W.heap[b]? := by
  let ρ0 : Env := fun i => if i = 0 then some L else none
  have hle : Env.le (fun _ => none) ρ0 := fun i L h => by cases h
  have hget : ∀ i e, get [(0, some ⟨T, d, false⟩)] i = some e → i = 0 ∧ e = ⟨T, d, false⟩ := fun i e h => by
    rw [get_cons] at h
    split at h
    · rename_i e1; cases h; exact ⟨e1.symm, rfl⟩
    · cases h
  refine (h.2 ρ0 W vals hv ⟨fun g' L' h' => ?_, fun i e hi => ?_, fun i j ei ej Li Lj hi hj hne hr => ?_, fun i e L' hi hr => ?_, fun _ _ _ => rfl, Nat.le_refl _, rfl, rfl, rfl⟩ (fun i hi => ?_)).mono fun e W' ⟨v, ρ', he, _, _, hr, hI⟩ => ?_
  · have h' : (if gid g' = 0 then some L else none) = some L' := h'
    rw [if_neg (by unfold gid; omega)] at h'
    cases h'
  · obtain ⟨rfl, rfl⟩ := hget i e hi
    exact ⟨L, if_pos rfl, hs.mono hle⟩
  · obtain ⟨_, rfl⟩ := hget i ei hi
    cases hr
  · obtain ⟨_, rfl⟩ := hget i e hi
    cases hr
  · have hi : (if i = 0 then some L else none) ≠ none := hi
    split at hi
    · rename_i e1
      left; omega
    · exact absurd rfl hi
  · have hr : v = .bool true := hr
    subst hr
    refine ⟨he, hI.os, hI.out, hI.size, fun b hb => hI.ext b hb (fun ⟨i, e, L', h1, h2, _⟩ => ?_)⟩
    obtain ⟨_, rfl⟩ := hget i e h1
    cases h2
end

section
variable {H : Type} {enc : TypeId × Value → H} {P : Program}
theorem post_places {f : Func} {s : ChangeSpec} {apart fresh handsOn : Bool} {W W' : World} {args : Array Value} {v : Value} {ds gs : List (DataW H)} {before : List MemPlace}
    (hW : DataW.Whole enc P f.params.toList s.vars apart W args.toList ds gs before)
    (hres : ∀ (b : Nat) (sp : Nat → Bool) (hd : Bool), DataW.TrodAll enc P W' b sp hd f.resultTypes.toList (v.resultList f.resultTypes.size) (s.fn H (ds ++ gs)).results [])
    (hargs : ∀ sp : Nat → Bool, (∀ p ∈ before, sp p.block = true) → DataW.TrodAll enc P W' 0 sp true f.params.toList args.toList (s.fn H (ds ++ gs)).args before)
    (hvars : ∀ sp : Nat → Bool, DataW.TrodVars enc P W' sp s.vars (s.fn H (ds ++ gs)).vars [])
    (hk : W.keptBut W' (fun _ => False)) : s.post enc P f apart fresh handsOn false W args v W' :=
  ⟨ds, gs, before, [], before, [], hW, hres _ _ _, hargs _ (fun p hp => by simpa using hW.lt p hp), hvars _, World.keptBut_mono (fun _ h => h.elim) hk, (fun h => nomatch h)⟩
end
end Go.Proofs.YtljkjdhkofbgmaaDoor.Av
