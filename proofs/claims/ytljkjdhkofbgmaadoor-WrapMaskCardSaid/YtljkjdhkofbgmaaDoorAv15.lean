import Derived.Test.YtljkjdhkofbgmaaDoorAv14
namespace Go.Proofs.YtljkjdhkofbgmaaDoor.Av
open Go
set_option linter.all false
set_option maxRecDepth 3000

theorem Inv.congr {X : Ctx} {ρ : Env} {m m' : Mem} {w : World} (H : Inv X ρ m w) (h : ∀ b, get m' b = get m b) : Inv X ρ m' w where
  glob := H.glob
  sat i e hi := H.sat i e (by rw [← h]; exact hi)
  inj i j ei ej Li Lj hi hj := H.inj i j ei ej Li Lj (by rw [← h]; exact hi) (by rw [← h]; exact hj)
  own i e L hi := H.own i e L (by rw [← h]; exact hi)
  ext := H.ext
  size := H.size
  os := H.os
  out := H.out
  tape := H.tape

theorem last_or_none (p : Nat → Prop) : ∀ n : Nat, (∃ i, i < n ∧ p i ∧ ∀ k, i < k → k < n → ¬ p k) ∨ ∀ i, i < n → ¬ p i
  | 0 => .inr fun i h => by omega
  | n + 1 => by
    by_cases hn : p n
    · exact .inl ⟨n, Nat.lt_succ_self n, hn, fun k h1 h2 => by omega⟩
    · rcases last_or_none p n with ⟨i, h1, h2, h3⟩ | h
      · refine .inl ⟨i, by omega, h2, fun k h4 h5 => ?_⟩
        by_cases hk : k = n
        · subst hk; exact hn
        · exact h3 k h4 (by omega)
      · refine .inr fun i h1 => ?_
        by_cases hk : i = n
        · subst hk; exact hn
        · exact h i (by omega)

/-- a guard that was read off is the one that the model reads -/
theorem wanted_of {ops : List Oper} {o : Oper} {tm : TM} {a : Act} {ρ : Env} {want : Bool} (h : match o.guard with | none => want = true | some (g, w) => ∃ t b, dstAt ops g = some t ∧ lk tm t = some (.bool b) ∧ want = (b == w))
    (H : ∀ t ∈ guardTmp ops o, ∀ d, lk tm t = some d → Rep ρ d (a.tmps.getD t undef)) : Region.wanted o (yielded ops.toArray a.tmps) = want := by
  cases hg : o.guard with
  | none => rw [hg] at h; simp only at h; subst h; simp [Region.wanted, hg]
  | some p =>
    obtain ⟨j, w⟩ := p
    rw [hg] at h
    simp only at h
    obtain ⟨t, b, ht, hb, rfl⟩ := h
    have hv : a.tmps.getD t undef = .bool b := H t (by simp [guardTmp, hg, ht]) _ hb
    have hlt : t < a.tmps.size := by
      rcases Nat.lt_or_ge t a.tmps.size with h' | h'
      · exact h'
      · simp [Array.getD_eq_getD_getElem?, Array.getElem?_eq_none h', undef] at hv
    have hget : a.tmps[t]? = some (.bool b) := by
      rw [Array.getD_eq_getD_getElem?, Array.getElem?_eq_getElem hlt] at hv
      simp at hv
      rw [Array.getElem?_eq_getElem hlt, hv]
    have hy : yielded ops.toArray a.tmps j = some b := by
      unfold yielded
      have : ((ops.toArray[j]?).bind (·.dst)) = some t := by rw [List.getElem?_toArray, ← dstAt_eq, ht]
      rw [this]
      simp [hget]
    simp [Region.wanted, hg, hy]

/-- what holds when these have been listed -/
structure Mid (X : Ctx) (ρ0 : Env) (np N : Nat) (tm0 : TM) (m0 : Mem) (nx0 : Nat) (qs : List Rec) (S : Nat → Prop) (ρ : Env) (m : Mem) (a : Act) (w : World) : Prop where
  lt : ∀ j, S j → j < qs.length
  down : ∀ j r, S j → qs[j]? = some r → ∀ e ∈ r.o.after.toList, Region.binds .any e = true → S e.on
  inv : Inv X ρ m w
  mW : ∀ (b i : Nat) (r : Rec), S i → qs[i]? = some r → b ∈ keysOf r.up → (∀ (k : Nat) (r' : Rec), S k → i < k → qs[k]? = some r' → b ∉ keysOf r'.up) → get m b = get r.up b
  mO : ∀ b : Nat, (∀ (i : Nat) (r : Rec), S i → qs[i]? = some r → b ∉ keysOf r.up) → get m b = get m0 b
  tW : ∀ (i : Nat) (r : Rec) (t : Nat), S i → qs[i]? = some r → r.o.dst = some t → Rep ρ r.v (a.tmps.getD t undef)
  tO : ∀ (t : Nat), (∀ (i : Nat) (r : Rec), S i → qs[i]? = some r → r.o.dst ≠ some t) → ∀ d, lk tm0 t = some d → Rep ρ d (a.tmps.getD t undef)
  size : a.tmps.size = N
  defs : a.defers = []
  fix : ∀ i, Fix np i → ρ i = ρ0 i
  used : ∀ i, ρ i ≠ none → i < nx0 ∨ 1000000 ≤ i ∨ ∃ j r, S j ∧ qs[j]? = some r ∧ r.nx ≤ i ∧ i < r.nx + r.nw

theorem take_get {α : Type} {l : List α} {j i : Nat} {x : α} (h : (l.take j)[i]? = some x) : i < j ∧ l[i]? = some x := by
  rw [List.getElem?_take] at h
  split at h
  · rename_i hlt; exact ⟨hlt, h⟩
  · cases h

theorem get_take {α : Type} {l : List α} {j i : Nat} {x : α} (h : l[i]? = some x) (hlt : i < j) : (l.take j)[i]? = some x := by
  rw [List.getElem?_take, if_pos hlt]; exact h

theorem indep_spec {x y : Info} (h : indep x y = true) : disj x.keys y.foot = true ∧ disj y.keys x.foot = true ∧ disj x.keys y.keys = true ∧ notIn x.dst y.looks = true ∧ notIn y.dst x.looks = true := by
  unfold indep at h
  repeat' split at h
  all_goals first
    | contradiction
    | exact ⟨by assumption, by assumption, by assumption, by assumption, h⟩

section
variable {P : Program} {X : Ctx} {N : Nat} {ops : List Oper} {tm0 : TM} {m0 : Mem} {nx0 : Nat} {qs : List Rec} (hlen : qs.length = ops.length)
  (hf : ∀ (j : Nat) (r : Rec), qs[j]? = some r → Fact P X N ops tm0 m0 nx0 qs j r)

theorem ltOfGet {α : Type} {l : List α} {i : Nat} {x : α} (h : l[i]? = some x) : i < l.length := by
  rcases Nat.lt_or_ge i l.length with h' | h'
  · exact h'
  · rw [List.getElem?_eq_none h'] at h; cases h

include hf

theorem pre_sub {S : Nat → Prop} (hd : ∀ j r, S j → qs[j]? = some r → ∀ e ∈ r.o.after.toList, Region.binds .any e = true → S e.on) :
    ∀ (n j : Nat) (r : Rec), j < n → S j → qs[j]? = some r → ∀ x ∈ r.info.pre, S x
  | 0, j, r, h, _, _, _, _ => by omega
  | n + 1, j, r, h, hS, hr, x, hx => by
    obtain ⟨e, he, hb, hlt, hor⟩ := (hf j r hr).pre x hx
    have hSe := hd j r hS hr e he hb
    rcases hor with rfl | ⟨r', hr', hx'⟩
    · exact hSe
    · exact pre_sub hd n e.on r' (by omega) hSe hr' x hx'

theorem pre_sub' {S : Nat → Prop} (hd : ∀ j r, S j → qs[j]? = some r → ∀ e ∈ r.o.after.toList, Region.binds .any e = true → S e.on) {j : Nat} {r : Rec} (hr : qs[j]? = some r)
    (hj : ∀ e ∈ r.o.after.toList, Region.binds .any e = true → S e.on) : ∀ x ∈ r.info.pre, S x := by
  intro x hx
  obtain ⟨e, he, hb, hlt, hor⟩ := (hf j r hr).pre x hx
  have hSe := hj e he hb
  rcases hor with rfl | ⟨r', hr', hx'⟩
  · exact hSe
  · exact pre_sub hf hd (e.on + 1) e.on r' (by omega) hSe hr' x hx'

/-- the one at hand, and one that was listed, in whichever order they stand -/
theorem apart_of {ρ0 : Env} {np : Nat} {S : Nat → Prop} {ρ : Env} {m : Mem} {a : Act} {w : World} (H : Mid X ρ0 np N tm0 m0 nx0 qs S ρ m a w) {j : Nat} {r : Rec} (hr : qs[j]? = some r) (hj : ¬ S j) {i : Nat} {r' : Rec} (hi : qs[i]? = some r') (hji : j < i) (hS : S i) :
    indep r.info r'.info = true := by
  have h1 := ((hf i r' hi).pair j r hji hr).2
  rcases h1 with h1 | h1
  · exact absurd (pre_sub hf H.down (i + 1) i r' (by omega) hS hi j h1) hj
  · exact h1

theorem apart_of' {S : Nat → Prop} {j : Nat} {r : Rec} (hr : qs[j]? = some r) (hpre : ∀ x ∈ r.info.pre, S x) {i : Nat} {r' : Rec} (hi : qs[i]? = some r') (hij : i < j) (hS : ¬ S i) :
    indep r'.info r.info = true := by
  rcases ((hf j r hr).pair i r' hij hi).2 with h | h
  · exact absurd (hpre i h) hS
  · exact h

theorem mid_looks {ρ0 : Env} {np : Nat} {S : Nat → Prop} {ρ : Env} {m : Mem} {a : Act} {w : World} (H : Mid X ρ0 np N tm0 m0 nx0 qs S ρ m a w) {j : Nat} {r : Rec} (hr : qs[j]? = some r) (hj : ¬ S j) (hpre : ∀ x ∈ r.info.pre, S x) :
    ∀ t ∈ r.info.looks, ∀ d, lk r.tm t = some d → Rep ρ d (a.tmps.getD t undef) := by
  intro t ht d hd
  have hF := hf j r hr
  rcases Classical.em (∃ (i : Nat) (r' : Rec), i < j ∧ qs[i]? = some r' ∧ r'.o.dst = some t) with ⟨i, r', hij, hi, hdst⟩ | hno
  · have h1 := hF.char.tmW i r' t (get_take hi hij) hdst
    rw [hd] at h1; cases h1
    by_cases hS : S i
    · exact H.tW i r' t hS hi hdst
    · have := (indep_spec (apart_of' hf hr hpre hi hij hS)).2.2.2.1
      exact absurd ht (notIn_spec this t (by rw [(hf i r' hi).dst]; exact hdst))
  · have h1 : lk r.tm t = lk tm0 t := hF.char.tmO t fun i r' hi hdst => hno ⟨i, r', (take_get hi).1, (take_get hi).2, hdst⟩
    rw [h1] at hd
    refine H.tO t (fun i r' hS hi hdst => ?_) d hd
    rcases Nat.lt_trichotomy i j with h2 | h2 | h2
    · exact hno ⟨i, r', h2, hi, hdst⟩
    · subst h2; exact hj hS
    · have := (indep_spec (apart_of hf H hr hj hi h2 hS)).2.2.2.2
      exact notIn_spec this t (by rw [(hf i r' hi).dst]; exact hdst) ht

theorem mid_foot {ρ0 : Env} {np : Nat} {S : Nat → Prop} {ρ : Env} {m : Mem} {a : Act} {w : World} (H : Mid X ρ0 np N tm0 m0 nx0 qs S ρ m a w) {j : Nat} {r : Rec} (hr : qs[j]? = some r) (hj : ¬ S j) (hpre : ∀ x ∈ r.info.pre, S x) :
    ∀ b ∈ r.foot, get m b = get r.m b := by
  intro b hb
  have hF := hf j r hr
  have hb' : b ∈ r.info.foot := by rw [hF.foot]; exact hb
  have hlater : ∀ (k : Nat) (r' : Rec), S k → j < k → qs[k]? = some r' → b ∉ keysOf r'.up := by
    intro k r' hS hjk hk hm
    have := (indep_spec (apart_of hf H hr hj hk hjk hS)).2.1
    exact disj_spec this b (by rw [(hf k r' hk).keys]; exact hm) hb'
  rcases last_or_none (fun i => ∃ r', qs[i]? = some r' ∧ b ∈ keysOf r'.up) j with ⟨i, hij, ⟨r', hi, hm⟩, hl⟩ | hno
  · rw [hF.char.mW b i r' (get_take hi hij) hm fun k r'' hik hk hm' => hl k hik (take_get hk).1 ⟨r'', (take_get hk).2, hm'⟩]
    have hS : S i := by
      rcases Classical.em (S i) with h | h
      · exact h
      · have := (indep_spec (apart_of' hf hr hpre hi hij h)).1
        exact absurd hb' (disj_spec this b (by rw [(hf i r' hi).keys]; exact hm))
    refine H.mW b i r' hS hi hm fun k r'' hSk hik hk => ?_
    rcases Nat.lt_trichotomy k j with h2 | h2 | h2
    · exact fun hm' => hl k hik h2 ⟨r'', hk, hm'⟩
    · subst h2; exact absurd hSk hj
    · exact hlater k r'' hSk h2 hk
  · rw [hF.char.mO b fun i r' hi hm => hno i (take_get hi).1 ⟨r', (take_get hi).2, hm⟩]
    refine H.mO b fun k r'' hSk hk => ?_
    rcases Nat.lt_trichotomy k j with h2 | h2 | h2
    · exact fun hm' => hno k h2 ⟨r'', hk, hm'⟩
    · subst h2; exact absurd hSk hj
    · exact hlater k r'' hSk h2 hk

theorem mid_free {ρ0 : Env} {np : Nat} {S : Nat → Prop} {ρ : Env} {m : Mem} {a : Act} {w : World} (H : Mid X ρ0 np N tm0 m0 nx0 qs S ρ m a w) {j : Nat} {r : Rec} (hr : qs[j]? = some r) (hj : ¬ S j) :
    ∀ i, r.nx ≤ i → i < r.nx + r.nw → ρ i = none := by
  intro i h1 h2
  have hF := hf j r hr
  cases h : ρ i with
  | none => rfl
  | some L =>
    exfalso
    rcases H.used i (by rw [h]; simp) with h3 | h3 | ⟨k, r', hS, hk, h3, h4⟩
    · have := hF.char.le; omega
    · have := hF.lim; omega
    · rcases Nat.lt_trichotomy k j with h5 | h5 | h5
      · have := hF.char.nxs k r' (get_take hk h5); omega
      · subst h5; exact hj hS
      · have := (hf k r' hk).char.nxs j r (get_take hr h5); omega

/-- a step's end -/
theorem mid_step {ρ0 : Env} {np : Nat} {S : Nat → Prop} {ρ : Env} {m : Mem} {a : Act} {w : World} (H : Mid X ρ0 np N tm0 m0 nx0 qs S ρ m a w) (hnp : np ≤ nx0) {j : Nat} {r : Rec} (hr : qs[j]? = some r) (hj : ¬ S j)
    (hedges : ∀ e ∈ r.o.after.toList, Region.binds .any e = true → S e.on) {ρ' : Env} {v' : Value} {w' : World} (hle : ρ.le ρ') (hdom : ∀ i, ρ' i ≠ none → ρ i ≠ none ∨ (r.nx ≤ i ∧ i < r.nx + r.nw))
    (hv : Rep ρ' r.v v') (hinv : Inv X ρ' (r.up ++ m) w') : Mid X ρ0 np N tm0 m0 nx0 qs (fun i => i = j ∨ S i) ρ' (r.up ++ m) (a.put r.o.dst v') w' := by
  have hF := hf j r hr
  have hpre := pre_sub' hf H.down hr hedges
  have hput : ∀ t, (a.put r.o.dst v').tmps.getD t undef = if r.o.dst = some t then v' else a.tmps.getD t undef := by
    intro t
    cases hd : r.o.dst with
    | none => simp [Act.put]
    | some s =>
      rw [put_getD (by rw [H.size]; exact hF.small s hd)]
      simp
  have hdiff : ∀ i r' t, S i → qs[i]? = some r' → r'.o.dst = some t → r.o.dst ≠ some t := by
    intro i r' t hS hi ht ht'
    rcases Nat.lt_trichotomy i j with h | h | h
    · exact dstNe_spec (hF.pair i r' h hi).1 t ht ht'
    · subst h; exact hj hS
    · exact dstNe_spec ((hf i r' hi).pair j r h hr).1 t ht' ht
  refine ⟨?_, ?_, hinv, ?_, ?_, ?_, ?_, ?_, ?_, ?_, ?_⟩
  · rintro i (rfl | h)
    · exact ltOfGet hr
    · exact H.lt i h
  · rintro i r' (rfl | h) hi e he hb
    · rw [hr] at hi; cases hi; exact .inr (hedges e he hb)
    · exact .inr (H.down i r' h hi e he hb)
  · rintro b i r' (rfl | h) hi hb hl
    · rw [hr] at hi; cases hi
      exact get_key hb
    · have hnb : b ∉ keysOf r.up := by
        intro hb'
        rcases Nat.lt_trichotomy i j with h2 | h2 | h2
        · exact hl j r (.inl rfl) h2 hr hb'
        · subst h2; exact hj h
        · have := (indep_spec (apart_of hf H hr hj hi h2 h)).2.2.1
          exact disj_spec this b (by rw [hF.keys]; exact hb') (by rw [(hf i r' hi).keys]; exact hb)
      rw [get_nokey hnb]
      exact H.mW b i r' h hi hb fun k r'' hS hik hk => hl k r'' (.inr hS) hik hk
  · intro b hb
    rw [get_nokey (hb j r (.inl rfl) hr)]
    exact H.mO b fun i r' hS hi => hb i r' (.inr hS) hi
  · rintro i r' t (rfl | h) hi ht
    · rw [hr] at hi; cases hi
      rw [hput, if_pos ht]; exact hv
    · rw [hput, if_neg (hdiff i r' t h hi ht)]
      exact (H.tW i r' t h hi ht).mono hle
  · intro t ht d hd
    rw [hput, if_neg (ht j r (.inl rfl) hr)]
    exact (H.tO t (fun i r' hS hi => ht i r' (.inr hS) hi) d hd).mono hle
  · cases hd : r.o.dst <;> simp [Act.put, H.size]
  · cases hd : r.o.dst <;> exact H.defs
  · intro i hi
    rw [← H.fix i hi]
    cases hri : ρ i with
    | some L => exact hle i L hri
    | none =>
      cases hri' : ρ' i with
      | none => rfl
      | some L' =>
        exfalso
        rcases hdom i (by rw [hri']; simp) with h1 | h1
        · exact h1 hri
        · have := hF.char.le; have := hF.lim; unfold Fix at hi; omega
  · intro i hi
    rcases hdom i hi with h1 | h1
    · rcases H.used i h1 with h2 | h2 | ⟨k, r', hS, hk, h3⟩
      · exact .inl h2
      · exact .inr (.inl h2)
      · exact .inr (.inr ⟨k, r', .inr hS, hk, h3⟩)
    · exact .inr (.inr ⟨j, r, .inl rfl, hr, h1⟩)

omit hf in
/-- all are listed -/
theorem mid_end {ρ0 : Env} {np : Nat} {S : Nat → Prop} {ρ : Env} {m : Mem} {a : Act} {w : World} (H : Mid X ρ0 np N tm0 m0 nx0 qs S ρ m a w) (hnp : np ≤ nx0) (hall : ∀ j, j < qs.length → S j) {tmF : TM} {mF : Mem} {nxF : Nat}
    (hC : Char tm0 m0 nx0 qs tmF mF nxF) (hlim : nxF ≤ 999998) : StOk X ρ0 np N tmF mF nxF ρ a w := by
  refine ⟨H.inv.congr fun b => ?_, fun t d hd => ?_, H.size, H.defs, H.fix, fun i hi => ?_, hlim, by have := hC.le; omega⟩
  · rcases last_or_none (fun i => ∃ r', qs[i]? = some r' ∧ b ∈ keysOf r'.up) qs.length with ⟨i, hij, ⟨r', hi, hm⟩, hl⟩ | hno
    · rw [hC.mW b i r' hi hm fun k r'' hik hk hm' => hl k hik (ltOfGet hk) ⟨r'', hk, hm'⟩]
      exact (H.mW b i r' (hall i hij) hi hm fun k r'' _ hik hk hm' => hl k hik (ltOfGet hk) ⟨r'', hk, hm'⟩).symm
    · rw [hC.mO b fun i r' hi hm => hno i (ltOfGet hi) ⟨r', hi, hm⟩]
      exact (H.mO b fun i r' _ hi hm => hno i (ltOfGet hi) ⟨r', hi, hm⟩).symm
  · rcases Classical.em (∃ (i : Nat) (r' : Rec), qs[i]? = some r' ∧ r'.o.dst = some t) with ⟨i, r', hi, hdst⟩ | hno
    · rw [hC.tmW i r' t hi hdst] at hd; cases hd
      exact H.tW i r' t (hall i (ltOfGet hi)) hi hdst
    · rw [hC.tmO t fun i r' hi hdst => hno ⟨i, r', hi, hdst⟩] at hd
      exact H.tO t (fun i r' _ hi hdst => hno ⟨i, r', hi, hdst⟩) d hd
  · rcases H.used i hi with h | h | ⟨k, r', _, hk, h3⟩
    · left; have := hC.le; omega
    · exact .inr h
    · left; have := hC.nxs k r' hk; omega
end

def unl (ops : Array Oper) (listed : Array Bool) : List Nat := (List.range ops.size).filter fun i => !listed.getD i true

theorem ready_mem {md : Region.Mode} {ops : Array Oper} {listed : Array Bool} {i : Nat} (h : i ∈ Region.ready md ops listed) :
    i < ops.size ∧ listed.getD i true = false ∧ ∃ o, ops[i]? = some o ∧ ∀ e ∈ o.after.toList, Region.binds md e = true → listed.getD e.on false = true := by
  unfold Region.ready at h
  rw [List.mem_filter] at h
  obtain ⟨h1, h2⟩ := h
  have h1 := List.mem_range.1 h1
  refine ⟨h1, ?_⟩
  rw [Bool.and_eq_true] at h2
  obtain ⟨h2, h3⟩ := h2
  refine ⟨by simpa using h2, ?_⟩
  cases ho : ops[i]? with
  | none => rw [ho] at h3; simp at h3
  | some o =>
    rw [ho] at h3
    simp only [Option.map_some, Option.getD_some] at h3
    refine ⟨o, rfl, fun e he hb => ?_⟩
    rw [Array.all_eq_true'] at h3
    have := h3 e (Array.mem_toList_iff.1 he)
    simpa [hb] using this

theorem getD_any {l : Array Bool} {i : Nat} (h : i < l.size) (b c : Bool) : l.getD i b = l.getD i c := by
  simp [Array.getD, h]

theorem ready_nil {md : Region.Mode} {ops : Array Oper} {listed : Array Bool} (hsz : listed.size = ops.size) (hedge : ∀ j o, ops[j]? = some o → ∀ e ∈ o.after.toList, Region.binds md e = true → e.on < j)
    (h : Region.ready md ops listed = []) : ∀ j, j < ops.size → listed.getD j true = true := by
  have key : ∀ n j, j < n → j < ops.size → listed.getD j true = true := by
    intro n
    induction n with
    | zero => intro j h1; omega
    | succ n ih =>
      intro j h1 h2
      cases hj : listed.getD j true with
      | true => rfl
      | false =>
        exfalso
        have : j ∈ Region.ready md ops listed := by
          unfold Region.ready
          rw [List.mem_filter]
          refine ⟨List.mem_range.2 h2, ?_⟩
          rw [Array.getElem?_eq_getElem h2]
          simp only [Option.map_some, Option.getD_some, hj, Bool.not_false, Bool.true_and]
          rw [Array.all_eq_true']
          intro e he
          cases hb : Region.binds md e with
          | false => rfl
          | true =>
            have hlt := hedge j _ (Array.getElem?_eq_getElem h2) e (Array.mem_toList_iff.2 he) hb
            rw [getD_any (by omega) false true, ih e.on (by omega) (by omega)]
            rfl
        rw [h] at this
        cases this
  exact fun j hj => key (j + 1) j (by omega) hj

theorem unl_set {ops : Array Oper} {listed : Array Bool} (hsz : listed.size = ops.size) {i : Nat} (hi : i < ops.size) (hl : listed.getD i true = false) : (unl ops (listed.setIfInBounds i true)).length < (unl ops listed).length := by
  have hsub : unl ops (listed.setIfInBounds i true) = (unl ops listed).filter fun k => !(k == i) := by
    unfold unl
    rw [List.filter_filter]
    refine List.filter_congr fun k hk => ?_
    by_cases h : k = i
    · subst h
      simp [Array.getD_eq_getD_getElem?, hsz, hi]
    · have h' : ¬ i = k := fun e => h e.symm
      simp only [Array.getD_eq_getD_getElem?, Array.getElem?_setIfInBounds_ne h']
      have : (k == i) = false := by simp [h]
      rw [this]; simp
  rw [hsub]
  have hmem : i ∈ unl ops listed := by
    unfold unl
    rw [List.mem_filter]
    exact ⟨List.mem_range.2 hi, by rw [hl]; rfl⟩
  exact List.length_filter_lt_length_iff_exists.2 ⟨i, hmem, by simp⟩

section
variable {P : Program} {X : Ctx} {N : Nat} {ops : List Oper} {tm0 : TM} {m0 : Mem} {nx0 : Nat} {qs : List Rec} (hlen : qs.length = ops.length)
  (hf : ∀ (j : Nat) (r : Rec), qs[j]? = some r → Fact P X N ops tm0 m0 nx0 qs j r)
include hlen hf

theorem mid_any {ρ0 : Env} {np : Nat} (hnp : np ≤ nx0) {tmF : TM} {mF : Mem} {nxF : Nat} (hC : Char tm0 m0 nx0 qs tmF mF nxF) (hlim : nxF ≤ 999998) {Q : Exit → Act → World → Prop}
    (hQ : ∀ ρ a w, StOk X ρ0 np N tmF mF nxF ρ a w → Q .normal a w) : ∀ (fuel : Nat) (listed : Array Bool) (ρ : Env) (m : Mem) (a : Act) (w : World), listed.size = ops.length → (unl ops.toArray listed).length ≤ fuel →
      Mid X ρ0 np N tm0 m0 nx0 qs (fun i => i < qs.length ∧ listed.getD i false = true) ρ m a w → wpAny P .any ops.toArray Q fuel listed a w := by
  have hedge : ∀ j o, ops.toArray[j]? = some o → ∀ e ∈ o.after.toList, Region.binds .any e = true → e.on < j := by
    intro j o ho e he hb
    rw [List.getElem?_toArray] at ho
    have hj : j < qs.length := by rw [hlen]; exact ltOfGet ho
    have hF := hf j _ (List.getElem?_eq_getElem hj)
    have := hF.op
    rw [ho] at this; cases this
    exact hF.edge e he hb
  have hend : ∀ (listed : Array Bool) (ρ : Env) (m : Mem) (a : Act) (w : World), listed.size = ops.length → Region.ready .any ops.toArray listed = [] →
      Mid X ρ0 np N tm0 m0 nx0 qs (fun i => i < qs.length ∧ listed.getD i false = true) ρ m a w → Q .normal a w := by
    intro listed ρ m a w hsz hr H
    refine hQ ρ a w (mid_end H hnp (fun j hj => ⟨hj, ?_⟩) hC hlim)
    rw [getD_any (by omega) false true]
    exact ready_nil (by simpa using hsz) hedge hr j (by simpa [hlen] using hj)
  intro fuel
  induction fuel with
  | zero =>
    intro listed ρ m a w hsz hun H
    have h0 : unl ops.toArray listed = [] := List.length_eq_zero_iff.1 (by omega)
    have hr : Region.ready .any ops.toArray listed = [] := by
      cases hr : Region.ready .any ops.toArray listed with
      | nil => rfl
      | cons i l =>
        obtain ⟨h1, h2, _⟩ := ready_mem (i := i) (md := .any) (ops := ops.toArray) (listed := listed) (by rw [hr]; simp)
        have : i ∈ unl ops.toArray listed := by
          unfold unl
          rw [List.mem_filter]
          exact ⟨List.mem_range.2 h1, by rw [h2]; rfl⟩
        rw [h0] at this; cases this
    exact ⟨hr, hend listed ρ m a w hsz hr H⟩
  | succ fuel ih =>
    intro listed ρ m a w hsz hun H
    refine ⟨fun hr => hend listed ρ m a w hsz hr H, fun j hj => ?_⟩
    obtain ⟨hlt, hnl, o, ho, hedges⟩ := ready_mem hj
    have hjq : j < qs.length := by rw [hlen]; simpa using hlt
    have hr := List.getElem?_eq_getElem hjq
    generalize qs[j] = r at hr
    have hF := hf j r hr
    have hoo : o = r.o := by
      have := hF.op
      rw [List.getElem?_toArray, this] at ho; cases ho; rfl
    subst hoo
    have hnS : ¬ (j < qs.length ∧ listed.getD j false = true) := by
      rintro ⟨_, h2⟩
      rw [getD_any (by omega) false true, hnl] at h2; cases h2
    have hedges' : ∀ e ∈ r.o.after.toList, Region.binds .any e = true → (e.on < qs.length ∧ listed.getD e.on false = true) := fun e he hb => ⟨by have := hF.edge e he hb; omega, hedges e he hb⟩
    have hpre := pre_sub' hf H.down hr hedges'
    have hlooks := mid_looks hf H hr hnS hpre
    have hw := wanted_of (a := a) (ρ := ρ) hF.guard fun t ht d hd => hlooks t (by rw [hF.looks]; exact List.mem_append.2 (.inl ht)) d hd
    have hnext : ∀ ρ' m' a' w', Mid X ρ0 np N tm0 m0 nx0 qs (fun i => i = j ∨ (i < qs.length ∧ listed.getD i false = true)) ρ' m' a' w' → wpAny P .any ops.toArray Q fuel (listed.setIfInBounds j true) a' w' := by
      intro ρ' m' a' w' H'
      have hun' := unl_set (ops := ops.toArray) (by simpa using hsz) hlt hnl
      refine ih _ ρ' m' a' w' (by simpa using hsz) (by omega) ?_
      have hS : (fun i => i = j ∨ (i < qs.length ∧ listed.getD i false = true)) = (fun i => i < qs.length ∧ (listed.setIfInBounds j true).getD i false = true) := by
        funext i
        apply propext
        by_cases hij : i = j
        · subst hij
          simp [Array.getD_eq_getD_getElem?, hjq, hsz, hlen ▸ hjq]
        · have hji : ¬ j = i := fun e => hij e.symm
          simp only [hij, false_or, Array.getD_eq_getD_getElem?, Array.getElem?_setIfInBounds_ne hji]
      rw [hS] at H'
      exact H'
    unfold wpOp
    rw [ho]
    simp only
    rw [hw]
    cases hwant : r.want with
    | true =>
      rw [if_pos rfl]
      left
      obtain ⟨hd, hk⟩ := hF.does hwant
      have hres : ρ 999999 = none := by
        cases h : ρ 999999 with
        | none => rfl
        | some L =>
          exfalso
          rcases H.used 999999 (by rw [h]; simp) with h3 | h3 | ⟨k, r', hS, hk, h3, h4⟩
          · have := hF.char.le; have := hF.lim; omega
          · omega
          · have := (hf k r' hk).lim; omega
      refine hd ρ m w a H.inv (mid_foot hf H hr hnS hpre) (fun t ht d hd => hlooks t (by rw [hF.looks]; exact List.mem_append.2 (.inr ht)) d hd) hres (mid_free hf H hr hnS) _ Q ?_
      intro ρ' v' w' hle hdom hv hinv
      exact hnext ρ' _ _ w' (mid_step hf H hnp hr hnS hedges' hle hdom hv hinv)
    | false =>
      rw [if_neg (by simp)]
      obtain ⟨h1, h2, h3, h4⟩ := hF.skip hwant
      refine hnext ρ m _ w ?_
      have := mid_step hf H hnp hr hnS hedges' (ρ' := ρ) (v' := undef) (w' := w) (Env.le_refl ρ) (fun i h => .inl h) (by rw [h3]; trivial) (by rw [h1]; exact H.inv)
      rw [h1] at this
      exact this
end

theorem drw_sound {P : Program} {Γ : Tab} (hΓ : TabOk P Γ) (hmix : P.follows .mixedOrders = true) {N : Nat} {X : Ctx} {ρ0 : Env} {np : Nat} {Q : Exit → Act → World → Prop} {K : TM → Mem → Nat → Prop}
    (hK : ∀ tm m nx ρ a w, K tm m nx → StOk X ρ0 np N tm m nx ρ a w → Q .normal a w) {id : Nat} {ops : List Oper} {tm : TM} {m : Mem} {nx : Nat} {ρ : Env} {a : Act} {w : World}
    (h : drwP P Γ N ops ops [] tm m nx K) (H : StOk X ρ0 np N tm m nx ρ a w) : (Code.region id ops.toArray true).wp P Q a w := by
  obtain ⟨rs, hrun⟩ := drw_run hΓ (X := X) ops H.lim h
  obtain ⟨qs, tmF, mF, nxF, hlen, hf, hC, hlim, hk⟩ := run_facts (tm0 := tm) (m0 := m) (nx0 := nx) rs [] [] tm m nx hrun rfl H.lim
    ⟨fun i r t hi => by simp at hi, fun t _ => rfl, fun b i r hi => by simp at hi, fun b _ => rfl, fun i r hi => by simp at hi, Nat.le_refl _⟩ (fun j r hj => by simp at hj)
  refine wp_region_any hmix ?_
  refine mid_any (Q := Q) hlen hf H.le hC hlim (fun ρ a w h => hK _ _ _ ρ a w hk h) _ _ ρ m a _ (by simp) ?_ ?_
  · unfold unl
    exact Nat.le_trans (List.length_filter_le _ _) (by simp)
  · have hno : ∀ i, ¬ (i < qs.length ∧ (Array.replicate ops.toArray.size false).getD i false = true) := by
      rintro i ⟨_, h2⟩
      simp [Array.getD_eq_getD_getElem?, Array.getElem?_replicate] at h2
      split at h2 <;> simp at h2
    refine ⟨fun j h => absurd h (hno j), fun j r h => absurd h (hno j), H.inv.drew, fun b i r h => absurd h (hno i), fun b _ => rfl, fun i r t h => absurd h (hno i), fun t _ d hd => H.tmps t d hd, H.size, H.defs, H.fix, fun i hi => ?_⟩
    rcases H.used i hi with h | h
    · exact .inl h
    · exact .inr (.inl h)
end Go.Proofs.YtljkjdhkofbgmaaDoor.Av
