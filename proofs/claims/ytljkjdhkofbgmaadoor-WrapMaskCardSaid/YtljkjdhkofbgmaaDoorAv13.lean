import Derived.Test.YtljkjdhkofbgmaaDoorAv12
namespace Go.Proofs.YtljkjdhkofbgmaaDoor.Av
open Go
set_option linter.all false
set_option maxRecDepth 3000

/-- two ways on -/
structure Br (b : Bool) (A B : Prop) : Prop where
  pos : b = true → A
  neg : b = false → B

theorem Br.split {b : Bool} {A B : Prop} (h1 : b = true → A) (h2 : b = false → B) : Br b A B := ⟨h1, h2⟩
theorem Br.yes {b : Bool} {A B : Prop} (h : b = true) (h1 : A) : Br b A B := ⟨fun _ => h1, (fun h' => by rw [h] at h'; cases h')⟩
theorem Br.no {b : Bool} {A B : Prop} (h : b = false) (h1 : B) : Br b A B := ⟨(fun h' => by rw [h] at h'; cases h'), fun _ => h1⟩

def dstAt (ops : List Oper) (j : Nat) : Option Nat :=
  match ops, j with
  | o :: _, 0 => o.dst
  | _ :: r, j + 1 => dstAt r j
  | [], _ => none

theorem dstAt_eq : ∀ (ops : List Oper) (j : Nat), dstAt ops j = (ops[j]?).bind (·.dst)
  | [], _ => by simp [dstAt]
  | o :: _, 0 => by simp [dstAt]
  | _ :: r, j + 1 => by simp [dstAt, dstAt_eq r j]

/-- is it done? -/
def guardP (ops : List Oper) (o : Oper) (tm : TM) (A B : TM → Prop) : Prop :=
  match o.guard with
  | none => A tm
  | some (j, want) => match dstAt ops j with
    | some t => match lk tm t with
      | some (.bool b) => match want with
        | true => Br b (A ((t, .bool true) :: tm)) (B ((t, .bool false) :: tm))
        | false => Br b (B ((t, .bool true) :: tm)) (A ((t, .bool false) :: tm))
      | _ => False
    | none => False

def putP (N : Nat) (dst : Option Nat) (v : D) (tm : TM) (K : TM → Prop) : Prop :=
  match dst with
  | none => K tm
  | some t => match Nat.blt t N with
    | true => K ((t, v) :: tm)
    | false => False

def limP (nx nw : Nat) (K : Prop) : Prop :=
  match Nat.ble (nx + nw) 999998 with
  | true => K
  | false => False

/-- by the recursor itself: the kernel then meets the very terms that the elaborator made -/
noncomputable def seqP (P : Program) (Γ : Tab) (N : Nat) (ops : List Oper) (l : List Oper) : TM → Mem → Nat → (TM → Mem → Nat → Prop) → Prop :=
  @List.rec Oper (fun _ => TM → Mem → Nat → (TM → Mem → Nat → Prop) → Prop) (fun tm m nx K => K tm m nx)
    (fun o _ ih tm m nx K => guardP ops o tm
      (fun tm => step1 P Γ o.op tm m nx (fun v up nw _ => limP nx nw (putP N o.dst v tm (fun tm => ih tm (up ++ m) (nx + nw) K))))
      (fun tm => putP N o.dst .undef tm (fun tm => ih tm m nx K))) l

theorem seqP_cons {P : Program} {Γ : Tab} {N : Nat} {ops : List Oper} {o : Oper} {r : List Oper} {tm : TM} {m : Mem} {nx : Nat} {K : TM → Mem → Nat → Prop} : seqP P Γ N ops (o :: r) tm m nx K = guardP ops o tm
      (fun tm => step1 P Γ o.op tm m nx (fun v up nw _ => limP nx nw (putP N o.dst v tm (fun tm => seqP P Γ N ops r tm (up ++ m) (nx + nw) K))))
      (fun tm => putP N o.dst .undef tm (fun tm => seqP P Γ N ops r tm m nx K)) := rfl

structure StOk (X : Ctx) (ρ0 : Env) (np N : Nat) (tm : TM) (m : Mem) (nx : Nat) (ρ : Env) (a : Act) (w : World) : Prop where
  inv : Inv X ρ m w
  tmps : ∀ t d, lk tm t = some d → Rep ρ d (a.tmps.getD t undef)
  size : a.tmps.size = N
  defs : a.defers = []
  fix : ∀ i, Fix np i → ρ i = ρ0 i
  used : ∀ i, ρ i ≠ none → i < nx ∨ 1000000 ≤ i
  lim : nx ≤ 999998
  le : np ≤ nx

theorem put_getD {a : Act} {t : Nat} {v : Value} {s : Nat} (h : t < a.tmps.size) : (a.put (some t) v).tmps.getD s undef = if t = s then v else a.tmps.getD s undef := by
  simp only [Act.put]
  by_cases hs : t = s
  · subst hs
    simp [Array.getD, h]
  · rw [if_neg hs]
    simp only [Array.getD_eq_getD_getElem?, Array.getElem?_setIfInBounds_ne hs]

theorem StOk.put {X : Ctx} {ρ0 : Env} {np N : Nat} {tm : TM} {m : Mem} {nx : Nat} {ρ : Env} {a : Act} {w : World} (H : StOk X ρ0 np N tm m nx ρ a w) {dst : Option Nat} {v : D} {v' : Value} {K : TM → Prop} (h : putP N dst v tm K) (hv : Rep ρ v v') :
    ∃ tm', K tm' ∧ StOk X ρ0 np N tm' m nx ρ (a.put dst v') w := by
  cases dst with
  | none => exact ⟨tm, h, H⟩
  | some t =>
    simp only [putP] at h
    split at h <;> try contradiction
    rename_i hb
    have hlt : t < a.tmps.size := by rw [H.size]; rw [blt_eq] at hb; simpa using hb
    refine ⟨_, h, ⟨H.inv, fun s d hs => ?_, by simp [Act.put, H.size], H.defs, H.fix, H.used, H.lim, H.le⟩⟩
    rw [put_getD hlt]
    rw [lk_cons] at hs
    split at hs
    · rename_i heq; rw [if_pos heq]; cases hs; exact hv
    · rename_i heq; rw [if_neg heq]; exact H.tmps s d hs

theorem StOk.same {X : Ctx} {ρ0 : Env} {np N : Nat} {tm tm' : TM} {m : Mem} {nx : Nat} {ρ : Env} {a : Act} {w : World} (H : StOk X ρ0 np N tm m nx ρ a w) (h : ∀ t, lk tm' t = lk tm t) : StOk X ρ0 np N tm' m nx ρ a w :=
  ⟨H.inv, fun t d ht => H.tmps t d (by rw [← h]; exact ht), H.size, H.defs, H.fix, H.used, H.lim, H.le⟩

theorem guard_spec {ops : List Oper} {o : Oper} {tm : TM} {A B : TM → Prop} {X : Ctx} {ρ0 : Env} {np N : Nat} {m : Mem} {nx : Nat} {ρ : Env} {a : Act} {w : World} (h : guardP ops o tm A B) (H : StOk X ρ0 np N tm m nx ρ a w) :
    ∃ tm', (∀ t, lk tm' t = lk tm t) ∧ ((Region.wanted o (yielded ops.toArray a.tmps) = true ∧ A tm') ∨ (Region.wanted o (yielded ops.toArray a.tmps) = false ∧ B tm')) := by
  unfold guardP at h
  cases hg : o.guard with
  | none =>
    simp only [hg] at h
    exact ⟨tm, fun _ => rfl, .inl ⟨by simp [Region.wanted, hg], h⟩⟩
  | some p =>
    obtain ⟨j, want⟩ := p
    simp only [hg] at h
    split at h <;> try contradiction
    rename_i t ht
    split at h <;> try contradiction
    rename_i b hb
    have hv := H.tmps t _ hb
    have hv : a.tmps.getD t undef = .bool b := hv
    have hlt : t < a.tmps.size := by
      rcases Nat.lt_or_ge t a.tmps.size with h' | h'
      · exact h'
      · simp [Array.getD_eq_getD_getElem?, Array.getElem?_eq_none h', undef] at hv
    have hget : a.tmps[t]? = some (.bool b) := by
      rw [Array.getD_eq_getD_getElem?, Array.getElem?_eq_getElem hlt] at hv
      simp at hv
      rw [Array.getElem?_eq_getElem hlt, hv]
    have hy : yielded ops.toArray a.tmps j = some b := by
      unfold yielded
      have : ((ops.toArray[j]?).bind (·.dst)) = some t := by rw [List.getElem?_toArray, ← dstAt_eq, ht]
      rw [this]
      simp [hget]
    have hw : Region.wanted o (yielded ops.toArray a.tmps) = (b == want) := by
      simp [Region.wanted, hg, hy]
    have hlk : ∀ c : Bool, b = c → ∀ s, lk ((t, .bool c) :: tm) s = lk tm s := by
      intro c hc s
      rw [lk_cons]
      split
      · subst_vars; rw [hb]
      · rfl
    cases want with
    | true =>
      simp only at h
      cases b with
      | true => exact ⟨_, hlk true rfl, .inl ⟨by rw [hw]; rfl, h.1 rfl⟩⟩
      | false => exact ⟨_, hlk false rfl, .inr ⟨by rw [hw]; rfl, h.2 rfl⟩⟩
    | false =>
      simp only at h
      cases b with
      | true => exact ⟨_, hlk true rfl, .inr ⟨by rw [hw]; rfl, h.1 rfl⟩⟩
      | false => exact ⟨_, hlk false rfl, .inl ⟨by rw [hw]; rfl, h.2 rfl⟩⟩

theorem Inv.fresh {X : Ctx} {ρ0 : Env} {np N : Nat} {tm : TM} {m : Mem} {nx : Nat} {ρ : Env} {a : Act} {w : World} (H : StOk X ρ0 np N tm m nx ρ a w) {i : Nat} (h1 : nx ≤ i) (h2 : i ≤ 999999) : ρ i = none := by
  cases h : ρ i with
  | none => rfl
  | some L =>
    rcases H.used i (by rw [h]; simp) with h' | h' <;> omega

theorem seq_sound {P : Program} {Γ : Tab} (hΓ : TabOk P Γ) {N : Nat} {X : Ctx} {ρ0 : Env} {np : Nat} {Q : Exit → Act → World → Prop} {K : TM → Mem → Nat → Prop}
    (hK : ∀ tm m nx ρ a w, K tm m nx → StOk X ρ0 np N tm m nx ρ a w → Q .normal a w) (ops : List Oper) :
    ∀ (r : List Oper) (k : Nat) (tm : TM) (m : Mem) (nx : Nat) (ρ : Env) (a : Act) (w : World), ops.drop k = r → seqP P Γ N ops r tm m nx K → StOk X ρ0 np N tm m nx ρ a w →
      wpOps P ops.toArray Q (List.range' k r.length) a w
  | [], k, tm, m, nx, ρ, a, w, _, h, H => by
    simp only [List.length_nil, List.range'_zero, wpOps]
    exact hK tm m nx ρ a w h H
  | o :: r, k, tm, m, nx, ρ, a, w, hd, h, H => by
    have hget : ops.toArray[k]? = some o := by
      rw [List.getElem?_toArray, ← List.head?_drop, hd]; rfl
    have hd' : ops.drop (k + 1) = r := by rw [← List.tail_drop, hd]; rfl
    simp only [List.length_cons, List.range'_succ, wpOps, hget]
    rw [seqP_cons] at h
    obtain ⟨tm', hsame, hw⟩ := guard_spec h H
    have H' := H.same hsame
    rcases hw with ⟨hw, h⟩ | ⟨hw, h⟩
    · rw [if_pos hw]
      left
      obtain ⟨v, up, nw, foot, hR, hdoes, _⟩ := step1_does hΓ (X := X) h
      unfold limP at hR
      split at hR <;> try contradiction
      rename_i hlim
      have hlim : nx + nw ≤ 999998 := Nat.le_of_ble_eq_true hlim
      refine hdoes ρ m w a H'.inv (fun _ _ => rfl) (fun t _ d ht => H'.tmps t d ht) (Inv.fresh H' (by have := H'.lim; omega) (by omega)) (fun i h1 h2 => Inv.fresh H' h1 (by omega)) _ Q ?_
      intro ρ' v' w' hle hdom hv hinv
      have H1 : StOk X ρ0 np N tm' (up ++ m) (nx + nw) ρ' a w' := by
        refine ⟨hinv, fun t d ht => (H'.tmps t d ht).mono hle, H'.size, H'.defs, fun i hi => ?_, fun i hi => ?_, hlim, by have := H'.le; omega⟩
        · rw [← H'.fix i hi]
          cases hri : ρ i with
          | some L => exact hle i L hri
          | none =>
            cases hri' : ρ' i with
            | none => rfl
            | some L' =>
              exfalso
              rcases hdom i (by rw [hri']; simp) with h1 | h1
              · exact h1 hri
              · have := H'.le; unfold Fix at hi; omega
        · rcases hdom i hi with h1 | h1
          · rcases H'.used i h1 with h2 | h2
            · left; omega
            · exact .inr h2
          · left; omega
      obtain ⟨tm2, hk2, H2⟩ := H1.put hR hv
      exact seq_sound hΓ hK ops r (k + 1) tm2 _ _ ρ' _ w' hd' hk2 H2
    · rw [if_neg (by rw [hw]; simp)]
      obtain ⟨tm2, hk2, H2⟩ := H'.put (v' := undef) h trivial
      exact seq_sound hΓ hK ops r (k + 1) tm2 _ _ ρ _ w hd' hk2 H2
end Go.Proofs.YtljkjdhkofbgmaaDoor.Av
