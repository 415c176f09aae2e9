import Derived.Test.YtljkjdhkofbgmaaDoorAv10
namespace Go.Proofs.YtljkjdhkofbgmaaDoor.Av
open Go
set_option linter.all false
set_option maxRecDepth 3000

/-! an operation looks at its operands alone -/
theorem evalL_congr {E E' : Operand → Option D} : ∀ {l : List Operand} (_ : ∀ x ∈ l, E x = E' x), evalL E l = evalL E' l
  | [], _ => rfl
  | x :: xs, h => by
    simp only [evalL, h x (by simp), evalL_congr (l := xs) (fun y hy => h y (by simp [hy]))]

theorem evalP_congr {E E' : Operand → Option D} : ∀ {l : List (Nat × Operand)} (_ : ∀ x ∈ l, E x.2 = E' x.2), evalP E l = evalP E' l
  | [], _ => rfl
  | (k, x) :: xs, h => by
    simp only [evalP, h (k, x) (by simp), evalP_congr (l := xs) (fun y hy => h y (by simp [hy]))]

theorem evalO_congr {E E' : Operand → Option D} {x : Option Operand} (h : ∀ y, x = some y → E y = E' y) : evalO E x = evalO E' x := by
  cases x with
  | none => rfl
  | some y => simp only [evalO, h y rfl]

theorem opE_congr {Γ : Tab} {nx : Nat} {mg : MG} {E E' : Operand → Option D} {alt : Nat} {op : Op} (h : ∀ x ∈ op.operands.toList, E x = E' x) : opE Γ nx mg E alt op = opE Γ nx mg E' alt op := by
  cases op <;> simp only [Op.operands, List.mem_cons, List.not_mem_nil, or_false, forall_eq_or_imp, forall_eq] at h <;> try (simp only [opE]; done)
  all_goals first
    | (simp only [opE, h]; done)
    | (simp only [opE, h.1, h.2]; done)
    | (simp only [opE, h.1, h.2.1, h.2.2]; done)
    | skip
  case build t ps =>
    simp only [opE]
    rw [evalP_congr (fun x hx => h x.2 (List.mem_map_of_mem hx))]
  case buildSlice t n ps =>
    simp only [opE]
    rw [evalP_congr (fun x hx => h x.2 (List.mem_map_of_mem hx))]
  case makeFunc fn first caps =>
    simp only [opE]
    rw [evalL_congr (l := first.toList) (fun x hx => h x (by simp; left; simpa using hx)), evalL_congr (l := caps.toList) (fun x hx => h x (by simp; right; simpa using hx))]
  case slice t x lo hi mx =>
    have h1 : E x = E' x := h x (by simp)
    have h2 : evalO E lo = evalO E' lo := evalO_congr fun y hy => h y (by subst hy; simp)
    have h3 : evalO E hi = evalO E' hi := evalO_congr fun y hy => h y (by subst hy; simp)
    have h4 : evalO E mx = evalO E' mx := evalO_congr fun y hy => h y (by subst hy; simp)
    simp only [opE, h1, h2, h3, h4]
  case call c =>
    simp only [opE]
    cases hc : c.callee with
    | builtin b =>
      simp only
      rw [evalL_congr (l := c.args.toList) (fun x hx => h x (by simp [Call.operands, hc]; simpa using hx))]
    | value f => rfl
    | invoke r n => rfl

/-! what an operation writes, it has looked at -/
def KeysOk (mg : MG) (nx : Nat) (e : Eff) : Prop := ∀ k ∈ e.up.map (·.1), mg k ≠ none ∨ (nx ≤ k ∧ k < nx + e.nw)

theorem KeysOk.pure {mg : MG} {nx : Nat} {ob : Prop} {v : D} : KeysOk mg nx ⟨ob, v, [], 0⟩ := fun k h => by simp at h

theorem newE_keys {mg : MG} {nx : Nat} {T : Ty} {d v : D} {ob : Prop} {e : Eff} (h : newE nx T d v ob = some e) : KeysOk mg nx e := by
  unfold newE at h
  split at h <;> try contradiction
  cases h
  intro k hk
  simp at hk
  subst hk
  exact .inr ⟨Nat.le_refl _, by simp⟩

theorem pureE_keys {mg : MG} {nx : Nat} {v : D} {ob : Prop} {e : Eff} (h : pureE ob v = some e) : KeysOk mg nx e := by
  cases h; exact KeysOk.pure

theorem opE_keys {Γ : Tab} {nx : Nat} {mg : MG} {E : Operand → Option D} {alt : Nat} {op : Op} {e : Eff} (h : opE Γ nx mg E alt op = some e) : KeysOk mg nx e := by
  unfold opE at h
  split at h
  case h_8 => 
    split at h <;> try contradiction
    obtain ⟨b, p, en, i, T, x, _, _, _, _, _, _, rfl⟩ := loadE_inv h
    exact KeysOk.pure
  case h_9 =>
    split at h <;> try contradiction
    split at h <;> try contradiction
    obtain ⟨b, p, en, i, T, x, d', _, hg, _, _, _, _, _, _, rfl⟩ := storeE_inv h
    intro k hk
    simp at hk; subst hk
    exact .inl (by rw [hg]; simp)
  case h_23 =>
    repeat' split at h
    all_goals try contradiction
    unfold builtinE at h
    split at h <;> try contradiction
    · unfold lenE at h
      repeat' split at h
      all_goals first | contradiction | exact pureE_keys h
    · unfold copyE at h
      repeat' split at h
      all_goals first
        | contradiction
        | exact pureE_keys h
        | (cases h
           intro k hk
           simp at hk; subst hk
           exact .inl (by simp [*]))
    · unfold appendE at h
      repeat' split at h
      all_goals first
        | contradiction
        | exact pureE_keys h
        | exact newE_keys h
        | (cases h
           intro k hk
           simp at hk
           rcases hk with rfl | rfl
           · exact .inr ⟨Nat.le_refl _, by simp⟩
           · exact .inl (by simp [*]))
    · unfold minmaxE at h
      repeat' split at h
      all_goals first | contradiction | exact pureE_keys h
    · unfold minmaxE at h
      repeat' split at h
      all_goals first | contradiction | exact pureE_keys h
    · unfold capE at h
      repeat' split at h
      all_goals first | contradiction | exact pureE_keys h
  all_goals (repeat' split at h)
  all_goals first
    | contradiction
    | exact pureE_keys h
    | exact newE_keys h
    | (unfold allocE at h; repeat' split at h
       all_goals first | contradiction | exact newE_keys h)
    | (unfold boxE at h; repeat' split at h
       all_goals first | contradiction | exact newE_keys h)
    | (unfold buildE at h; repeat' split at h
       all_goals first | contradiction | exact pureE_keys h)
    | (unfold buildSliceE at h; repeat' split at h
       all_goals first | contradiction | exact newE_keys h)
    | (unfold ofPair at h; repeat' split at h
       all_goals first | contradiction | (cases h; exact KeysOk.pure))
    | (unfold convE at h; repeat' split at h
       all_goals first | contradiction | exact pureE_keys h | exact newE_keys h | (cases h
                                                                                   intro k hk
                                                                                   simp at hk; subst hk
                                                                                   exact .inl (by simp [*])))
    | (unfold toArrE at h; repeat' split at h
       all_goals first | contradiction | exact pureE_keys h)
    | (unfold makeSliceE at h; repeat' split at h
       all_goals first | contradiction | exact newE_keys h)
    | (unfold sliceE at h; repeat' split at h
       all_goals first | contradiction | exact pureE_keys h)
    | (unfold fieldAddrE at h; repeat' split at h
       all_goals first | contradiction | exact pureE_keys h)
    | (unfold fieldE partE at h; repeat' split at h
       all_goals first | contradiction | (cases h; exact KeysOk.pure))
    | (unfold indexAddrE at h; repeat' split at h
       all_goals first | contradiction | exact pureE_keys h)
    | (unfold indexE partE at h; repeat' split at h
       all_goals first | contradiction | (cases h; exact KeysOk.pure))

/-! an operation that makes no block is the same at any name -/
theorem newE_nw {nx : Nat} {T : Ty} {d v : D} {ob : Prop} {e : Eff} (h : newE nx T d v ob = some e) (h0 : e.nw = 0) : False := by
  unfold newE at h
  split at h <;> try contradiction
  cases h
  cases h0

theorem appendE_nx {Γ : Tab} {nx nx' : Nat} {mg : MG} {alt ts tx : Nat} {s x : D} {e : Eff} (h : appendE Γ nx mg alt ts tx s x = some e) (h0 : e.nw = 0) : appendE Γ nx' mg alt ts tx s x = some e := by
  unfold appendE at h
  repeat' split at h
  all_goals first
    | contradiction
    | exact (newE_nw h h0).elim
    | (cases h; exact absurd h0 Nat.one_ne_zero)
    | (simp only [appendE, *])

theorem convE_nx {Γ : Tab} {nx nx' : Nat} {mg : MG} {s d : Nat} {x : D} {e : Eff} (h : convE Γ nx mg s d x = some e) (h0 : e.nw = 0) : convE Γ nx' mg s d x = some e := by
  unfold convE at h
  repeat' split at h
  all_goals first
    | contradiction
    | exact (newE_nw h h0).elim
    | (simp only [convE, *])

theorem opE_nx {Γ : Tab} {nx nx' : Nat} {mg : MG} {E : Operand → Option D} {alt : Nat} {op : Op} {e : Eff} (h : opE Γ nx mg E alt op = some e) (h0 : e.nw = 0) : opE Γ nx' mg E alt op = some e := by
  cases op
  case alloc t =>
    simp only [opE, allocE] at h
    split at h <;> first | contradiction | exact (newE_nw h h0).elim
  case box t x =>
    simp only [opE, boxE] at h
    repeat' split at h
    all_goals first | contradiction | exact (newE_nw h h0).elim
  case buildSlice t n ps =>
    simp only [opE, buildSliceE] at h
    repeat' split at h
    all_goals first | contradiction | exact (newE_nw h h0).elim
  case makeSlice t l c =>
    simp only [opE, makeSliceE] at h
    repeat' split at h
    all_goals first | contradiction | exact (newE_nw h h0).elim
  case convert s d x =>
    simp only [opE] at h ⊢
    split at h <;> try contradiction
    rename_i a ha
    exact convE_nx h h0
  case call c =>
    simp only [opE] at h ⊢
    cases hc : c.callee with
    | builtin b =>
      simp only [hc] at h ⊢
      split at h <;> try contradiction
      rename_i l hl
      unfold builtinE at h ⊢
      split at h <;> first | contradiction | exact appendE_nx h h0 | exact h
    | value f => simp only [hc] at h; cases h
    | invoke r n => simp only [hc] at h; cases h
  all_goals exact h
end Go.Proofs.YtljkjdhkofbgmaaDoor.Av
