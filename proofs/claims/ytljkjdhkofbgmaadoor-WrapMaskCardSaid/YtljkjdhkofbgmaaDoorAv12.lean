import Derived.Test.YtljkjdhkofbgmaaDoorAv11
namespace Go.Proofs.YtljkjdhkofbgmaaDoor.Av
open Go
set_option linter.all false
set_option maxRecDepth 3000

def memB (i : Nat) : List Nat → Bool
  | [] => false
  | j :: r => match Nat.beq j i with
    | true => true
    | false => memB i r

theorem memB_iff {i : Nat} : ∀ {l : List Nat}, memB i l = true ↔ i ∈ l
  | [] => by simp [memB]
  | j :: r => by
    simp only [memB, List.mem_cons]
    split
    · rename_i h; simp [Nat.eq_of_beq_eq_true h]
    · rename_i h
      rw [memB_iff (l := r)]
      constructor
      · exact .inr
      · rintro (rfl | h')
        · rw [Nat.beq_refl] at h; cases h
        · exact h'

def restr (g : MG) (l : List Nat) : MG := fun i => match memB i l with
  | true => g i
  | false => none

/-- the blocks that an operation's operands name -/
def idsOf (E : Operand → Option D) : List Operand → List Nat
  | [] => []
  | x :: xs => match E x with
    | some (.ptr b _) => b :: idsOf E xs
    | some (.slice b _ _ _ _) => b :: idsOf E xs
    | _ => idsOf E xs

def tmpsOf : List Operand → List Nat
  | [] => []
  | .tmp t :: xs => t :: tmpsOf xs
  | _ :: xs => tmpsOf xs

theorem tmpsOf_mem {t : Nat} : ∀ {l : List Operand}, .tmp t ∈ l → t ∈ tmpsOf l
  | [], h => by simp at h
  | x :: xs, h => by
    rcases List.mem_cons.1 h with rfl | h
    · simp [tmpsOf]
    · have := tmpsOf_mem h
      cases x <;> simp [tmpsOf, this]

theorem idsOf_mem {E : Operand → Option D} {x : Operand} {b : Nat} {p : Path} (hE : E x = some (.ptr b p)) : ∀ {l : List Operand}, x ∈ l → b ∈ idsOf E l
  | [], h => by simp at h
  | y :: xs, h => by
    rcases List.mem_cons.1 h with rfl | h
    · simp [idsOf, hE]
    · have := idsOf_mem hE h
      simp only [idsOf]
      split <;> simp [this]

def callOf : Op → Option (Operand × List Operand)
  | .call c => match c.callee with
    | .value f => some (f, c.args.toList)
    | _ => none
  | _ => none

def isApp : Op → Bool
  | .call c => match c.callee with
    | .builtin .append => true
    | _ => false
  | _ => false

structure CallG (P : Program) (f : Nat) (args : List D) (m : Mem) (nx : Nat) (R : D → Mem → Nat → List Nat → Prop) : Prop where
  out : ∃ (np : Nat) (m0 : Mem) (args0 : List D) (o : Out) (σ : List Nat), AC P f args0 np m0 o ∧ (nx + o.nw.length ≤ 999999 ∧ np + o.nw.length ≤ 999999) ∧ args = D.rens (sig np nx o.nw.length σ) args0 ∧
    MatchM (sig np nx o.nw.length σ) m m0 ∧ namesB np (sig np nx o.nw.length σ) m0 m0 = true ∧ wrB m0 o.wr = true ∧
    R (o.ret.ren (sig np nx o.nw.length σ)) (upM (sig np nx o.nw.length σ) nx m0 o) o.nw.length (footM (sig np nx o.nw.length σ) m0)

def effP (Γ : Tab) (op : Op) (tm : TM) (m : Mem) (nx : Nat) (alt : Nat) (foot : List Nat) (R : D → Mem → Nat → List Nat → Prop) : Prop :=
  match opE Γ nx (restr (get m) foot) (opd tm (get m)) alt op with
  | some ⟨ob, v, up, nw⟩ => ob ∧ R v up nw foot
  | none => False

/-- an operation's effect, and what follows (a structure: a walk's rules meet it as it stands) -/
structure EffG (Γ : Tab) (op : Op) (tm : TM) (m : Mem) (nx : Nat) (alt : Nat) (foot : List Nat) (R : D → Mem → Nat → List Nat → Prop) : Prop where
  out : effP Γ op tm m nx alt foot R

def step1 (P : Program) (Γ : Tab) (op : Op) (tm : TM) (m : Mem) (nx : Nat) (R : D → Mem → Nat → List Nat → Prop) : Prop :=
  match callOf op with
  | some (fv, args) => match opd tm (get m) fv with
    | some (.fn f bd caps) => match evalL (opd tm (get m)) args with
      | some ds => CallG P f (bd ++ (ds ++ caps)) m nx (fun v up nw ft => R v up nw (idsOf (opd tm (get m)) op.operands.toList ++ ft))
      | none => False
    | _ => False
  | none => match isApp op with
    | true => ∃ alt, EffG Γ op tm m nx alt (idsOf (opd tm (get m)) op.operands.toList) R
    | false => EffG Γ op tm m nx 0 (idsOf (opd tm (get m)) op.operands.toList) R

/-- an operation does this, wherever what it looks at is as it was -/
def Does (P : Program) (X : Ctx) (tm : TM) (g : MG) (o : Oper) (nx : Nat) (v : D) (up : Mem) (nw : Nat) (foot : List Nat) : Prop :=
  ∀ (ρ : Env) (m : Mem) (w : World) (a : Act), Inv X ρ m w → (∀ b ∈ foot, get m b = g b) → (∀ t ∈ tmpsOf o.op.operands.toList, ∀ d, lk tm t = some d → Rep ρ d (a.tmps.getD t undef)) →
    ρ 999999 = none → (∀ i, nx ≤ i → i < nx + nw → ρ i = none) →
    ∀ (next : Act → World → Prop) (Q : Exit → Act → World → Prop), (∀ ρ' v' w', ρ.le ρ' → (∀ i, ρ' i ≠ none → ρ i ≠ none ∨ (nx ≤ i ∧ i < nx + nw)) → Rep ρ' v v' → Inv X ρ' (up ++ m) w' → next (a.put o.dst v') w') →
      o.wp P a w next Q

theorem opd_rep {X : Ctx} {ρ : Env} {m : Mem} {w : World} (hI : Inv X ρ m w) {tm : TM} {g : MG} {a : Act} {ops : List Operand} (hg : ∀ b, b ∈ idsOf (opd tm g) ops → get m b = g b)
    (ht : ∀ t ∈ tmpsOf ops, ∀ d, lk tm t = some d → Rep ρ d (a.tmps.getD t undef)) {x : Operand} (hx : x ∈ ops) {d : D} (h : opd tm g x = some d) : Rep ρ d (a.eval x) := by
  cases x with
  | tmp t => exact ht t (tmpsOf_mem hx) d h
  | const v => exact ofConst_spec h ρ
  | func f =>
    simp only [opd, Option.some.injEq] at h
    subst h
    exact ⟨[], [], rfl, trivial, trivial⟩
  | global v =>
    have h0 := h
    simp only [opd] at h
    split at h <;> try contradiction
    rename_i e he
    cases h
    have := hg (gid v) (idsOf_mem h0 hx)
    rw [he] at this
    obtain ⟨L, h1, h2⟩ := hI.sat (gid v) e this
    obtain ⟨h3, h4⟩ := hI.glob v L h1
    refine ⟨L, h1, ?_⟩
    rw [h3, h4]
    rfl

theorem rens_mem (s : Nat → Nat) : ∀ {m0 : Mem} {i : Nat} {e : Option Ent}, (i, e) ∈ m0 → s i ∈ footM s m0
  | (j, e') :: r, i, e, h => by
    rcases List.mem_cons.1 h with h | h
    · cases h; simp [footM]
    · simp [footM, rens_mem s h]

theorem matchM_congr {s : Nat → Nat} {m m' : Mem} : ∀ {m0 : Mem}, (∀ b ∈ footM s m0, get m' b = get m b) → MatchM s m m0 → MatchM s m' m0
  | [], _, _ => trivial
  | (i, some e) :: r, h, H => by
    refine ⟨?_, matchM_congr (m0 := r) (fun b hb => h b (by simp [footM, hb])) H.2⟩
    obtain ⟨e', h1, h2⟩ := H.1
    exact ⟨e', by rw [h (s i) (by simp [footM])]; exact h1, h2⟩
  | (i, none) :: r, h, H => matchM_congr (m0 := r) (fun b hb => h b (by simp [footM, hb])) H

theorem step1_does {P : Program} {Γ : Tab} (hΓ : TabOk P Γ) {X : Ctx} {o : Oper} {tm : TM} {m : Mem} {nx : Nat} {R : D → Mem → Nat → List Nat → Prop} (h : step1 P Γ o.op tm m nx R) :
    ∃ v up nw foot, R v up nw foot ∧ Does P X tm (get m) o nx v up nw foot ∧ (∀ k ∈ up.map (·.1), k ∈ foot ∨ (nx ≤ k ∧ k < nx + nw)) := by
  obtain ⟨dst, op, type, pos, after, guard⟩ := o
  dsimp only at h
  unfold step1 at h
  split at h
  · -- a call
    rename_i fv args hcall
    split at h <;> try contradiction
    rename_i f bd caps hf
    split at h <;> try contradiction
    rename_i ds hds
    obtain ⟨np, m0, args0, o, σ, hac, ⟨hl1, hl2⟩, hargs, hmatch, hnames, hwr, hR⟩ := h.out
    obtain ⟨c, rfl, hc1, hc2⟩ : ∃ c, op = .call c ∧ c.callee = .value fv ∧ c.args.toList = args := by
      cases op <;> simp only [callOf] at hcall <;> try contradiction
      rename_i c
      cases hcc : c.callee <;> simp only [hcc] at hcall <;> try contradiction
      simp only [Option.some.injEq, Prod.mk.injEq] at hcall
      exact ⟨c, rfl, by rw [hcc, hcall.1], hcall.2⟩
    refine ⟨_, _, _, _, hR, ?_, ?_⟩
    · intro ρ m' w a hI hg ht hres hnew next Q hnext
      have hops : (Op.call c).operands.toList = fv :: args := by
        simp only [Op.operands, Call.operands, hc1, Array.toList_append]
        rw [hc2]
        rfl
      have hrep : ∀ x, x ∈ fv :: args → ∀ d, opd tm (get m) x = some d → Rep ρ d (a.eval x) := fun x hx d hd =>
        opd_rep hI (fun b hb => hg b (List.mem_append.2 (.inl hb))) ht (by rw [hops]; exact hx) hd
      obtain ⟨bs, cs, hfv, hbs, hcs⟩ := hrep fv (by simp) _ hf
      have hds' : All2 (Rep ρ) ds (args.map a.eval) := by
        have hgen : ∀ (l : List Operand) (ds : List D), (∀ x ∈ l, x ∈ fv :: args) → evalL (opd tm (get m)) l = some ds → All2 (Rep ρ) ds (l.map a.eval) := by
          intro l
          induction l with
          | nil => intro ds _ h; simp only [evalL, Option.some.injEq] at h; subst h; trivial
          | cons x l ih =>
            intro ds hsub h
            simp only [evalL] at h
            split at h <;> try contradiction
            rename_i d hd
            split at h <;> try contradiction
            rename_i ds' hds'
            cases h
            exact ⟨hrep x (hsub x (by simp)) d hd, ih ds' (fun y hy => hsub y (by simp [hy])) hds'⟩
        exact hgen args ds (fun x hx => by simp [hx]) hds
      have hvals : All2 (Rep ρ) (D.rens (sig np nx o.nw.length σ) args0) (bs ++ (args.map a.eval ++ cs)) := by
        have hB : ∀ d v, RepB ρ d v → Rep ρ d v := fun d v h => by cases d <;> first | exact h | exact h.elim
        rw [← hargs]
        exact (hbs.mono hB).append (hds'.append (hcs.mono hB))
      have hsound := call_sound hI hac hres hnew hl1 hl2 (matchM_congr (fun b hb => hg b (List.mem_append.2 (.inr hb))) hmatch) hnames hwr hvals
      obtain ⟨fn, hfn, hbody, hname⟩ := hac.1
      unfold Oper.wp
      have hexec : (execOp a.eval ⟨dst, .call c, type, pos, after, guard⟩).run P w = .ok (.enter f (bs ++ (args.map a.eval ++ cs)).toArray) w := by
        have harr : c.args.map a.eval = (args.map a.eval).toArray := Array.ext' (by rw [Array.toList_map, hc2])
        simp only [execOp, resolve, hc1, hfv, Deferred.ofValue, Sem.run_bind, Sem.run_pure, Result.andThen_ok, invoke, harr]
        have : ((bs.toArray ++ (List.map a.eval args).toArray) ++ cs.toArray) = (bs ++ (args.map a.eval ++ cs)).toArray := by simp
        rw [this]
        simp only [callFunc, Sem.run_bind, run_program, Result.andThen_ok, hfn, hname, Bool.false_eq_true, if_false, hbody, Sem.run_pure]
      rw [hexec, Oper.upon_enter]
      refine hsound.mono ?_
      rintro e w' ⟨v, ρ', rfl, q1, q2, q3, q4⟩
      exact hnext ρ' v w' q1 q2 q3 q4
    · intro k hk
      unfold upM at hk
      rw [List.map_append, List.mem_append] at hk
      rcases hk with hk | hk
      · rw [newsM_keys, newsS_length] at hk; exact .inr hk
      · left
        have : ∀ l, wrB m0 l = true → k ∈ (wrS (sig np nx o.nw.length σ) m0 l).map (·.1) → k ∈ footM (sig np nx o.nw.length σ) m0 := by
          intro l
          induction l with
          | nil => intro _ h; simp [wrS] at h
          | cons x l ih =>
            intro hl h
            obtain ⟨i, d⟩ := x
            obtain ⟨e, he, hr⟩ := wrB_spec hl (i := i) (d := d) (by simp)
            have hrest : wrB m0 l = true := by simp only [wrB, he, hr] at hl; exact hl
            have hi := rens_mem (sig np nx o.nw.length σ) (get_mem he)
            cases d with
            | none =>
              simp only [wrS, List.map_cons, List.mem_cons] at h
              rcases h with rfl | h
              · exact hi
              · exact ih hrest h
            | some d =>
              simp only [wrS, he, List.map_cons, List.mem_cons] at h
              rcases h with rfl | h
              · exact hi
              · exact ih hrest h
        exact List.mem_append.2 (.inr (this o.wr hwr hk))
  · -- any other one
    have key : ∀ alt, effP Γ op tm m nx alt (idsOf (opd tm (get m)) op.operands.toList) R → _ := fun alt h => by
      show ∃ v up nw foot, R v up nw foot ∧ Does P X tm (get m) ⟨dst, op, type, pos, after, guard⟩ nx v up nw foot ∧ (∀ k ∈ up.map (·.1), k ∈ foot ∨ (nx ≤ k ∧ k < nx + nw))
      unfold effP at h
      split at h <;> try contradiction
      rename_i ob v up nw he
      refine ⟨v, up, nw, _, h.2, ?_, ?_⟩
      · intro ρ m' w a hI hg ht hres hnew next Q hnext
        let E' : Operand → Option D := fun x => @ite _ (x ∈ op.operands.toList) (Classical.propDecidable _) (opd tm (get m) x) none
        have hE : ∀ x d, E' x = some d → Rep ρ d (a.eval x) := by
          intro x d hx
          by_cases hmem : x ∈ op.operands.toList
          · have : E' x = opd tm (get m) x := if_pos hmem
            rw [this] at hx
            exact opd_rep hI hg ht hmem hx
          · have : E' x = none := if_neg hmem
            rw [this] at hx; cases hx
        have he' : opE Γ nx (restr (get m) (idsOf (opd tm (get m)) op.operands.toList)) E' alt op = some ⟨ob, v, up, nw⟩ := by
          rw [← he]
          refine (opE_congr fun x hx => ?_).symm
          exact (if_pos hx).symm
        have hmg : ∀ b e, restr (get m) (idsOf (opd tm (get m)) op.operands.toList) b = some e → get m' b = some e := by
          intro b e hb
          unfold restr at hb
          split at hb <;> try contradiction
          rename_i hm
          rw [hg b (memB_iff.1 hm)]; exact hb
        have hos : OpSound P (execOp a.eval ⟨dst, op, type, pos, after, guard⟩) X ρ m' w nx ⟨ob, v, up, nw⟩ := by
          rcases Nat.eq_zero_or_pos nw with h0 | h0
          · subst h0
            obtain ⟨v', w', ρ', h1, h2, h3, h4⟩ := op_sound hΓ hI hmg hres hE (o := ⟨dst, op, type, pos, after, guard⟩) (opE_nx (nx' := 999999) he' rfl) h.1
            refine ⟨v', w', ρ', h1, h2, fun i hi => ?_, h4⟩
            rcases h3 i hi with h5 | h5
            · exact .inl h5
            · exact absurd h5 (by simp only [Nat.add_zero]; omega)
          · exact op_sound hΓ hI hmg (hnew nx (Nat.le_refl _) (by omega)) hE (o := ⟨dst, op, type, pos, after, guard⟩) he' h.1
        obtain ⟨v', w', ρ', h1, h2, h3, h4, h5⟩ := hos
        have := hnext ρ' v' w' h2 h3 h4 h5
        unfold Oper.wp
        rcases h1 with h1 | ⟨rfl, h1⟩
        · rw [h1, Oper.upon_value]; exact this
        · rw [h1, Oper.upon_skip]; exact this
      · intro k hk
        rcases opE_keys he k hk with h' | h'
        · left
          unfold restr at h'
          split at h'
          · rename_i hb; exact memB_iff.1 hb
          · exact absurd rfl h'
        · exact .inr h'
    split at h
    · obtain ⟨alt, h⟩ := h
      exact key alt h.out
    · exact key 0 h.out
end Go.Proofs.YtljkjdhkofbgmaaDoor.Av
