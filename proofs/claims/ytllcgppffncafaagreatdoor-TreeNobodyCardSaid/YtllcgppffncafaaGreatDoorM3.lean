import Derived.Test.YtllcgppffncafaaGreatDoorM2
import Derived.RangeFuncLeaves
import Derived.RangeFuncFrom
import Derived.OrdersIn
import Derived.KernelRfl
import Derived.DefersIn
namespace Go.Proofs.YtllcgppffncafaaGreatDoor.Av
open Go
set_option linter.all false
set_option maxRecDepth 3000
def aBO (i : Nat) : List Nat → Bool
 |[] => false
 |j :: r => match Nat.beq j i with
  |true => true
  |false => aBO i r
theorem fF {i : Nat} : ∀ {l : List Nat}, aBO i l = true ↔ i ∈ l
 |[] => by simp [aBO]
 |j :: r => by
  simp only [aBO, List.mem_cons]
  split
  ·rename_i h; simp [Nat.eq_of_beq_eq_true h]
  ·rename_i h
   rw [fF (l := r)]
   constructor
   ·exact .inr
   ·rintro (rfl | h')
    ·rw [Nat.beq_refl] at h; cases h
    ·exact h'
def kV (g : MG) (l : List Nat) : MG := fun i => match aBO i l with
 |true => g i
 |false => none
def pG (E : Operand → Option D) : List Operand → List Nat
 |[] => []
 |x :: xs => match E x with
  |some (.ptr b _) => b :: pG E xs
  |some (.slice b _ _ _ _) => b :: pG E xs
  |_ => pG E xs
def dI : List Operand → List Nat
 |[] => []
 |.tmp t :: xs => t :: dI xs
 |_ :: xs => dI xs
theorem kR {t : Nat} : ∀ {l : List Operand}, .tmp t ∈ l → t ∈ dI l
 |[], h => by simp at h
 |x :: xs, h => by
  rcases List.mem_cons.1 h with rfl | h
  ·simp [dI]
  ·have := kR h
   cases x <;> simp [dI, this]
theorem uQ {E : Operand → Option D} {x : Operand} {b : Nat} {p : cK} (hE : E x = some (.ptr b p)) : ∀ {l : List Operand}, x ∈ l → b ∈ pG E l
 |[], h => by simp at h
 |y :: xs, h => by
  rcases List.mem_cons.1 h with rfl | h
  ·simp [pG, hE]
  ·have := uQ hE h
   simp only [pG]
   split <;> simp [this]
def aCm : Op → Option (Operand × List Operand)
 |.call c => match c.callee with
  |.value f => some (f, c.args.toList)
  |_ => none
 |_ => none
def isApp : Op → Bool
 |.call c => match c.callee with
  |.builtin .append => true
  |_ => false
 |_ => false
structure CallG (P : Program) (f : Nat) (args : List D) (m : Mem) (nx : Nat) (R : D → Mem → Nat → List Nat → Prop) : Prop where
 out : ∃ (np : Nat) (m0 : Mem) (args0 : List D) (o : Out) (σ : List Nat), AC P f args0 np m0 o ∧ (nx + o.nw.length ≤ 999999 ∧ np + o.nw.length ≤ 999999) ∧ args = D.rens (sig np nx o.nw.length σ) args0 ∧
  bQ (sig np nx o.nw.length σ) m m0 ∧ bS np (sig np nx o.nw.length σ) m0 m0 = true ∧ wrB m0 o.wr = true ∧
  R (o.ret.ren (sig np nx o.nw.length σ)) (upM (sig np nx o.nw.length σ) nx m0 o) o.nw.length (iX (sig np nx o.nw.length σ) m0)
def aEn (Γ : Tab) (op : Op) (tm : TM) (m : Mem) (nx : Nat) (alt : Nat) (foot : List Nat) (R : D → Mem → Nat → List Nat → Prop) : Prop :=
 match opE Γ nx (kV (get m) foot) (opd tm (get m)) alt op with
 |some ⟨ob, v, up, nw⟩ => ob ∧ R v up nw foot
 |none => False
structure EffG (Γ : Tab) (op : Op) (tm : TM) (m : Mem) (nx : Nat) (alt : Nat) (foot : List Nat) (R : D → Mem → Nat → List Nat → Prop) : Prop where
 out : aEn Γ op tm m nx alt foot R
def lT (op : Op) (E : Operand → Option D) : List Nat :=
 match op with
 |.move (.tmp _) => []
 |_ => pG E op.operands.toList
def rD (P : Program) (Γ : Tab) (op : Op) (tm : TM) (m : Mem) (nx : Nat) (R : D → Mem → Nat → List Nat → Prop) : Prop :=
 match aCm op with
 |some (fv, args) => match opd tm (get m) fv with
  |some (.fn f bd caps) => match jK (opd tm (get m)) args with
   |some ds => CallG P f (bd ++ (ds ++ caps)) m nx (fun v up nw ft => R v up nw (pG (opd tm (get m)) op.operands.toList ++ ft))
   |none => False
  |_ => False
 |none => match isApp op with
  |true => ∃ alt, EffG Γ op tm m nx alt (lT op (opd tm (get m))) R
  |false => EffG Γ op tm m nx 0 (lT op (opd tm (get m))) R
def Does0 (P : Program) (X : Ctx) (tm : TM) (g : MG) (o : Oper) (nx : Nat) (v : D) (up : Mem) (nw : Nat) (foot : List Nat) : Prop :=
 ∀ (ρ : Env) (m : Mem) (w : World) (a : Act), Inv X ρ m w → (∀ b ∈ foot, get m b = g b) → (∀ t ∈ dI o.op.operands.toList, ∀ d, lk tm t = some d → Rep ρ d (a.tmps.getD t undef)) →
  ρ 999999 = none → (∀ i, nx ≤ i → i < nx + nw → ρ i = none) →
  ∀ (next : Act → World → Prop) (Q : Exit → Act → World → Prop), (∀ ρ' v' w', ρ.le ρ' → Dom X nx nw ρ ρ' → Rep ρ' v v' → Inv X ρ' (up ++ m) w' → next (a.put o.dst v') w') →
   o.wp P a w next Q
theorem xA {X : Ctx} {ρ : Env} {m : Mem} {w : World} (hI : Inv X ρ m w) {tm : TM} {g : MG} {a : Act} {ops : List Operand} (hg : ∀ b, b ∈ pG (opd tm g) ops → get m b = g b)
  (ht : ∀ t ∈ dI ops, ∀ d, lk tm t = some d → Rep ρ d (a.tmps.getD t undef)) {x : Operand} (hx : x ∈ ops) {d : D} (h : opd tm g x = some d) : Rep ρ d (a.eval x) := by
 cases x with
 |tmp t => exact ht t (kR hx) d h
 |const v => exact uA h ρ
 |func f =>
  simp only [opd, Option.some.injEq] at h
  subst h
  exact ⟨[], [], rfl, trivial, trivial⟩
 |global v =>
  have h0 := h
  simp only [opd] at h
  split at h <;> try contradiction
  rename_i hlt
  split at h <;> try contradiction
  rename_i e he
  cases h
  have := hg (gid v) (uQ h0 hx)
  rw [he] at this
  obtain ⟨L, h1, h2⟩ := hI.sat (gid v) e this
  obtain ⟨h3, h4⟩ := hI.glob v L (Nat.le_of_ble_eq_true hlt) h1
  refine ⟨L, h1, ?_⟩
  rw [h3, h4]
  rfl
theorem aDe {X : Ctx} {ρ : Env} {m : Mem} {w : World} (hI : Inv X ρ m w) {tm : TM} {g : MG} {a : Act} {op : Op} (hg : ∀ b, b ∈ lT op (opd tm g) → get m b = g b)
  (ht : ∀ t ∈ dI op.operands.toList, ∀ d, lk tm t = some d → Rep ρ d (a.tmps.getD t undef)) {x : Operand} (hx : x ∈ op.operands.toList) {d : D} (h : opd tm g x = some d) : Rep ρ d (a.eval x) := by
 by_cases hm : ∃ t, op = .move (.tmp t)
 ·obtain ⟨t, rfl⟩ := hm
  have hx' : x = .tmp t := by simpa [Op.operands] using hx
  subst hx'
  exact ht t (kR hx) d h
 ·have e : lT op (opd tm g) = pG (opd tm g) op.operands.toList := by
   unfold lT
   split
   ·rename_i t; exact absurd ⟨t, rfl⟩ hm
   ·rfl
  exact xA hI (fun b hb => hg b (by rw [e]; exact hb)) ht hx h
theorem yZ (s : Nat → Nat) : ∀ {m0 : Mem} {i : Nat} {e : Option Ent}, (i, e) ∈ m0 → s i ∈ iX s m0
 |(j, e') :: r, i, e, h => by
  rcases List.mem_cons.1 h with h | h
  ·cases h; simp [iX]
  ·simp [iX, yZ s h]
theorem g8 {s : Nat → Nat} {m m' : Mem} : ∀ {m0 : Mem}, (∀ b ∈ iX s m0, get m' b = get m b) → bQ s m m0 → bQ s m' m0
 |[], _, _ => trivial
 |(i, some e) :: r, h, H => by
  refine ⟨?_, g8 (m0 := r) (fun b hb => h b (by simp [iX, hb])) H.2⟩
  obtain ⟨e', h1, h2⟩ := H.1
  exact ⟨e', by rw [h (s i) (by simp [iX])]; exact h1, h2⟩
 |(i, none) :: r, h, H => g8 (m0 := r) (fun b hb => h b (by simp [iX, hb])) H
theorem wF {P : Program} {Γ : Tab} (hΓ : b8 P Γ) {o : Oper} {tm : TM} {m : Mem} {nx : Nat} {R : D → Mem → Nat → List Nat → Prop} (h : rD P Γ o.op tm m nx R) :
  ∃ v up nw foot, R v up nw foot ∧ (∀ X : Ctx, Does0 P X tm (get m) o nx v up nw foot) ∧ (∀ k ∈ up.map (·.1), k ∈ foot ∨ (nx ≤ k ∧ k < nx + nw)) := by
 obtain ⟨dst, op, type, pos, after, guard⟩ := o
 dsimp only at h
 unfold rD at h
 split at h
 ·-- a call
  rename_i fv args hcall
  split at h <;> try contradiction
  rename_i f bd caps hf
  split at h <;> try contradiction
  rename_i ds hds
  obtain ⟨np, m0, args0, o, σ, hac, ⟨hl1, hl2⟩, hargs, hmatch, hnames, hwr, hR⟩ := h.out
  obtain ⟨c, rfl, hc1, hc2⟩ : ∃ c, op = .call c ∧ c.callee = .value fv ∧ c.args.toList = args := by
   cases op <;> simp only [aCm] at hcall <;> try contradiction
   rename_i c
   cases hcc : c.callee <;> simp only [hcc] at hcall <;> try contradiction
   simp only [Option.some.injEq, Prod.mk.injEq] at hcall
   exact ⟨c, rfl, by rw [hcc, hcall.1], hcall.2⟩
  refine ⟨_, _, _, _, hR, ?_, ?_⟩
  ·intro X ρ m' w a hI hg ht hres hnew next Q hnext
   have hops : (Op.call c).operands.toList = fv :: args := by
    simp only [Op.operands, Call.operands, hc1, Array.toList_append]
    rw [hc2]
    rfl
   have hrep : ∀ x, x ∈ fv :: args → ∀ d, opd tm (get m) x = some d → Rep ρ d (a.eval x) := fun x hx d hd =>
    xA hI (fun b hb => hg b (List.mem_append.2 (.inl hb))) ht (by rw [hops]; exact hx) hd
   obtain ⟨bs, cs, hfv, hbs, hcs⟩ := hrep fv (by simp) _ hf
   have hds' : All2 (Rep ρ) ds (args.map a.eval) := by
    have hgen : ∀ (l : List Operand) (ds : List D), (∀ x ∈ l, x ∈ fv :: args) → jK (opd tm (get m)) l = some ds → All2 (Rep ρ) ds (l.map a.eval) := by
     intro l
     induction l with
     |nil => intro ds _ h; simp only [jK, Option.some.injEq] at h; subst h; trivial
     |cons x l ih =>
      intro ds hsub h
      simp only [jK] at h
      split at h <;> try contradiction
      rename_i d hd
      split at h <;> try contradiction
      rename_i ds' hds'
      cases h
      exact ⟨hrep x (hsub x (by simp)) d hd, ih ds' (fun y hy => hsub y (by simp [hy])) hds'⟩
    exact hgen args ds (fun x hx => by simp [hx]) hds
   have hvals : All2 (Rep ρ) (D.rens (sig np nx o.nw.length σ) args0) (bs ++ (args.map a.eval ++ cs)) := by
    have hB : ∀ d v, RepB ρ d v → Rep ρ d v := fun d v h => by cases d <;> first | exact h | exact h.elim
    rw [← hargs]
    exact (hbs.mono hB).append (hds'.append (hcs.mono hB))
   have hsound := qV hI hac hres hnew hl1 hl2 (g8 (fun b hb => hg b (List.mem_append.2 (.inr hb))) hmatch) hnames hwr hvals
   obtain ⟨fn, hfn, hbody, hname⟩ := hac.1
   unfold Oper.wp
   have hexec : (execOp a.eval ⟨dst, .call c, type, pos, after, guard⟩).run P w = .ok (.enter f (bs ++ (args.map a.eval ++ cs)).toArray) w := by
    have harr : c.args.map a.eval = (args.map a.eval).toArray := Array.ext' (by rw [Array.toList_map, hc2])
    simp only [execOp, resolve, hc1, hfv, Deferred.ofValue, Sem.run_bind, Sem.run_pure, Result.andThen_ok, invoke, harr]
    have : ((bs.toArray ++ (List.map a.eval args).toArray) ++ cs.toArray) = (bs ++ (args.map a.eval ++ cs)).toArray := by simp
    rw [this]
    simp only [callFunc, Sem.run_bind, run_program, Result.andThen_ok, hfn, hname, Bool.false_eq_true, if_false, hbody, Sem.run_pure]
   rw [hexec, Oper.upon_enter]
   refine hsound.mono ?_
   rintro e w' ⟨v, ρ', rfl, q1, q2, q3, q4⟩
   exact hnext ρ' v w' q1 q2 q3 q4
  ·intro k hk
   unfold upM at hk
   rw [List.map_append, List.mem_append] at hk
   rcases hk with hk | hk
   ·rw [eM, fE] at hk; exact .inr hk
   ·left
    have : ∀ l, wrB m0 l = true → k ∈ (wrS (sig np nx o.nw.length σ) m0 l).map (·.1) → k ∈ iX (sig np nx o.nw.length σ) m0 := by
     intro l
     induction l with
     |nil => intro _ h; simp [wrS] at h
     |cons x l ih =>
      intro hl h
      obtain ⟨i, d⟩ := x
      obtain ⟨e, he, hr⟩ := jS hl (i := i) (d := d) (by simp)
      have hrest : wrB m0 l = true := by simp only [wrB, he, hr] at hl; exact hl
      have hi := yZ (sig np nx o.nw.length σ) (cC he)
      cases d with
      |none =>
       simp only [wrS, List.map_cons, List.mem_cons] at h
       rcases h with rfl | h
       ·exact hi
       ·exact ih hrest h
      |some d =>
       simp only [wrS, he, List.map_cons, List.mem_cons] at h
       rcases h with rfl | h
       ·exact hi
       ·exact ih hrest h
    exact List.mem_append.2 (.inr (this o.wr hwr hk))
 ·-- any other one
  have key : ∀ alt, aEn Γ op tm m nx alt (lT op (opd tm (get m))) R → _ := fun alt h => by
   show ∃ v up nw foot, R v up nw foot ∧ (∀ X : Ctx, Does0 P X tm (get m) ⟨dst, op, type, pos, after, guard⟩ nx v up nw foot) ∧ (∀ k ∈ up.map (·.1), k ∈ foot ∨ (nx ≤ k ∧ k < nx + nw))
   unfold aEn at h
   split at h <;> try contradiction
   rename_i ob v up nw he
   refine ⟨v, up, nw, _, h.2, ?_, ?_⟩
   ·intro X ρ m' w a hI hg ht hres hnew next Q hnext
    let E' : Operand → Option D := fun x => @ite _ (x ∈ op.operands.toList) (Classical.propDecidable _) (opd tm (get m) x) none
    have hE : ∀ x d, E' x = some d → Rep ρ d (a.eval x) := by
     intro x d hx
     by_cases hmem : x ∈ op.operands.toList
     ·have : E' x = opd tm (get m) x := if_pos hmem
      rw [this] at hx
      exact aDe hI hg ht hmem hx
     ·have : E' x = none := if_neg hmem
      rw [this] at hx; cases hx
    have he' : opE Γ nx (kV (get m) (lT op (opd tm (get m)))) E' alt op = some ⟨ob, v, up, nw⟩ := by
     rw [← he]
     refine (aCF fun x hx => ?_).symm
     exact (if_pos hx).symm
    have hmg : ∀ b e, kV (get m) (lT op (opd tm (get m))) b = some e → get m' b = some e := by
     intro b e hb
     unfold kV at hb
     split at hb <;> try contradiction
     rename_i hm
     rw [hg b (fF.1 hm)]; exact hb
    have hos : OpSound P (execOp a.eval ⟨dst, op, type, pos, after, guard⟩) X ρ m' w nx ⟨ob, v, up, nw⟩ := by
     rcases Nat.eq_zero_or_pos nw with h0 | h0
     ·subst h0
      obtain ⟨v', w', ρ', h1, h2, h3, h4⟩ := zG hΓ hI hmg hres hE (o := ⟨dst, op, type, pos, after, guard⟩) (opE_nx (nx' := 999999) he' rfl) h.1
      refine ⟨v', w', ρ', h1, h2, fun i hi => ?_, h4⟩
      rcases h3 i hi with h5 | h5
      ·exact .inl h5
      ·exact absurd h5 (by simp only [Nat.add_zero]; omega)
     ·exact zG hΓ hI hmg (hnew nx (Nat.le_refl _) (by omega)) hE (o := ⟨dst, op, type, pos, after, guard⟩) he' h.1
    obtain ⟨v', w', ρ', h1, h2, h3, h4, h5⟩ := hos
    have := hnext ρ' v' w' h2 (fun i hi => (h3 i hi).elim .inl fun h => .inr (.inl h)) h4 h5
    unfold Oper.wp
    rcases h1 with h1 | ⟨rfl, h1⟩
    ·rw [h1, Oper.upon_value]; exact this
    ·rw [h1, Oper.upon_skip]; exact this
   ·intro k hk
    rcases aDf he k hk with h' | h'
    ·left
     unfold kV at h'
     split at h'
     ·rename_i hb; exact fF.1 hb
     ·exact absurd rfl h'
    ·exact .inr h'
  split at h
  ·obtain ⟨alt, h⟩ := h
   exact key alt h.out
  ·exact key 0 h.out
def FW (ro : Option Nat) : Fence := { Fence.wide with round := ro }
theorem lI {ro : Option Nat} {n : Nat} {P : Program} {f : FuncId} {args : Array Value} {w : World} {R : Ending → World → Prop} : CallsIn (FW ro) n P f args w R ↔ Calls P f args w R := callsIn_wide (n := n)
abbrev vY := KeepsOthers
theorem Inv.here {X : Ctx} {ρ : Env} {m : Mem} {w : World} (hI : Inv X ρ m w) : Inv ⟨w, eT ρ m⟩ ρ m w where
 glob := hI.glob
 sat := hI.sat
 inj := hI.inj
 own i e L h hr h1 := .inl ⟨i, e, L, h, hr, h1, rfl⟩
 ext _ _ _ := rfl
 size := Nat.le_refl _
 os := rfl
 out := rfl
 tape := rfl
 fz := hI.fz
theorem Dom.back {X : Ctx} {ρ ρ' : Env} {m : Mem} {w : World} {nx nw : Nat} (h : Dom ⟨w, eT ρ m⟩ nx nw ρ ρ') (hI : Inv X ρ m w) : Dom X nx nw ρ ρ' := fun i hi => by
 rcases h i hi with h1 | h1 | ⟨b, h1, h2⟩
 ·exact .inl h1
 ·exact .inr (.inl h1)
 ·refine .inr (.inr ⟨b, h1, ?_⟩)
  rcases h2 with ⟨j, e, L, k1, k2, k3, k4⟩ | h2
  ·rw [← k4]; exact hI.own j e L k1 k2 k3
  ·exact .inr (Nat.le_trans hI.size h2)
theorem Inv.back {X : Ctx} {ρ ρ' : Env} {m m' : Mem} {w w' : World} (hI : Inv X ρ m w) (h : Inv ⟨w, eT ρ m⟩ ρ' m' w') : Inv X ρ' m' w' where
 glob := h.glob
 sat := h.sat
 inj := h.inj
 own i e L hg hr hL := by
  rcases h.own i e L hg hr hL with ⟨j, ej, Lj, h1, h2, h3, h4⟩ | h'
  ·rw [← h4]; exact hI.own j ej Lj h1 h2 h3
  ·exact .inr (Nat.le_trans hI.size h')
 ext b hb hn := by
  rw [h.ext b (Nat.lt_of_lt_of_le hb hI.size) (fun ⟨j, ej, Lj, h1, h2, h3, h4⟩ => ?_), hI.ext b hb hn]
  rcases hI.own j ej Lj h1 h2 h3 with h5 | h5
  ·rw [h4] at h5; exact hn h5
  ·rw [h4] at h5; omega
 size := Nat.le_trans hI.size h.size
 os := h.os.trans hI.os
 out := h.out.trans hI.out
 tape := h.tape.trans hI.tape
 fz := h.fz
theorem SatE.cells {ρ : Env} {e : Ent} {L : Loc} {w : World} (h : SatE ρ e L w) : ∃ o, w.heap[L.blk]? = some o ∧ o.isCells = true := by
 obtain ⟨_, _, _, C, t, fr, _, _, _, h1, _⟩ := h
 exact ⟨_, h1, rfl⟩
theorem Inv.keepNC {X : Ctx} {ρ ρ' : Env} {m m' : Mem} {w w' : World} (hI : Inv X ρ m w) (h : Inv ⟨w, eT ρ m⟩ ρ' m' w') : vY w w' := ⟨h.size, fun r o h1 h2 => by
 have hr : r < w.heap.size := (Array.getElem?_eq_some_iff.1 h1).1
 rw [h.ext r hr (fun ⟨j, ej, Lj, k1, k2, k3, k4⟩ => ?_), h1]
 obtain ⟨L, q1, q2⟩ := hI.sat j ej k1
 rw [k3] at q1; cases q1
 obtain ⟨o', q3, q4⟩ := q2.cells
 rw [k4, h1] at q3; cases q3
 rw [h2] at q4; cases q4⟩
theorem pJ {ro : Option Nat} {n : Nat} {P : Program} {o : Oper} {a : Act} {w : World} {next : Act → World → Prop} {Q : Exit → Act → World → Prop} (hd : ∀ c, o.op ≠ .defer c) (h : o.wp P a w next Q) : o.wpIn (FW ro) n P a w next Q := by
 refine ⟨fun _ _ => trivial, ?_⟩
 rw [Oper.semAt_eq (FW ro).round a.eval o hd]
 unfold Oper.wp at h
 generalize (execOp a.eval o).run P w = r at h ⊢
 unfold Oper.upon at h
 split at h
 ·exact h
 ·exact h
 ·exact h
 ·exact ⟨fun h => (nomatch h), lI.2 h⟩
 ·refine ⟨fun h => (nomatch h), fun c cs _ => ?_⟩
  obtain ⟨v, w', r, s⟩ := h c cs
  exact ⟨v, w', r, stepsIn_wide.2 s⟩
 ·exact h
 ·exact h.elim
def Does (P : Program) (X : Ctx) (tm : TM) (g : MG) (o : Oper) (nx : Nat) (v : D) (up : Mem) (nw : Nat) (foot : List Nat) : Prop :=
 ∀ (ρ : Env) (m : Mem) (w : World) (a : Act), Inv X ρ m w → (∀ b ∈ foot, get m b = g b) → (∀ t ∈ dI o.op.operands.toList, ∀ d, lk tm t = some d → Rep ρ d (a.tmps.getD t undef)) →
  ρ 999999 = none → (∀ i, nx ≤ i → i < nx + nw → ρ i = none) →
  ∀ (ro : Option Nat) (n : Nat) (next : Act → World → Prop) (Q : Exit → Act → World → Prop), (∀ ρ' v' w', ρ.le ρ' → Dom X nx nw ρ ρ' → Rep ρ' v v' → Inv X ρ' (up ++ m) w' → vY w w' → next (a.put o.dst v') w') →
   o.wpIn (FW ro) n P a w next Q
theorem rC {P : Program} {Γ : Tab} {op : Op} {tm : TM} {m : Mem} {nx : Nat} {R : D → Mem → Nat → List Nat → Prop} (h : rD P Γ op tm m nx R) : ∀ c, op ≠ .defer c := by
 rintro c rfl
 unfold rD at h
 simp only [aCm, isApp] at h
 have h := h.out
 simp only [aEn, opE] at h
theorem kS {P : Program} {Γ : Tab} (hΓ : b8 P Γ) {X : Ctx} {o : Oper} {tm : TM} {m : Mem} {nx : Nat} {R : D → Mem → Nat → List Nat → Prop} (h : rD P Γ o.op tm m nx R) :
  ∃ v up nw foot, R v up nw foot ∧ Does P X tm (get m) o nx v up nw foot ∧ (∀ k ∈ up.map (·.1), k ∈ foot ∨ (nx ≤ k ∧ k < nx + nw)) := by
 obtain ⟨v, up, nw, foot, h1, h2, h3⟩ := wF hΓ h
 refine ⟨v, up, nw, foot, h1, fun ρ m' w a hI hg ht hres hnew ro n next Q hnext => ?_, h3⟩
 refine pJ (rC h) (h2 ⟨w, eT ρ m'⟩ ρ m' w a hI.here hg ht hres hnew next Q fun ρ' v' w' hle hdom hv hinv => ?_)
 exact hnext ρ' v' w' hle (hdom.back hI) hv (hI.back hinv) (hI.keepNC hinv)
structure Br (b : Bool) (A B : Prop) : Prop where
 pos : b = true → A
 neg : b = false → B
theorem Br.split {b : Bool} {A B : Prop} (h1 : b = true → A) (h2 : b = false → B) : Br b A B := ⟨h1, h2⟩
theorem Br.yes {b : Bool} {A B : Prop} (h : b = true) (h1 : A) : Br b A B := ⟨fun _ => h1, (fun h' => by rw [h] at h'; cases h')⟩
theorem Br.no {b : Bool} {A B : Prop} (h : b = false) (h1 : B) : Br b A B := ⟨(fun h' => by rw [h] at h'; cases h'), fun _ => h1⟩
def lG (ops : List Oper) (j : Nat) : Option Nat :=
 match ops, j with
 |o :: _, 0 => o.dst
 |_ :: r, j + 1 => lG r j
 |[], _ => none
theorem mR : ∀ (ops : List Oper) (j : Nat), lG ops j = (ops[j]?).bind (·.dst)
 |[], _ => by simp [lG]
 |o :: _, 0 => by simp [lG]
 |_ :: r, j + 1 => by simp [lG, mR r j]
def lS (ops : List Oper) (o : Oper) (tm : TM) (A B : TM → Prop) : Prop :=
 match o.guard with
 |none => A tm
 |some (j, want) => match lG ops j with
  |some t => match lk tm t with
   |some (.bool b) => match want with
    |true => Br b (A ((t, .bool true) :: tm)) (B ((t, .bool false) :: tm))
    |false => Br b (B ((t, .bool true) :: tm)) (A ((t, .bool false) :: tm))
   |some (.tup []) => B tm
   |_ => False
  |none => False
def aBL (N : Nat) (dst : Option Nat) (v : D) (tm : TM) (K : TM → Prop) : Prop :=
 match dst with
 |none => K tm
 |some t => match Nat.blt t N with
  |true => K ((t, v) :: tm)
  |false => False
def aFo (nx nw : Nat) (K : Prop) : Prop :=
 match Nat.ble (nx + nw) 999998 with
 |true => K
 |false => False
noncomputable def aE4 (P : Program) (Γ : Tab) (N : Nat) (ops : List Oper) (l : List Oper) : TM → Mem → Nat → (TM → Mem → Nat → Prop) → Prop :=
 @List.rec Oper (fun _ => TM → Mem → Nat → (TM → Mem → Nat → Prop) → Prop) (fun tm m nx K => K tm m nx)
  (fun o _ ih tm m nx K => lS ops o tm
   (fun tm => rD P Γ o.op tm m nx (fun v up nw _ => aFo nx nw (aBL N o.dst v tm (fun tm => ih tm (up ++ m) (nx + nw) K))))
   (fun tm => aBL N o.dst (.tup []) tm (fun tm => ih tm m nx K))) l
theorem tL {P : Program} {Γ : Tab} {N : Nat} {ops : List Oper} {o : Oper} {r : List Oper} {tm : TM} {m : Mem} {nx : Nat} {K : TM → Mem → Nat → Prop} : aE4 P Γ N ops (o :: r) tm m nx K = lS ops o tm
   (fun tm => rD P Γ o.op tm m nx (fun v up nw _ => aFo nx nw (aBL N o.dst v tm (fun tm => aE4 P Γ N ops r tm (up ++ m) (nx + nw) K))))
   (fun tm => aBL N o.dst (.tup []) tm (fun tm => aE4 P Γ N ops r tm m nx K)) := rfl
structure CtxK where
 c : Ctx
 k0 : World
 base : List Deferred := []
 plain : Bool := false
structure Side (X : CtxK) (a : Act) (w : World) : Prop where
 marks : ∃ ms, a.defers = ms ++ X.base ∧ (∀ d ∈ ms, ∃ r, d = { target := .collected r, args := #[] } ∧ w.heap[r]? = some (.deferred (some [])) ∧ X.c.w0.heap.size ≤ r) ∧ ms.Pairwise (· ≠ ·)
 keep : vY X.k0 w
 bare : X.plain = true → a.defers = X.base
theorem Side.step {X : CtxK} {a a' : Act} {w w' : World} (h : Side X a w) (k : vY w w') (e : a'.defers = a.defers) : Side X a' w' := by
 obtain ⟨ms, h1, h2, h3⟩ := h.marks
 refine ⟨⟨ms, by rw [e]; exact h1, fun d hd => ?_, h3⟩, h.keep.trans k, fun hp => by rw [e]; exact h.bare hp⟩
 obtain ⟨r, k1, k2, k3⟩ := h2 d hd
 exact ⟨r, k1, k.same r _ k2 rfl, k3⟩
structure StOk (X : CtxK) (ρ0 : Env) (np N : Nat) (tm : TM) (m : Mem) (nx : Nat) (ρ : Env) (a : Act) (w : World) : Prop where
 inv : Inv X.c ρ m w
 tmps : ∀ t d, lk tm t = some d → Rep ρ d (a.tmps.getD t undef)
 size : a.tmps.size = N
 defs : Side X a w
 fix : Keep X.c np ρ0 ρ
 used : ∀ i, ρ i ≠ none → i < nx ∨ 1000000 ≤ i
 lim : nx ≤ 999998
 le : np ≤ nx
theorem zC {a : Act} {t : Nat} {v : Value} {s : Nat} (h : t < a.tmps.size) : (a.put (some t) v).tmps.getD s undef = if t = s then v else a.tmps.getD s undef := by
 simp only [Act.put]
 by_cases hs : t = s
 ·subst hs
  simp [Array.getD, h]
 ·rw [if_neg hs]
  simp only [Array.getD_eq_getD_getElem?, Array.getElem?_setIfInBounds_ne hs]
theorem StOk.put {X : CtxK} {ρ0 : Env} {np N : Nat} {tm : TM} {m : Mem} {nx : Nat} {ρ : Env} {a : Act} {w : World} (H : StOk X ρ0 np N tm m nx ρ a w) {dst : Option Nat} {v : D} {v' : Value} {K : TM → Prop} (h : aBL N dst v tm K) (hv : Rep ρ v v') :
  ∃ tm', K tm' ∧ StOk X ρ0 np N tm' m nx ρ (a.put dst v') w := by
 cases dst with
 |none => exact ⟨tm, h, H⟩
 |some t =>
  simp only [aBL] at h
  split at h <;> try contradiction
  rename_i hb
  have hlt : t < a.tmps.size := by rw [H.size]; rw [cD] at hb; simpa using hb
  refine ⟨_, h, ⟨H.inv, fun s d hs => ?_, by simp [Act.put, H.size], H.defs.step (KeepsOthers.refl w) (by simp [Act.put]), H.fix, H.used, H.lim, H.le⟩⟩
  rw [zC hlt]
  rw [fL] at hs
  split at hs
  ·rename_i heq; rw [if_pos heq]; cases hs; exact hv
  ·rename_i heq; rw [if_neg heq]; exact H.tmps s d hs
theorem StOk.same {X : CtxK} {ρ0 : Env} {np N : Nat} {tm tm' : TM} {m : Mem} {nx : Nat} {ρ : Env} {a : Act} {w : World} (H : StOk X ρ0 np N tm m nx ρ a w) (h : ∀ t, lk tm' t = lk tm t) : StOk X ρ0 np N tm' m nx ρ a w :=
 ⟨H.inv, fun t d ht => H.tmps t d (by rw [← h]; exact ht), H.size, H.defs, H.fix, H.used, H.lim, H.le⟩
theorem nA {ops : List Oper} {o : Oper} {tmps : Array Value} {j t : Nat} {w : Bool} (hg : o.guard = some (j, w)) (ht : lG ops j = some t) (hv : tmps.getD t undef = .tuple #[]) : Region.wanted o (yielded ops.toArray tmps) = false := by
 have hy : yielded ops.toArray tmps j = none := by
  unfold yielded
  have : ((ops.toArray[j]?).bind (·.dst)) = some t := by rw [List.getElem?_toArray, ← mR, ht]
  rw [this]
  simp only [Option.bind_some]
  cases h : tmps[t]? with
  |none => rfl
  |some v =>
   have : v = .tuple #[] := by
    rw [Array.getD_eq_getD_getElem?, h] at hv; exact hv
   subst this; rfl
 simp [Region.wanted, hg, hy]
theorem qM {ops : List Oper} {o : Oper} {tm : TM} {A B : TM → Prop} {X : CtxK} {ρ0 : Env} {np N : Nat} {m : Mem} {nx : Nat} {ρ : Env} {a : Act} {w : World} (h : lS ops o tm A B) (H : StOk X ρ0 np N tm m nx ρ a w) :
  ∃ tm', (∀ t, lk tm' t = lk tm t) ∧ ((Region.wanted o (yielded ops.toArray a.tmps) = true ∧ A tm') ∨ (Region.wanted o (yielded ops.toArray a.tmps) = false ∧ B tm')) := by
 unfold lS at h
 cases hg : o.guard with
 |none =>
  simp only [hg] at h
  exact ⟨tm, fun _ => rfl, .inl ⟨by simp [Region.wanted, hg], h⟩⟩
 |some p =>
  obtain ⟨j, want⟩ := p
  simp only [hg] at h
  split at h <;> try contradiction
  rename_i t ht
  split at h <;> try contradiction
  rotate_left
  ·rename_i hb
   obtain ⟨vs, hv, hvs⟩ : Rep ρ (.tup []) (a.tmps.getD t undef) := H.tmps t _ hb
   cases vs with
   |nil => exact ⟨tm, fun _ => rfl, .inr ⟨nA hg ht hv, h⟩⟩
   |cons => exact hvs.elim
  rename_i b hb
  have hv := H.tmps t _ hb
  have hv : a.tmps.getD t undef = .bool b := hv
  have hlt : t < a.tmps.size := by
   rcases Nat.lt_or_ge t a.tmps.size with h' | h'
   ·exact h'
   ·simp [Array.getD_eq_getD_getElem?, Array.getElem?_eq_none h', undef] at hv
  have hget : a.tmps[t]? = some (.bool b) := by
   rw [Array.getD_eq_getD_getElem?, Array.getElem?_eq_getElem hlt] at hv
   simp at hv
   rw [Array.getElem?_eq_getElem hlt, hv]
  have hy : yielded ops.toArray a.tmps j = some b := by
   unfold yielded
   have : ((ops.toArray[j]?).bind (·.dst)) = some t := by rw [List.getElem?_toArray, ← mR, ht]
   rw [this]
   simp [hget]
  have hw : Region.wanted o (yielded ops.toArray a.tmps) = (b == want) := by
   simp [Region.wanted, hg, hy]
  have hlk : ∀ c : Bool, b = c → ∀ s, lk ((t, .bool c) :: tm) s = lk tm s := by
   intro c hc s
   rw [fL]
   split
   ·subst_vars; rw [hb]
   ·rfl
  cases want with
  |true =>
   simp only at h
   cases b with
   |true => exact ⟨_, hlk true rfl, .inl ⟨by rw [hw]; rfl, h.1 rfl⟩⟩
   |false => exact ⟨_, hlk false rfl, .inr ⟨by rw [hw]; rfl, h.2 rfl⟩⟩
  |false =>
   simp only at h
   cases b with
   |true => exact ⟨_, hlk true rfl, .inr ⟨by rw [hw]; rfl, h.1 rfl⟩⟩
   |false => exact ⟨_, hlk false rfl, .inl ⟨by rw [hw]; rfl, h.2 rfl⟩⟩
theorem Inv.fresh {X : CtxK} {ρ0 : Env} {np N : Nat} {tm : TM} {m : Mem} {nx : Nat} {ρ : Env} {a : Act} {w : World} (H : StOk X ρ0 np N tm m nx ρ a w) {i : Nat} (h1 : nx ≤ i) (h2 : i ≤ 999999) : ρ i = none := by
 cases h : ρ i with
 |none => rfl
 |some L =>
  rcases H.used i (by rw [h]; simp) with h' | h' <;> omega
theorem nJ {ro : Option Nat} {n : Nat} {P : Program} {Γ : Tab} (hΓ : b8 P Γ) {N : Nat} {X : CtxK} {ρ0 : Env} {np : Nat} {Q : Exit → Act → World → Prop} {K : TM → Mem → Nat → Prop}
  (hK : ∀ tm m nx ρ a w, K tm m nx → StOk X ρ0 np N tm m nx ρ a w → Q .normal a w) (ops : List Oper) :
  ∀ (r : List Oper) (k : Nat) (tm : TM) (m : Mem) (nx : Nat) (ρ : Env) (a : Act) (w : World), ops.drop k = r → aE4 P Γ N ops r tm m nx K → StOk X ρ0 np N tm m nx ρ a w →
   wpOpsIn (FW ro) n P ops.toArray Q (List.range' k r.length) a w
 |[], k, tm, m, nx, ρ, a, w, _, h, H => by
  simp only [List.length_nil, List.range'_zero, wpOpsIn]
  exact hK tm m nx ρ a w h H
 |o :: r, k, tm, m, nx, ρ, a, w, hd, h, H => by
  have hget : ops.toArray[k]? = some o := by
   rw [List.getElem?_toArray, ← List.head?_drop, hd]; rfl
  have hd' : ops.drop (k + 1) = r := by rw [← List.tail_drop, hd]; rfl
  simp only [List.length_cons, List.range'_succ, wpOpsIn, hget]
  rw [tL] at h
  obtain ⟨tm', hsame, hw⟩ := qM h H
  have H' := H.same hsame
  rcases hw with ⟨hw, h⟩ | ⟨hw, h⟩
  ·rw [if_pos hw]
   obtain ⟨v, up, nw, foot, hR, hdoes, _⟩ := kS hΓ (X := X.c) h
   unfold aFo at hR
   split at hR <;> try contradiction
   rename_i hlim
   have hlim : nx + nw ≤ 999998 := Nat.le_of_ble_eq_true hlim
   refine hdoes ρ m w a H'.inv (fun _ _ => rfl) (fun t _ d ht => H'.tmps t d ht) (Inv.fresh H' (by have := H'.lim; omega) (by omega)) (fun i h1 h2 => Inv.fresh H' h1 (by omega)) ro n _ Q ?_
   intro ρ' v' w' hle hdom hv hinv hkeep
   have H1 : StOk X ρ0 np N tm' (up ++ m) (nx + nw) ρ' a w' := by
    refine ⟨hinv, fun t d ht => (H'.tmps t d ht).mono hle, H'.size, H'.defs.step hkeep rfl, H'.fix.step hle hdom H'.le (by omega), hdom.used H'.used, hlim, by have := H'.le; omega⟩
   obtain ⟨tm2, hk2, H2⟩ := H1.put hR hv
   exact nJ hΓ hK ops r (k + 1) tm2 _ _ ρ' _ w' hd' hk2 H2
  ·rw [if_neg (by rw [hw]; simp)]
   refine ⟨fun _ _ => trivial, ?_⟩
   obtain ⟨tm2, hk2, H2⟩ := H'.put (v' := undef) h ⟨[], rfl, trivial⟩
   exact nJ hΓ hK ops r (k + 1) tm2 _ _ ρ _ w hd' hk2 H2
structure Info where
 dst : Option Nat
 looks : List Nat
 keys : List Nat
 foot : List Nat
 pre : List Nat
def aEI : List Nat → List Nat → Bool
 |[], _ => true
 |x :: xs, ys => match aBO x ys with
  |true => false
  |false => aEI xs ys
theorem oM {xs ys : List Nat} (h : aEI xs ys = true) : ∀ x ∈ xs, x ∉ ys := by
 induction xs with
 |nil => intro x hx; simp at hx
 |cons y xs ih =>
  simp only [aEI] at h
  split at h <;> try contradiction
  rename_i hb
  intro x hx
  rcases List.mem_cons.1 hx with rfl | hx
  ·intro hm; rw [fF.2 hm] at hb; cases hb
  ·exact ih h x hx
def aA9 (d : Option Nat) (l : List Nat) : Bool :=
 match d with
 |none => true
 |some t => match aBO t l with
  |true => false
  |false => true
theorem qD {d : Option Nat} {l : List Nat} (h : aA9 d l = true) : ∀ t, d = some t → t ∉ l := by
 intro t ht hm
 subst ht
 simp [aA9, fF.2 hm] at h
def xO (d d' : Option Nat) : Bool :=
 match d, d' with
 |some t, some t' => match Nat.beq t t' with
  |true => false
  |false => true
 |_, _ => true
theorem lF {d d' : Option Nat} (h : xO d d' = true) : ∀ t, d = some t → d' ≠ some t := by
 intro t h1 h2
 subst h1 h2
 simp [xO, Nat.beq_refl] at h
def uP (x y : Info) : Bool :=
 match aEI x.keys y.foot with
 |true => match aEI y.keys x.foot with
  |true => match aEI x.keys y.keys with
   |true => match aA9 x.dst y.looks with
    |true => aA9 y.dst x.looks
    |false => false
   |false => false
  |false => false
 |false => false
def lX (y : Info) : List Info → Nat → Bool
 |[], _ => true
 |x :: r, n => match xO x.dst y.dst with
  |true => match aBO (n - 1) y.pre with
   |true => lX y r (n - 1)
   |false => match uP x y with
    |true => lX y r (n - 1)
    |false => false
  |false => false
def aDh : List Info → Nat → Option Info
 |x :: _, 0 => some x
 |_ :: r, i + 1 => aDh r i
 |[], _ => none
def uni : List Nat → List Nat → List Nat
 |[], b => b
 |x :: r, b => match aBO x b with
  |true => uni r b
  |false => x :: uni r b
theorem wC {x : Nat} : ∀ {a b : List Nat}, x ∈ uni a b → x ∈ a ∨ x ∈ b
 |[], _, h => .inr h
 |y :: r, b, h => by
  simp only [uni] at h
  split at h
  ·rcases wC h with h | h
   ·exact .inl (List.mem_cons_of_mem _ h)
   ·exact .inr h
  ·rcases List.mem_cons.1 h with rfl | h
   ·simp
   ·rcases wC h with h | h
    ·exact .inl (List.mem_cons_of_mem _ h)
    ·exact .inr h
def t5 (log : List Info) (n : Nat) : List Edge → Option (List Nat)
 |[] => some []
 |e :: r => match t5 log n r with
  |some l => match Region.binds .any e with
   |true => match Nat.blt e.on n with
    |true => match aDh log (n - 1 - e.on) with
     |some x => some (uni (e.on :: x.pre) l)
     |none => none
    |false => none
   |false => some l
  |none => none
def cS (ops : List Oper) (o : Oper) : List Nat :=
 match o.guard with
 |none => []
 |some (j, _) => match lG ops j with
  |some t => [t]
  |none => []
def bT : Mem → List Nat
 |[] => []
 |(i, _) :: r => i :: bT r
theorem kC : ∀ m : Mem, bT m = m.map (·.1)
 |[] => rfl
 |(i, e) :: r => by simp [bT, kC r]
def aEr : List (List Edge × Info) → Nat → List Info → Bool
 |[], _, _ => true
 |(es, y) :: r, j, log => match t5 log j es with
  |some pre => match lX ⟨y.dst, y.looks, y.keys, y.foot, pre⟩ log j with
   |true => aEr r (j + 1) (⟨y.dst, y.looks, y.keys, y.foot, pre⟩ :: log)
   |false => false
  |none => false
structure ChkG (b : Bool) (K : Prop) : Prop where
 chk : b = true
 go : K
def revA : List (List Edge × Info) → List (List Edge × Info) → List (List Edge × Info)
 |[], l => l
 |x :: r, l => revA r (x :: l)
noncomputable def aFz (P : Program) (Γ : Tab) (N : Nat) (ops : List Oper) (l : List Oper) : List (List Edge × Info) → TM → Mem → Nat → (TM → Mem → Nat → Prop) → Prop :=
 @List.rec Oper (fun _ => List (List Edge × Info) → TM → Mem → Nat → (TM → Mem → Nat → Prop) → Prop) (fun acc tm m nx K => ChkG (aEr (revA acc []) 0 []) (K tm m nx))
  (fun o _ ih acc tm m nx K => lS ops o tm
   (fun tm => rD P Γ o.op tm m nx (fun v up nw foot => aFo nx nw (aBL N o.dst v tm (fun tm =>
    ih ((o.after.toList, ⟨o.dst, cS ops o ++ dI o.op.operands.toList, bT up, foot, []⟩) :: acc) tm (up ++ m) (nx + nw) K))))
   (fun tm => aBL N o.dst (.tup []) tm (fun tm => ih ((o.after.toList, ⟨o.dst, cS ops o ++ dI o.op.operands.toList, [], [], []⟩) :: acc) tm m nx K))) l
theorem aCg {P : Program} {Γ : Tab} {N : Nat} {ops : List Oper} {o : Oper} {r : List Oper} {acc : List (List Edge × Info)} {tm : TM} {m : Mem} {nx : Nat} {K : TM → Mem → Nat → Prop} : aFz P Γ N ops (o :: r) acc tm m nx K = lS ops o tm
   (fun tm => rD P Γ o.op tm m nx (fun v up nw foot => aFo nx nw (aBL N o.dst v tm (fun tm =>
    aFz P Γ N ops r ((o.after.toList, ⟨o.dst, cS ops o ++ dI o.op.operands.toList, bT up, foot, []⟩) :: acc) tm (up ++ m) (nx + nw) K))))
   (fun tm => aBL N o.dst (.tup []) tm (fun tm => aFz P Γ N ops r ((o.after.toList, ⟨o.dst, cS ops o ++ dI o.op.operands.toList, [], [], []⟩) :: acc) tm m nx K)) := rfl
def tV (dst : Option Nat) (v : D) (tm : TM) : TM :=
 match dst with
 |some t => (t, v) :: tm
 |none => tm
structure Rec where
 o : Oper
 want : Bool      -- is it done?
 tm : TM          -- ahead of it
 m : Mem
 nx : Nat
 v : D
 up : Mem
 nw : Nat
 foot : List Nat
 info : Info
def GB (x : Option D) (w want : Bool) : Prop :=
 match x with
 |some (.bool b) => want = (b == w)
 |some (.tup []) => want = false
 |_ => False
def Run (P : Program) (X : Ctx) (N : Nat) (ops : List Oper) : List Rec → Nat → List Info → TM → Mem → Nat → (TM → Mem → Nat → Prop) → Prop
 |[], j, _, tm, m, nx, K => ops.drop j = [] ∧ K tm m nx
 |r :: rs, j, log, tm, m, nx, K => ops[j]? = some r.o ∧ (∀ t, lk r.tm t = lk tm t) ∧ r.m = m ∧ r.nx = nx ∧ nx + r.nw ≤ 999998 ∧
   (match r.o.guard with | none => r.want = true | some (g, w) => ∃ t, lG ops g = some t ∧ GB (lk tm t) w r.want) ∧
   (r.want = true → Does P X r.tm (get m) r.o nx r.v r.up r.nw r.foot ∧ (∀ k ∈ bT r.up, k ∈ r.foot ∨ (nx ≤ k ∧ k < nx + r.nw))) ∧
   (r.want = false → r.up = [] ∧ r.nw = 0 ∧ r.v = .tup [] ∧ r.foot = []) ∧
   r.info.dst = r.o.dst ∧ r.info.looks = cS ops r.o ++ dI r.o.op.operands.toList ∧ r.info.keys = bT r.up ∧ r.info.foot = r.foot ∧
   t5 log j r.o.after.toList = some r.info.pre ∧ lX r.info log j = true ∧
   (∀ t, r.o.dst = some t → t < N) ∧
   Run P X N ops rs (j + 1) (r.info :: log) (tV r.o.dst r.v r.tm) (r.up ++ m) (nx + r.nw) K
theorem tY {N : Nat} {dst : Option Nat} {v : D} {tm : TM} {K : TM → Prop} (h : aBL N dst v tm K) : (∀ t, dst = some t → t < N) ∧ K (tV dst v tm) := by
 cases dst with
 |none => exact ⟨(fun t ht => by cases ht), h⟩
 |some t =>
  simp only [aBL] at h
  split at h <;> try contradiction
  rename_i hb
  exact ⟨(fun s hs => by cases hs; rw [cD] at hb; simpa using hb), h⟩
theorem xI {ops : List Oper} {o : Oper} {tm : TM} {A B : TM → Prop} (h : lS ops o tm A B) :
  ∃ (tm' : TM) (want : Bool), (∀ t, lk tm' t = lk tm t) ∧ (match o.guard with | none => want = true | some (g, w) => ∃ t, lG ops g = some t ∧ GB (lk tm t) w want) ∧
   ((want = true ∧ A tm') ∨ (want = false ∧ B tm')) := by
 unfold lS at h
 cases hg : o.guard with
 |none => simp only [hg] at h; exact ⟨tm, true, fun _ => rfl, rfl, .inl ⟨rfl, h⟩⟩
 |some p =>
  obtain ⟨g, w⟩ := p
  simp only [hg] at h
  split at h <;> try contradiction
  rename_i t ht
  split at h <;> try contradiction
  rotate_left
  ·rename_i hb
   exact ⟨tm, false, fun _ => rfl, ⟨t, ht, by rw [hb]; rfl⟩, .inr ⟨rfl, h⟩⟩
  rename_i b hb
  have hlk : ∀ c : Bool, b = c → ∀ s, lk ((t, .bool c) :: tm) s = lk tm s := by
   intro c hc s
   rw [fL]
   split
   ·subst_vars; rw [hb]
   ·rfl
  cases w <;> simp only at h <;> cases b
  ·exact ⟨_, true, hlk false rfl, ⟨t, ht, by rw [hb]; rfl⟩, .inl ⟨rfl, h.2 rfl⟩⟩
  ·exact ⟨_, false, hlk true rfl, ⟨t, ht, by rw [hb]; rfl⟩, .inr ⟨rfl, h.1 rfl⟩⟩
  ·exact ⟨_, false, hlk false rfl, ⟨t, ht, by rw [hb]; rfl⟩, .inr ⟨rfl, h.2 rfl⟩⟩
  ·exact ⟨_, true, hlk true rfl, ⟨t, ht, by rw [hb]; rfl⟩, .inl ⟨rfl, h.1 rfl⟩⟩
def Run0 (P : Program) (X : Ctx) (N : Nat) (ops : List Oper) : List Rec → (List (List Edge × Info) → Prop) → Nat → TM → Mem → Nat → (TM → Mem → Nat → Prop) → Prop
 |[], E, j, tm, m, nx, K => ops.drop j = [] ∧ E [] ∧ K tm m nx
 |r :: rs, E, j, tm, m, nx, K => ops[j]? = some r.o ∧ (∀ t, lk r.tm t = lk tm t) ∧ r.m = m ∧ r.nx = nx ∧ nx + r.nw ≤ 999998 ∧
   (match r.o.guard with | none => r.want = true | some (g, w) => ∃ t, lG ops g = some t ∧ GB (lk tm t) w r.want) ∧
   (r.want = true → Does P X r.tm (get m) r.o nx r.v r.up r.nw r.foot ∧ (∀ k ∈ bT r.up, k ∈ r.foot ∨ (nx ≤ k ∧ k < nx + r.nw))) ∧
   (r.want = false → r.up = [] ∧ r.nw = 0 ∧ r.v = .tup [] ∧ r.foot = []) ∧
   r.info.dst = r.o.dst ∧ r.info.looks = cS ops r.o ++ dI r.o.op.operands.toList ∧ r.info.keys = bT r.up ∧ r.info.foot = r.foot ∧
   (∀ t, r.o.dst = some t → t < N) ∧
   Run0 P X N ops rs (fun l => E ((r.o.after.toList, r.info) :: l)) (j + 1) (tV r.o.dst r.v r.tm) (r.up ++ m) (nx + r.nw) K
theorem aBg {P : Program} {X : Ctx} {N : Nat} {ops : List Oper} {K : TM → Mem → Nat → Prop} : ∀ (rs : List Rec) (E : List (List Edge × Info) → Prop) (j : Nat) (tm : TM) (m : Mem) (nx : Nat), Run0 P X N ops rs E j tm m nx K → ∃ l, E l
 |[], E, j, tm, m, nx, h => ⟨[], h.2.1⟩
 |r :: rs, E, j, tm, m, nx, h => by
  obtain ⟨_, _, _, _, _, _, _, _, _, _, _, _, _, h⟩ := h
  obtain ⟨l, hl⟩ := aBg rs _ _ _ _ _ h
  exact ⟨_, hl⟩
theorem aE5 {P : Program} {X : Ctx} {N : Nat} {ops : List Oper} {K : TM → Mem → Nat → Prop} : ∀ (rs : List Rec) (j : Nat) (log : List Info) (tm : TM) (m : Mem) (nx : Nat), Run0 P X N ops rs (fun l => aEr l j log = true) j tm m nx K →
  ∃ rs', Run P X N ops rs' j log tm m nx K
 |[], j, log, tm, m, nx, h => ⟨[], h.1, h.2.2⟩
 |r :: rs, j, log, tm, m, nx, h => by
  obtain ⟨h1, h2, h3, h4, h5, h6, h7, h8, h9, h10, h11, h12, h13, h⟩ := h
  cases hp : t5 log j r.o.after.toList with
  |none =>
   obtain ⟨l, hl⟩ := aBg rs _ _ _ _ _ h
   simp only [aEr, hp] at hl
   cases hl
  |some pre =>
   cases hc : lX ⟨r.info.dst, r.info.looks, r.info.keys, r.info.foot, pre⟩ log j with
   |false =>
    obtain ⟨l, hl⟩ := aBg rs _ _ _ _ _ h
    simp only [aEr, hp, hc] at hl
    cases hl
   |true =>
    simp only [aEr, hp, hc] at h
    obtain ⟨rs', hr⟩ := aE5 rs (j + 1) _ _ _ _ h
    exact ⟨⟨r.o, r.want, r.tm, r.m, r.nx, r.v, r.up, r.nw, r.foot, ⟨r.info.dst, r.info.looks, r.info.keys, r.info.foot, pre⟩⟩ :: rs', h1, h2, h3, h4, h5, h6, h7, h8, h9, h10, h11, h12, hp, hc, h13, hr⟩
theorem sA {P : Program} {Γ : Tab} (hΓ : b8 P Γ) {X : Ctx} {N : Nat} (ops : List Oper) {K : TM → Mem → Nat → Prop} :
  ∀ (r : List Oper) (j : Nat) (acc : List (List Edge × Info)) (tm : TM) (m : Mem) (nx : Nat), ops.drop j = r → nx ≤ 999998 → aFz P Γ N ops r acc tm m nx K → ∃ rs, Run0 P X N ops rs (fun l => aEr (revA acc l) 0 [] = true) j tm m nx K
 |[], j, acc, tm, m, nx, hd, _, h => ⟨[], hd, ChkG.chk (K := K tm m nx) h, ChkG.go (b := aEr (revA acc []) 0 []) h⟩
 |o :: r, j, acc, tm, m, nx, hd, hnx, h => by
  have hget : ops[j]? = some o := by rw [← List.head?_drop, hd]; rfl
  have hd' : ops.drop (j + 1) = r := by rw [← List.tail_drop, hd]; rfl
  rw [aCg] at h
  obtain ⟨tm', want, hsame, hgd, hw⟩ := xI h
  rcases hw with ⟨rfl, h⟩ | ⟨rfl, h⟩
  ·obtain ⟨v, up, nw, foot, hR, hdoes, hkeys⟩ := kS hΓ (X := X) h
   unfold aFo at hR
   split at hR <;> try contradiction
   rename_i hlim
   obtain ⟨h4, h5⟩ := tY hR
   have hlim := Nat.le_of_ble_eq_true hlim
   obtain ⟨rs, h6⟩ := sA hΓ (X := X) ops r (j + 1) _ _ _ _ hd' hlim h5
   exact ⟨⟨o, true, tm', m, nx, v, up, nw, foot, ⟨o.dst, cS ops o ++ dI o.op.operands.toList, bT up, foot, []⟩⟩ :: rs, hget, hsame, rfl, rfl, hlim, hgd, fun _ => ⟨hdoes, by rw [kC]; exact hkeys⟩,
    (fun h => by cases h), rfl, rfl, rfl, rfl, h4, h6⟩
  ·obtain ⟨h4, h5⟩ := tY h
   obtain ⟨rs, h6⟩ := sA hΓ (X := X) ops r (j + 1) _ _ _ _ hd' hnx h5
   exact ⟨⟨o, false, tm', m, nx, .tup [], [], 0, [], ⟨o.dst, cS ops o ++ dI o.op.operands.toList, [], [], []⟩⟩ :: rs, hget, hsame, rfl, rfl, hnx, hgd, (fun h => by cases h),
    fun _ => ⟨rfl, rfl, rfl, rfl⟩, rfl, rfl, rfl, rfl, h4, h6⟩
theorem aFy {P : Program} {Γ : Tab} (hΓ : b8 P Γ) {X : Ctx} {N : Nat} (ops : List Oper) {K : TM → Mem → Nat → Prop} {tm : TM} {m : Mem} {nx : Nat} (hnx : nx ≤ 999998) (h : aFz P Γ N ops ops [] tm m nx K) :
  ∃ rs, Run P X N ops rs 0 [] tm m nx K := by
 obtain ⟨rs, h1⟩ := sA hΓ (X := X) ops ops 0 [] tm m nx rfl hnx h
 exact aE5 rs 0 [] tm m nx h1
structure Char (tm0 : TM) (m0 : Mem) (nx0 : Nat) (ps : List Rec) (tm : TM) (m : Mem) (nx : Nat) : Prop where
 tmW : ∀ (i : Nat) (r : Rec) (t : Nat), ps[i]? = some r → r.o.dst = some t → lk tm t = some r.v
 tmO : ∀ t : Nat, (∀ (i : Nat) (r : Rec), ps[i]? = some r → r.o.dst ≠ some t) → lk tm t = lk tm0 t
 mW : ∀ (b i : Nat) (r : Rec), ps[i]? = some r → b ∈ bT r.up → (∀ (k : Nat) (r' : Rec), i < k → ps[k]? = some r' → b ∉ bT r'.up) → get m b = get r.up b
 mO : ∀ b : Nat, (∀ (i : Nat) (r : Rec), ps[i]? = some r → b ∉ bT r.up) → get m b = get m0 b
 nxs : ∀ (i : Nat) (r : Rec), ps[i]? = some r → nx0 ≤ r.nx ∧ r.nx + r.nw ≤ nx
 le : nx0 ≤ nx
structure Fact (P : Program) (X : Ctx) (N : Nat) (ops : List Oper) (tm0 : TM) (m0 : Mem) (nx0 : Nat) (ps : List Rec) (j : Nat) (r : Rec) : Prop where
 op : ops[j]? = some r.o
 char : Char tm0 m0 nx0 (ps.take j) r.tm r.m r.nx
 lim : r.nx + r.nw ≤ 999998
 guard : match r.o.guard with | none => r.want = true | some (g, w) => ∃ t, lG ops g = some t ∧ GB (lk r.tm t) w r.want
 does : r.want = true → Does P X r.tm (get r.m) r.o r.nx r.v r.up r.nw r.foot ∧ (∀ k ∈ bT r.up, k ∈ r.foot ∨ (r.nx ≤ k ∧ k < r.nx + r.nw))
 skip : r.want = false → r.up = [] ∧ r.nw = 0 ∧ r.v = .tup [] ∧ r.foot = []
 looks : r.info.looks = cS ops r.o ++ dI r.o.op.operands.toList
 keys : r.info.keys = bT r.up
 foot : r.info.foot = r.foot
 dst : r.info.dst = r.o.dst
 small : ∀ t, r.o.dst = some t → t < N
 pair : ∀ (i : Nat) (r' : Rec), i < j → ps[i]? = some r' → xO r'.o.dst r.o.dst = true ∧ (i ∈ r.info.pre ∨ uP r'.info r.info = true)
 edge : ∀ e ∈ r.o.after.toList, Region.binds .any e = true → e.on < j
 pre : ∀ x ∈ r.info.pre, ∃ e ∈ r.o.after.toList, Region.binds .any e = true ∧ e.on < j ∧ (x = e.on ∨ ∃ r', ps[e.on]? = some r' ∧ x ∈ r'.info.pre)
theorem p8 {log : List Info} {n : Nat} : ∀ {es : List Edge} {l : List Nat}, t5 log n es = some l →
  (∀ e ∈ es, Region.binds .any e = true → e.on < n) ∧ ∀ x ∈ l, ∃ e ∈ es, Region.binds .any e = true ∧ e.on < n ∧ (x = e.on ∨ ∃ i, aDh log (n - 1 - e.on) = some i ∧ x ∈ i.pre)
 |[], l, h => by
  simp only [t5, Option.some.injEq] at h; subst h
  exact ⟨fun e he => by simp at he, fun x hx => by simp at hx⟩
 |e :: es, l, h => by
  simp only [t5] at h
  cases h1 : t5 log n es with
  |none => simp [h1] at h
  |some l1 =>
   obtain ⟨ih1, ih2⟩ := p8 h1
   simp only [h1] at h
   cases hb : Region.binds .any e with
   |false =>
    simp only [hb, Option.some.injEq] at h
    subst h
    refine ⟨fun e' he' hb' => ?_, fun x hx => ?_⟩
    ·rcases List.mem_cons.1 he' with rfl | he'
     ·rw [hb] at hb'; cases hb'
     ·exact ih1 e' he' hb'
    ·obtain ⟨e', he', h2⟩ := ih2 x hx
     exact ⟨e', by simp [he'], h2⟩
   |true =>
    simp only [hb] at h
    cases hlt : Nat.blt e.on n with
    |false => simp [hlt] at h
    |true =>
     simp only [hlt] at h
     have hlt' : e.on < n := by rw [cD] at hlt; simpa using hlt
     cases hn : aDh log (n - 1 - e.on) with
     |none => simp [hn] at h
     |some i =>
      simp only [hn, Option.some.injEq] at h
      subst h
      refine ⟨fun e' he' hb' => ?_, fun x hx => ?_⟩
      ·rcases List.mem_cons.1 he' with rfl | he'
       ·exact hlt'
       ·exact ih1 e' he' hb'
      ·rcases wC hx with hx | hx
       ·rcases List.mem_cons.1 hx with rfl | hx
        ·exact ⟨e, by simp, hb, hlt', .inl rfl⟩
        ·exact ⟨e, by simp, hb, hlt', .inr ⟨i, hn, hx⟩⟩
       ·obtain ⟨e', he', h2⟩ := ih2 x hx
        exact ⟨e', by simp [he'], h2⟩
theorem aCK : ∀ (l : List Info) (i : Nat), aDh l i = l[i]?
 |[], _ => by simp [aDh]
 |_ :: _, 0 => by simp [aDh]
 |_ :: l, i + 1 => by simp [aDh, aCK l i]
theorem oP {y : Info} : ∀ {log : List Info} {n : Nat}, log.length = n → lX y log n = true → ∀ (i : Nat) (x : Info), i < n → log[n - 1 - i]? = some x → xO x.dst y.dst = true ∧ (i ∈ y.pre ∨ uP x y = true)
 |[], n, hl, _, i, x, hi, hx => by simp at hx
 |z :: r, n, hl, h, i, x, hi, hx => by
  simp only [List.length_cons] at hl
  simp only [lX] at h
  split at h <;> try contradiction
  rename_i hd
  have ih := oP (y := y) (log := r) (n := n - 1) (by omega)
  by_cases hin : i = n - 1
  ·rw [hin, show n - 1 - (n - 1) = 0 by omega] at hx
   simp at hx
   subst hx
   refine ⟨hd, ?_⟩
   split at h
   ·rename_i hm; left; rw [hin]; exact fF.1 hm
   ·split at h <;> try contradiction
    rename_i hi'
    exact .inr hi'
  ·have hx' : r[n - 1 - 1 - i]? = some x := by
    rw [show n - 1 - i = (n - 1 - 1 - i) + 1 by omega] at hx
    simpa using hx
   have hr : lX y r (n - 1) = true := by
    split at h
    ·exact h
    ·split at h <;> try contradiction
     exact h
   exact ih hr i x (by omega) hx'
theorem kF {m : Mem} {b : Nat} : ∀ {up : Mem}, b ∉ bT up → get (up ++ m) b = get m b := by
 intro up h
 rw [eO, if_neg (by rw [← kC]; exact h)]
theorem aC9 {m : Mem} {b : Nat} {up : Mem} (h : b ∈ bT up) : get (up ++ m) b = get up b := by
 rw [eO, if_pos (by rw [← kC]; exact h)]
theorem mD {α : Type} {l : List α} {x y : α} {i : Nat} (h : (l ++ [x])[i]? = some y) : (i < l.length ∧ l[i]? = some y) ∨ (i = l.length ∧ y = x) := by
 rcases Nat.lt_trichotomy i l.length with h' | h' | h'
 ·rw [List.getElem?_append_left h'] at h; exact .inl ⟨h', h⟩
 ·subst h'; simp at h; exact .inr ⟨rfl, h.symm⟩
 ·rw [List.getElem?_append_right (by omega)] at h
  rw [List.getElem?_eq_none (by simp; omega)] at h
  cases h
theorem Char.step {tm0 : TM} {m0 : Mem} {nx0 : Nat} {ps : List Rec} {r : Rec} (H : Char tm0 m0 nx0 ps r.tm r.m r.nx) (hd : ∀ (i : Nat) (r' : Rec), ps[i]? = some r' → xO r'.o.dst r.o.dst = true) :
  Char tm0 m0 nx0 (ps ++ [r]) (tV r.o.dst r.v r.tm) (r.up ++ r.m) (r.nx + r.nw) := by
 refine ⟨fun i r' t hi ht => ?_, fun t h => ?_, fun b i r' hi hb hk => ?_, fun b h => ?_, fun i r' hi => ?_, by have := H.le; omega⟩
 ·rcases mD hi with ⟨h1, h2⟩ | ⟨h1, rfl⟩
  ·cases hdr : r.o.dst with
   |none => exact H.tmW i r' t h2 ht
   |some t' =>
    simp only [tV]
    rw [fL, if_neg]
    ·exact H.tmW i r' t h2 ht
    ·intro e
     subst e
     exact lF (hd i r' h2) t' ht hdr
  ·rw [ht]; simp [tV, fL]
 ·have hr : r.o.dst ≠ some t := h ps.length r (by simp)
  have : lk (tV r.o.dst r.v r.tm) t = lk r.tm t := by
   cases hdr : r.o.dst with
   |none => rfl
   |some t' => simp only [tV]; rw [fL, if_neg (fun e => hr (by rw [hdr, e]))]
  rw [this]
  exact H.tmO t fun i r' hi => h i r' (by
   have : i < ps.length := by
    rcases Nat.lt_or_ge i ps.length with h' | h'
    ·exact h'
    ·rw [List.getElem?_eq_none h'] at hi; cases hi
   rw [List.getElem?_append_left this]; exact hi)
 ·rcases mD hi with ⟨h1, h2⟩ | ⟨h1, rfl⟩
  ·have hnr : b ∉ bT r.up := hk ps.length r h1 (by simp)
   rw [kF hnr]
   exact H.mW b i r' h2 hb fun k r'' hik hk' => hk k r'' hik (by
    have : k < ps.length := by
     rcases Nat.lt_or_ge k ps.length with h' | h'
     ·exact h'
     ·rw [List.getElem?_eq_none h'] at hk'; cases hk'
    rw [List.getElem?_append_left this]; exact hk')
  ·exact aC9 hb
 ·have hnr : b ∉ bT r.up := h ps.length r (by simp)
  rw [kF hnr]
  exact H.mO b fun i r' hi => h i r' (by
   have : i < ps.length := by
    rcases Nat.lt_or_ge i ps.length with h' | h'
    ·exact h'
    ·rw [List.getElem?_eq_none h'] at hi; cases hi
   rw [List.getElem?_append_left this]; exact hi)
 ·rcases mD hi with ⟨h1, h2⟩ | ⟨h1, rfl⟩
  ·have := H.nxs i r' h2; omega
  ·have := H.le; omega
theorem Char.congr {tm0 : TM} {m0 : Mem} {nx0 : Nat} {ps : List Rec} {tm tm' : TM} {m : Mem} {nx : Nat} (H : Char tm0 m0 nx0 ps tm m nx) (h : ∀ t, lk tm' t = lk tm t) : Char tm0 m0 nx0 ps tm' m nx :=
 ⟨fun i r t hi ht => by rw [h]; exact H.tmW i r t hi ht, fun t ht => by rw [h]; exact H.tmO t ht, H.mW, H.mO, H.nxs, H.le⟩
theorem tQ {P : Program} {X : Ctx} {N : Nat} {ops : List Oper} {K : TM → Mem → Nat → Prop} {tm0 : TM} {m0 : Mem} {nx0 : Nat} :
  ∀ (rs ps : List Rec) (log : List Info) (tm : TM) (m : Mem) (nx : Nat), Run P X N ops rs ps.length log tm m nx K → log = (ps.map (·.info)).reverse → nx ≤ 999998 → Char tm0 m0 nx0 ps tm m nx →
   (∀ (j : Nat) (r : Rec), ps[j]? = some r → Fact P X N ops tm0 m0 nx0 ps j r) →
   ∃ qs tmF mF nxF, qs.length = ops.length ∧ (∀ (j : Nat) (r : Rec), qs[j]? = some r → Fact P X N ops tm0 m0 nx0 qs j r) ∧ Char tm0 m0 nx0 qs tmF mF nxF ∧ nxF ≤ 999998 ∧ K tmF mF nxF
 |[], ps, log, tm, m, nx, h, hlog, hnx, hc, hf => by
  obtain ⟨h1, h2⟩ := h
  refine ⟨ps, tm, m, nx, ?_, hf, hc, hnx, h2⟩
  have h3 : ops.length ≤ ps.length := List.drop_eq_nil_iff.1 h1
  rcases Nat.lt_or_ge ops.length ps.length with h4 | h4
  ·have h5 : ps[ops.length]? = some ps[ops.length] := List.getElem?_eq_getElem h4
   have := (hf _ _ h5).op
   simp at this
  ·omega
 |r :: rs, ps, log, tm, m, nx, h, hlog, hnx, hc, hf => by
  obtain ⟨h1, h2, h3, h4, h5, h6, h7, h8, h9, h10, h11, h12, h13, h14, h15, h16⟩ := h
  subst h3 h4
  obtain ⟨p1, p2⟩ := p8 h13
  have hnth : ∀ i (r' : Rec), ps[i]? = some r' → log[ps.length - 1 - i]? = some r'.info := by
   intro i r' hi
   have hlt : i < ps.length := by
    rcases Nat.lt_or_ge i ps.length with h' | h'
    ·exact h'
    ·rw [List.getElem?_eq_none h'] at hi; cases hi
   rw [hlog, List.getElem?_reverse (by simp; omega)]
   simp only [List.length_map]
   rw [show ps.length - 1 - (ps.length - 1 - i) = i by omega]
   simp [hi]
  have hnth2 : ∀ i, i < ps.length → ∀ x, aDh log (ps.length - 1 - i) = some x → ∃ r', ps[i]? = some r' ∧ x = r'.info := by
   intro i hi x hx
   have h' := List.getElem?_eq_getElem hi
   refine ⟨ps[i], h', ?_⟩
   have := hnth i _ h'
   rw [aCK, this] at hx
   cases hx; rfl
  have hpair : ∀ (i : Nat) (r' : Rec), i < ps.length → ps[i]? = some r' → xO r'.o.dst r.o.dst = true ∧ (i ∈ r.info.pre ∨ uP r'.info r.info = true) := by
   intro i r' hi hr'
   have := oP (y := r.info) (log := log) (n := ps.length) (by rw [hlog]; simp) h14 i r'.info hi (hnth i r' hr')
   rw [(hf i r' hr').dst, h9] at this
   exact this
  have hc' : Char tm0 m0 nx0 ps r.tm r.m r.nx := hc.congr h2
  have hfact : Fact P X N ops tm0 m0 nx0 (ps ++ [r]) ps.length r := by
   refine ⟨h1, by rw [List.take_left]; exact hc', h5, ?_, h7, h8, h10, h11, h12, h9, h15, fun i r' hi hr' => ?_, p1, fun x hx => ?_⟩
   ·cases hg : r.o.guard with
    |none => rw [hg] at h6; exact h6
    |some p =>
     obtain ⟨g, wnt⟩ := p
     rw [hg] at h6
     obtain ⟨t, k1, k2⟩ := h6
     exact ⟨t, k1, by rw [h2]; exact k2⟩
   ·rw [List.getElem?_append_left hi] at hr'
    exact hpair i r' hi hr'
   ·obtain ⟨e, he, hb, hlt, hor⟩ := p2 x hx
    refine ⟨e, he, hb, hlt, ?_⟩
    rcases hor with h | ⟨i, hi, hxi⟩
    ·exact .inl h
    ·obtain ⟨r', hr', rfl⟩ := hnth2 e.on hlt i hi
     exact .inr ⟨r', by rw [List.getElem?_append_left hlt]; exact hr', hxi⟩
  have hstep := hc'.step (r := r) fun i r' hi => by
   have hlt : i < ps.length := by
    rcases Nat.lt_or_ge i ps.length with h' | h'
    ·exact h'
    ·rw [List.getElem?_eq_none h'] at hi; cases hi
   exact (hpair i r' hlt hi).1
  have hf' : ∀ (j : Nat) (r' : Rec), (ps ++ [r])[j]? = some r' → Fact P X N ops tm0 m0 nx0 (ps ++ [r]) j r' := by
   intro j r' hj
   rcases mD hj with ⟨hlt, hr'⟩ | ⟨rfl, rfl⟩
   ·obtain ⟨q1, q2, q3, q4, q5, q6, q7, q8, q9, q10, q11, q12, q13, q14⟩ := hf j r' hr'
    refine ⟨q1, by rw [List.take_append_of_le_length (by omega)]; exact q2, q3, q4, q5, q6, q7, q8, q9, q10, q11, fun i r'' hi hr'' => ?_, q13, fun x hx => ?_⟩
    ·rw [List.getElem?_append_left (by omega)] at hr''
     exact q12 i r'' hi hr''
    ·obtain ⟨e, he, hb, hl, hor⟩ := q14 x hx
     refine ⟨e, he, hb, hl, ?_⟩
     rcases hor with h | ⟨r'', hr'', hx'⟩
     ·exact .inl h
     ·exact .inr ⟨r'', by rw [List.getElem?_append_left (by omega)]; exact hr'', hx'⟩
   ·exact hfact
  have hlen : (ps ++ [r]).length = ps.length + 1 := by simp
  exact tQ rs (ps ++ [r]) (r.info :: log) _ _ _ (by rw [hlen]; exact h16) (by rw [hlog]; simp) h5 hstep hf'
theorem Inv.congr {X : Ctx} {ρ : Env} {m m' : Mem} {w : World} (H : Inv X ρ m w) (h : ∀ b, get m' b = get m b) : Inv X ρ m' w where
 glob := H.glob
 sat i e hi := H.sat i e (by rw [← h]; exact hi)
 inj i j ei ej Li Lj hi hj := H.inj i j ei ej Li Lj (by rw [← h]; exact hi) (by rw [← h]; exact hj)
 own i e L hi := H.own i e L (by rw [← h]; exact hi)
 ext := H.ext
 size := H.size
 os := H.os
 out := H.out
 tape := H.tape
 fz b L hb := let ⟨h1, h2, h3⟩ := H.fz b L hb; ⟨h1, h2, fun i e Li hi => h3 i e Li (by rw [← h]; exact hi)⟩
theorem hM (p : Nat → Prop) : ∀ n : Nat, (∃ i, i < n ∧ p i ∧ ∀ k, i < k → k < n → ¬ p k) ∨ ∀ i, i < n → ¬ p i
 |0 => .inr fun i h => by omega
 |n + 1 => by
  by_cases hn : p n
  ·exact .inl ⟨n, Nat.lt_succ_self n, hn, fun k h1 h2 => by omega⟩
  ·rcases hM p n with ⟨i, h1, h2, h3⟩ | h
   ·refine .inl ⟨i, by omega, h2, fun k h4 h5 => ?_⟩
    by_cases hk : k = n
    ·subst hk; exact hn
    ·exact h3 k h4 (by omega)
   ·refine .inr fun i h1 => ?_
    by_cases hk : i = n
    ·subst hk; exact hn
    ·exact h i (by omega)
theorem aBT {ops : List Oper} {o : Oper} {tm : TM} {a : Act} {ρ : Env} {want : Bool} (h : match o.guard with | none => want = true | some (g, w) => ∃ t, lG ops g = some t ∧ GB (lk tm t) w want)
  (H : ∀ t ∈ cS ops o, ∀ d, lk tm t = some d → Rep ρ d (a.tmps.getD t undef)) : Region.wanted o (yielded ops.toArray a.tmps) = want := by
 cases hg : o.guard with
 |none => rw [hg] at h; simp only at h; subst h; simp [Region.wanted, hg]
 |some p =>
  obtain ⟨j, w⟩ := p
  rw [hg] at h
  simp only at h
  obtain ⟨t, ht, hb⟩ := h
  unfold GB at hb
  split at hb <;> try contradiction
  rotate_left
  ·rename_i hb'
   subst hb
   obtain ⟨vs, hv, hvs⟩ : Rep ρ (.tup []) (a.tmps.getD t undef) := H t (by simp [cS, hg, ht]) _ hb'
   cases vs with
   |nil => exact nA hg ht hv
   |cons => exact hvs.elim
  rename_i b hb'
  subst hb
  have hv : a.tmps.getD t undef = .bool b := H t (by simp [cS, hg, ht]) _ hb'
  have hlt : t < a.tmps.size := by
   rcases Nat.lt_or_ge t a.tmps.size with h' | h'
   ·exact h'
   ·simp [Array.getD_eq_getD_getElem?, Array.getElem?_eq_none h', undef] at hv
  have hget : a.tmps[t]? = some (.bool b) := by
   rw [Array.getD_eq_getD_getElem?, Array.getElem?_eq_getElem hlt] at hv
   simp at hv
   rw [Array.getElem?_eq_getElem hlt, hv]
  have hy : yielded ops.toArray a.tmps j = some b := by
   unfold yielded
   have : ((ops.toArray[j]?).bind (·.dst)) = some t := by rw [List.getElem?_toArray, ← mR, ht]
   rw [this]
   simp [hget]
  simp [Region.wanted, hg, hy]
structure Mid (X : CtxK) (ρ0 : Env) (np N : Nat) (tm0 : TM) (m0 : Mem) (nx0 : Nat) (qs : List Rec) (S : Nat → Prop) (ρ : Env) (m : Mem) (a : Act) (w : World) : Prop where
 lt : ∀ j, S j → j < qs.length
 down : ∀ j r, S j → qs[j]? = some r → ∀ e ∈ r.o.after.toList, Region.binds .any e = true → S e.on
 inv : Inv X.c ρ m w
 mW : ∀ (b i : Nat) (r : Rec), S i → qs[i]? = some r → b ∈ bT r.up → (∀ (k : Nat) (r' : Rec), S k → i < k → qs[k]? = some r' → b ∉ bT r'.up) → get m b = get r.up b
 mO : ∀ b : Nat, (∀ (i : Nat) (r : Rec), S i → qs[i]? = some r → b ∉ bT r.up) → get m b = get m0 b
 tW : ∀ (i : Nat) (r : Rec) (t : Nat), S i → qs[i]? = some r → r.o.dst = some t → Rep ρ r.v (a.tmps.getD t undef)
 tO : ∀ (t : Nat), (∀ (i : Nat) (r : Rec), S i → qs[i]? = some r → r.o.dst ≠ some t) → ∀ d, lk tm0 t = some d → Rep ρ d (a.tmps.getD t undef)
 size : a.tmps.size = N
 defs : Side X a w
 fix : Keep X.c np ρ0 ρ
 used : ∀ i, ρ i ≠ none → i < nx0 ∨ 1000000 ≤ i ∨ ∃ j r, S j ∧ qs[j]? = some r ∧ r.nx ≤ i ∧ i < r.nx + r.nw
theorem iK {α : Type} {l : List α} {j i : Nat} {x : α} (h : (l.take j)[i]? = some x) : i < j ∧ l[i]? = some x := by
 rw [List.getElem?_take] at h
 split at h
 ·rename_i hlt; exact ⟨hlt, h⟩
 ·cases h
theorem mL {α : Type} {l : List α} {j i : Nat} {x : α} (h : l[i]? = some x) (hlt : i < j) : (l.take j)[i]? = some x := by
 rw [List.getElem?_take, if_pos hlt]; exact h
theorem fV {x y : Info} (h : uP x y = true) : aEI x.keys y.foot = true ∧ aEI y.keys x.foot = true ∧ aEI x.keys y.keys = true ∧ aA9 x.dst y.looks = true ∧ aA9 y.dst x.looks = true := by
 unfold uP at h
 repeat' split at h
 all_goals first
  |contradiction
  |exact ⟨by assumption, by assumption, by assumption, by assumption, h⟩
section
variable {P : Program} {X : CtxK} {N : Nat} {ops : List Oper} {tm0 : TM} {m0 : Mem} {nx0 : Nat} {qs : List Rec} (hlen : qs.length = ops.length)
 (hf : ∀ (j : Nat) (r : Rec), qs[j]? = some r → Fact P X.c N ops tm0 m0 nx0 qs j r)
theorem jD {α : Type} {l : List α} {i : Nat} {x : α} (h : l[i]? = some x) : i < l.length := by
 rcases Nat.lt_or_ge i l.length with h' | h'
 ·exact h'
 ·rw [List.getElem?_eq_none h'] at h; cases h
include hf
theorem w5 {S : Nat → Prop} (hd : ∀ j r, S j → qs[j]? = some r → ∀ e ∈ r.o.after.toList, Region.binds .any e = true → S e.on) :
  ∀ (n j : Nat) (r : Rec), j < n → S j → qs[j]? = some r → ∀ x ∈ r.info.pre, S x
 |0, j, r, h, _, _, _, _ => by omega
 |n + 1, j, r, h, hS, hr, x, hx => by
  obtain ⟨e, he, hb, hlt, hor⟩ := (hf j r hr).pre x hx
  have hSe := hd j r hS hr e he hb
  rcases hor with rfl | ⟨r', hr', hx'⟩
  ·exact hSe
  ·exact w5 hd n e.on r' (by omega) hSe hr' x hx'
theorem zE {S : Nat → Prop} (hd : ∀ j r, S j → qs[j]? = some r → ∀ e ∈ r.o.after.toList, Region.binds .any e = true → S e.on) {j : Nat} {r : Rec} (hr : qs[j]? = some r)
  (hj : ∀ e ∈ r.o.after.toList, Region.binds .any e = true → S e.on) : ∀ x ∈ r.info.pre, S x := by
 intro x hx
 obtain ⟨e, he, hb, hlt, hor⟩ := (hf j r hr).pre x hx
 have hSe := hj e he hb
 rcases hor with rfl | ⟨r', hr', hx'⟩
 ·exact hSe
 ·exact w5 hf hd (e.on + 1) e.on r' (by omega) hSe hr' x hx'
theorem sG {ρ0 : Env} {np : Nat} {S : Nat → Prop} {ρ : Env} {m : Mem} {a : Act} {w : World} (H : Mid X ρ0 np N tm0 m0 nx0 qs S ρ m a w) {j : Nat} {r : Rec} (hr : qs[j]? = some r) (hj : ¬ S j) {i : Nat} {r' : Rec} (hi : qs[i]? = some r') (hji : j < i) (hS : S i) :
  uP r.info r'.info = true := by
 have h1 := ((hf i r' hi).pair j r hji hr).2
 rcases h1 with h1 | h1
 ·exact absurd (w5 hf H.down (i + 1) i r' (by omega) hS hi j h1) hj
 ·exact h1
theorem vT {S : Nat → Prop} {j : Nat} {r : Rec} (hr : qs[j]? = some r) (hpre : ∀ x ∈ r.info.pre, S x) {i : Nat} {r' : Rec} (hi : qs[i]? = some r') (hij : i < j) (hS : ¬ S i) :
  uP r'.info r.info = true := by
 rcases ((hf j r hr).pair i r' hij hi).2 with h | h
 ·exact absurd (hpre i h) hS
 ·exact h
theorem aCR {ρ0 : Env} {np : Nat} {S : Nat → Prop} {ρ : Env} {m : Mem} {a : Act} {w : World} (H : Mid X ρ0 np N tm0 m0 nx0 qs S ρ m a w) {j : Nat} {r : Rec} (hr : qs[j]? = some r) (hj : ¬ S j) (hpre : ∀ x ∈ r.info.pre, S x) :
  ∀ t ∈ r.info.looks, ∀ d, lk r.tm t = some d → Rep ρ d (a.tmps.getD t undef) := by
 intro t ht d hd
 have hF := hf j r hr
 rcases Classical.em (∃ (i : Nat) (r' : Rec), i < j ∧ qs[i]? = some r' ∧ r'.o.dst = some t) with ⟨i, r', hij, hi, hdst⟩ | hno
 ·have h1 := hF.char.tmW i r' t (mL hi hij) hdst
  rw [hd] at h1; cases h1
  by_cases hS : S i
  ·exact H.tW i r' t hS hi hdst
  ·have := (fV (vT hf hr hpre hi hij hS)).2.2.2.1
   exact absurd ht (qD this t (by rw [(hf i r' hi).dst]; exact hdst))
 ·have h1 : lk r.tm t = lk tm0 t := hF.char.tmO t fun i r' hi hdst => hno ⟨i, r', (iK hi).1, (iK hi).2, hdst⟩
  rw [h1] at hd
  refine H.tO t (fun i r' hS hi hdst => ?_) d hd
  rcases Nat.lt_trichotomy i j with h2 | h2 | h2
  ·exact hno ⟨i, r', h2, hi, hdst⟩
  ·subst h2; exact hj hS
  ·have := (fV (sG hf H hr hj hi h2 hS)).2.2.2.2
   exact qD this t (by rw [(hf i r' hi).dst]; exact hdst) ht
theorem aDn {ρ0 : Env} {np : Nat} {S : Nat → Prop} {ρ : Env} {m : Mem} {a : Act} {w : World} (H : Mid X ρ0 np N tm0 m0 nx0 qs S ρ m a w) {j : Nat} {r : Rec} (hr : qs[j]? = some r) (hj : ¬ S j) (hpre : ∀ x ∈ r.info.pre, S x) :
  ∀ b ∈ r.foot, get m b = get r.m b := by
 intro b hb
 have hF := hf j r hr
 have hb' : b ∈ r.info.foot := by rw [hF.foot]; exact hb
 have hlater : ∀ (k : Nat) (r' : Rec), S k → j < k → qs[k]? = some r' → b ∉ bT r'.up := by
  intro k r' hS hjk hk hm
  have := (fV (sG hf H hr hj hk hjk hS)).2.1
  exact oM this b (by rw [(hf k r' hk).keys]; exact hm) hb'
 rcases hM (fun i => ∃ r', qs[i]? = some r' ∧ b ∈ bT r'.up) j with ⟨i, hij, ⟨r', hi, hm⟩, hl⟩ | hno
 ·rw [hF.char.mW b i r' (mL hi hij) hm fun k r'' hik hk hm' => hl k hik (iK hk).1 ⟨r'', (iK hk).2, hm'⟩]
  have hS : S i := by
   rcases Classical.em (S i) with h | h
   ·exact h
   ·have := (fV (vT hf hr hpre hi hij h)).1
    exact absurd hb' (oM this b (by rw [(hf i r' hi).keys]; exact hm))
  refine H.mW b i r' hS hi hm fun k r'' hSk hik hk => ?_
  rcases Nat.lt_trichotomy k j with h2 | h2 | h2
  ·exact fun hm' => hl k hik h2 ⟨r'', hk, hm'⟩
  ·subst h2; exact absurd hSk hj
  ·exact hlater k r'' hSk h2 hk
 ·rw [hF.char.mO b fun i r' hi hm => hno i (iK hi).1 ⟨r', (iK hi).2, hm⟩]
  refine H.mO b fun k r'' hSk hk => ?_
  rcases Nat.lt_trichotomy k j with h2 | h2 | h2
  ·exact fun hm' => hno k h2 ⟨r'', hk, hm'⟩
  ·subst h2; exact absurd hSk hj
  ·exact hlater k r'' hSk h2 hk
theorem aDm {ρ0 : Env} {np : Nat} {S : Nat → Prop} {ρ : Env} {m : Mem} {a : Act} {w : World} (H : Mid X ρ0 np N tm0 m0 nx0 qs S ρ m a w) {j : Nat} {r : Rec} (hr : qs[j]? = some r) (hj : ¬ S j) :
  ∀ i, r.nx ≤ i → i < r.nx + r.nw → ρ i = none := by
 intro i h1 h2
 have hF := hf j r hr
 cases h : ρ i with
 |none => rfl
 |some L =>
  exfalso
  rcases H.used i (by rw [h]; simp) with h3 | h3 | ⟨k, r', hS, hk, h3, h4⟩
  ·have := hF.char.le; omega
  ·have := hF.lim; omega
  ·rcases Nat.lt_trichotomy k j with h5 | h5 | h5
   ·have := hF.char.nxs k r' (mL hk h5); omega
   ·subst h5; exact hj hS
   ·have := (hf k r' hk).char.nxs j r (mL hr h5); omega
theorem zL {ρ0 : Env} {np : Nat} {S : Nat → Prop} {ρ : Env} {m : Mem} {a : Act} {w : World} (H : Mid X ρ0 np N tm0 m0 nx0 qs S ρ m a w) (hnp : np ≤ nx0) {j : Nat} {r : Rec} (hr : qs[j]? = some r) (hj : ¬ S j)
  (hedges : ∀ e ∈ r.o.after.toList, Region.binds .any e = true → S e.on) {ρ' : Env} {v' : Value} {w' : World} (hle : ρ.le ρ') (hdom : Dom X.c r.nx r.nw ρ ρ')
  (hv : Rep ρ' r.v v') (hinv : Inv X.c ρ' (r.up ++ m) w') (hkeep : vY w w') : Mid X ρ0 np N tm0 m0 nx0 qs (fun i => i = j ∨ S i) ρ' (r.up ++ m) (a.put r.o.dst v') w' := by
 have hF := hf j r hr
 have hpre := zE hf H.down hr hedges
 have hput : ∀ t, (a.put r.o.dst v').tmps.getD t undef = if r.o.dst = some t then v' else a.tmps.getD t undef := by
  intro t
  cases hd : r.o.dst with
  |none => simp [Act.put]
  |some s =>
   rw [zC (by rw [H.size]; exact hF.small s hd)]
   simp
 have hdiff : ∀ i r' t, S i → qs[i]? = some r' → r'.o.dst = some t → r.o.dst ≠ some t := by
  intro i r' t hS hi ht ht'
  rcases Nat.lt_trichotomy i j with h | h | h
  ·exact lF (hF.pair i r' h hi).1 t ht ht'
  ·subst h; exact hj hS
  ·exact lF ((hf i r' hi).pair j r h hr).1 t ht' ht
 refine ⟨?_, ?_, hinv, ?_, ?_, ?_, ?_, ?_, ?_, ?_, ?_⟩
 ·rintro i (rfl | h)
  ·exact jD hr
  ·exact H.lt i h
 ·rintro i r' (rfl | h) hi e he hb
  ·rw [hr] at hi; cases hi; exact .inr (hedges e he hb)
  ·exact .inr (H.down i r' h hi e he hb)
 ·rintro b i r' (rfl | h) hi hb hl
  ·rw [hr] at hi; cases hi
   exact aC9 hb
  ·have hnb : b ∉ bT r.up := by
    intro hb'
    rcases Nat.lt_trichotomy i j with h2 | h2 | h2
    ·exact hl j r (.inl rfl) h2 hr hb'
    ·subst h2; exact hj h
    ·have := (fV (sG hf H hr hj hi h2 h)).2.2.1
     exact oM this b (by rw [hF.keys]; exact hb') (by rw [(hf i r' hi).keys]; exact hb)
   rw [kF hnb]
   exact H.mW b i r' h hi hb fun k r'' hS hik hk => hl k r'' (.inr hS) hik hk
 ·intro b hb
  rw [kF (hb j r (.inl rfl) hr)]
  exact H.mO b fun i r' hS hi => hb i r' (.inr hS) hi
 ·rintro i r' t (rfl | h) hi ht
  ·rw [hr] at hi; cases hi
   rw [hput, if_pos ht]; exact hv
  ·rw [hput, if_neg (hdiff i r' t h hi ht)]
   exact (H.tW i r' t h hi ht).mono hle
 ·intro t ht d hd
  rw [hput, if_neg (ht j r (.inl rfl) hr)]
  exact (H.tO t (fun i r' hS hi => ht i r' (.inr hS) hi) d hd).mono hle
 ·cases hd : r.o.dst <;> simp [Act.put, H.size]
 ·exact H.defs.step hkeep (by cases hd : r.o.dst <;> rfl)
 ·exact H.fix.step hle hdom (by have := hF.char.le; omega) (by have := hF.lim; omega)
 ·intro i hi
  rcases hdom i hi with h1 | h1 | ⟨b, rfl, _⟩
  ·rcases H.used i h1 with h2 | h2 | ⟨k, r', hS, hk, h3⟩
   ·exact .inl h2
   ·exact .inr (.inl h2)
   ·exact .inr (.inr ⟨k, r', .inr hS, hk, h3⟩)
  ·exact .inr (.inr ⟨j, r, .inl rfl, hr, h1⟩)
  ·exact .inr (.inl (by unfold fzn; omega))
omit hf in
theorem aFj {ρ0 : Env} {np : Nat} {S : Nat → Prop} {ρ : Env} {m : Mem} {a : Act} {w : World} (H : Mid X ρ0 np N tm0 m0 nx0 qs S ρ m a w) (hnp : np ≤ nx0) (hall : ∀ j, j < qs.length → S j) {tmF : TM} {mF : Mem} {nxF : Nat}
  (hC : Char tm0 m0 nx0 qs tmF mF nxF) (hlim : nxF ≤ 999998) : StOk X ρ0 np N tmF mF nxF ρ a w := by
 refine ⟨H.inv.congr fun b => ?_, fun t d hd => ?_, H.size, H.defs, H.fix, fun i hi => ?_, hlim, by have := hC.le; omega⟩
 ·rcases hM (fun i => ∃ r', qs[i]? = some r' ∧ b ∈ bT r'.up) qs.length with ⟨i, hij, ⟨r', hi, hm⟩, hl⟩ | hno
  ·rw [hC.mW b i r' hi hm fun k r'' hik hk hm' => hl k hik (jD hk) ⟨r'', hk, hm'⟩]
   exact (H.mW b i r' (hall i hij) hi hm fun k r'' _ hik hk hm' => hl k hik (jD hk) ⟨r'', hk, hm'⟩).symm
  ·rw [hC.mO b fun i r' hi hm => hno i (jD hi) ⟨r', hi, hm⟩]
   exact (H.mO b fun i r' _ hi hm => hno i (jD hi) ⟨r', hi, hm⟩).symm
 ·rcases Classical.em (∃ (i : Nat) (r' : Rec), qs[i]? = some r' ∧ r'.o.dst = some t) with ⟨i, r', hi, hdst⟩ | hno
  ·rw [hC.tmW i r' t hi hdst] at hd; cases hd
   exact H.tW i r' t (hall i (jD hi)) hi hdst
  ·rw [hC.tmO t fun i r' hi hdst => hno ⟨i, r', hi, hdst⟩] at hd
   exact H.tO t (fun i r' _ hi hdst => hno ⟨i, r', hi, hdst⟩) d hd
 ·rcases H.used i hi with h | h | ⟨k, r', _, hk, h3⟩
  ·left; have := hC.le; omega
  ·exact .inr h
  ·left; have := hC.nxs k r' hk; omega
end
def unl (ops : Array Oper) (listed : Array Bool) : List Nat := (List.range ops.size).filter fun i => !listed.getD i true
theorem tT {md : Region.Mode} {ops : Array Oper} {listed : Array Bool} {i : Nat} (h : i ∈ Region.ready md ops listed) :
  i < ops.size ∧ listed.getD i true = false ∧ ∃ o, ops[i]? = some o ∧ ∀ e ∈ o.after.toList, Region.binds md e = true → listed.getD e.on false = true := by
 unfold Region.ready at h
 rw [List.mem_filter] at h
 obtain ⟨h1, h2⟩ := h
 have h1 := List.mem_range.1 h1
 refine ⟨h1, ?_⟩
 rw [Bool.and_eq_true] at h2
 obtain ⟨h2, h3⟩ := h2
 refine ⟨by simpa using h2, ?_⟩
 cases ho : ops[i]? with
 |none => rw [ho] at h3; simp at h3
 |some o =>
  rw [ho] at h3
  simp only [Option.map_some, Option.getD_some] at h3
  refine ⟨o, rfl, fun e he hb => ?_⟩
  rw [Array.all_eq_true'] at h3
  have := h3 e (Array.mem_toList_iff.1 he)
  simpa [hb] using this
theorem rU {l : Array Bool} {i : Nat} (h : i < l.size) (b c : Bool) : l.getD i b = l.getD i c := by
 simp [Array.getD, h]
theorem aBu {md : Region.Mode} {ops : Array Oper} {listed : Array Bool} (hsz : listed.size = ops.size) (hedge : ∀ j o, ops[j]? = some o → ∀ e ∈ o.after.toList, Region.binds md e = true → e.on < j)
  (h : Region.ready md ops listed = []) : ∀ j, j < ops.size → listed.getD j true = true := by
 have key : ∀ n j, j < n → j < ops.size → listed.getD j true = true := by
  intro n
  induction n with
  |zero => intro j h1; omega
  |succ n ih =>
   intro j h1 h2
   cases hj : listed.getD j true with
   |true => rfl
   |false =>
    exfalso
    have : j ∈ Region.ready md ops listed := by
     unfold Region.ready
     rw [List.mem_filter]
     refine ⟨List.mem_range.2 h2, ?_⟩
     rw [Array.getElem?_eq_getElem h2]
     simp only [Option.map_some, Option.getD_some, hj, Bool.not_false, Bool.true_and]
     rw [Array.all_eq_true']
     intro e he
     cases hb : Region.binds md e with
     |false => rfl
     |true =>
      have hlt := hedge j _ (Array.getElem?_eq_getElem h2) e (Array.mem_toList_iff.2 he) hb
      rw [rU (by omega) false true, ih e.on (by omega) (by omega)]
      rfl
    rw [h] at this
    cases this
 exact fun j hj => key (j + 1) j (by omega) hj
theorem aEv {ops : Array Oper} {listed : Array Bool} (hsz : listed.size = ops.size) {i : Nat} (hi : i < ops.size) (hl : listed.getD i true = false) : (unl ops (listed.setIfInBounds i true)).length < (unl ops listed).length := by
 have hsub : unl ops (listed.setIfInBounds i true) = (unl ops listed).filter fun k => !(k == i) := by
  unfold unl
  rw [List.filter_filter]
  refine List.filter_congr fun k hk => ?_
  by_cases h : k = i
  ·subst h
   simp [Array.getD_eq_getD_getElem?, hsz, hi]
  ·have h' : ¬ i = k := fun e => h e.symm
   simp only [Array.getD_eq_getD_getElem?, Array.getElem?_setIfInBounds_ne h']
   have : (k == i) = false := by simp [h]
   rw [this]; simp
 rw [hsub]
 have hmem : i ∈ unl ops listed := by
  unfold unl
  rw [List.mem_filter]
  exact ⟨List.mem_range.2 hi, by rw [hl]; rfl⟩
 exact List.length_filter_lt_length_iff_exists.2 ⟨i, hmem, by simp⟩
section
variable {P : Program} {X : CtxK} {N : Nat} {ops : List Oper} {tm0 : TM} {m0 : Mem} {nx0 : Nat} {qs : List Rec} (hlen : qs.length = ops.length)
 (hf : ∀ (j : Nat) (r : Rec), qs[j]? = some r → Fact P X.c N ops tm0 m0 nx0 qs j r)
include hlen hf
theorem aFk {ro : Option Nat} {n : Nat} {ρ0 : Env} {np : Nat} (hnp : np ≤ nx0) {tmF : TM} {mF : Mem} {nxF : Nat} (hC : Char tm0 m0 nx0 qs tmF mF nxF) (hlim : nxF ≤ 999998) {Q : Exit → Act → World → Prop}
  (hQ : ∀ ρ a w, StOk X ρ0 np N tmF mF nxF ρ a w → Q .normal a w) : ∀ (fuel : Nat) (listed : Array Bool) (ρ : Env) (m : Mem) (a : Act) (w : World), listed.size = ops.length → (unl ops.toArray listed).length ≤ fuel →
   Mid X ρ0 np N tm0 m0 nx0 qs (fun i => i < qs.length ∧ listed.getD i false = true) ρ m a w → wpAnyIn (FW ro) n P .any ops.toArray Q fuel listed a w := by
 have hedge : ∀ j o, ops.toArray[j]? = some o → ∀ e ∈ o.after.toList, Region.binds .any e = true → e.on < j := by
  intro j o ho e he hb
  rw [List.getElem?_toArray] at ho
  have hj : j < qs.length := by rw [hlen]; exact jD ho
  have hF := hf j _ (List.getElem?_eq_getElem hj)
  have := hF.op
  rw [ho] at this; cases this
  exact hF.edge e he hb
 have hend : ∀ (listed : Array Bool) (ρ : Env) (m : Mem) (a : Act) (w : World), listed.size = ops.length → Region.ready .any ops.toArray listed = [] →
   Mid X ρ0 np N tm0 m0 nx0 qs (fun i => i < qs.length ∧ listed.getD i false = true) ρ m a w → Q .normal a w := by
  intro listed ρ m a w hsz hr H
  refine hQ ρ a w (aFj H hnp (fun j hj => ⟨hj, ?_⟩) hC hlim)
  rw [rU (by omega) false true]
  exact aBu (by simpa using hsz) hedge hr j (by simpa [hlen] using hj)
 intro fuel
 induction fuel with
 |zero =>
  intro listed ρ m a w hsz hun H
  have h0 : unl ops.toArray listed = [] := List.length_eq_zero_iff.1 (by omega)
  have hr : Region.ready .any ops.toArray listed = [] := by
   cases hr : Region.ready .any ops.toArray listed with
   |nil => rfl
   |cons i l =>
    obtain ⟨h1, h2, _⟩ := tT (i := i) (md := .any) (ops := ops.toArray) (listed := listed) (by rw [hr]; simp)
    have : i ∈ unl ops.toArray listed := by
     unfold unl
     rw [List.mem_filter]
     exact ⟨List.mem_range.2 h1, by rw [h2]; rfl⟩
    rw [h0] at this; cases this
  exact ⟨hr, hend listed ρ m a w hsz hr H⟩
 |succ fuel ih =>
  intro listed ρ m a w hsz hun H
  refine ⟨fun hr => hend listed ρ m a w hsz hr H, fun j hj => ?_⟩
  obtain ⟨hlt, hnl, o, ho, hedges⟩ := tT hj
  have hjq : j < qs.length := by rw [hlen]; simpa using hlt
  have hr := List.getElem?_eq_getElem hjq
  generalize qs[j] = r at hr
  have hF := hf j r hr
  have hoo : o = r.o := by
   have := hF.op
   rw [List.getElem?_toArray, this] at ho; cases ho; rfl
  subst hoo
  have hnS : ¬ (j < qs.length ∧ listed.getD j false = true) := by
   rintro ⟨_, h2⟩
   rw [rU (by omega) false true, hnl] at h2; cases h2
  have hedges' : ∀ e ∈ r.o.after.toList, Region.binds .any e = true → (e.on < qs.length ∧ listed.getD e.on false = true) := fun e he hb => ⟨by have := hF.edge e he hb; omega, hedges e he hb⟩
  have hpre := zE hf H.down hr hedges'
  have hlooks := aCR hf H hr hnS hpre
  have hw := aBT (a := a) (ρ := ρ) hF.guard fun t ht d hd => hlooks t (by rw [hF.looks]; exact List.mem_append.2 (.inl ht)) d hd
  have hnext : ∀ ρ' m' a' w', Mid X ρ0 np N tm0 m0 nx0 qs (fun i => i = j ∨ (i < qs.length ∧ listed.getD i false = true)) ρ' m' a' w' → wpAnyIn (FW ro) n P .any ops.toArray Q fuel (listed.setIfInBounds j true) a' w' := by
   intro ρ' m' a' w' H'
   have hun' := aEv (ops := ops.toArray) (by simpa using hsz) hlt hnl
   refine ih _ ρ' m' a' w' (by simpa using hsz) (by omega) ?_
   have hS : (fun i => i = j ∨ (i < qs.length ∧ listed.getD i false = true)) = (fun i => i < qs.length ∧ (listed.setIfInBounds j true).getD i false = true) := by
    funext i
    apply propext
    by_cases hij : i = j
    ·subst hij
     simp [Array.getD_eq_getD_getElem?, hjq, hsz, hlen ▸ hjq]
    ·have hji : ¬ j = i := fun e => hij e.symm
     simp only [hij, false_or, Array.getD_eq_getD_getElem?, Array.getElem?_setIfInBounds_ne hji]
   rw [hS] at H'
   exact H'
  unfold wpOpIn
  rw [ho]
  simp only
  rw [hw]
  cases hwant : r.want with
  |true =>
   rw [if_pos rfl]
   obtain ⟨hd, hk⟩ := hF.does hwant
   have hres : ρ 999999 = none := by
    cases h : ρ 999999 with
    |none => rfl
    |some L =>
     exfalso
     rcases H.used 999999 (by rw [h]; simp) with h3 | h3 | ⟨k, r', hS, hk, h3, h4⟩
     ·have := hF.char.le; have := hF.lim; omega
     ·omega
     ·have := (hf k r' hk).lim; omega
   refine hd ρ m w a H.inv (aDn hf H hr hnS hpre) (fun t ht d hd => hlooks t (by rw [hF.looks]; exact List.mem_append.2 (.inr ht)) d hd) hres (aDm hf H hr hnS) ro n _ Q ?_
   intro ρ' v' w' hle hdom hv hinv hkeep
   exact hnext ρ' _ _ w' (zL hf H hnp hr hnS hedges' hle hdom hv hinv hkeep)
  |false =>
   rw [if_neg (by simp)]
   obtain ⟨h1, h2, h3, h4⟩ := hF.skip hwant
   refine ⟨fun _ _ => trivial, ?_⟩
   refine hnext ρ m _ w ?_
   have := zL hf H hnp hr hnS hedges' (ρ' := ρ) (v' := undef) (w' := w) (Env.le_refl ρ) (fun i h => .inl h) (by rw [h3]; exact ⟨[], rfl, trivial⟩) (by rw [h1]; exact H.inv) (KeepsOthers.refl w)
   rw [h1] at this
   exact this
end
theorem aCf {ro : Option Nat} {n : Nat} {P : Program} {Γ : Tab} (hΓ : b8 P Γ) (hmix : P.follows .mixedOrders = true) {N : Nat} {X : CtxK} {ρ0 : Env} {np : Nat} {Q : Exit → Act → World → Prop} {K : TM → Mem → Nat → Prop}
  (hK : ∀ tm m nx ρ a w, K tm m nx → StOk X ρ0 np N tm m nx ρ a w → Q .normal a w) {id : Nat} {ops : List Oper} {tm : TM} {m : Mem} {nx : Nat} {ρ : Env} {a : Act} {w : World}
  (h : aFz P Γ N ops ops [] tm m nx K) (H : StOk X ρ0 np N tm m nx ρ a w) : (Code.region id ops.toArray true).wpIn (FW ro) n P Q a w := by
 obtain ⟨rs, hrun⟩ := aFy hΓ (X := X.c) ops H.lim h
 obtain ⟨qs, tmF, mF, nxF, hlen, hf, hC, hlim, hk⟩ := tQ (tm0 := tm) (m0 := m) (nx0 := nx) rs [] [] tm m nx hrun rfl H.lim
  ⟨fun i r t hi => by simp at hi, fun t _ => rfl, fun b i r hi => by simp at hi, fun b _ => rfl, fun i r hi => by simp at hi, Nat.le_refl _⟩ (fun j r hj => by simp at hj)
 refine wpIn_region_any hmix ?_
 refine aFk (Q := Q) hlen hf H.le hC hlim (fun ρ a w h => hK _ _ _ ρ a w hk h) _ _ ρ m a _ (by simp) ?_ ?_
 ·unfold unl
  exact Nat.le_trans (List.length_filter_le _ _) (by simp)
 ·have hno : ∀ i, ¬ (i < qs.length ∧ (Array.replicate ops.toArray.size false).getD i false = true) := by
   rintro i ⟨_, h2⟩
   simp [Array.getD_eq_getD_getElem?, Array.getElem?_replicate] at h2
   split at h2 <;> simp at h2
  refine ⟨fun j h => absurd h (hno j), fun j r h => absurd h (hno j), H.inv.drew, fun b i r h => absurd h (hno i), fun b _ => rfl, fun i r t h => absurd h (hno i), fun t _ d hd => H.tmps t d hd, H.size, H.defs.step ⟨Nat.le_refl _, fun _ _ h _ => h⟩ rfl, H.fix, fun i hi => ?_⟩
  rcases H.used i hi with h | h
  ·exact .inl h
  ·exact .inr (.inl h)
def vX (s : Nat → Nat) (tm : TM) : TM → Prop
 |[] => True
 |(t, d) :: r => lk tm t = some (d.ren s) ∧ vX s tm r
theorem uH {s : Nat → Nat} {tm : TM} : ∀ {T : TM} {t : Nat} {d : D}, vX s tm T → lk T t = some d → lk tm t = some (d.ren s)
 |(u, e) :: r, t, d, h, hl => by
  rw [fL] at hl
  split at hl
  ·subst_vars; cases hl; exact h.1
  ·exact uH (T := r) h.2 hl
def lE (σ : List Nat) : Nat → Bool
 |0 => true
 |i + 1 => match Nat.beq (σ.getD i 999999) i with
  |true => lE σ i
  |false => false
theorem iR {σ : List Nat} : ∀ {n : Nat}, lE σ n = true → ∀ i, i < n → σ.getD i 999999 = i
 |0, _, i, h => by omega
 |n + 1, hk, i, h => by
  simp only [lE] at hk
  split at hk <;> try contradiction
  rename_i hb
  by_cases hi : i = n
  ·rw [hi]; exact Nat.eq_of_beq_eq_true hb
  ·exact iR hk i (by omega)
def iG (np nh : Nat) (σ : List Nat) (T : TM) (M : Mem) (tm : TM) (m : Mem) : Prop :=
 (np ≤ nh ∧ nh ≤ 999998 ∧ lE σ np = true) ∧ vX (sig nh 0 0 σ) tm T ∧ bQ (sig nh 0 0 σ) m M ∧ bS nh (sig nh 0 0 σ) M M = true
theorem rE {nh : Nat} {σ : List Nat} {i : Nat} (h : ¬ Use nh i) : sig nh 0 0 σ i = 999999 := by
 unfold Use at h
 unfold sig
 have e1 : Nat.blt i nh = false := by rw [cD]; simp; omega
 have e2 : Nat.ble 1000000 i = false := by
  cases hb : Nat.ble 1000000 i with
  |false => rfl
  |true => have := Nat.le_of_ble_eq_true hb; omega
 have e3 : Nat.blt (i - nh) 0 = false := by rw [cD]; simp
 rw [e1, e2, e3]
theorem nC {X : CtxK} {ρ0 : Env} {np N : Nat} {tm : TM} {m : Mem} {nx : Nat} {ρ : Env} {a : Act} {w : World} (H : StOk X ρ0 np N tm m nx ρ a w) {nh : Nat} {σ : List Nat} {T : TM} {M : Mem} (h : iG np nh σ T M tm m) :
  ∃ ρ', StOk X ρ0 np N T M nh ρ' a w := by
 obtain ⟨⟨h1, h2, h3⟩, h4, h5, h6⟩ := h
 generalize hs : sig nh 0 0 σ = s at *
 have s_gid : ∀ i, 1000000 ≤ i → s i = i := by
  intro i hi
  rw [← hs]
  unfold sig
  have e1 : Nat.blt i nh = false := by rw [cD]; simp; omega
  have e2 : Nat.ble 1000000 i = true := by simpa using hi
  rw [e1, e2]
 have s_np : ∀ i, i < np → s i = i := by
  intro i hi
  rw [← hs]
  unfold sig
  have e1 : Nat.blt i nh = true := by rw [cD]; simp; omega
  rw [e1]
  exact iR h3 i hi
 have hres : ρ 999999 = none := Inv.fresh H (by have := H.lim; omega) (Nat.le_refl _)
 have hsz : ∀ i, 2000000 ≤ i → s i = i := fun i h => s_gid i (by omega)
 have hρs : ∀ i, ρ (s i) ≠ none → Use nh i := by
  intro i hi
  by_cases hf : Use nh i
  ·exact hf
  ·rw [← hs, rE hf] at hi
   exact absurd hres hi
 let ρ' : Env := fun i => ρ (s i)
 have hget0 : ∀ i e, get M i = some e → Fix nh i ∧ ∃ e', get m (s i) = some e' ∧ e'.ty = e.ty ∧ e'.d = e.d.ren s ∧ (e.rw = true → e'.rw = true) := fun i e h =>
  ⟨(bL h6 (cC h)).1, dQ h5 (cC h)⟩
 refine ⟨ρ', ⟨fun g L hg1 h => ?_, fun i e h => ?_, fun i j ei ej Li Lj hi hj hne hr k1 k2 => ?_, fun i e L h hr k1 => ?_, H.inv.ext, H.inv.size, H.inv.os, H.inv.out, H.inv.tape, fun b L h => ?_⟩, fun t d h => ?_, H.size, H.defs, ⟨fun i hi => ?_, fun i L hi h => ?_, fun b h => ?_⟩, fun i hi => ?_, h2, h1⟩
 ·have h : ρ (s (gid g)) = some L := h
  rw [s_gid _ (by unfold gid; omega)] at h
  exact H.inv.glob g L hg1 h
 ·obtain ⟨hf, e', g1, g2, g3, g4⟩ := hget0 i e h
  obtain ⟨L, g5, g6⟩ := H.inv.sat (s i) e' g1
  refine ⟨L, g5, ?_⟩
  obtain ⟨q1, q2, q3, C, t, fr, pre, front, tail, q4, q5, q6, q7, q8, q9⟩ := g6
  refine ⟨by rw [q1, g2], by rw [← g2]; exact q2, ?_, C, t, fr, pre, front, tail, q4, q5, q6, q7, ?_, fun hr => q9 (g4 hr)⟩
  ·rw [g2, g3, dE] at q3; exact q3
  ·rw [g3, eI] at q8
   exact (All2.map_iff (fun a b => eF hsz)).1 q8
 ·obtain ⟨hfi, ei', g1, g2, g3, g4⟩ := hget0 i ei hi
  obtain ⟨hfj, ej', p1, p2, p3, p4⟩ := hget0 j ej hj
  exact H.inv.inj (s i) (s j) ei' ej' Li Lj g1 p1 (cZ (bL h6 (cC hi)).2 (cC hj) hne (.inl hr)) (g4 hr) k1 k2
 ·obtain ⟨hf, e', g1, g2, g3, g4⟩ := hget0 i e h
  exact H.inv.own (s i) e' L g1 (g4 hr) k1
 ·have h : ρ (s (fzn b)) = some L := h
  rw [hsz _ (by unfold fzn; omega)] at h
  obtain ⟨k1, k2, k3⟩ := H.inv.fz b L h
  refine ⟨k1, k2, fun i e Li hi hr hLi => ?_⟩
  obtain ⟨hf, e', g1, g2, g3, g4⟩ := hget0 i e hi
  exact k3 (s i) e' Li g1 (g4 hr) hLi
 ·exact (gT hsz (ρ := ρ)).1 (H.tmps t _ (uH h4 h))
 ·show ρ (s i) = ρ0 i
  rcases hi with hi | hi
  ·rw [s_np i hi]; exact H.fix.fix i (.inl hi)
  ·rw [s_gid i hi.1]; exact H.fix.fix i (.inr hi)
 ·show ρ (s i) = some L
  rw [hsz i hi]; exact H.fix.mono i L hi h
 ·have h : ρ (s (fzn b)) ≠ none := h
  rw [hsz _ (by unfold fzn; omega)] at h
  exact H.fix.new b h
 ·exact hρs i hi
structure LoopG (np : Nat) (body : TM → Mem → Nat → (TM → Mem → Nat → Prop) → Prop) (tm : TM) (m : Mem) : Prop where
 out : ∃ (α : Type) (T : α → TM) (M : α → Mem) (nh : Nat) (I : α → Prop) (μ : α → Nat), (∃ x σ, I x ∧ iG np nh σ (T x) (M x) tm m) ∧
  ∀ x, I x → body (T x) (M x) nh (fun tm' m' _ => ∃ y σ, I y ∧ μ y < μ x ∧ iG np nh σ (T y) (M y) tm' m')
structure Pl where
 joins : List Nat := []
 unrolls : List Nat := []
def oH : Code → Option Nat
 |.region id _ _ => some id
 |.seq a b => match oH a with
  |some i => some i
  |none => oH b
 |.block _ c => oH c
 |.loop c => oH c
 |_ => none
def atId (l : List Nat) (c : Code) : Bool :=
 match l with
 |[] => false
 |l => match oH c with
  |some i => aBO i l
  |none => false
def unrP (body : TM → Mem → Nat → (TM → Mem → Nat → Prop) → Prop) : Nat → TM → Mem → Nat → Prop
 |0, _, _, _ => False
 |n + 1, tm, m, nx => body tm m nx (unrP body n)
structure UnrG (u : Nat → TM → Mem → Nat → Prop) (tm : TM) (m : Mem) (nx : Nat) : Prop where
 out : ∃ n, u n tm m nx
structure JoinG (np : Nat) (A : (TM → Mem → Nat → Prop) → Prop) (B : TM → Mem → Nat → Prop) : Prop where
 out : ∃ (α : Type) (T : α → TM) (M : α → Mem) (nh : Nat) (I : α → Prop), A (fun tm' m' _ => ∃ x σ, I x ∧ iG np nh σ (T x) (M x) tm' m') ∧ ∀ x, I x → B (T x) (M x) nh
def aEs (ρ : Env) (e : Ent) (L : Loc) (w : World) : Prop := ∃ ρ', ρ.le ρ' ∧ SatE ρ' e L w
def KpE (ρ : Env) (E : List (Nat × Ent)) (A B : World) : Prop := ∀ p ∈ E, ∀ L, ρ p.1 = some L → aEs ρ p.2 L A → aEs ρ p.2 L B
def GenC (P : Program) (f : Nat) (caps : List D) (E : List (Nat × Ent)) {α : Type} (d : α → D) (S : List α → Prop) (cnt : Nat) : Prop :=
 mZ P f ∧ ∀ (ρ : Env) (lb : List Value) (w : World) (n : Nat), All2 (RepB ρ) caps lb → (∀ p ∈ E, ∃ L, ρ p.1 = some L ∧ aEs ρ p.2 L w) →
  ∃ enc : α → Value, (∀ x, Rep ρ (d x) (enc x)) ∧ SeqStopsK (FW none) n P f lb.toArray (fun x => #[enc x]) (KpE ρ E) S (fun _ => True) cnt w
structure RangeG (P : Program) (N : Nat) (g : Operand) (ps : Array Tmp) (asg : Code) (body : TM → Mem → Nat → (TM → Mem → Nat → Prop) → Prop) (tm : TM) (m : Mem) (nx : Nat) (K : TM → Mem → Nat → Prop) : Prop where
 out : ∃ (f : Nat) (caps : List D) (E : List (Nat × Ent)) (α : Type) (d : α → D) (S : List α → Prop) (cnt p t id : Nat) (o : Oper) (M : List α → Mem) (nh : Nat) (σ : List Nat),
  opd tm (get m) g = some (.fn f [] caps) ∧ GenC P f caps E d S cnt ∧ (ps = #[p] ∧ asg = .region id #[o] false ∧ o.op = .assign (.tmp p) ∧ o.dst = some t ∧ o.guard = none ∧ p < N ∧ t < N) ∧
  (∀ q ∈ E, q.1 < nx ∧ get m q.1 = some q.2 ∧ ∀ pre, get (M pre) q.1 = some q.2) ∧ iG nx nh σ [] (M []) tm m ∧
  (∀ pre x, pre.length < cnt → body ((t, d x) :: (p, d x) :: tm) (M pre) nh (fun tm' m' _ => ∃ σ, iG nx nh σ [] (M (pre ++ [x])) tm' m')) ∧ ∀ xs, S xs → K tm (M xs) nh
abbrev CK := Bool → Nat → TM → Mem → Nat → (TM → Mem → Nat → Prop) → (Nat → TM → Mem → Nat → Prop) → (TM → Mem → Nat → Prop) → Prop
def noCK : CK := fun _ _ _ _ _ _ _ _ => False
noncomputable def gG (P : Program) (Γ : Tab) (N : Nat) (pl : Pl) (c : Code) : CK :=
 @Code.rec (fun _ => CK)
  (fun _ _ tm m nx K _ _ => K tm m nx)
  (fun _ ops draw _ _ tm m nx K _ _ => match draw with
   |false => aE4 P Γ N ops.toList ops.toList tm m nx K
   |true => aFz P Γ N ops.toList ops.toList [] tm m nx K)
  (fun _ b iha ihb top np tm m nx K Xk R => match atId pl.joins b with
   |false => iha top np tm m nx (fun tm m nx => ihb top np tm m nx K Xk R) Xk R
   |true => JoinG np (fun K' => iha top np tm m nx K' Xk R) (fun tm m nx => ihb top np tm m nx K Xk R))
  (fun c _ _ iha ihb top np tm m nx K Xk R => match opd tm (get m) c with
   |some (.bool t) => Br t (iha top np tm m nx K Xk R) (ihb top np tm m nx K Xk R)
   |_ => False)
  (fun id _ ih top np tm m nx K Xk R => ih top np tm m nx K (fun i => match Nat.beq i id with | true => K | false => Xk i) R)
  (fun c ih top np tm m nx _ Xk R => match atId pl.unrolls c with
   |false => LoopG np (fun tm m nx K => ih top np tm m nx K Xk R) tm m
   |true => UnrG (unrP (fun tm m nx K => ih top np tm m nx K Xk R)) tm m nx)
  (fun g ps asg _ _ ihb top _ tm m nx K _ _ => match top with
   |true => RangeG P N g ps asg (fun tm' m' nh K' => ihb false nx tm' m' nh K' (fun _ _ _ _ => False) (fun _ _ _ => False)) tm m nx K
   |false => False)
  (fun id _ _ tm m nx _ Xk _ => Xk id tm m nx)
  (fun _ _ => noCK)
  (fun _ => noCK)
  (fun _ => noCK)
  (fun _ _ tm m nx _ _ R => R tm m nx)
  (fun _ => noCK) c
noncomputable def codeP (P : Program) (Γ : Tab) (np N : Nat) (pl : Pl) (c : Code) (tm : TM) (m : Mem) (nx : Nat) (K : TM → Mem → Nat → Prop) (Xk : Nat → TM → Mem → Nat → Prop) (R : TM → Mem → Nat → Prop) : Prop := gG P Γ N pl c true np tm m nx K Xk R
theorem aCE {X : CtxK} {ρ0 : Env} {np N : Nat} {tm : TM} {m : Mem} {nx : Nat} {ρ : Env} {a : Act} {w : World} (H : StOk X ρ0 np N tm m nx ρ a w) {x : Operand} {d : D} (h : opd tm (get m) x = some d) : Rep ρ d (a.eval x) :=
 xA H.inv (ops := [x]) (fun _ _ => rfl) (fun t _ d hd => H.tmps t d hd) (by simp) h
theorem xG {p : Nat → Prop} (h : ∃ n, p n) : ∃ n, p n ∧ ∀ k, p k → n ≤ k := by
 obtain ⟨n, hn⟩ := h
 induction n using Nat.strongRecOn with
 |_ n ih =>
  by_cases hk : ∃ k, k < n ∧ p k
  ·obtain ⟨k, h1, h2⟩ := hk
   exact ih k h1 h2
  ·exact ⟨n, hn, fun k hp => by
    rcases Nat.lt_or_ge k n with h | h
    ·exact absurd ⟨k, h, hp⟩ hk
    ·exact h⟩
theorem lJ {F : Fence} {k : Nat} {P : Program} {Q : Exit → Act → World → Prop} {c : Code} (J : Nat → Act → World → Prop) {n0 : Nat} {a : Act} {w : World} (h0 : J n0 a w)
  (round : ∀ n a w, J n a w → c.wpIn F k P (Exit.then (fun a' w' => ∃ n', n' < n ∧ J n' a' w') Q) a w) : (Code.loop c).wpIn F k P Q a w := by
 let μ : Act → World → Nat := fun a w => @dite _ (∃ n, J n a w) (Classical.propDecidable _) (fun h => Classical.choose (xG h)) (fun _ => 0)
 have hμ : ∀ a w, (h : ∃ n, J n a w) → J (μ a w) a w ∧ ∀ k, J k a w → μ a w ≤ k := by
  intro a w h
  have : μ a w = Classical.choose (xG h) := dif_pos h
  rw [this]
  exact Classical.choose_spec (xG h)
 refine wpIn_loop (fun a w => ∃ n, J n a w) μ ⟨n0, h0⟩ fun a w h => ?_
 refine wpIn_mono (round (μ a w) a w (hμ a w h).1) fun e a' w' hq => ?_
 cases e with
 |normal =>
  obtain ⟨n', hlt, hJ⟩ := hq
  exact ⟨⟨n', hJ⟩, Nat.lt_of_le_of_lt ((hμ a' w' ⟨n', hJ⟩).2 n' hJ) hlt⟩
 |_ => exact hq
theorem n8 {X : Ctx} {ρ : Env} {m : Mem} {W W' : World} {row : Option Nat} (H : Inv X ρ m W) (hg : W.grownBy W' row) {B : Nat} (hr : ∀ r, row = some r → B ≤ r ∧ ∃ o : Obj, W.heap[r]? = some o ∧ o.isCells = false) (hB : X.w0.heap.size ≤ B) : Inv X ρ m W' where
 glob := H.glob
 sat i e hi := by
  obtain ⟨L, h1, h2⟩ := H.sat i e hi
  refine ⟨L, h1, h2.same (hg.block _ h2.lt fun e => ?_)⟩
  obtain ⟨_, o, h3, h4⟩ := hr _ e.symm
  obtain ⟨o', h5, h6⟩ := h2.cells
  rw [h3] at h5; cases h5
  rw [h4] at h6; cases h6
 inj := H.inj
 own := H.own
 ext b hb hn := by
  rw [hg.block b (Nat.lt_of_lt_of_le hb H.size) (fun e => ?_), H.ext b hb hn]
  have := (hr b e.symm).1
  omega
 size := Nat.le_trans H.size hg.size
 os := hg.os.trans H.os
 out := hg.output.trans H.out
 tape := hg.tape.trans H.tape
 fz b L hb := by
  obtain ⟨h1, h2, h3⟩ := H.fz b L hb
  refine ⟨h1, h2.same (hg.block _ h2.lt fun e => ?_), h3⟩
  obtain ⟨_, o, h4, h5⟩ := hr _ e.symm
  obtain ⟨o', h6, h7⟩ := h2.cells
  rw [h4] at h6; cases h6
  rw [h5] at h7; cases h7
theorem oJ {P : Program} {f : Nat} (h : mZ P f) (args : Array Value) (w : World) : (callFunc f args).run P w = .ok (.enter f args) w := by
 obtain ⟨fn, hfn, hbody, hname⟩ := h
 simp only [callFunc, Sem.run_bind, run_program, Result.andThen_ok, hfn, hname, Bool.false_eq_true, if_false, hbody, Sem.run_pure]
theorem iU {P : Program} {Γ : Tab} (hΓ : b8 P Γ) (hmix : P.follows .mixedOrders = true) {N : Nat} {pl : Pl} :
  ∀ (c : Code) (top : Bool) (ro : Option Nat) (n : Nat) (_ : top = true → ro = none ∧ 1 ≤ n) (X : CtxK) (_ : top = true → X.plain = false) (ρ0 : Env) (np : Nat) (tm : TM) (m : Mem) (nx : Nat) (ρ : Env) (a : Act) (w : World) (K : TM → Mem → Nat → Prop) (Xk : Nat → TM → Mem → Nat → Prop) (R : TM → Mem → Nat → Prop) (Q : Exit → Act → World → Prop),
   (∀ tm m nx ρ a w, K tm m nx → StOk X ρ0 np N tm m nx ρ a w → Q .normal a w) → (∀ i tm m nx ρ a w, Xk i tm m nx → StOk X ρ0 np N tm m nx ρ a w → Q (.exit i) a w) →
   (∀ tm m nx ρ a w, R tm m nx → StOk X ρ0 np N tm m nx ρ a w → Q .ret a w) → gG P Γ N pl c top np tm m nx K Xk R → StOk X ρ0 np N tm m nx ρ a w → c.wpIn (FW ro) n P Q a w := by
 intro c
 induction c with
 |skip => intro top ro n ht X hpl ρ0 np tm m nx ρ a w K Xk R Q hK hX hR h H; exact wpIn_skip (hK _ _ _ _ _ _ h H)
 |region id ops draw =>
  intro top ro n ht X hpl ρ0 np tm m nx ρ a w K Xk R Q hK hX hR h H
  cases draw with
  |false =>
   refine wpIn_region ?_
   have := nJ (ro := ro) (n := n) hΓ hK ops.toList ops.toList 0 tm m nx ρ a w rfl h H
   rw [List.range_eq_range']
   simpa using this
  |true => exact aCf hΓ hmix hK (id := id) (ops := ops.toList) h H
 |seq x y ihx ihy =>
  intro top ro n ht X hpl ρ0 np tm m nx ρ a w K Xk R Q hK hX hR h H
  change (match atId pl.joins y with
   |false => gG P Γ N pl x top np tm m nx (fun tm m nx => gG P Γ N pl y top np tm m nx K Xk R) Xk R
   |true => JoinG np (fun K' => gG P Γ N pl x top np tm m nx K' Xk R) (fun tm m nx => gG P Γ N pl y top np tm m nx K Xk R)) at h
  split at h
  ·refine wpIn_seq (ihx top ro n ht X hpl ρ0 np tm m nx ρ a w _ Xk R _ ?_ ?_ ?_ h H)
   ·intro tm m nx ρ a w h H; exact ihy top ro n ht X hpl ρ0 np tm m nx ρ a w K Xk R Q hK hX hR h H
   ·exact hX
   ·exact hR
  ·obtain ⟨α, T, M, nh, I, h1, h2⟩ := h.out
   refine wpIn_seq (ihx top ro n ht X hpl ρ0 np tm m nx ρ a w _ Xk R _ ?_ ?_ ?_ h1 H)
   ·rintro tm m nx ρ a w ⟨x, σ, hI, hv⟩ H
    obtain ⟨ρ', H'⟩ := nC H hv
    exact ihy top ro n ht X hpl ρ0 np (T x) (M x) nh ρ' a w K Xk R Q hK hX hR (h2 x hI) H'
   ·exact hX
   ·exact hR
 |cond c x y ihx ihy =>
  intro top ro n ht X hpl ρ0 np tm m nx ρ a w K Xk R Q hK hX hR h H
  change (match opd tm (get m) c with
   |some (.bool t) => Br t (gG P Γ N pl x top np tm m nx K Xk R) (gG P Γ N pl y top np tm m nx K Xk R)
   |_ => False) at h
  split at h <;> try contradiction
  rename_i t hc
  have hv : a.eval c = .bool t := aCE H hc
  exact wpIn_cond_split hv (fun ht' => ihx top ro n ht X hpl ρ0 np _ _ _ _ _ _ _ _ _ _ hK hX hR (h.1 ht') H) (fun ht' => ihy top ro n ht X hpl ρ0 np _ _ _ _ _ _ _ _ _ _ hK hX hR (h.2 ht') H)
 |block id c ih =>
  intro top ro n ht X hpl ρ0 np tm m nx ρ a w K Xk R Q hK hX hR h H
  refine wpIn_block (ih top ro n ht X hpl ρ0 np tm m nx ρ a w K _ R _ hK ?_ hR h H)
  intro i tm m nx ρ a w h H
  simp only [Exit.inBlock]
  cases hb : Nat.beq i id with
  |true =>
   simp only [hb] at h
   rw [if_pos (Nat.eq_of_beq_eq_true hb)]; exact hK _ _ _ _ _ _ h H
  |false =>
   simp only [hb] at h
   rw [if_neg]
   ·exact hX _ _ _ _ _ _ _ h H
   ·intro e; subst e; rw [Nat.beq_refl] at hb; cases hb
 |loop c ih =>
  intro top ro n ht X hpl ρ0 np tm m nx ρ a w K Xk R Q hK hX hR h H
  change (match atId pl.unrolls c with
   |false => LoopG np (fun tm m nx K => gG P Γ N pl c top np tm m nx K Xk R) tm m
   |true => UnrG (unrP (fun tm m nx K => gG P Γ N pl c top np tm m nx K Xk R)) tm m nx) at h
  split at h
  ·obtain ⟨α, T, M, nh, I, μ, ⟨x, σ, hI, hv⟩, hround⟩ := h.out
   obtain ⟨ρ', H'⟩ := nC H hv
   refine lJ (fun n a w => ∃ x ρ, I x ∧ μ x = n ∧ StOk X ρ0 np N (T x) (M x) nh ρ a w) (n0 := μ x) ⟨x, ρ', hI, rfl, H'⟩ ?_
   rintro k a w ⟨x, ρ, hI, rfl, H⟩
   refine ih top ro n ht X hpl ρ0 np (T x) (M x) nh ρ a w _ Xk R _ ?_ ?_ ?_ (hround x hI) H
   ·rintro tm' m' nx' ρ a w ⟨y, σ, hIy, hlt, hv⟩ H
    obtain ⟨ρ', H'⟩ := nC H hv
    exact ⟨μ y, hlt, y, ρ', hIy, rfl, H'⟩
   ·exact hX
   ·exact hR
  ·obtain ⟨k, h⟩ := h.out
   refine lJ (fun k a w => ∃ tm m nx ρ, unrP (fun tm m nx K => gG P Γ N pl c top np tm m nx K Xk R) k tm m nx ∧ StOk X ρ0 np N tm m nx ρ a w) (n0 := k) ⟨tm, m, nx, ρ, h, H⟩ ?_
   rintro k a w ⟨tm, m, nx, ρ, h, H⟩
   cases k with
   |zero => exact h.elim
   |succ k =>
    refine ih top ro n ht X hpl ρ0 np tm m nx ρ a w _ Xk R _ ?_ ?_ ?_ h H
    ·intro tm' m' nx' ρ a w h' H'
     exact ⟨k, Nat.lt_succ_self k, tm', m', nx', ρ, h', H'⟩
    ·exact hX
    ·exact hR
 |rangeFunc g ps asg body _ ihb =>
  intro top ro n ht X hpl ρ0 np tm m nx ρ a w K Xk R Q hK hX hR h H
  cases top with
  |false => exact h.elim
  |true =>
  obtain ⟨rfl, hn⟩ := ht rfl
  change RangeG P N g ps asg (fun tm' m' nh K' => gG P Γ N pl body false nx tm' m' nh K' (fun _ _ _ _ => False) (fun _ _ _ => False)) tm m nx K at h
  obtain ⟨f, caps, E, α, d, S, cnt, p, t, id, o, M, nh, σ, hg, hgen, ⟨rfl, rfl, ho1, ho2, ho3, hp, htN⟩, hE, hv0, hrounds, hafter⟩ := h.out
  obtain ⟨bs, cs, hfv, hbs, hcs⟩ : Rep ρ (.fn f [] caps) (a.eval g) := aCE H hg
  cases bs with
  |cons => exact hbs.elim
  |nil =>
  obtain ⟨hcall, hgen⟩ := hgen
  obtain ⟨enc, henc, hseq⟩ := hgen ρ cs w (n - 1) hcs (fun q hq => by
   obtain ⟨L, h1, h2⟩ := H.inv.sat q.1 q.2 (hE q hq).2.1
   exact ⟨L, h1, ρ, Env.le_refl ρ, h2⟩)
  have H0 : StOk X ρ nx N tm m nx ρ a w := ⟨H.inv, H.tmps, H.size, H.defs, Keep.refl _ _ _, H.used, H.lim, Nat.le_refl _⟩
  obtain ⟨ρ1, H1⟩ := nC H0 hv0
  have hle : ∀ ρ' : Env, Keep X.c nx ρ ρ' → ρ.le ρ' := fun ρ' hf => hf.le H.used
  have hX0 := H.inv.size
  let I : List α → World → Prop := fun pre W => (∃ ρ', Keep X.c nx ρ ρ' ∧ (∀ i, ρ' i ≠ none → i < nh ∨ 1000000 ≤ i) ∧ Inv X.c ρ' (M pre) W) ∧ w.heap.size ≤ W.heap.size ∧ ∀ (r : Nat) (o : Obj), w.heap[r]? = some o → o.isCells = false → W.heap[r]? = some o
  let a₁ : α → Act := fun x => { tmps := (a.tmps.setIfInBounds p (enc x)).setIfInBounds t (enc x), defers := [] }
  refine wpIn_rangeFunc_ownF (F := FW none) rfl hn (gf := f) (lb := cs.toArray) hfv trivial (oJ hcall) hseq (fun h1 h2 q hq L hL hs => h2 q hq L hL (h1 q hq L hL hs)) ?_ (RowKit.Below.refl _ _) (fun _ => rfl) I (fun _ _ _ => False) ?_ (fun _ _ _ _ _ hs _ _ => hs.elim) ⟨⟨ρ1, H1.fix, H1.used, H1.inv⟩, Nat.le_refl _, fun _ _ h _ => h⟩ a₁ ?_ ?_ ?_ (fun _ _ _ _ _ _ h _ => h.elim)
  ·intro W l o o' _ hl ho _ q hq L hL ⟨ρ', hle', hs⟩
   refine ⟨ρ', hle', hs.same (World.putObj_heap_other fun e => ?_)⟩
   obtain ⟨o2, h1, h2⟩ := hs.cells
   rw [e, hl] at h1; cases h1
   rw [ho] at h2; cases h2
  ·rintro pre W W' row ⟨⟨ρ', h1, h2, h3⟩, h4, h5⟩ hgr hrow
   refine ⟨⟨ρ', h1, h2, n8 h3 hgr hrow hX0⟩, Nat.le_trans h4 hgr.size, fun r o hr ho => ?_⟩
   have hrl : r < w.heap.size := (Array.getElem?_eq_some_iff.1 hr).1
   rw [hgr.block r (by omega) (fun e => by have := (hrow r e.symm).1; omega)]
   exact h5 r o hr ho
  ·intro l x W K' hK'
   have e1 : (Array.zip #[p] #[enc x]).foldl (fun (t : Array Value) (pv : Tmp × Value) => t.setIfInBounds pv.1 pv.2) a.tmps = a.tmps.setIfInBounds p (enc x) := by simp
   refine wpIn_region ?_
   show wpOpsIn _ _ P #[o] _ [0] _ W
   simp only [wpOpsIn, List.getElem?_toArray, List.getElem?_cons_zero]
   rw [if_pos (by simp [Region.wanted, ho3])]
   refine pJ (ro := some l) (fun c hc => by rw [ho1] at hc; cases hc) ?_
   unfold Oper.wp
   have hx : (execOp (Act.eval { tmps := a.tmps.setIfInBounds p (enc x), defers := [] }) o).run P W = .ok (.value (enc x)) W := by
    have hsz : p < a.tmps.size := by rw [H.size]; exact hp
    simp [execOp, ho1, Act.eval, hsz]
   rw [e1, hx, Oper.upon_value]
   simp only [wpOpsIn, Exit.then, ho2, Act.put]
   exact hK'
  ·rintro l pre x W ⟨⟨ρ', h1, h2, h3⟩, h4, h5⟩ hpre
   have hb := hrounds pre x hpre
   have hxr : Rep ρ' (d x) (enc x) := (henc x).mono (hle ρ' h1)
   refine ihb false (some l) (n - 1 - 1) (fun h => nomatch h) ⟨X.c, W, [], false⟩ (fun h => nomatch h) ρ nx _ _ nh ρ' (a₁ x) W _ _ _ _ ?_ (fun _ _ _ _ _ _ _ h => h.elim) (fun _ _ _ _ _ _ h => h.elim) hb ?_
   ·rintro tm' m' nx' ρ2 a' W' ⟨σ', hv'⟩ H2
    obtain ⟨ρ3, H3⟩ := nC H2 hv'
    refine ⟨H3.defs.keep, fun q hq L hL _ => ?_, ⟨ρ3, H3.fix, H3.used, H3.inv⟩, Nat.le_trans h4 H3.defs.keep.size, fun r o hr ho => H3.defs.keep.same r o (h5 r o hr ho) ho⟩
    obtain ⟨L', k1, k2⟩ := H3.inv.sat q.1 q.2 ((hE q hq).2.2 _)
    rw [H3.fix.fix q.1 (.inl (hE q hq).1), hL] at k1
    cases k1
    exact ⟨ρ3, hle ρ3 H3.fix, k2⟩
   ·refine ⟨h3, fun s e hs => ?_, by simp [a₁, H.size], ⟨⟨[], rfl, (fun _ h => nomatch h), List.Pairwise.nil⟩, KeepsOthers.refl W, fun _ => rfl⟩, h1, h2, H1.lim, H1.le⟩
    have hget : ∀ s, (a₁ x).tmps.getD s undef = if s = t then enc x else if s = p then enc x else a.tmps.getD s undef := fun s => by
     have hp' : p < a.tmps.size := by rw [H.size]; exact hp
     have ht' : t < a.tmps.size := by rw [H.size]; exact htN
     show ((a.tmps.setIfInBounds p (enc x)).setIfInBounds t (enc x)).getD s undef = _
     simp only [Array.getD_eq_getD_getElem?, Array.getElem?_setIfInBounds, Array.size_setIfInBounds]
     by_cases hst : s = t
     ·subst hst; simp [ht']
     ·have : ¬ t = s := fun e => hst e.symm
      rw [if_neg this, if_neg hst]
      by_cases hsp : s = p
      ·subst hsp; simp [hp']
      ·have : ¬ p = s := fun e => hsp e.symm
       rw [if_neg this, if_neg hsp]
    rw [hget]
    rw [fL] at hs
    split at hs
    ·rename_i e1; cases hs; rw [if_pos e1.symm]; exact hxr
    ·rename_i e1
     rw [if_neg (fun e => e1 e.symm)]
     rw [fL] at hs
     split at hs
     ·rename_i e2; cases hs; rw [if_pos e2.symm]; exact hxr
     ·rename_i e2
      rw [if_neg (fun e => e2 e.symm)]
      exact (H.tmps s e hs).mono (hle ρ' h1)
  ·rintro D xs W hD hS ⟨⟨ρ', h1, h2, h3⟩, h4, h5⟩ hWD
   obtain ⟨ms, hm1, hm2, hm3⟩ := H.defs.marks
   refine hK tm (M xs) nh ρ' _ W (hafter xs hS) ⟨h3, fun s e hs => (H.tmps s e hs).mono (hle ρ' h1), H.size, ⟨⟨{ target := .collected D, args := #[] } :: ms, congrArg ({ target := .collected D, args := #[] } :: ·) hm1, fun dd hdd => ?_, List.Pairwise.cons (fun dd hdd e => ?_) hm3⟩, ⟨Nat.le_trans H.defs.keep.size h4, fun r o hr ho => h5 r o (H.defs.keep.same r o hr ho) ho⟩, fun hp => by rw [hpl rfl] at hp; cases hp⟩, H.fix.trans h1 H.le, h2, H1.lim, Nat.le_trans H.le H1.le⟩
   ·rcases List.mem_cons.1 hdd with rfl | hdd
    ·exact ⟨D, rfl, hWD, by omega⟩
    ·obtain ⟨r, k1, k2, k3⟩ := hm2 dd hdd
     exact ⟨r, k1, h5 r _ k2 rfl, k3⟩
   ·obtain ⟨r, k1, k2, k3⟩ := hm2 dd hdd
    have : r < w.heap.size := (Array.getElem?_eq_some_iff.1 k2).1
    rw [k1] at e
    cases e
    omega
 |exit id => intro top ro n ht X hpl ρ0 np tm m nx ρ a w K Xk R Q hK hX hR h H; exact wpIn_exit (hX _ _ _ _ _ _ _ h H)
 |ret => intro top ro n ht X hpl ρ0 np tm m nx ρ a w K Xk R Q hK hX hR h H; exact wpIn_ret (hR _ _ _ _ _ _ h H)
 |_ => intro top ro n ht X hpl ρ0 np tm m nx ρ a w K Xk R Q hK hX hR h H; exact h.elim
theorem aBr {X : Ctx} {ρ : Env} {m M : Mem} {w : World} (H : Inv X ρ m w) {s : Nat → Nat} (s_gid : ∀ i, 1000000 ≤ i → s i = i)
  (hget : ∀ i e, get M i = some e → ∃ e', get m (s i) = some e' ∧ e'.ty = e.ty ∧ e'.d = e.d.ren s ∧ (e.rw = true → e'.rw = true))
  (hap : ∀ i j ei ej, get M i = some ei → get M j = some ej → i ≠ j → ei.rw = true → s i ≠ s j) : Inv X (fun i => ρ (s i)) M w := by
 refine ⟨fun g L hg1 h => ?_, fun i e h => ?_, fun i j ei ej Li Lj hi hj hne hr k1 k2 => ?_, fun i e L h hr k1 => ?_, H.ext, H.size, H.os, H.out, H.tape, fun b L h => ?_⟩
 ·rw [s_gid _ (by unfold gid; omega)] at h
  exact H.glob g L hg1 h
 ·obtain ⟨e', g1, g2, g3, g4⟩ := hget i e h
  obtain ⟨L, g5, g6⟩ := H.sat (s i) e' g1
  refine ⟨L, g5, ?_⟩
  obtain ⟨q1, q2, q3, C, t, fr, pre, front, tail, q4, q5, q6, q7, q8, q9⟩ := g6
  refine ⟨by rw [q1, g2], by rw [← g2]; exact q2, ?_, C, t, fr, pre, front, tail, q4, q5, q6, q7, ?_, fun hr => q9 (g4 hr)⟩
  ·rw [g2, g3, dE] at q3; exact q3
  ·rw [g3, eI] at q8
   exact (All2.map_iff (fun a b => eF fun i h => s_gid i (by omega))).1 q8
 ·obtain ⟨ei', g1, g2, g3, g4⟩ := hget i ei hi
  obtain ⟨ej', p1, p2, p3, p4⟩ := hget j ej hj
  exact H.inj (s i) (s j) ei' ej' Li Lj g1 p1 (hap i j ei ej hi hj hne hr) (g4 hr) k1 k2
 ·obtain ⟨e', g1, g2, g3, g4⟩ := hget i e h
  exact H.own (s i) e' L g1 (g4 hr) k1
 ·rw [s_gid _ (by unfold fzn; omega)] at h
  obtain ⟨k1, k2, k3⟩ := H.fz b L h
  refine ⟨k1, k2, fun i e Li hi hr hLi => ?_⟩
  obtain ⟨e', g1, g2, g3, g4⟩ := hget i e hi
  exact k3 (s i) e' Li g1 (g4 hr) hLi
def lkb : List (Nat × Option D) → Nat → Option (Option D)
 |[], _ => none
 |(i, d) :: r, j => match Nat.beq i j with
  |true => some d
  |false => lkb r j
theorem aEi : ∀ (l : List (Nat × Option D)) (j : Nat), lkb l j = lkw l j
 |[], _ => rfl
 |(i, d) :: r, j => by
  simp only [lkb, lkw, aEi r j]
  by_cases h : i = j
  ·subst h; simp
  ·have : Nat.beq i j = false := by
    cases hb : Nat.beq i j with
    |false => rfl
    |true => exact absurd (Nat.eq_of_beq_eq_true hb) h
   simp [h, this]
def ovl (wr : List (Nat × Option D)) : Mem → Mem
 |[] => []
 |(i, some e) :: r => match lkb wr i with
  |none => (i, some e) :: ovl wr r
  |some none => ovl wr r
  |some (some d) => (i, some ⟨e.ty, d, true⟩) :: ovl wr r
 |(_, none) :: r => ovl wr r
def l8 (np : Nat) (m0 : Mem) (o : Out) : Mem := jB np o.nw ++ ovl o.wr m0
theorem rJ {wr : List (Nat × Option D)} : ∀ {m0 : Mem} {i : Nat} {e : Ent}, (i, some e) ∈ m0 →
  (lkw wr i = none → (i, some e) ∈ ovl wr m0) ∧ ∀ d, lkw wr i = some (some d) → (i, some ⟨e.ty, d, true⟩) ∈ ovl wr m0
 |(j, some e') :: r, i, e, h => by
  have ih := fun h => rJ (wr := wr) (m0 := r) (i := i) (e := e) h
  rcases List.mem_cons.1 h with h | h
  ·cases h
   refine ⟨fun hl => ?_, fun d hl => ?_⟩ <;> simp [ovl, aEi, hl]
  ·refine ⟨fun hl => ?_, fun d hl => ?_⟩
   ·have := (ih h).1 hl
    simp only [ovl]
    split <;> simp [this]
   ·have := (ih h).2 d hl
    simp only [ovl]
    split <;> simp [this]
 |(j, none) :: r, i, e, h => by
  rcases List.mem_cons.1 h with h | h
  ·cases h
  ·exact rJ (m0 := r) h
theorem uE : ∀ {l : List (Ty × D)} {n k : Nat} {x : Ty × D}, l[k]? = some x → (n + k, some ⟨x.1, x.2, true⟩) ∈ jB n l
 |(t, d) :: r, n, 0, x, h => by simp at h; subst h; simp [jB]
 |(t, d) :: r, n, k + 1, x, h => by
  have := uE (l := r) (n := n + 1) (k := k) (x := x) (by simpa using h)
  simp only [jB, List.mem_cons]
  right
  rw [show n + (k + 1) = n + 1 + k by omega]
  exact this
 |[], n, k, x, h => by simp at h
theorem f9 {np : Nat} {m0 : Mem} {o : Out} {i : Nat} {e : Ent} (h : get (o.mem np m0) i = some e) : (i, some e) ∈ l8 np m0 o := by
 rw [eZ] at h
 unfold l8
 rw [List.mem_append]
 split at h
 ·rename_i hr
  left
  cases hx : o.nw[i - np]? with
  |none => rw [hx] at h; cases h
  |some x =>
   rw [hx] at h
   cases h
   have := uE (n := np) hx
   rw [show np + (i - np) = i by omega] at this
   exact this
 ·right
  split at h
  ·cases h
  ·rename_i d hl
   cases he : get m0 i with
   |none => rw [he] at h; cases h
   |some e0 =>
    rw [he] at h
    cases h
    exact (rJ (cC he)).2 d hl
  ·rename_i hl
   exact (rJ (cC h)).1 hl
def resP (Γ : Tab) (tm : TM) (m : Mem) : List ResultVar → (List D → Prop) → Prop
 |[], K => K []
 |.tmp t :: r, K => match lk tm t with
  |some d => resP Γ tm m r (fun ds => K (d :: ds))
  |none => False
 |.cell a t :: r, K => match lk tm a with
  |some d => match aAi Γ (get m) t d with
   |some ⟨ob, v, _, _⟩ => ob ∧ resP Γ tm m r (fun ds => K (v :: ds))
   |none => False
  |none => False
def xD : List D → Bool
 |[] => true
 |d :: r => match d.isTup with
  |true => false
  |false => xD r
def aA0 (d : D) (ds : List D) : Prop :=
 match ds with
 |[x] => x = d
 |ds => xD ds = true ∧ D.tup ds = d
def aAH (Γ : Tab) (rs : List ResultVar) (np : Nat) (m0 : Mem) (o : Out) (tm : TM) (m : Mem) (_ : Nat) : Prop :=
 resP Γ tm m rs fun ds => ∃ σ, aA0 (o.ret.ren (sig (np + o.nw.length) 0 0 σ)) ds ∧ lE σ np = true ∧
  bQ (sig (np + o.nw.length) 0 0 σ) m (l8 np m0 o) ∧ bS (np + o.nw.length) (sig (np + o.nw.length) 0 0 σ) (l8 np m0 o) (l8 np m0 o) = true
def nR : Nat → List D → TM
 |_, [] => []
 |i, d :: r => (i, d) :: nR (i + 1) r
theorem rQ : ∀ {l : List D} {i t : Nat} {d : D}, lk (nR i l) t = some d → i ≤ t ∧ l[t - i]? = some d
 |[], i, t, d, h => by simp [nR, lk] at h
 |x :: r, i, t, d, h => by
  simp only [nR, fL] at h
  split at h
  ·subst_vars; cases h; simp
  ·rename_i hne
   obtain ⟨h1, h2⟩ := rQ (l := r) h
   refine ⟨by omega, ?_⟩
   rw [show t - i = (t - (i + 1)) + 1 by omega]
   simpa using h2
theorem qF : ∀ {l : List D}, xD l = true → ∀ d ∈ l, d.isTup = false
 |[], _, d, h => by simp at h
 |x :: r, h, d, hd => by
  simp only [xD] at h
  split at h <;> try contradiction
  rename_i hx
  rcases List.mem_cons.1 hd with rfl | hd
  ·exact hx
  ·exact qF h d hd
theorem wZ {P : Program} {Γ : Tab} (hΓ : b8 P Γ) {X : Ctx} {ρ : Env} {tm : TM} {m : Mem} {w : World} (hI : Inv X ρ m w) {tmps : Array Value} (ht : ∀ t d, lk tm t = some d → Rep ρ d (tmps.getD t undef)) :
  ∀ (rs : List ResultVar) (K : List D → Prop), resP Γ tm m rs K → ∃ ds vs, K ds ∧ All2 (Rep ρ) ds vs ∧
   (rs.mapM (fun | .tmp t => pure (tmps.getD t undef) | .cell a t => do loadVar t (← asAddr (tmps.getD a undef)) : ResultVar → Sem Value)).run P w = .ok vs w
 |[], K, h => ⟨[], [], h, trivial, rfl⟩
 |.tmp t :: r, K, h => by
  simp only [resP] at h
  split at h <;> try contradiction
  rename_i d hd
  obtain ⟨ds, vs, h1, h2, h3⟩ := wZ hΓ hI ht r _ h
  refine ⟨d :: ds, _ :: vs, h1, ⟨ht t d hd, h2⟩, ?_⟩
  rw [List.mapM_cons, Sem.run_bind]
  simp only [Sem.run_pure, Result.andThen_ok]
  rw [Sem.run_bind, h3]
  rfl
 |.cell a t :: r, K, h => by
  simp only [resP] at h
  split at h <;> try contradiction
  rename_i d hd
  split at h <;> try contradiction
  rename_i ob v up nw he
  obtain ⟨ho, h⟩ := h
  obtain ⟨ds, vs, h1, h2, h3⟩ := wZ hΓ hI ht r _ h
  obtain ⟨b, p, en, i, T, x, rfl, hg, hi, hT, hb, hx, hee⟩ := n5 he
  cases hee
  obtain ⟨L, q1, q2⟩ := ht a _ hd
  obtain ⟨L', q3, q4⟩ := hI.sat b en hg
  rw [q1] at q3; cases q3
  have := Ty.eq_of_beq _ _ hb; subst this
  obtain ⟨q5, us, q6, q7⟩ := q4.read hT ho hx
  obtain ⟨v', q8, q9⟩ := nL hΓ hi q5 q6 (a := ⟨L.blk, L.base + aE L.ty p, none⟩) (fun j v hj => by rw [dF]; exact q7 j v hj)
  refine ⟨_ :: ds, v' :: vs, h1, ⟨q9, h2⟩, ?_⟩
  have q10 : (do loadVar t (← asAddr (tmps.getD a undef)) : Sem Value).run P w = .ok v' w := by
   rw [q2, Sem.run_bind]; exact q8
  rw [List.mapM_cons, Sem.run_bind]
  refine (congrArg (fun r => Result.andThen r _) q10).trans ?_
  simp only [Result.andThen_ok]
  rw [Sem.run_bind, h3]
  rfl
theorem aBj {ρ : Env} : ∀ {ds : List D} {vs : List Value}, xD ds = true → All2 (Rep ρ) ds vs → All2 (RepV ρ) ds vs
 |[], [], _, _ => trivial
 |d :: ds, v :: vs, h, H => by
  have h1 := qF h d (by simp)
  have h2 : xD ds = true := by
   simp only [xD, h1] at h; exact h
  refine ⟨?_, aBj h2 H.2⟩
  have := H.1
  rw [eE h1] at this
  exact this
 |[], _ :: _, _, H => H.elim
 |_ :: _, [], _, H => H.elim
theorem aDo {P : Program} {α β : Type} (f : α → Sem β) (rs : Array α) {w w' : World} {vs : List β} (h : (rs.toList.mapM f).run P w = .ok vs w') : (rs.mapM f).run P w = .ok vs.toArray w' := by
 have hh : rs.mapM f = (do let l ← rs.toList.mapM f; pure l.toArray) := by
  cases rs
  simp [List.mapM_toArray]
 rw [hh, Sem.run_bind, h]
 rfl
theorem yT {P : Program} {Γ : Tab} (hΓ : b8 P Γ) {X : CtxK} {ρ0 : Env} {np N : Nat} {tm : TM} {m m0 : Mem} {nx : Nat} {ρ : Env} {a : Act} {w : World} {o : Out} {fn : Func} (hnp : np + o.nw.length ≤ 999998) (hret : aAH Γ fn.results.toList np m0 o tm m nx)
  (H : StOk X ρ0 np N tm m nx ρ a w) : ∃ v ρ', (results fn a.tmps).run P w = .ok v w ∧ Keep X.c np ρ0 ρ' ∧ (∀ i, ρ' i ≠ none → Use (np + o.nw.length) i) ∧ Rep ρ' o.ret v ∧ Inv X.c ρ' (o.mem np m0) w := by
 obtain ⟨ds, vs, ⟨σ, h1, h2, h3, h4⟩, h5, h6⟩ := wZ hΓ H.inv H.tmps _ _ hret
 generalize hs : sig (np + o.nw.length) 0 0 σ = s at *
 have s_gid : ∀ i, 1000000 ≤ i → s i = i := by
  intro i hi
  rw [← hs]
  unfold sig
  have e1 : Nat.blt i (np + o.nw.length) = false := by rw [cD]; simp; omega
  have e2 : Nat.ble 1000000 i = true := by simpa using hi
  rw [e1, e2]
 have s_np : ∀ i, i < np → s i = i := by
  intro i hi
  rw [← hs]
  unfold sig
  have e1 : Nat.blt i (np + o.nw.length) = true := by rw [cD]; simp; omega
  rw [e1]
  exact iR h2 i hi
 have hres : ρ 999999 = none := Inv.fresh H (by have := H.lim; omega) (Nat.le_refl _)
 have hval : ∃ v, (results fn a.tmps).run P w = .ok v w ∧ Rep ρ (o.ret.ren s) v := by
  have hr : (results fn a.tmps).run P w = .ok (if h : vs.toArray.size = 1 then vs.toArray[0] else .tuple vs.toArray) w := by
   unfold results
   rw [Sem.run_bind]
   have := aDo (P := P) _ fn.results h6
   refine (congrArg (fun r => Result.andThen r _) this).trans ?_
   rfl
  match ds, vs, h1, h5, hr with
  |[d], [v], h1, h5, hr => exact ⟨v, hr, by rw [← (show d = _ from h1)]; exact h5.1⟩
  |[], [], h1, h5, hr => exact ⟨_, hr, by rw [← h1.2]; exact ⟨[], rfl, trivial⟩⟩
  |d :: d' :: ds, v :: v' :: vs, h1, h5, hr => exact ⟨_, hr, by rw [← h1.2]; exact ⟨v :: v' :: vs, rfl, aBj h1.1 h5⟩⟩
 obtain ⟨v, hv1, hv2⟩ := hval
 refine ⟨v, fun i => ρ (s i), hv1, ⟨fun i hi => ?_, fun i L hi h => ?_, fun b h => ?_⟩, fun i hi => ?_, (gT (fun i h => s_gid i (by omega)) (ρ := ρ)).1 hv2, aBr H.inv s_gid (fun i e h => dQ h3 (f9 h)) fun i j ei ej hi hj hne hr => ?_⟩
 ·show ρ (s i) = ρ0 i
  rcases hi with hi | hi
  ·rw [s_np i hi]; exact H.fix.fix i (.inl hi)
  ·rw [s_gid i hi.1]; exact H.fix.fix i (.inr hi)
 ·show ρ (s i) = some L
  rw [s_gid i (by omega)]; exact H.fix.mono i L hi h
 ·have h : ρ (s (fzn b)) ≠ none := h
  rw [s_gid _ (by unfold fzn; omega)] at h
  exact H.fix.new b h
 ·by_cases hf : Use (np + o.nw.length) i
  ·exact hf
  ·have h' : ρ (s i) ≠ none := hi
   rw [← hs, rE hf] at h'
   exact absurd hres h'
 ·exact cZ (bL h4 (f9 hi)).2 (f9 hj) hne (.inl hr)
theorem uL {P : Program} {fn : Func} {X : Ctx} {ρ : Env} {m : Mem} {tmps : Array Value} {n : Nat} {R : Ending → World → Prop} (hret : ∀ w, Inv X ρ m w → ∃ v, (results fn tmps).run P w = .ok v w ∧ R (.returned v) w) :
  ∀ (ds : List Deferred) (w : World), Inv X ρ m w → (∀ d ∈ ds, ∃ r, d = { target := .collected r, args := #[] } ∧ w.heap[r]? = some (.deferred (some [])) ∧ X.w0.heap.size ≤ r) → ds.Pairwise (· ≠ ·) → LeavesInM (FW none) n P fn tmps R ds .returning w
 |[], w, hI, _, _ => hret w hI
 |d :: ds, w, hI, hm, hp => by
  obtain ⟨r, rfl, h1, h2⟩ := hm d (by simp)
  rw [List.pairwise_cons] at hp
  refine ⟨(fun h => by cases h), .inl ⟨r, _, rfl, run_takeDeferred h1, uL hret ds _ (n8 hI (grownBy_putObj' w r _) (B := r) (fun r' e => ?_) h2) (fun d' hd' => ?_) hp.2⟩⟩
  ·cases e; exact ⟨Nat.le_refl _, _, h1, rfl⟩
  ·obtain ⟨r', k1, k2, k3⟩ := hm d' (by simp [hd'])
   refine ⟨r', k1, (World.putObj_heap_other fun e => ?_).trans k2, k3⟩
   subst e
   exact hp.1 d' hd' k1.symm
theorem fM {P : Program} {Γ : Tab} (hΓ : b8 P Γ) (hmix : P.follows .mixedOrders = true) {f : Nat} {fn : Func} {c : Code} (hf : P.funcs[f]? = some fn) (hb : fn.body = some c) (hname : (fn.name == "runtime.NumGoroutine") = false)
  {args : List D} {np : Nat} {m0 : Mem} {o : Out} (hsz : Nat.ble args.length fn.ntmps = true) (hnp : Nat.ble (np + o.nw.length) 999998 = true)
  (pl : Pl) (h : codeP P Γ np fn.ntmps pl c (nR 0 args) m0 np (aAH Γ fn.results.toList np m0 o) (fun _ _ _ _ => False) (aAH Γ fn.results.toList np m0 o)) : AC P f args np m0 o := by
 have hsz := Nat.le_of_ble_eq_true hsz
 have hnp := Nat.le_of_ble_eq_true hnp
 refine ⟨⟨fn, hf, by rw [hb]; rfl, hname⟩, fun ρ0 w0 vals hv hI hd => ?_⟩
 refine lI.1 (callsIn_of_wp_marks (F := FW none) (n := 1) hf hb trivial ?_ rfl)
 have hl : vals.length = args.length := hv.length.symm
 have hret : ∀ tm m nx ρ a w, aAH Γ fn.results.toList np m0 o tm m nx → StOk ⟨⟨w0, eT ρ0 m0⟩, w0, [], false⟩ ρ0 np fn.ntmps tm m nx ρ a w → ∀ e, e = Exit.normal ∨ e = Exit.ret →
   bodyPostM (FW none) 1 P fn (fun e w' => ∃ v ρ', e = .returned v ∧ Keep ⟨w0, eT ρ0 m0⟩ np ρ0 ρ' ∧ (∀ i, ρ' i ≠ none → Use (np + o.nw.length) i) ∧ Rep ρ' o.ret v ∧ Inv ⟨w0, eT ρ0 m0⟩ ρ' (o.mem np m0) w') e a w := by
  intro tm m nx ρ a w hr H e he
  have key : LeavesInM (FW none) 1 P fn a.tmps (fun e w' => ∃ v ρ', e = .returned v ∧ Keep ⟨w0, eT ρ0 m0⟩ np ρ0 ρ' ∧ (∀ i, ρ' i ≠ none → Use (np + o.nw.length) i) ∧ Rep ρ' o.ret v ∧ Inv ⟨w0, eT ρ0 m0⟩ ρ' (o.mem np m0) w') a.defers .returning w := by
   obtain ⟨ms, hm1, hm2, hm3⟩ := H.defs.marks
   rw [hm1, List.append_nil]
   refine uL (X := ⟨w0, eT ρ0 m0⟩) (ρ := ρ) (m := m) (fun w' hI' => ?_) ms w H.inv hm2 hm3
   have H' : StOk ⟨⟨w0, eT ρ0 m0⟩, w', [], false⟩ ρ0 np fn.ntmps tm m nx ρ { a with defers := [] } w' := ⟨hI', H.tmps, H.size, ⟨⟨[], rfl, (fun _ h => nomatch h), List.Pairwise.nil⟩, KeepsOthers.refl w', fun _ => rfl⟩, H.fix, H.used, H.lim, H.le⟩
   obtain ⟨v, ρ', h1, h2⟩ := yT hΓ hnp hr H'
   exact ⟨v, h1, v, ρ', rfl, h2⟩
  rcases he with rfl | rfl
  ·exact key
  ·exact key
 refine iU hΓ hmix c true none 1 (fun _ => ⟨rfl, Nat.le_refl _⟩) ⟨⟨w0, eT ρ0 m0⟩, w0, [], false⟩ (fun _ => rfl) ρ0 np _ _ _ ρ0 _ _ _ _ _ _ (fun tm m nx ρ a w hr H => hret tm m nx ρ a w hr H _ (.inl rfl)) (fun i tm m nx ρ a w h => h.elim) (fun tm m nx ρ a w hr H => hret tm m nx ρ a w hr H _ (.inr rfl)) h ?_
 refine ⟨hI, fun t d hd => ?_, ?_, ⟨⟨[], rfl, (fun _ h => nomatch h), List.Pairwise.nil⟩, KeepsOthers.refl w0, fun _ => rfl⟩, Keep.refl _ _ _, fun i hi => hd i hi, by omega, Nat.le_refl _⟩
 ·obtain ⟨_, h1⟩ := rQ hd
  obtain ⟨v, h2, h3⟩ := hv.get t h1
  have hlt : t < vals.length := by
   rcases Nat.lt_or_ge t vals.length with h' | h'
   ·exact h'
   ·rw [List.getElem?_eq_none h'] at h2; cases h2
  have : (vals.toArray ++ Array.replicate (fn.ntmps - vals.toArray.size) undef).getD t undef = v := by
   rw [Array.getD_eq_getD_getElem?, Array.getElem?_append_left (by simpa using hlt), List.getElem?_toArray, h2]
   rfl
  rw [this]; exact h3
 ·simp; omega
theorem bY {P : Program} {f : Nat} {args : List D} {m : Mem} {nx : Nat} {R : D → Mem → Nat → List Nat → Prop} {np : Nat} {m0 : Mem} {args0 : List D} {o : Out} (hac : AC P f args0 np m0 o) (σ : List Nat)
  (hl : (match Nat.ble (nx + o.nw.length) 999999 with | true => Nat.ble (np + o.nw.length) 999999 | false => false) = true) (hargs : args = D.rens (sig np nx o.nw.length σ) args0)
  (hm : bQ (sig np nx o.nw.length σ) m m0) (hn : bS np (sig np nx o.nw.length σ) m0 m0 = true) (hw : wrB m0 o.wr = true)
  (hR : R (o.ret.ren (sig np nx o.nw.length σ)) (upM (sig np nx o.nw.length σ) nx m0 o) o.nw.length (iX (sig np nx o.nw.length σ) m0)) : CallG P f args m nx R := by
 refine ⟨⟨np, m0, args0, o, σ, hac, ?_, hargs, hm, hn, hw, hR⟩⟩
 split at hl <;> try contradiction
 rename_i h
 exact ⟨Nat.le_of_ble_eq_true h, Nat.le_of_ble_eq_true hl⟩
theorem fS {α : Type} {T : α → TM} {M : α → Mem} {np nh : Nat} {I : α → Prop} {μ : α → Nat} {x : α} {tm : TM} {m : Mem} (y : α) (σ : List Nat) (h1 : I y) (h2 : μ y < μ x) (h3 : iG np nh σ (T y) (M y) tm m) :
  ∃ y σ, I y ∧ μ y < μ x ∧ iG np nh σ (T y) (M y) tm m := ⟨y, σ, h1, h2, h3⟩
theorem gZ {α : Type} {T : α → TM} {M : α → Mem} {np nh : Nat} {I : α → Prop} {tm : TM} {m : Mem} (y : α) (σ : List Nat) (h1 : I y) (h3 : iG np nh σ (T y) (M y) tm m) :
  ∃ y σ, I y ∧ iG np nh σ (T y) (M y) tm m := ⟨y, σ, h1, h3⟩
theorem uO {np : Nat} {A : (TM → Mem → Nat → Prop) → Prop} {B : TM → Mem → Nat → Prop} (α : Type) (T : α → TM) (M : α → Mem) (nh : Nat) (I : α → Prop) (h1 : A (fun tm' m' _ => ∃ x σ, I x ∧ iG np nh σ (T x) (M x) tm' m'))
  (h2 : ∀ x, I x → B (T x) (M x) nh) : JoinG np A B := ⟨⟨α, T, M, nh, I, h1, h2⟩⟩
theorem mC {b : Bool} {K : Prop} (h : b = true) (k : K) : ChkG b K := ⟨h, k⟩
theorem o0 {u : Nat → TM → Mem → Nat → Prop} {tm : TM} {m : Mem} {nx : Nat} (n : Nat) (h : u n tm m nx) : UnrG u tm m nx := ⟨⟨n, h⟩⟩
theorem oX {o : Out} {np : Nat} {m0 m : Mem} {ds : List D} (σ : List Nat) (h1 : aA0 (o.ret.ren (sig (np + o.nw.length) 0 0 σ)) ds) (h2 : lE σ np = true) (h3 : bQ (sig (np + o.nw.length) 0 0 σ) m (l8 np m0 o))
  (h4 : bS (np + o.nw.length) (sig (np + o.nw.length) 0 0 σ) (l8 np m0 o) (l8 np m0 o) = true) : ∃ σ, aA0 (o.ret.ren (sig (np + o.nw.length) 0 0 σ)) ds ∧ lE σ np = true ∧
   bQ (sig (np + o.nw.length) 0 0 σ) m (l8 np m0 o) ∧ bS (np + o.nw.length) (sig (np + o.nw.length) 0 0 σ) (l8 np m0 o) (l8 np m0 o) = true := ⟨σ, h1, h2, h3, h4⟩
theorem bA {np nh : Nat} {σ : List Nat} {T : TM} {M : Mem} {tm : TM} {m : Mem} (h1 : (match Nat.ble np nh with | true => (match Nat.ble nh 999998 with | true => lE σ np | false => false) | false => false) = true)
  (h2 : vX (sig nh 0 0 σ) tm T) (h3 : bQ (sig nh 0 0 σ) m M) (h4 : bS nh (sig nh 0 0 σ) M M = true) : iG np nh σ T M tm m := by
 refine ⟨?_, h2, h3, h4⟩
 split at h1 <;> try contradiction
 rename_i h
 split at h1 <;> try contradiction
 rename_i h'
 exact ⟨Nat.le_of_ble_eq_true h, Nat.le_of_ble_eq_true h', h1⟩
theorem aT {np : Nat} {body : TM → Mem → Nat → (TM → Mem → Nat → Prop) → Prop} {tm : TM} {m : Mem} (α : Type) (T : α → TM) (M : α → Mem) (nh : Nat) (I : α → Prop) (μ : α → Nat) (x : α) (σ : List Nat) (h0 : I x) (hv : iG np nh σ (T x) (M x) tm m)
  (hr : ∀ x, I x → body (T x) (M x) nh (fun tm' m' _ => ∃ y σ, I y ∧ μ y < μ x ∧ iG np nh σ (T y) (M y) tm' m')) : LoopG np body tm m := ⟨⟨α, T, M, nh, I, μ, ⟨x, σ, h0, hv⟩, hr⟩⟩
def aGH : D → Value → Bool
 |.bool b, v => match v with
  |.bool b' => b == b'
  |_ => false
 |.u8 x, v => match v with
  |.int .u8 n => n == x.toNat
  |_ => false
 |.u16 x, v => match v with
  |.int .u16 n => n == x.toNat
  |_ => false
 |.u32 x, v => match v with
  |.int .u32 n => n == x.toNat
  |_ => false
 |.u64 x, v => match v with
  |.int .u64 n => n == x.toNat
  |_ => false
 |.i64 n, v => match v with
  |.int .i64 m => m == n && (decide (-9223372036854775808 ≤ n) && decide (n < 9223372036854775808))
  |_ => false
 |.str [], v => match v with
  |.string s => s.data.toList.isEmpty
  |_ => false
 |.nilptr, v => match v with
  |.pointer none => true
  |_ => false
 |.nilslice, v => match v with
  |.slice none 0 0 => true
  |_ => false
 |.nilfn, v => match v with
  |.nilFunc => true
  |_ => false
 |_, _ => false
theorem aBD {d : D} {v : Value} (h : aGH d v = true) (ρ : Env) : RepS ρ d v := by
 unfold aGH at h
 split at h
 all_goals first
  |(split at h <;> try contradiction)
  |cases h
 all_goals first
  |rfl
  |(have h := beq_iff_eq.1 h; subst h; rfl)
  |skip
 ·simp only [Bool.and_eq_true, beq_iff_eq, decide_eq_true_eq] at h
  obtain ⟨rfl, h⟩ := h
  exact ⟨rfl, h⟩
 ·rename_i s
  refine ⟨s, rfl, ?_, by decide⟩
  simpa [aZ] using h
def aAB : List D → List Value → Bool
 |[], [] => true
 |d :: ds, v :: vs => aGH d v && aAB ds vs
 |_, _ => false
theorem oQ (ρ : Env) : ∀ {ds : List D} {vs : List Value}, aAB ds vs = true → All2 (RepS ρ) ds vs
 |[], [], _ => trivial
 |d :: ds, v :: vs, h => by
  simp only [aAB, Bool.and_eq_true] at h
  exact ⟨aBD h.1 ρ, oQ ρ h.2⟩
 |[], _ :: _, h => by cases h
 |_ :: _, [], h => by cases h
def allB (p : D → Bool) : List D → Bool
 |[] => true
 |d :: ds => p d && allB p ds
theorem vV {p : D → Bool} {q : D → Prop} (h : ∀ d, p d = true → q d) : ∀ {l : List D}, allB p l = true → iY q l
 |[], _ => trivial
 |d :: ds, hl => by
  simp only [allB, Bool.and_eq_true] at hl
  exact ⟨h d hl.1, vV h hl.2⟩
mutual
def oA : Ty → D → Bool
 |.cell => fun d => d.isCell
 |.arr n t => fun d => match d with
  |.u8s l => match t with | .cell => l.length == n | _ => false
  |.u32s l => match t with | .cell => l.length == n | _ => false
  |.u64s l => match t with | .cell => l.length == n | _ => false
  |.node l => l.length == n && allB (oA t) l
  |_ => false
 |.row _ => fun _ => false
 |.st fs => fun d => match d with
  |.node l => rT fs l
  |_ => false
def rT : List Ty → List D → Bool
 |[] => fun l => match l with
  |[] => true
  |_ => false
 |t :: ts => fun l => match l with
  |d :: ds => oA t d && rT ts ds
  |[] => false
end
mutual
theorem eY : ∀ {T : Ty} {d : D}, oA T d = true → aD T d
 |.cell, d, h => h
 |.arr n t, d, h => by
  cases d <;> simp only [oA] at h <;> try contradiction
  ·cases t <;> simp only at h <;> first | contradiction | exact beq_iff_eq.1 h
  ·cases t <;> simp only at h <;> first | contradiction | exact beq_iff_eq.1 h
  ·cases t <;> simp only at h <;> first | contradiction | exact beq_iff_eq.1 h
  ·rw [Bool.and_eq_true] at h
   exact ⟨beq_iff_eq.1 h.1, vV (fun d hd => eY hd) h.2⟩
 |.row t, d, h => by simp only [oA] at h; cases h
 |.st fs, d, h => by
  cases d <;> simp only [oA] at h <;> try contradiction
  exact lR h
theorem lR : ∀ {fs : List Ty} {l : List D}, rT fs l = true → dD fs l
 |[], [], _ => trivial
 |t :: ts, d :: ds, h => by
  simp only [rT, Bool.and_eq_true] at h
  exact ⟨eY h.1, lR h.2⟩
 |[], _ :: _, h => by cases h
 |_ :: _, [], h => by cases h
end
mutual
def rV : Ty → Bool
 |.row _ => false
 |.arr _ t => rV t
 |.st fs => mP fs
 |.cell => true
def mP : List Ty → Bool
 |[] => true
 |t :: ts => rV t && mP ts
end
mutual
theorem iB : ∀ {T : Ty}, rV T = true → T.flatTy
 |.cell, _ => trivial
 |.arr _ t, h => iB (T := t) h
 |.st fs, h => kH (fs := fs) h
theorem kH : ∀ {fs : List Ty}, mP fs = true → Ty.flatTys fs
 |[], _ => trivial
 |t :: ts, h => by
  simp only [mP, Bool.and_eq_true] at h
  exact ⟨iB h.1, kH h.2⟩
end
def gD : Ty → Bool
 |.cell => true
 |_ => false
theorem cI {T : Ty} (h : gD T = true) : T = .cell := by cases T <;> first | rfl | cases h
def aDR (P : Program) (t n : Nat) : Bool :=
 match P.info? t with
 |some i => i.size == n
 |none => false
theorem pT {P : Program} {t n : Nat} (h : aDR P t n = true) : (P.info? t).map (·.size) = some n := by
 unfold aDR at h
 split at h
 ·rename_i i hi; rw [hi]; simp [beq_iff_eq.1 h]
 ·cases h
def rZ (P : Program) : List Field → List Nat → List Ty → Nat → Bool
 |[], [], [], _ => true
 |f :: fs, t :: ts, T :: Ts, o => (f.type == t && f.offset == o) && (aDR P t T.size && rZ P fs ts Ts (o + T.size))
 |_, _, _, _ => false
theorem lV {P : Program} : ∀ {fs : List Field} {ts : List Nat} {Ts : List Ty} {o : Nat}, rZ P fs ts Ts o = true → eJ P fs ts Ts o
 |[], [], [], _, _ => trivial
 |f :: fs, t :: ts, T :: Ts, o, h => by
  simp only [rZ, Bool.and_eq_true, beq_iff_eq] at h
  exact ⟨h.1.1, h.1.2, pT h.2.1, lV h.2.2⟩
 |[], [], _ :: _, _, h => by cases h
 |[], _ :: _, _, _, h => by cases h
 |_ :: _, [], _, _, h => by cases h
 |_ :: _, _ :: _, [], _, h => by cases h
def aGB (P : Program) (t : Nat) (i : TI) : Bool :=
 match i.desc, P.underlying t with
 |.bool, some .bool => gD i.ty
 |.int k, some (.int k') => decide (k' = k) && gD i.ty
 |.str, some .string => gD i.ty
 |.ptr e, some (.pointer e') => e' == e && gD i.ty
 |.slice e, some (.slice e') => e' == e && gD i.ty
 |.arr n e, some (.array n' e') => (n' == n && e' == e) && match i.ty with
  |.arr m T => m == n && aDR P e T.size
  |_ => false
 |.st ts, some (.struct fs) => match i.ty with
  |.st Ts => rZ P fs.toList ts Ts 0
  |_ => false
 |.fn, some (.func _ _ _) => gD i.ty
 |_, _ => false
theorem aAu {P : Program} {t : Nat} {i : TI} (h : aGB P t i = true) : aX P t i := by
 unfold aGB at h
 unfold aX
 split at h
 rotate_right
 ·cases h
 all_goals (rename_i hd hu; rw [hd]; simp only)
 ·exact ⟨hu, cI h⟩
 ·rename_i k k'
  simp only [Bool.and_eq_true, decide_eq_true_eq] at h
  exact ⟨by rw [hu, h.1], cI h.2⟩
 ·exact ⟨hu, cI h⟩
 ·simp only [Bool.and_eq_true, beq_iff_eq] at h
  exact ⟨by rw [hu, h.1], cI h.2⟩
 ·simp only [Bool.and_eq_true, beq_iff_eq] at h
  exact ⟨by rw [hu, h.1], cI h.2⟩
 ·rw [Bool.and_eq_true, Bool.and_eq_true, beq_iff_eq, beq_iff_eq] at h
  obtain ⟨⟨h1, h2⟩, h3⟩ := h
  split at h3 <;> try contradiction
  rename_i m T hT
  rw [Bool.and_eq_true, beq_iff_eq] at h3
  exact ⟨by rw [hu, h1, h2], T, by rw [hT, h3.1], pT h3.2⟩
 ·split at h <;> try contradiction
  rename_i Ts hT
  exact ⟨_, Ts, hu, hT, lV h⟩
 ·exact ⟨⟨_, _, _, hu⟩, cI h⟩
def tiB (P : Program) (t : Nat) (i : TI) : Bool :=
 (!i.eq || (!P.eqGuardType P.depth t && P.keyTypeAt 20 t)) && (aGB P t i && (rV i.ty && (oA i.ty i.zero && match P.info? t with
  |some inf => (inf.size == i.ty.size && inf.bytes == i.bytes) && match inf.zero with
   |some z => aAB i.zero.flat z.cells.toList
   |none => false
  |none => false)))
theorem aDN {P : Program} {t : Nat} {i : TI} (h : tiB P t i = true) : TiOk P t i := by
 unfold tiB at h
 rw [Bool.and_eq_true, Bool.and_eq_true, Bool.and_eq_true, Bool.and_eq_true] at h
 obtain ⟨h0, h⟩ := h
 have heq : i.eq = true → P.eqGuardType P.depth t = false ∧ P.keyTypeAt 20 t = true := by
  intro he
  rw [he] at h0
  simpa using h0
 obtain ⟨h1, h2, h3, h4⟩ := h
 split at h4 <;> try contradiction
 rename_i inf hi
 rw [Bool.and_eq_true, Bool.and_eq_true, beq_iff_eq, beq_iff_eq] at h4
 obtain ⟨⟨h5, h6⟩, h7⟩ := h4
 split at h7 <;> try contradiction
 rename_i z hz
 exact ⟨aAu h1, iB h2, eY h3, ⟨inf, z, hi, h5, h6, hz, fun ρ => oQ ρ h7⟩, heq⟩
def tabB (P : Program) : Tab → Bool
 |.z => true
 |.n l k v r => tiB P k v && (tabB P l && tabB P r)
theorem rB {P : Program} : ∀ {Γ : Tab}, tabB P Γ = true → ∀ {t : Nat} {i : TI}, ti Γ t = some i → tiB P t i = true
 |.n l k v r, h, t, i, hm => by
  simp only [tabB, Bool.and_eq_true] at h
  simp only [ti] at hm
  split at hm
  ·rename_i hb
   have := Nat.eq_of_beq_eq_true hb
   cases hm; subst this; exact h.1
  ·split at hm
   ·exact rB h.2.1 hm
   ·exact rB h.2.2 hm
theorem tab_ok {P : Program} {Γ : Tab} (h : tabB P Γ = true) : b8 P Γ := fun _ _ hi =>
 aDN (rB h hi)
theorem aGI {P : Program} {f : Nat} {args : List D} {m : Mem} {nx : Nat} {R : D → Mem → Nat → List Nat → Prop} {np : Nat} {m0 : Mem} {args0 : List D} {o : Out} (hac : AC P f args0 np m0 o) (σ : List Nat) (r : D) (up : Mem)
  (hl : (match Nat.ble (nx + o.nw.length) 999999 with | true => Nat.ble (np + o.nw.length) 999999 | false => false) = true) (hargs : args = D.rens (sig np nx o.nw.length σ) args0)
  (hm : bQ (sig np nx o.nw.length σ) m m0) (hn : bS np (sig np nx o.nw.length σ) m0 m0 = true) (hw : wrB m0 o.wr = true)
  (hr : o.ret.ren (sig np nx o.nw.length σ) = r) (hu : upM (sig np nx o.nw.length σ) nx m0 o = up)
  (hR : R r up o.nw.length (iX (sig np nx o.nw.length σ) m0)) : CallG P f args m nx R :=
 bY hac σ hl hargs hm hn hw (by rw [hr, hu]; exact hR)
theorem aAh {Γ : Tab} {t : Nat} {x : Operand} {tm : TM} {m : Mem} {nx : Nat} {foot : List Nat} {R : D → Mem → Nat → List Nat → Prop} {b : Nat} {p : cK} {e : Ent} {i : TI} {T : Ty} (v : D)
  (hx : opd tm (get m) x = some (.ptr b p)) (hb : kV (get m) foot b = some e) (hi : ti Γ t = some i) (hT : aM e.ty p = some T) (hq : T.beq i.ty = true)
  (hg : bZ e.d p = some v) (ob : okP e.d p) (hR : R v [] 0 foot) : EffG Γ (.load t x) tm m nx 0 foot R := by
 refine ⟨?_⟩
 unfold aEn
 have : opE Γ nx (kV (get m) foot) (opd tm (get m)) 0 (.load t x) = some ⟨okP e.d p, v, [], 0⟩ := by
  simp only [opE, hx, aAi, hb, hi, hT, hq, hg]
 rw [this]
 exact ⟨ob, hR⟩
theorem lL {Γ : Tab} {t : Nat} {x z : Operand} {tm : TM} {m : Mem} {nx : Nat} {foot : List Nat} {R : D → Mem → Nat → List Nat → Prop} {b : Nat} {p : cK} {e : Ent} {i : TI} {T : Ty} {v0 y : D} (d' : D)
  (hx : opd tm (get m) x = some (.ptr b p)) (hz : opd tm (get m) z = some y) (hb : kV (get m) foot b = some e) (hi : ti Γ t = some i) (hT : aM e.ty p = some T) (hq : T.beq i.ty = true)
  (hrw : e.rw = true) (hg : bZ e.d p = some v0) (hs : fC e.d p y = some d') (ob : okP e.d p) (hty : aD i.ty y)
  (hR : R .undef [(b, some ⟨e.ty, d', true⟩)] 0 foot) : EffG Γ (.store t x z) tm m nx 0 foot R := by
 refine ⟨?_⟩
 unfold aEn
 have : opE Γ nx (kV (get m) foot) (opd tm (get m)) 0 (.store t x z) = some ⟨okP e.d p ∧ aD i.ty y, .undef, [(b, some ⟨e.ty, d', true⟩)], 0⟩ := by
  simp only [opE, hx, hz, tE, hb, hi, hT, hq, hrw, hg, hs]
 rw [this]
 exact ⟨⟨ob, hty⟩, hR⟩
theorem iT {α : Type} {l : List α} {i j : Nat} {v d : α} (h : j < l.length) : (l.set j v).getD i d = if i = j then v else l.getD i d := by
 simp only [List.getD_eq_getElem?_getD, List.getElem?_set]
 by_cases hij : j = i
 ·subst hij; simp [h]
 ·rw [if_neg hij, if_neg (fun h => hij h.symm)]
theorem aCa {α : Type} {l : List α} {n i : Nat} {d : α} : (l.drop n).getD i d = l.getD (n + i) d := by
 simp only [List.getD_eq_getElem?_getD, List.getElem?_drop]
theorem mA {α : Type} {l r : List α} {i : Nat} {d : α} (h : i < l.length) : (l ++ r).getD i d = l.getD i d := by
 simp only [List.getD_eq_getElem?_getD, List.getElem?_append_left h]
theorem iN (s : Nat → Nat) : ∀ (l : List B8), D.rens s (l.map D.u8s) = l.map D.u8s
 |[] => rfl
 |a :: r => congrArg (D.u8s a :: ·) (iN s r)
theorem aCJ : ∀ {l : List B8} {i : Nat}, i < l.length → nth (l.map D.u8s) i = some (.u8s (l.getD i []))
 |a :: r, 0, _ => rfl
 |a :: r, i + 1, h => by
  have := aCJ (l := r) (i := i) (by simpa using h)
  simpa [nth, List.getD] using this
theorem mJ {l : List B8} {i : Nat} (h : i < l.length) : d9 (l.map D.u8s) i = .u8s (l.getD i []) := by
 unfold d9
 rw [aCJ h]
theorem mM {α : Type} {l : List α} {i : Nat} {d : α} (h : i < l.length) : l.getD i d ∈ l := by
 rw [List.getD_eq_getElem?_getD, List.getElem?_eq_getElem h]
 exact List.getElem_mem h
theorem aAC {p : BitVec 8 → Prop} (h : ∀ n, n < 256 → p (BitVec.ofNat 8 n)) (b : BitVec 8) : p b := by
 have h := h b.toNat b.isLt
 rwa [BitVec.ofNat_toNat, BitVec.setWidth_eq] at h
def Rows (n m : Nat) (ws : List B8) : Prop := ws.length = n ∧ ∀ r ∈ ws, r.length = m
theorem Rows.set {n m : Nat} {ws : List B8} (h : Rows n m ws) (i : Nat) {r : B8} (hr : r.length = m) : Rows n m (ws.set i r) :=
 ⟨by rw [List.length_set, h.1], fun x hx => by
  rcases List.mem_or_eq_of_mem_set hx with hx | hx
  ·exact h.2 x hx
  ·rw [hx, hr]⟩
theorem Rows.get {n m : Nat} {ws : List B8} (h : Rows n m ws) {i : Nat} (hi : i < n) : (ws.getD i []).length = m := h.2 _ (mM (by rw [h.1]; exact hi))
theorem Rows.ty {n m : Nat} {ws : List B8} (h : Rows n m ws) : aD (.arr n (.arr m .cell)) (.node (ws.map .u8s)) := by
 refine ⟨by rw [List.length_map, h.1], aJ.2 fun d hd => ?_⟩
 obtain ⟨k, hk, rfl⟩ := List.mem_map.1 hd
 exact h.2 k hk
theorem aD3 (s : Nat → Nat) (ws : List B8) : (D.node (ws.map .u8s)).ren s = .node (ws.map .u8s) := congrArg D.node (iN s ws)
mutual
def D.pre (i : Nat) (p : cK) : D → D
 |.ptr b q => .ptr b (match Nat.beq i b with | true => p ++ q | false => q)
 |.slice b q off len cap => .slice b (match Nat.beq i b with | true => p ++ q | false => q) off len cap
 |.fn f bs cs => .fn f (D.pres i p bs) (D.pres i p cs)
 |.node l => .node (D.pres i p l)
 |.tup l => .tup (D.pres i p l)
 |d => d
def D.pres (i : Nat) (p : cK) : List D → List D
 |[] => []
 |d :: ds => d.pre i p :: D.pres i p ds
end
theorem f8 (i : Nat) (p : cK) : ∀ l : List D, D.pres i p l = l.map (D.pre i p)
 |[] => rfl
 |d :: ds => by simp only [D.pres, List.map_cons, f8 i p ds]
theorem aA4 (i : Nat) (p : cK) (d : D) : (d.pre i p).isCell = d.isCell := by cases d <;> rfl
theorem aBx (i : Nat) (p : cK) (d : D) : (d.pre i p).isAgg = d.isAgg := by cases d <;> rfl
theorem aBw (i : Nat) (p : cK) (d : D) : (d.pre i p).isTup = d.isTup := by cases d <;> rfl
theorem aDa (i : Nat) (p : cK) (d : D) : (d.pre i p).isFn = d.isFn := by cases d <;> rfl
mutual
theorem mN (i : Nat) (p : cK) : ∀ d : D, (d.pre i p).flat = d.flat.map (D.pre i p)
 |.node l => by simp only [D.pre, D.flat]; exact uY i p l
 |.u8s l => by simp [D.pre, D.flat]
 |.u32s l => by simp [D.pre, D.flat]
 |.u64s l => by simp [D.pre, D.flat]
 |.tup l => by simp [D.pre, D.flat]
 |.undef | .bool _ | .u8 _ | .u16 _ | .u32 _ | .u64 _ | .i64 _ | .str _ | .nilptr | .ptr _ _ | .nilslice | .slice _ _ _ _ _ | .fn _ _ _ | .nilfn | .fz _ _ => by simp [D.pre, D.flat]
theorem uY (i : Nat) (p : cK) : ∀ l : List D, D.flats (D.pres i p l) = (D.flats l).map (D.pre i p)
 |[] => rfl
 |d :: ds => by simp only [D.pres, D.flats, List.map_append, mN i p d, uY i p ds]
end
mutual
theorem iA (i : Nat) (p : cK) : ∀ (T : Ty) (d : D), aD T (d.pre i p) ↔ aD T d
 |.cell, d => by show (d.pre i p).isCell = true ↔ d.isCell = true; rw [aA4]
 |.arr n t, d => by
  cases d <;> first | exact Iff.rfl | skip
  rename_i l
  show (D.pres i p l).length = n ∧ iY (aD t) (D.pres i p l) ↔ l.length = n ∧ iY (aD t) l
  rw [f8, List.length_map, kO (fun d => iA i p t d)]
 |.row t, d => by
  cases d <;> first | exact Iff.rfl | skip
  rename_i l
  show iY (aD t) (D.pres i p l) ↔ iY (aD t) l
  rw [f8, kO (fun d => iA i p t d)]
 |.st fs, d => by
  cases d <;> first | exact Iff.rfl | skip
  rename_i l
  exact qK i p fs l
theorem qK (i : Nat) (p : cK) : ∀ (fs : List Ty) (l : List D), dD fs (D.pres i p l) ↔ dD fs l
 |[], [] => Iff.rfl
 |[], _ :: _ => Iff.rfl
 |t :: ts, [] => Iff.rfl
 |t :: ts, d :: ds => by
  show aD t (d.pre i p) ∧ dD ts (D.pres i p ds) ↔ aD t d ∧ dD ts ds
  rw [iA i p t d, qK i p ts ds]
end
theorem jW : ∀ {p : cK} {T T' : Ty} (q : cK), aM T p = some T' → aM T (p ++ q) = aM T' q ∧ aE T (p ++ q) = aE T p + aE T' q
 |[], T, T', q, h => by
  simp only [aM, Option.some.injEq] at h; subst h
  exact ⟨rfl, by simp [aE]⟩
 |s :: p, T, T', q, h => by
  cases T with
  |cell => exact absurd h aN
  |st fs =>
   cases s <;> simp only [aM] at h <;> try contradiction
   rename_i i
   cases e : fs[i]? with
   |none => simp [e] at h
   |some t =>
    simp only [e] at h
    obtain ⟨h1, h2⟩ := jW q h
    exact ⟨by simp only [List.cons_append, aM, e, h1], by simp only [List.cons_append, aE, e, h2]; exact (Nat.add_assoc _ _ _).symm⟩
  |arr n t =>
   cases s <;> simp only [aM] at h <;> try contradiction
   all_goals
    obtain ⟨h1, h2⟩ := jW q h
    exact ⟨by simp only [List.cons_append, aM, h1], by simp only [List.cons_append, aE, h2]; omega⟩
  |row t =>
   cases s <;> simp only [aM] at h <;> try contradiction
   all_goals
    obtain ⟨h1, h2⟩ := jW q h
    exact ⟨by simp only [List.cons_append, aM, h1], by simp only [List.cons_append, aE, h2]; omega⟩
theorem pN : ∀ {p : cK} {s : Step} {T S : Ty}, T.good → aM T (s :: p) = some S → S.flatTy
 |p, s, T, S, hg, h => by
  have key : ∀ (u : Ty), u.flatTy → aM u p = some S → S.flatTy := by
   intro u hu hp
   cases p with
   |nil => simp only [aM, Option.some.injEq] at hp; rw [← hp]; exact hu
   |cons s' p' => exact pN (p := p') (s := s') (T := u) (by cases u <;> first | exact hu | exact hu.elim) hp
  cases T with
  |cell => exact absurd h aN
  |st fs =>
   cases s <;> simp only [aM] at h <;> try contradiction
   rename_i i
   cases e : fs[i]? with
   |none => simp [e] at h
   |some t =>
    simp only [e] at h
    exact key t (e8 hg i e) h
  |arr n t =>
   cases s <;> simp only [aM] at h <;> try contradiction
   ·exact key t hg h
   ·exact key _ (show Ty.flatTy (.arr _ t) from hg) h
  |row t =>
   cases s <;> simp only [aM] at h <;> try contradiction
   ·exact key t hg h
   ·exact key _ (show Ty.flatTy (.arr _ t) from hg) h
theorem aC7 {n : Nat} {u : Ty} {d : D} (h : aD (.arr n u) d) : aD (.row u) d := by
 cases d with
 |u8s l => cases u <;> first | trivial | exact h.elim
 |u32s l => cases u <;> first | trivial | exact h.elim
 |u64s l => cases u <;> first | trivial | exact h.elim
 |node l => exact h.2
 |_ => exact h.elim
structure SubL (L L' : Loc) (p : cK) : Prop where
 blk : L'.blk = L.blk
 n : L'.n = L.n
 base : L'.base = L.base + aE L.ty p
 at_ : ∃ T, aM L.ty p = some T ∧ (L'.ty = T ∨ ∃ n t, T = .arr n t ∧ L'.ty = .row t)
theorem aFT (n : Nat) (t : Ty) (q : cK) : aE (.row t) q = aE (.arr n t) q := by
 cases q with
 |nil => rfl
 |cons s q => cases s <;> rfl
theorem row_el {n : Nat} {t u : Ty} {q : cK} : (∃ T, aM (.row t) q = some T ∧ b7 T = some u) ↔ (∃ T, aM (.arr n t) q = some T ∧ b7 T = some u) := by
 cases q with
 |nil => simp [aM, b7]
 |cons s q => cases s <;> simp [aM]
theorem SubL.off {L L' : Loc} {p : cK} (h : SubL L L' p) (q : cK) : L.base + aE L.ty (p ++ q) = L'.base + aE L'.ty q := by
 obtain ⟨T, h1, h2⟩ := h.at_
 rw [(jW q h1).2, h.base]
 rcases h2 with h2 | ⟨n, t, h2, h3⟩
 ·rw [h2]; omega
 ·rw [h3, h2, aFT n]; omega
theorem SubL.el {L L' : Loc} {p : cK} (h : SubL L L' p) (q : cK) {u : Ty} : (∃ T, aM L.ty (p ++ q) = some T ∧ b7 T = some u) ↔ (∃ T, aM L'.ty q = some T ∧ b7 T = some u) := by
 obtain ⟨T, h1, h2⟩ := h.at_
 rw [(jW q h1).1]
 rcases h2 with h2 | ⟨n, t, h2, h3⟩
 ·rw [h2]
 ·rw [h3, h2]; exact row_el.symm
theorem SubL.slice {L L' : Loc} {p : cK} (h : SubL L L' p) (q : cK) {off len : Nat} {cap : Option Nat} {v : Value} : jP L (p ++ q) off len cap v ↔ jP L' q off len cap v := by
 unfold jP
 constructor
 ·rintro ⟨T, t, a, c, h1, h2, h3, h4, h5, h6, h7⟩
  obtain ⟨T', h8, h9⟩ := (h.el q).1 ⟨T, h1, h2⟩
  exact ⟨T', t, a, c, h8, h9, h3, h4, h5, h6, fun hc => by rw [← h.off q, h.blk, h.n]; exact h7 hc⟩
 ·rintro ⟨T, t, a, c, h1, h2, h3, h4, h5, h6, h7⟩
  obtain ⟨T', h8, h9⟩ := (h.el q).2 ⟨T, h1, h2⟩
  exact ⟨T', t, a, c, h8, h9, h3, h4, h5, h6, fun hc => by rw [h.off q, ← h.blk, ← h.n]; exact h7 hc⟩
structure SubE (i : Nat) (p : cK) (ρ ρ' : Env) : Prop where
 here : ∃ L L', ρ i = some L ∧ ρ' i = some L' ∧ SubL L L' p
 away : ∀ j, j ≠ i → ρ' j = ρ j
 lt : i < 1000000
section
variable {i : Nat} {p : cK} {ρ ρ' : Env} (H : SubE i p ρ ρ')
include H
theorem yY {d : D} {v : Value} : RepB ρ (d.pre i p) v ↔ RepB ρ' d v := by
 obtain ⟨L, L', h1, h2, h3⟩ := H.here
 cases d <;> try exact Iff.rfl
 ·rename_i b q
  by_cases hb : i = b
  ·subst hb
   have hi : Nat.beq i i = true := Nat.beq_refl i
   simp only [D.pre, hi, RepB, h1, h2, Option.some.injEq]
   constructor
   ·rintro ⟨_, rfl, rfl⟩; exact ⟨_, rfl, by rw [h3.off q, h3.blk]⟩
   ·rintro ⟨_, rfl, rfl⟩; exact ⟨_, rfl, by rw [h3.off q, h3.blk]⟩
  ·have hi : Nat.beq i b = false := by
    cases e : Nat.beq i b with
    |false => rfl
    |true => exact absurd (Nat.eq_of_beq_eq_true e) hb
   simp only [D.pre, hi, RepB]
   rw [H.away b (fun e => hb e.symm)]
 ·rename_i b q off len cap
  by_cases hb : i = b
  ·subst hb
   have hi : Nat.beq i i = true := Nat.beq_refl i
   simp only [D.pre, hi, RepB, h1, h2, Option.some.injEq]
   constructor
   ·rintro ⟨_, rfl, h⟩; exact ⟨_, rfl, (h3.slice q).1 h⟩
   ·rintro ⟨_, rfl, h⟩; exact ⟨_, rfl, (h3.slice q).2 h⟩
  ·have hi : Nat.beq i b = false := by
    cases e : Nat.beq i b with
    |false => rfl
    |true => exact absurd (Nat.eq_of_beq_eq_true e) hb
   simp only [D.pre, hi, RepB]
   rw [H.away b (fun e => hb e.symm)]
 ·show (∃ b L o, ρ (fzn b) = some L ∧ _) ↔ (∃ b L o, ρ' (fzn b) = some L ∧ _)
  have hlt := H.lt
  have hs' : ∀ b, ρ' (fzn b) = ρ (fzn b) := fun b => H.away _ (by unfold fzn; omega)
  simp only [hs']
theorem mH {d : D} {v : Value} : RepS ρ (d.pre i p) v ↔ RepS ρ' d v := by
 cases hd : d.isFn with
 |false => rw [i4 (by rw [aDa, hd]), i4 hd]; exact yY H
 |true =>
  cases d <;> simp [D.isFn] at hd
  rename_i f bs cs
  show (∃ us vs : List Value, _ ∧ All2 (RepB ρ) (D.pres i p bs) us ∧ All2 (RepB ρ) (D.pres i p cs) vs) ↔ (∃ us vs : List Value, _ ∧ All2 (RepB ρ') bs us ∧ All2 (RepB ρ') cs vs)
  rw [f8, f8]
  simp only [All2.map_iff (R := RepB ρ) (S := RepB ρ') (fun a b => yY H)]
theorem yV {d : D} {v : Value} : RepV ρ (d.pre i p) v ↔ RepV ρ' d v := by
 unfold RepV
 rw [aBx, mN]
 split
 ·simp only [All2.map_iff (R := RepS ρ) (S := RepS ρ') (fun a b => mH H)]
 ·exact mH H
theorem aBk {d : D} {v : Value} : Rep ρ (d.pre i p) v ↔ Rep ρ' d v := by
 cases hd : d.isTup with
 |false => rw [eE (by rw [aBw, hd]), eE hd]; exact yV H
 |true =>
  cases d <;> simp [D.isTup] at hd
  ·exact Iff.rfl
  ·rename_i l
   show (∃ vs : List Value, _ ∧ All2 (RepV ρ) (D.pres i p l) vs) ↔ (∃ vs : List Value, _ ∧ All2 (RepV ρ') l vs)
   rw [f8]
   simp only [All2.map_iff (R := RepV ρ) (S := RepV ρ') (fun a b => yV H)]
theorem wY {e : Ent} {L : Loc} {w : World} : SatE ρ ⟨e.ty, e.d.pre i p, e.rw⟩ L w ↔ SatE ρ' e L w := by
 constructor
 ·rintro ⟨q1, q2, q3, C, t, fr, pre, front, tail, q4, q5, q6, q7, q8, q9⟩
  refine ⟨q1, q2, (iA i p _ _).1 q3, C, t, fr, pre, front, tail, q4, q5, q6, q7, ?_, q9⟩
  rw [mN] at q8
  exact (All2.map_iff (fun a b => mH H)).1 q8
 ·rintro ⟨q1, q2, q3, C, t, fr, pre, front, tail, q4, q5, q6, q7, q8, q9⟩
  refine ⟨q1, q2, (iA i p _ _).2 q3, C, t, fr, pre, front, tail, q4, q5, q6, q7, ?_, q9⟩
  show All2 _ (e.d.pre i p).flat _
  rw [mN]
  exact (All2.map_iff (fun a b => mH H)).2 q8
end
def aCz (i : Nat) (p : cK) : Mem → Mem
 |[] => []
 |(j, some e) :: r => match Nat.beq i j with
  |true => aCz i p r
  |false => (j, some ⟨e.ty, e.d.pre i p, e.rw⟩) :: aCz i p r
 |(j, none) :: r => match Nat.beq i j with
  |true => aCz i p r
  |false => (j, none) :: aCz i p r
def aEa (i : Nat) (p : cK) : List (Nat × Option D) → List (Nat × Option D)
 |[] => []
 |(j, some d) :: r => (j, some (d.pre i p)) :: aEa i p r
 |(j, none) :: r => (j, none) :: aEa i p r
def aDb (i : Nat) (p : cK) : List (Ty × D) → List (Ty × D)
 |[] => []
 |(t, d) :: r => (t, d.pre i p) :: aDb i p r
def Out.pre (i : Nat) (p : cK) (o : Out) : Out := ⟨o.ret.pre i p, aEa i p o.wr, aDb i p o.nw⟩
def zY (i : Nat) (p : cK) (e : Ent) : Ent := ⟨e.ty, e.d.pre i p, e.rw⟩
theorem aCq {i j : Nat} (h : i ≠ j) : Nat.beq i j = false := by
 cases e : Nat.beq i j with
 |false => rfl
 |true => exact absurd (Nat.eq_of_beq_eq_true e) h
theorem kE (i : Nat) (p : cK) : ∀ (m : Mem) (j : Nat), j ≠ i → get (aCz i p m) j = (get m j).map (zY i p)
 |[], j, _ => rfl
 |(k, some e) :: r, j, h => by
  by_cases hk : i = k
  ·subst hk
   simp only [aCz, Nat.beq_refl]
   rw [kE i p r j h, aK, if_neg (fun e => h e.symm)]
  ·simp only [aCz, aCq hk, aK]
   split
   ·rfl
   ·exact kE i p r j h
 |(k, none) :: r, j, h => by
  by_cases hk : i = k
  ·subst hk
   simp only [aCz, Nat.beq_refl]
   rw [kE i p r j h, aK, if_neg (fun e => h e.symm)]
  ·simp only [aCz, aCq hk, aK]
   split
   ·rfl
   ·exact kE i p r j h
theorem mK (i : Nat) (p : cK) : ∀ (l : List (Nat × Option D)) (j : Nat), lkw (aEa i p l) j = (lkw l j).map (fun x => x.map (D.pre i p))
 |[], _ => rfl
 |(k, some d) :: r, j => by simp only [aEa, lkw, mK i p r j]; split <;> rfl
 |(k, none) :: r, j => by simp only [aEa, lkw, mK i p r j]; split <;> rfl
theorem zF (i : Nat) (p : cK) : ∀ (l : List (Ty × D)) (k : Nat), (aDb i p l)[k]? = (l[k]?).map fun x => (x.1, x.2.pre i p)
 |[], k => by simp [aDb]
 |(t, d) :: r, 0 => by simp [aDb]
 |(t, d) :: r, k + 1 => by simp [aDb, zF i p r k]
theorem nQ (i : Nat) (p : cK) : ∀ l, (aDb i p l).length = l.length
 |[] => rfl
 |(t, d) :: r => by simp [aDb, nQ i p r]
def aBG (i : Nat) (p : cK) (T : Ty) (d : D) (m : Mem) : Mem := (i, some ⟨T, d, false⟩) :: aCz i p m
theorem AC.sub {P : Program} {f : Nat} {args : List D} {np : Nat} {m0 : Mem} {o : Out} (hac : AC P f args np m0 o) (i : Nat) (p : cK) (T : Ty) (D0 : D) {S t : Ty} {d : D}
  (hm : get m0 i = some ⟨t, d, false⟩) (hT : aM T p = some S) (hv : S = t ∨ ∃ n u, S = .arr n u ∧ t = .row u) (hg : bZ D0 p = some (d.pre i p)) (hok : okP D0 p)
  (hi : i < np := by decide) (hi2 : i < 1000000 := by decide) (hw : lkw o.wr i = none := by rfl) : AC P f (D.pres i p args) np (aBG i p T D0 m0) (o.pre i p) := by
 refine ⟨hac.1, fun ρ1 w0 vals hvals hI hd => ?_⟩
 have hgi : get (aBG i p T D0 m0) i = some ⟨T, D0, false⟩ := by simp [aBG, aK]
 have hgj : ∀ j, j ≠ i → get (aBG i p T D0 m0) j = (get m0 j).map (zY i p) := fun j hj => by
  unfold aBG
  rw [aK, if_neg (fun e => hj e.symm)]
  exact kE i p m0 j hj
 obtain ⟨L, hL, hsat⟩ := hI.sat i _ hgi
 let L' : Loc := ⟨L.blk, L.base + aE L.ty p, L.n, t⟩
 have hty : L.ty = T := hsat.ty
 have hsub : SubL L L' p := ⟨rfl, rfl, rfl, S, by rw [hty]; exact hT, by
  rcases hv with h | ⟨n, u, h1, h2⟩
  ·exact .inl h.symm
  ·exact .inr ⟨n, u, h1, h2⟩⟩
 let ρ0 : Env := ρ1.put i L'
 have hρi : ρ0 i = some L' := if_pos rfl
 have hρj : ∀ j, j ≠ i → ρ0 j = ρ1 j := fun j hj => if_neg hj
 have hE : SubE i p ρ1 ρ0 := ⟨⟨L, L', hL, hρi, hsub⟩, hρj, hi2⟩
 have hρz : ∀ b, ρ0 (fzn b) = ρ1 (fzn b) := fun b => hρj _ (by unfold fzn; omega)
 have hsat' : SatE ρ0 ⟨t, d, false⟩ L' w0 := by
  rw [← wY hE]
  obtain ⟨hST, vs, hr, hcell⟩ := hsat.read (p := p) hT hok hg
  obtain ⟨q1, q2, q3, C, tt, fr, pre, front, tail, q4, q5, q6, q7, q8, q9⟩ := hsat
  obtain ⟨hT', pr, po, h7, h8⟩ := aV p T D0 _ S q2 q3 hT hok hg
  have q8 : All2 (RepS ρ1) D0.flat front := q8
  rw [h7] at q8
  obtain ⟨b12, b3, e1, ha, hb⟩ := All2.split_left q8
  obtain ⟨b1, b2, e2, hc, hd2⟩ := All2.split_left ha
  refine ⟨rfl, ?_, ?_, C, tt, fr, pre ++ b1, b2, b3 ++ tail, q4, by rw [q5, e1, e2]; simp, ?_, q7, hd2, fun h => by cases h⟩
  ·show t.good
   have hSg : S.good ∧ (∀ n u, S = .arr n u → u.flatTy) := by
    have : S.good := by
     rcases p with _ | ⟨s, p⟩
     ·simp only [aM, Option.some.injEq] at hT; rw [← hT]; exact q2
     ·have := pN (p := p) q2 hT
      cases S <;> first | exact this | exact this.elim
    refine ⟨this, fun n u e => ?_⟩
    rw [e] at this; exact this
   rcases hv with h | ⟨n, u, h1, h2⟩
   ·rw [← h]; exact hSg.1
   ·rw [h2]; exact hSg.2 n u h1
  ·show aD t (d.pre i p)
   rcases hv with h | ⟨n, u, h1, h2⟩
   ·rw [← h]; exact hST
   ·rw [h2]; rw [h1] at hST; exact aC7 hST
  ·show (pre ++ b1).length = L.base + aE L.ty p
   rw [List.length_append, q6, ← hc.length, h8, hty]
 have hent : ∀ j ej, get m0 j = some ej → ∃ Lj, ρ0 j = some Lj ∧ SatE ρ0 ej Lj w0 ∧ ∃ L1 e1, get (aBG i p T D0 m0) j = some e1 ∧ e1.rw = ej.rw ∧ ρ1 j = some L1 ∧ L1.blk = Lj.blk := by
  intro j ej hj
  by_cases h : j = i
  ·subst h
   rw [hm] at hj; cases hj
   exact ⟨L', hρi, hsat', L, _, hgi, rfl, hL, rfl⟩
  ·have h1 : get (aBG i p T D0 m0) j = some (zY i p ej) := by rw [hgj j h, hj]; rfl
   obtain ⟨Lj, h2, h3⟩ := hI.sat j _ h1
   exact ⟨Lj, by rw [hρj j h]; exact h2, (wY hE).1 h3, Lj, _, h1, rfl, h2, rfl⟩
 have hwp : ∀ b, eT ρ0 m0 b → eT ρ1 (aBG i p T D0 m0) b := by
  rintro b ⟨j, ej, Lj, h1, h2, h3, h4⟩
  obtain ⟨L2, g1, _, L1, e1, g2, g3, g4, g5⟩ := hent j ej h1
  rw [h3] at g1; cases g1
  exact ⟨j, e1, L1, g2, by rw [g3]; exact h2, g4, by rw [g5, h4]⟩
 have hI0 : Inv ⟨w0, eT ρ0 m0⟩ ρ0 m0 w0 := by
  refine ⟨fun g L1 hg1 h => ?_, fun j ej hj => ?_, fun j k ej ek Lj Lk hj hk hne hr h1 h2 => ?_, fun j ej Lj h hr h1 => .inl ⟨j, ej, Lj, h, hr, h1, rfl⟩, fun _ _ _ => rfl, Nat.le_refl _, rfl, rfl, rfl, fun b Lb h => ?_⟩
  ·have hne : gid g ≠ i := by unfold gid; omega
   rw [hρj _ hne] at h
   exact hI.glob g L1 hg1 h
  ·obtain ⟨Lj, h1, h2, _⟩ := hent j ej hj
   exact ⟨Lj, h1, h2⟩
  ·obtain ⟨L2, g1, _, L1, e1, g2, g3, g4, g5⟩ := hent j ej hj
   rw [h1] at g1; cases g1
   obtain ⟨L3, k1, _, L4, e4, k2, k3, k4, k5⟩ := hent k ek hk
   rw [h2] at k1; cases k1
   rw [← g5, ← k5]
   exact hI.inj j k e1 e4 L1 L4 g2 k2 hne (by rw [g3]; exact hr) g4 k4
  ·rw [hρz] at h
   obtain ⟨a1, a2, a3⟩ := hI.fz b Lb h
   refine ⟨a1, a2, fun j ej Lj hj hr hLj => ?_⟩
   obtain ⟨L2, g1, _, L1, e1, g2, g3, g4, g5⟩ := hent j ej hj
   rw [hLj] at g1; cases g1
   rw [← g5]; exact a3 j e1 L1 g2 (by rw [g3]; exact hr) g4
 have hvals0 : All2 (Rep ρ0) args vals := by
  rw [f8] at hvals
  exact (All2.map_iff (fun a b => aBk hE)).1 hvals
 have hfixi : Fix np i := .inl hi
 have hd0 : ∀ j, ρ0 j ≠ none → Use np j := by
  intro j hj
  by_cases h : j = i
  ·rw [h]; exact .inl hi
  ·rw [hρj j h] at hj; exact hd j hj
 refine (hac.2 ρ0 w0 vals hvals0 hI0 hd0).mono ?_
 rintro e w' ⟨v, ρ2, rfl, hfix, hdom, hret, hI2⟩
 let ρ3 : Env := ρ2.put i L
 have h3i : ρ3 i = some L := if_pos rfl
 have h3j : ∀ j, j ≠ i → ρ3 j = ρ2 j := fun j hj => if_neg hj
 have h2i : ρ2 i = some L' := by rw [hfix.fix i hfixi]; exact hρi
 have hE3 : SubE i p ρ3 ρ2 := ⟨⟨L, L', h3i, h2i, hsub⟩, fun j hj => (h3j j hj).symm, hi2⟩
 have h3z : ∀ b, ρ3 (fzn b) = ρ2 (fzn b) := fun b => h3j _ (by unfold fzn; omega)
 have hle : ρ1.le ρ3 := by
  intro j Lj hj
  by_cases h : j = i
  ·subst h; rw [hL] at hj; cases hj; exact h3i
  ·rw [h3j j h]; exact hfix.le hd0 j Lj (by rw [hρj j h]; exact hj)
 have hnl : (o.pre i p).nw.length = o.nw.length := nQ i p o.nw
 have hnotwp : ¬ eT ρ0 m0 L.blk := by
  rintro ⟨j, ej, Lj, h1, h2, h3, h4⟩
  obtain ⟨L2, g1, _, L1, e1, g2, g3, g4, g5⟩ := hent j ej h1
  rw [h3] at g1; cases g1
  by_cases hji : j = i
  ·subst hji; rw [hm] at h1; cases h1; cases h2
  ·exact hI.inj j i e1 _ L1 L g2 hgi hji (by rw [g3]; exact h2) g4 hL (by rw [g5, h4])
 have hsat3 : SatE ρ3 ⟨T, D0, false⟩ L w' := (hsat.mono hle).same (hI2.ext L.blk hsat.lt hnotwp)
 have hoi : get ((o.pre i p).mem np (aBG i p T D0 m0)) i = some ⟨T, D0, false⟩ := by
  rw [eZ, if_neg (by omega), show lkw (o.pre i p).wr i = none by show lkw (aEa i p o.wr) i = none; rw [mK, hw]; rfl]
  exact hgi
 have hoj : ∀ j, j ≠ i → get ((o.pre i p).mem np (aBG i p T D0 m0)) j = (get (o.mem np m0) j).map (zY i p) := by
  intro j hj
  rw [eZ, eZ, hnl]
  split
  ·show Option.map _ ((aDb i p o.nw)[j - np]?) = _
   rw [zF]
   cases o.nw[j - np]? <;> rfl
  ·show (match lkw (aEa i p o.wr) j with | some none => none | some (some d) => _ | none => _) = _
   rw [mK, hgj j hj]
   cases lkw o.wr j with
   |none => rfl
   |some x =>
    cases x with
    |none => rfl
    |some d' =>
     simp only [Option.map_some, Option.map_map]
     rfl
 have hent3 : ∀ j ej, get ((o.pre i p).mem np (aBG i p T D0 m0)) j = some ej → ∃ L3 L2 e2, ρ3 j = some L3 ∧ SatE ρ3 ej L3 w' ∧ get (o.mem np m0) j = some e2 ∧ e2.rw = ej.rw ∧ ρ2 j = some L2 ∧ L2.blk = L3.blk := by
  intro j ej hj
  by_cases h : j = i
  ·subst h
   rw [hoi] at hj; cases hj
   have : get (o.mem np m0) j = some ⟨t, d, false⟩ := by rw [eZ, if_neg (by omega), hw]; exact hm
   exact ⟨L, L', _, h3i, hsat3, this, rfl, h2i, rfl⟩
  ·rw [hoj j h] at hj
   cases he : get (o.mem np m0) j with
   |none => rw [he] at hj; cases hj
   |some e2 =>
    rw [he] at hj; cases hj
    obtain ⟨L2, g1, g2⟩ := hI2.sat j e2 he
    exact ⟨L2, L2, e2, by rw [h3j j h]; exact g1, (wY hE3).2 g2, rfl, rfl, g1, rfl⟩
 refine ⟨v, ρ3, rfl, ⟨fun j hj => ?_, fun j Lj hj h => ?_, fun b h => ?_⟩, fun j hj => ?_, (aBk hE3).2 hret, ⟨fun g L1 hg1 h => ?_, fun j ej hj => ?_, fun j k ej ek Lj Lk hj hk hne hr h1 h2 => ?_, fun j ej Lj hj hr h1 => ?_, fun b hb hn => hI2.ext b hb (fun h => hn (hwp b h)), hI2.size, hI2.os, hI2.out, hI2.tape, fun b Lb h => ?_⟩⟩
 ·by_cases h : j = i
  ·subst h; rw [h3i, hL]
  ·rw [h3j j h, hfix.fix j hj, hρj j h]
 ·rw [h3j j (by omega)]; exact hfix.mono j Lj hj (by rw [hρj j (by omega)]; exact h)
 ·rw [h3z] at h
  rcases hfix.new b h with h | h | h
  ·rw [hρz] at h; exact .inl h
  ·exact .inr (.inl (hwp b h))
  ·exact .inr (.inr h)
 ·rw [hnl]
  by_cases h : j = i
  ·rw [h]; exact .inl (by omega)
  ·rw [h3j j h] at hj; exact hdom j hj
 ·have hne : gid g ≠ i := by unfold gid; omega
  rw [h3j _ hne] at h
  exact hI2.glob g L1 hg1 h
 ·obtain ⟨L3, _, _, g1, g2, _⟩ := hent3 j ej hj
  exact ⟨L3, g1, g2⟩
 ·obtain ⟨L3, L2, e2, g1, _, g2, g3, g4, g5⟩ := hent3 j ej hj
  rw [h1] at g1; cases g1
  obtain ⟨K3, K2, k2, k1, _, kk2, k3, k4, k5⟩ := hent3 k ek hk
  rw [h2] at k1; cases k1
  rw [← g5, ← k5]
  exact hI2.inj j k e2 k2 L2 K2 g2 kk2 hne (by rw [g3]; exact hr) g4 k4
 ·obtain ⟨L3, L2, e2, g1, _, g2, g3, g4, g5⟩ := hent3 j ej hj
  rw [h1] at g1; cases g1
  rcases hI2.own j e2 L2 g2 (by rw [g3]; exact hr) g4 with h | h
  ·left; rw [← g5]; exact hwp _ h
  ·right; rw [← g5]; exact h
 ·rw [h3z] at h
  obtain ⟨a1, a2, a3⟩ := hI2.fz b Lb h
  refine ⟨a1, a2, fun j ej Lj hj hr hLj => ?_⟩
  obtain ⟨L3, L2, e2, g1, _, g2, g3, g4, g5⟩ := hent3 j ej hj
  rw [hLj] at g1; cases g1
  rw [← g5]; exact a3 j e2 L2 g2 (by rw [g3]; exact hr) g4
theorem AC.arr {P : Program} {f : Nat} {args : List D} {np : Nat} {m0 : Mem} {o : Out} (hac : AC P f args np m0 o) (i n : Nat) {l : B8} (hm : get m0 i = some ⟨.row .cell, .u8s l, false⟩ := by rfl)
  (hi : i < np := by decide) (hi2 : i < 1000000 := by decide) (hw : lkw o.wr i = none := by rfl) : AC P f (D.pres i [] args) np (aBG i [] (.arr n .cell) (.u8s l) m0) (o.pre i []) :=
 AC.sub hac i [] (.arr n .cell) (.u8s l) hm rfl (.inr ⟨n, .cell, rfl, rfl⟩) rfl trivial hi hi2 hw
theorem AC.arrAt {P : Program} {f : Nat} {args : List D} {np : Nat} {m0 : Mem} {o : Out} (hac : AC P f args np m0 o) (i n : Nat) (p : cK) (T : Ty) (D0 : D) {l : B8} (hm : get m0 i = some ⟨.row .cell, .u8s l, false⟩ := by rfl)
  (hT : aM T p = some (.arr n .cell) := by rfl) (hg : bZ D0 p = some (.u8s l) := by rfl) (hok : okP D0 p := by trivial)
  (hi : i < np := by decide) (hi2 : i < 1000000 := by decide) (hw : lkw o.wr i = none := by rfl) : AC P f (D.pres i p args) np (aBG i p T D0 m0) (o.pre i p) :=
 AC.sub hac i p T D0 hm hT (.inr ⟨n, .cell, rfl, rfl⟩) hg hok hi hi2 hw
def slD (k n : Nat) : Option Nat → D
 |none => .nilslice
 |some c => .slice k [] 0 n (some c)
theorem cV (s : Nat → Nat) (k n : Nat) (x : Option Nat) : (slD k n x).ren s = slD (s k) n x := by cases x <;> rfl
theorem aCN (a b : Nat) : Nat.min a b = min a b := rfl
theorem obA {A B : Prop} (k : B) (a : A := by ((repeat' (first | exact trivial | refine And.intro ?_ ?_)) <;> (first | omega | (simp only [aD, okP, lenD, D.ren, D.isCell, Option.getD, List.length_set, List.length_take, List.length_drop, List.length_append, List.length_replicate, List.length_map, List.length_cons, List.length_nil, Option.map, aCN, List.nil_append, D.pre, Out.pre] <;> omega) | with_reducible assumption | with_reducible rfl | decide))) : A ∧ B := ⟨a, k⟩
theorem chkA {b : Bool} {K : Prop} (k : K) (h : b = true := by kernel_rfl) : ChkG b K := ⟨h, k⟩
theorem eqY {a b : B8} (h : a = b) : (D.u8s a).eqb (D.u8s b) = true := decide_eq_true h
theorem eqN {a b : B8} (h : a ≠ b) : (D.u8s a).eqb (D.u8s b) = false := decide_eq_false h
theorem neY {a b : B8} (h : a ≠ b) : (!(D.u8s a).eqb (D.u8s b)) = true := by rw [eqN h]; rfl
theorem neN {a b : B8} (h : a = b) : (!(D.u8s a).eqb (D.u8s b)) = false := by rw [eqY h]; rfl
theorem brY {b : Bool} {A B : Prop} (k : A) (h : b = true := by first | exact decide_eq_true (by omega) | rfl | exact eqY rfl | exact eqY (by assumption) | exact neY (by assumption)) : Br b A B := Br.yes h k
theorem brN {b : Bool} {A B : Prop} (k : B) (h : b = false := by first | exact decide_eq_false (by omega) | rfl | exact neN rfl | exact eqN (by assumption) | exact neN (by assumption)) : Br b A B := Br.no h k
class Pure (d : D) : Prop where
 ren : ∀ s, d.ren s = d
instance (l : B8) : Pure (.u8s l) := ⟨fun _ => rfl⟩
instance (l : List (BitVec 32)) : Pure (.u32s l) := ⟨fun _ => rfl⟩
instance (l : List (BitVec 64)) : Pure (.u64s l) := ⟨fun _ => rfl⟩
instance (l : List B8) : Pure (.node (l.map .u8s)) := ⟨fun s => aD3 s l⟩
theorem viewA {np nh : Nat} {σ : List Nat} {T : TM} {M : Mem} {tm : TM} {m : Mem} (h1 : (match Nat.ble np nh with | true => (match Nat.ble nh 999998 with | true => lE σ np | false => false) | false => false) = true := by rfl)
  (h2 : vX (sig nh 0 0 σ) tm T := by ((repeat' (first | exact trivial | refine And.intro ?_ ?_)) <;> (first | rfl | exact (congrArg some (Pure.ren _)).symm | (simp only [Nat.zero_add]; rfl) | (simp only [D.ren, D.rens, cV]; rfl))))
  (h3 : bQ (sig nh 0 0 σ) m M := by ((repeat' (first | exact trivial | refine And.intro ⟨_, rfl, rfl, ?_, id⟩ ?_ | refine And.intro ⟨_, rfl, rfl, ?_, fun _ => rfl⟩ ?_)) <;> (first | rfl | exact (Pure.ren _).symm | exact (Pure.ren _).trans (Pure.ren _).symm | (simp only [Nat.zero_add]; rfl) | (simp only [D.ren, D.rens, cV]; rfl))))
  (h4 : bS nh (sig nh 0 0 σ) M M = true := by rfl) : iG np nh σ T M tm m := bA h1 h2 h3 h4
theorem eD {P : Program} {f : Nat} {args : List D} {m : Mem} {nx : Nat} {R : D → Mem → Nat → List Nat → Prop} {np : Nat} {m0 : Mem} {args0 : List D} {o : Out} (hac : AC P f args0 np m0 o) (σ : List Nat)
  (hR : R (o.ret.ren (sig np nx o.nw.length σ)) (upM (sig np nx o.nw.length σ) nx m0 o) o.nw.length (iX (sig np nx o.nw.length σ) m0))
  (hl : (match Nat.ble (nx + o.nw.length) 999999 with | true => Nat.ble (np + o.nw.length) 999999 | false => false) = true := by rfl) (hargs : args = D.rens (sig np nx o.nw.length σ) args0 := by first | rfl | (simp only [D.rens, cV]; rfl))
  (hm : bQ (sig np nx o.nw.length σ) m m0 := by ((repeat' (first | exact trivial | refine And.intro ⟨_, rfl, rfl, ?_, id⟩ ?_ | refine And.intro ⟨_, rfl, rfl, ?_, fun _ => rfl⟩ ?_)) <;> (first | rfl | exact (Pure.ren _).symm | exact (Pure.ren _).trans (Pure.ren _).symm | (simp only [Nat.zero_add]; rfl) | (simp only [D.ren, D.rens, cV]; rfl))))
  (hn : bS np (sig np nx o.nw.length σ) m0 m0 = true := by rfl) (hw : wrB m0 o.wr = true := by rfl) : CallG P f args m nx R := bY hac σ hl hargs hm hn hw hR
theorem aF {o : Out} {np : Nat} {m0 m : Mem} {ds : List D} (σ : List Nat) (h1 : aA0 (o.ret.ren (sig (np + o.nw.length) 0 0 σ)) ds := by (first | rfl | exact ⟨rfl, rfl⟩ | exact (Pure.ren _).symm | (simp only [Nat.zero_add]; rfl) | (simp only [D.ren, D.rens, cV]; rfl))) (h2 : lE σ np = true := by rfl)
  (h3 : bQ (sig (np + o.nw.length) 0 0 σ) m (l8 np m0 o) := by ((repeat' (first | exact trivial | refine And.intro ⟨_, rfl, rfl, ?_, id⟩ ?_ | refine And.intro ⟨_, rfl, rfl, ?_, fun _ => rfl⟩ ?_)) <;> (first | rfl | exact (Pure.ren _).symm | exact (Pure.ren _).trans (Pure.ren _).symm | (simp only [Nat.zero_add]; rfl) | (simp only [D.ren, D.rens, cV]; rfl))))
  (h4 : bS (np + o.nw.length) (sig (np + o.nw.length) 0 0 σ) (l8 np m0 o) (l8 np m0 o) = true := by rfl) : ∃ σ, aA0 (o.ret.ren (sig (np + o.nw.length) 0 0 σ)) ds ∧ lE σ np = true ∧
   bQ (sig (np + o.nw.length) 0 0 σ) m (l8 np m0 o) ∧ bS (np + o.nw.length) (sig (np + o.nw.length) 0 0 σ) (l8 np m0 o) (l8 np m0 o) = true := ⟨σ, h1, h2, h3, h4⟩
theorem aQ {α : Type} {T : α → TM} {M : α → Mem} {np nh : Nat} {I : α → Prop} {μ : α → Nat} {x : α} {tm : TM} {m : Mem} (y : α) (σ : List Nat) (h3 : iG np nh σ (T y) (M y) tm m) (h1 : I y := by omega) (h2 : μ y < μ x := by omega) :
  ∃ y σ, I y ∧ μ y < μ x ∧ iG np nh σ (T y) (M y) tm m := ⟨y, σ, h1, h2, h3⟩
theorem acA {P : Program} {Γ : Tab} (hΓ : b8 P Γ) (hmix : P.follows .mixedOrders = true) {f : Nat} {fn : Func} {c : Code} (hf : P.funcs[f]? = some fn)
  {args : List D} {np : Nat} {m0 : Mem} {o : Out} (pl : Pl) (h : codeP P Γ np fn.ntmps pl c (nR 0 args) m0 np (aAH Γ fn.results.toList np m0 o) (fun _ _ _ _ => False) (aAH Γ fn.results.toList np m0 o))
  (hb : fn.body = some c := by rfl) (hname : (fn.name == "runtime.NumGoroutine") = false := by kernel_rfl)
  (hsz : Nat.ble args.length fn.ntmps = true := by kernel_rfl) (hnp : Nat.ble (np + o.nw.length) 999998 = true := by kernel_rfl) : AC P f args np m0 o := fM hΓ hmix hf hb hname hsz hnp pl h

theorem valG {Γ : Tab} {op : Op} {tm : TM} {m : Mem} {nx alt : Nat} {foot : List Nat} {R : D → Mem → Nat → List Nat → Prop} {v' : D} {up : Mem} {nw : Nat} {ob : Prop} (v : D)
  (h : opE Γ nx (kV (get m) foot) (opd tm (get m)) alt op = some ⟨ob, v', up, nw⟩) (e : v' = v) (hob : ob) (hR : R v up nw foot) : EffG Γ op tm m nx alt foot R := by
 refine ⟨?_⟩
 unfold aEn
 rw [h]
 subst e
 exact ⟨hob, hR⟩
theorem vC {Γ : Tab} {c : Call} {tm : TM} {m : Mem} {nx : Nat} {foot : List Nat} {R : D → Mem → Nat → List Nat → Prop} {td ts : Nat} {a1 a2 : Operand} {el : Nat} {j : TI} {b sb : Nat} {p sp : cK} {off len soff k : Nat} {cp scp : Option Nat} {e se : Ent} {T T' sT sT' : Ty} {v0 y : D} (d' : D)
  (hc : c.callee = .builtin .copy) (ht : c.argTypes.toList = [td, ts]) (ha : c.args.toList = [a1, a2]) (hd : opd tm (get m) a1 = some (.slice b p off len cp)) (hs : opd tm (get m) a2 = some (.slice sb sp soff k scp))
  (hj : jL Γ td = some (el, j)) (hb : kV (get m) foot b = some e) (hrw : e.rw = true) (hT : aM e.ty p = some T) (hT' : b7 T = some T') (hq : T'.beq j.ty = true)
  (hsb : kV (get m) foot sb = some se) (hsT : aM se.ty sp = some sT) (hsT' : b7 sT = some sT') (hsq : sT'.beq j.ty = true) (hk : k ≤ len)
  (hg : bZ e.d (p ++ [.win off k]) = some v0) (hsg : bZ se.d (sp ++ [.win soff k]) = some y) (hset : fC e.d (p ++ [.win off k]) y = some d')
  (hso : okP se.d (sp ++ [.win soff k])) (ho : okP e.d (p ++ [.win off k])) (hty : aD (.arr k j.ty) y)
  (hR : R (.i64 k) [(b, some ⟨e.ty, d', true⟩)] 0 foot) : EffG Γ (.call c) tm m nx 0 foot R := by
 refine ⟨?_⟩
 unfold aEn
 have hm : Nat.min k len = k := Nat.min_eq_left hk
 have : opE Γ nx (kV (get m) foot) (opd tm (get m)) 0 (.call c) = some ⟨(k ≤ k ∧ okP se.d (sp ++ [.win soff k])) ∧ okP e.d (p ++ [.win off k]) ∧ aD (.arr k j.ty) y, .i64 k, [(b, some ⟨e.ty, d', true⟩)], 0⟩ := by
  simp only [opE, hc, ht, ha, jK, hd, hs, kK, aCj, hj, oO, hb, hrw, hT, hT', hq, gM, hsb, hsT, hsT', hsq, hm, hg, hsg, hset]
 rw [this]
 exact ⟨⟨⟨Nat.le_refl _, hso⟩, ho, hty⟩, hR⟩
theorem e9 {P : Program} {f : Nat} {args : List D} {m : Mem} {nx : Nat} {R : D → Mem → Nat → List Nat → Prop} {np : Nat} {m0 : Mem} {args0 : List D} {o : Out} (hac : AC P f args0 np m0 o) (σ : List Nat) (r : D)
  (hR : R r (upM (sig np nx o.nw.length σ) nx m0 o) o.nw.length (iX (sig np nx o.nw.length σ) m0))
  (hr : o.ret.ren (sig np nx o.nw.length σ) = r := by first | rfl | exact Pure.ren _ | exact congrArg (fun d => D.tup [d, _]) (Pure.ren _) | exact congrArg (fun d => D.tup [_, d]) (Pure.ren _))
  (hl : (match Nat.ble (nx + o.nw.length) 999999 with | true => Nat.ble (np + o.nw.length) 999999 | false => false) = true := by rfl) (hargs : args = D.rens (sig np nx o.nw.length σ) args0 := by first | rfl | (simp only [D.rens, cV]; rfl))
  (hm : bQ (sig np nx o.nw.length σ) m m0 := by ((repeat' (first | exact trivial | refine And.intro ⟨_, rfl, rfl, ?_, id⟩ ?_ | refine And.intro ⟨_, rfl, rfl, ?_, fun _ => rfl⟩ ?_)) <;> (first | rfl | exact (Pure.ren _).symm | exact (Pure.ren _).trans (Pure.ren _).symm | (simp only [Nat.zero_add]; rfl) | (simp only [D.ren, D.rens, cV]; rfl))))
  (hn : bS np (sig np nx o.nw.length σ) m0 m0 = true := by rfl) (hw : wrB m0 o.wr = true := by rfl) : CallG P f args m nx R :=
 bY hac σ hl hargs hm hn hw (by rw [hr]; exact hR)
structure Hold (K : Prop) : Prop where
 k : K
theorem go1 {G K : Prop} (k : K) (h : Hold K → G := by intro k; (first | refine EffG.mk (obA ?_) | refine obA ?_ | refine chkA ?_); exact k.k) : G := h ⟨k⟩
theorem go {G K : Prop} (k : K) (h : Hold K → G := by intro k; (repeat first | refine EffG.mk (obA ?_) | refine obA ?_ | refine chkA ?_); exact k.k) : G := h ⟨k⟩
theorem gob {G K : Prop} (k : K) (h : Hold K → G := by intro k; (repeat first | refine EffG.mk (obA ?_) | refine obA ?_ | refine chkA ?_ | refine brY ?_ | refine brN ?_); exact k.k) : G := h ⟨k⟩
theorem obO {A B : Prop} (k : B) (a : A := by ((repeat' (first | exact trivial | refine And.intro ?_ ?_)) <;> (first | omega | (simp only [aD, okP, lenD, D.ren, D.isCell, Option.getD, List.length_set, List.length_take, List.length_drop, List.length_append, List.length_replicate, List.length_map, List.length_cons, List.length_nil, Option.map] <;> omega) | with_reducible assumption | with_reducible rfl | decide))) : A ∧ B := ⟨a, k⟩
theorem st1 {G K : Prop} (k : K) (h : Hold K → G := by intro k; (first | refine EffG.mk (obO ?_) | refine obO ?_ | refine mC (by kernel_rfl) ?_); exact k.k) : G := h ⟨k⟩
theorem stN {G K : Prop} (k : K) (h : Hold K → G := by intro k; (repeat first | refine EffG.mk (obO ?_) | refine obO ?_ | refine mC (by kernel_rfl) ?_); exact k.k) : G := h ⟨k⟩
theorem stS {G K : Prop} (k : K) (h : Hold K → G := by intro k; (repeat first | refine EffG.mk (obO ?_) | refine obO ?_ | refine mC (by kernel_rfl) ?_ | refine Br.yes rfl ?_ | refine Br.no rfl ?_); exact k.k) : G := h ⟨k⟩
theorem aB {P : Program} {f : Nat} {args : List D} {m : Mem} {nx : Nat} {R : D → Mem → Nat → List Nat → Prop} {np : Nat} {m0 : Mem} {args0 : List D} {o : Out} (hac : AC P f args0 np m0 o) (σ : List Nat) {K : Prop} (k : K)
 (hl : (match Nat.ble (nx + o.nw.length) 999999 with | true => Nat.ble (np + o.nw.length) 999999 | false => false) = true := by rfl) (hargs : args = D.rens (sig np nx o.nw.length σ) args0 := by first | rfl | (simp only [D.rens, cV]; rfl))
 (hm : bQ (sig np nx o.nw.length σ) m m0 := by ((repeat' (first | exact trivial | refine And.intro ⟨_, rfl, rfl, ?_, id⟩ ?_ | refine And.intro ⟨_, rfl, rfl, ?_, fun _ => rfl⟩ ?_)) <;> (first | rfl | exact (Pure.ren _).symm | exact (Pure.ren _).trans (Pure.ren _).symm | (simp only [Nat.zero_add]; rfl) | (simp only [D.ren, D.rens, cV]; rfl))))
 (hn : bS np (sig np nx o.nw.length σ) m0 m0 = true := by rfl) (hw : wrB m0 o.wr = true := by rfl) (h : Hold K → R (o.ret.ren (sig np nx o.nw.length σ)) (upM (sig np nx o.nw.length σ) nx m0 o) o.nw.length (iX (sig np nx o.nw.length σ) m0) := by intro k; refine gob ?_; exact k.k) : CallG P f args m nx R := bY hac σ hl hargs hm hn hw (h ⟨k⟩)
theorem cM {P : Program} {f : Nat} {args : List D} {m : Mem} {nx : Nat} {R : D → Mem → Nat → List Nat → Prop} {np : Nat} {m0 : Mem} {args0 : List D} {o : Out} (hac : AC P f args0 np m0 o) (σ : List Nat) {K : Prop} (k : K)
 (hl : (match Nat.ble (nx + o.nw.length) 999999 with | true => Nat.ble (np + o.nw.length) 999999 | false => false) = true := by rfl) (hargs : args = D.rens (sig np nx o.nw.length σ) args0 := by first | rfl | (simp only [D.rens, cV]; rfl))
 (hm : bQ (sig np nx o.nw.length σ) m m0 := by ((repeat' (first | exact trivial | refine And.intro ⟨_, rfl, rfl, ?_, id⟩ ?_ | refine And.intro ⟨_, rfl, rfl, ?_, fun _ => rfl⟩ ?_)) <;> (first | rfl | exact (Pure.ren _).symm | exact (Pure.ren _).trans (Pure.ren _).symm | (simp only [Nat.zero_add]; rfl) | (simp only [D.ren, D.rens, cV]; rfl))))
 (hn : bS np (sig np nx o.nw.length σ) m0 m0 = true := by rfl) (hw : wrB m0 o.wr = true := by rfl) (h : Hold K → R (o.ret.ren (sig np nx o.nw.length σ)) (upM (sig np nx o.nw.length σ) nx m0 o) o.nw.length (iX (sig np nx o.nw.length σ) m0) := by intro k; refine go ?_; exact k.k) : CallG P f args m nx R := bY hac σ hl hargs hm hn hw (h ⟨k⟩)
def ACd (P : Program) (f : Nat) (args : List D) (np : Nat) (m0 : Mem) (o : Out) : Prop :=
 mZ P f ∧ ∀ (ρ0 : Env) (w0 : World) (vals : List Value), All2 (Rep ρ0) args vals → Inv ⟨w0, eT ρ0 m0⟩ ρ0 m0 w0 → (∀ i, ρ0 i ≠ none → Use np i) →
  ∀ (n : Nat) (u : FrameMode), CallsDIn (FW none) n P f vals.toArray u w0 fun e u' w' => u' = u ∧ ∃ v ρ', e = .returned v ∧ Keep ⟨w0, eT ρ0 m0⟩ np ρ0 ρ' ∧ (∀ i, ρ' i ≠ none → Use (np + o.nw.length) i) ∧ Rep ρ' o.ret v ∧ Inv ⟨w0, eT ρ0 m0⟩ ρ' (o.mem np m0) w'
theorem acd_of {P : Program} {Γ : Tab} (hΓ : b8 P Γ) (hmix : P.follows .mixedOrders = true) {f : Nat} {fn : Func} {c : Code} (hf : P.funcs[f]? = some fn) (hb : fn.body = some c) (hname : (fn.name == "runtime.NumGoroutine") = false)
  {args : List D} {np : Nat} {m0 : Mem} {o : Out} (hsz : Nat.ble args.length fn.ntmps = true) (hnp : Nat.ble (np + o.nw.length) 999998 = true)
  (pl : Pl) (h : gG P Γ fn.ntmps pl c false np (nR 0 args) m0 np (aAH Γ fn.results.toList np m0 o) (fun _ _ _ _ => False) (aAH Γ fn.results.toList np m0 o)) : ACd P f args np m0 o := by
 have hsz := Nat.le_of_ble_eq_true hsz
 have hnp := Nat.le_of_ble_eq_true hnp
 refine ⟨⟨fn, hf, by rw [hb]; rfl, hname⟩, fun ρ0 w0 vals hv hI hd n u => ?_⟩
 refine callsDIn_of_wp (F := FW none) (n := n) hf hb trivial ?_ rfl
 have hl : vals.length = args.length := hv.length.symm
 have hret : ∀ tm m nx ρ a w, aAH Γ fn.results.toList np m0 o tm m nx → StOk ⟨⟨w0, eT ρ0 m0⟩, w0, [], true⟩ ρ0 np fn.ntmps tm m nx ρ a w → ∀ e, e = Exit.normal ∨ e = Exit.ret →
   bodyPost P fn (fun e w' => ∃ v ρ', e = .returned v ∧ Keep ⟨w0, eT ρ0 m0⟩ np ρ0 ρ' ∧ (∀ i, ρ' i ≠ none → Use (np + o.nw.length) i) ∧ Rep ρ' o.ret v ∧ Inv ⟨w0, eT ρ0 m0⟩ ρ' (o.mem np m0) w') e a w := by
  intro tm m nx ρ a w hr H e he
  obtain ⟨v, ρ', h1, h2⟩ := yT hΓ hnp hr H
  rcases he with rfl | rfl
  ·exact ⟨H.defs.bare rfl, v, h1, v, ρ', rfl, h2⟩
  ·exact ⟨H.defs.bare rfl, v, h1, v, ρ', rfl, h2⟩
 refine iU hΓ hmix c false none n (fun h => nomatch h) ⟨⟨w0, eT ρ0 m0⟩, w0, [], true⟩ (fun h => nomatch h) ρ0 np _ _ _ ρ0 _ _ _ _ _ _ (fun tm m nx ρ a w hr H => hret tm m nx ρ a w hr H _ (.inl rfl)) (fun i tm m nx ρ a w h => h.elim) (fun tm m nx ρ a w hr H => hret tm m nx ρ a w hr H _ (.inr rfl)) h ?_
 refine ⟨hI, fun t d hd => ?_, ?_, ⟨⟨[], rfl, (fun _ h => nomatch h), List.Pairwise.nil⟩, KeepsOthers.refl w0, fun _ => rfl⟩, Keep.refl _ _ _, fun i hi => hd i hi, by omega, Nat.le_refl _⟩
 ·obtain ⟨_, h1⟩ := rQ hd
  obtain ⟨v, h2, h3⟩ := hv.get t h1
  have hlt : t < vals.length := by
   rcases Nat.lt_or_ge t vals.length with h' | h'
   ·exact h'
   ·rw [List.getElem?_eq_none h'] at h2; cases h2
  have : (vals.toArray ++ Array.replicate (fn.ntmps - vals.toArray.size) undef).getD t undef = v := by
   rw [Array.getD_eq_getD_getElem?, Array.getElem?_append_left (by simpa using hlt), List.getElem?_toArray, h2]
   rfl
  rw [this]; exact h3
 ·simp; omega
end Go.Proofs.YtllcgppffncafaaGreatDoor.Av
