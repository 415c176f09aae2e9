import Derived.Test.YtljkjdhkofbgmaaDoorAv8
import Derived.Orders
namespace Go.Proofs.YtljkjdhkofbgmaaDoor.Av
open Go
set_option linter.all false
set_option maxRecDepth 3000

abbrev TM := List (Nat × D)

def lk : TM → Nat → Option D
  | [], _ => none
  | (i, d) :: r, t => match Nat.beq i t with
    | true => some d
    | false => lk r t

theorem lk_cons {i t : Nat} {d : D} {r : TM} : lk ((i, d) :: r) t = if i = t then some d else lk r t := by
  simp only [lk]
  by_cases h : i = t
  · subst h; simp
  · have : Nat.beq i t = false := by
      cases hb : Nat.beq i t with
      | false => rfl
      | true => exact absurd (Nat.eq_of_beq_eq_true hb) h
    simp [h, this]

def toByte (b : UInt8) : Byte := b.toBitVec

/-- the constants of a program's text -/
def ofConst : Value → Option D
  | .bool b => some (.bool b)
  | .int .u8 n => match decide (0 ≤ n ∧ n < 256) with
    | true => some (.u8 (BitVec.ofNat 8 n.toNat))
    | false => none
  | .int .u16 n => match decide (0 ≤ n ∧ n < 65536) with
    | true => some (.u16 (BitVec.ofNat 16 n.toNat))
    | false => none
  | .int .u32 n => match decide (0 ≤ n ∧ n < 4294967296) with
    | true => some (.u32 (BitVec.ofNat 32 n.toNat))
    | false => none
  | .int .u64 n => match decide (0 ≤ n ∧ n < 18446744073709551616) with
    | true => some (.u64 (BitVec.ofNat 64 n.toNat))
    | false => none
  | .int .i64 n => match decide (-9223372036854775808 ≤ n ∧ n < 9223372036854775808) with
    | true => some (.i64 n)
    | false => none
  | .string s => match decide (s.data.toList.length < 9223372036854775808) with
    | true => some (.str (s.data.toList.map toByte))
    | false => none
  | .pointer none => some .nilptr
  | .slice none 0 0 => some .nilslice
  | .nilFunc => some .nilfn
  | _ => none

theorem ofConst_spec {v : Value} {d : D} (h : ofConst v = some d) (ρ : Env) : Rep ρ d v := by
  unfold ofConst at h
  split at h
  all_goals try contradiction
  case h_1 => cases h; rfl
  case h_2 n =>
    split at h <;> try contradiction
    rename_i hn; have hn := of_decide_eq_true hn
    cases h
    show Value.int _ _ = .int _ _
    congr 1
    simp; omega
  case h_3 n =>
    split at h <;> try contradiction
    rename_i hn; have hn := of_decide_eq_true hn
    cases h
    show Value.int _ _ = .int _ _
    congr 1
    simp; omega
  case h_4 n =>
    split at h <;> try contradiction
    rename_i hn; have hn := of_decide_eq_true hn
    cases h
    show Value.int _ _ = .int _ _
    congr 1
    simp; omega
  case h_5 n =>
    split at h <;> try contradiction
    rename_i hn; have hn := of_decide_eq_true hn
    cases h
    show Value.int _ _ = .int _ _
    congr 1
    simp; omega
  case h_6 n =>
    split at h <;> try contradiction
    rename_i hn; have hn := of_decide_eq_true hn
    cases h
    exact ⟨rfl, hn⟩
  case h_7 s =>
    split at h <;> try contradiction
    rename_i hn; have hn := of_decide_eq_true hn
    cases h
    refine ⟨s, rfl, ?_, by simpa using hn⟩
    unfold bytesV toByte
    rw [List.map_map]
    exact (List.map_id _).symm.trans (List.map_congr_left fun b _ => by cases b; rfl)
  all_goals (cases h; rfl)

def opd (tm : TM) (mg : MG) (x : Operand) : Option D :=
  match x with
  | .tmp t => lk tm t
  | .const v => ofConst v
  | .func f => some (.fn f [] [])
  | .global g => match mg (gid g) with
    | some _ => some (.ptr (gid g) [])
    | none => none

def evalL (E : Operand → Option D) : List Operand → Option (List D)
  | [] => some []
  | x :: xs => match E x with
    | some d => match evalL E xs with
      | some ds => some (d :: ds)
      | none => none
    | none => none

def evalP (E : Operand → Option D) : List (Nat × Operand) → Option (List (Nat × D))
  | [] => some []
  | (k, x) :: xs => match E x with
    | some d => match evalP E xs with
      | some ds => some ((k, d) :: ds)
      | none => none
    | none => none

def evalO (E : Operand → Option D) : Option Operand → Option (Option D)
  | none => some none
  | some x => match E x with
    | some d => some (some d)
    | none => none

def ofPair (r : Option (Prop × D)) : Option Eff :=
  match r with
  | some (ob, v) => some ⟨ob, v, [], 0⟩
  | none => none

def builtinE (Γ : Tab) (nx : Nat) (mg : MG) (alt : Nat) (b : Builtin) (ats : List Nat) (args : List D) : Option Eff :=
  match b, ats, args with
  | .len, [t], [x] => lenE Γ t x
  | .copy, [td, _], [x, y] => copyE Γ mg td x y
  | .append, [ts, tx], [x, y] => appendE Γ nx mg alt ts tx x y
  | .max, _, [x, y] => minmaxE true x y
  | .min, _, [x, y] => minmaxE false x y
  | .cap, [t], [x] => capE Γ t x
  | _, _, _ => none

def opE (Γ : Tab) (nx : Nat) (mg : MG) (E : Operand → Option D) (alt : Nat) (op : Op) : Option Eff :=
  match op with
  | .move x => match E x with
    | some d => pureE True d
    | none => none
  | .assign x => match E x with
    | some d => pureE True d
    | none => none
  | .pick c a b => match pickD (E c) (E a) (E b) with
    | some d => pureE True d
    | none => none
  | .alloc t => allocE Γ nx t
  | .box t x => match E x with
    | some d => boxE Γ nx t d
    | none => none
  | .build t ps => match evalP E ps.toList with
    | some l => buildE Γ t l
    | none => none
  | .buildSlice t n ps => match evalP E ps.toList with
    | some l => buildSliceE Γ nx t n l
    | none => none
  | .load t a => match E a with
    | some d => loadE Γ mg t d
    | none => none
  | .store t a v => match E a with
    | some d => match E v with
      | some y => storeE Γ mg t d y
      | none => none
    | none => none
  | .nilCheck x => match E x with
    | some (.ptr b p) => pureE True (.ptr b p)
    | some (.fn f bs cs) => pureE True (.fn f bs cs)
    | _ => none
  | .binOp op t x y _ => match E x with
    | some a => match E y with
      | some b => ofPair (binD Γ t op a b)
      | none => none
    | none => none
  | .unOp op _ x => match E x with
    | some a => ofPair (unD op a)
    | none => none
  | .convert s d x => match E x with
    | some a => convE Γ nx mg s d a
    | none => none
  | .sliceToArrayPointer t x => match E x with
    | some a => toArrE Γ mg t a
    | none => none
  | .makeFunc fn first caps => match fn with
    | .func f => match evalL E first.toList with
      | some l0 => match allBasic l0 with
        | true => match evalL E caps.toList with
          | some l => match allBasic l with
            | true => pureE True (.fn f l0 l)
            | false => none
          | none => none
        | false => none
      | none => none
    | _ => none
  | .makeSlice t l c => match E l with
    | some a => match E c with
      | some b => makeSliceE Γ nx t a b
      | none => none
    | none => none
  | .slice t x lo hi mx => match E x with
    | some a => match evalO E lo with
      | some lo => match evalO E hi with
        | some hi => match evalO E mx with
          | some mx => sliceE Γ mg t a lo hi mx
          | none => none
        | none => none
      | none => none
    | none => none
  | .fieldAddr s x f => match E x with
    | some a => fieldAddrE Γ mg s a f
    | none => none
  | .field s x f => match E x with
    | some a => fieldE Γ s a f
    | none => none
  | .indexAddr t x i => match E x with
    | some a => match E i with
      | some b => indexAddrE Γ mg t a b
      | none => none
    | none => none
  | .index t x i => match E x with
    | some a => match E i with
      | some b => match strOk Γ t a with
        | true => indexE Γ t a b
        | false => none
      | none => none
    | none => none
  | .extract x i => match E x with
    | some (.tup l) => match nth l i with
      | some d => match d.isTup with
        | false => pureE True d
        | true => none
      | none => none
    | _ => none
  | .call c => match c.callee with
    | .builtin b => match evalL E c.args.toList with
      | some l => builtinE Γ nx mg alt b c.argTypes.toList l
      | none => none
    | _ => none
  | _ => none
where
  strOk (Γ : Tab) (t : Nat) (x : D) : Bool :=
    match x with
    | .str _ => match ti Γ t with
      | some i => match i.desc with
        | .str => true
        | _ => false
      | none => false
    | _ => true

/-- an operation's run, as the walk takes it -/
def OpSound (P : Program) (s : Sem Next) (X : Ctx) (ρ : Env) (m : Mem) (w : World) (nx : Nat) (e : Eff) : Prop :=
  ∃ v w' ρ', (s.run P w = .ok (.value v) w' ∨ (v = undef ∧ s.run P w = .ok .skip w')) ∧ ρ.le ρ' ∧ (∀ i, ρ' i ≠ none → ρ i ≠ none ∨ (nx ≤ i ∧ i < nx + e.nw)) ∧ Rep ρ' e.v v ∧ Inv X ρ' (e.up ++ m) w'

theorem OpSound.of {P : Program} {s : Sem Value} {X : Ctx} {ρ : Env} {m : Mem} {w : World} {nx : Nat} {e : Eff} (h : Sound P s id X ρ m w nx e) : OpSound P (do pure (.value (← s))) X ρ m w nx e := by
  obtain ⟨r, w', ρ', h1, h2, h3, h4, h5⟩ := h
  exact ⟨r, w', ρ', .inl (by rw [Sem.run_bind, h1]; rfl), h2, h3, h4, h5⟩

theorem OpSound.ofUnit {P : Program} {s : Sem Unit} {X : Ctx} {ρ : Env} {m : Mem} {w : World} {nx : Nat} {e : Eff} (h : Sound P s (fun _ => undef) X ρ m w nx e) : OpSound P (do s; pure .skip) X ρ m w nx e := by
  obtain ⟨r, w', ρ', h1, h2, h3, h4, h5⟩ := h
  exact ⟨undef, w', ρ', .inr ⟨rfl, by rw [Sem.run_bind, h1]; rfl⟩, h2, h3, h4, h5⟩

theorem OpSound.pure {P : Program} {s : Sem Next} {X : Ctx} {ρ : Env} {m : Mem} {w : World} {nx : Nat} {v : D} {r : Value} (hI : Inv X ρ m w) (hr : s.run P w = .ok (.value r) w) (hv : Rep ρ v r) :
    OpSound P s X ρ m w nx ⟨True, v, [], 0⟩ :=
  ⟨r, w, ρ, .inl hr, Env.le_refl ρ, fun _ h => .inl h, hv, hI⟩

section
set_option linter.unusedSectionVars false
variable {P : Program} {Γ : Tab} (hΓ : TabOk P Γ) {X : Ctx} {ρ : Env} {m : Mem} {w : World} (hI : Inv X ρ m w) {mg : MG} (hm : ∀ b e, mg b = some e → get m b = some e) {nx : Nat} (hnx : ρ nx = none)
  {E : Operand → Option D} {a : Act} (hE : ∀ x d, E x = some d → Rep ρ d (a.eval x))
include hE

omit hE in
theorem rep_list {E : Operand → Option D} (hE : ∀ x d, E x = some d → Rep ρ d (a.eval x)) : ∀ {xs : List Operand} {ds : List D}, evalL E xs = some ds → All2 (Rep ρ) ds (xs.map a.eval)
  | [], ds, h => by simp only [evalL, Option.some.injEq] at h; subst h; trivial
  | x :: xs, ds, h => by
    simp only [evalL] at h
    split at h <;> try contradiction
    rename_i d hd
    split at h <;> try contradiction
    rename_i l hl
    cases h
    exact ⟨hE x d hd, rep_list hE hl⟩

omit hE in
theorem rep_parts {E : Operand → Option D} (hE : ∀ x d, E x = some d → Rep ρ d (a.eval x)) : ∀ {xs : List (Nat × Operand)} {ds : List (Nat × D)}, evalP E xs = some ds →
    All2 (fun (p : Nat × D) (q : Nat × Value) => p.1 = q.1 ∧ Rep ρ p.2 q.2) ds (xs.map fun (i, x) => (i, a.eval x))
  | [], ds, h => by simp only [evalP, Option.some.injEq] at h; subst h; trivial
  | (k, x) :: xs, ds, h => by
    simp only [evalP] at h
    split at h <;> try contradiction
    rename_i d hd
    split at h <;> try contradiction
    rename_i l hl
    cases h
    exact ⟨⟨rfl, hE x d hd⟩, rep_parts hE hl⟩

omit hE in
theorem rep_opt {E : Operand → Option D} (hE : ∀ x d, E x = some d → Rep ρ d (a.eval x)) {x : Option Operand} {d : Option D} (h : evalO E x = some d) : RepO ρ d (x.map a.eval) := by
  cases x with
  | none => simp only [evalO, Option.some.injEq] at h; subst h; trivial
  | some x =>
    simp only [evalO] at h
    split at h <;> try contradiction
    rename_i d' hd
    cases h
    exact hE x d' hd

omit hE in
theorem allBasic_rep {ρ : Env} : ∀ {l : List D} {vs : List Value}, allBasic l = true → All2 (Rep ρ) l vs → All2 (RepB ρ) l vs
  | [], [], _, _ => trivial
  | d :: ds, v :: vs, h, H => by
    simp only [allBasic] at h
    split at h <;> try contradiction
    rename_i hb
    exact ⟨repV_basic hb H.1, allBasic_rep h H.2⟩
  | [], _ :: _, _, H => H.elim
  | _ :: _, [], _, H => H.elim

include hΓ hI hm hnx

set_option maxHeartbeats 2000000 in
theorem op_sound {alt : Nat} {o : Oper} {e : Eff} (he : opE Γ nx mg E alt o.op = some e) (ho : e.ob) : OpSound P (execOp a.eval o) X ρ m w nx e := by
  obtain ⟨dst, op, type, pos, after, guard⟩ := o
  dsimp only at he
  unfold opE at he
  split at he
  case h_1 x =>
    split at he <;> try contradiction
    rename_i d hd
    cases he
    exact OpSound.pure hI rfl (hE x d hd)
  case h_2 x =>
    split at he <;> try contradiction
    rename_i d hd
    cases he
    exact OpSound.pure hI rfl (hE x d hd)
  case h_3 c x y =>
    split at he <;> try contradiction
    rename_i d hd
    cases he
    unfold pickD at hd
    split at hd <;> try contradiction
    · rename_i hc
      have h1 : a.eval c = .bool true := hE c _ hc
      refine OpSound.pure hI (r := a.eval x) ?_ (hE x d hd)
      simp [execOp, h1, asBool]
    · rename_i hc
      have h1 : a.eval c = .bool false := hE c _ hc
      refine OpSound.pure hI (r := a.eval y) ?_ (hE y d hd)
      simp [execOp, h1, asBool]
  case h_4 t => exact OpSound.of (sound_alloc hΓ hI hnx he)
  case h_5 t x =>
    split at he <;> try contradiction
    rename_i d hd
    exact OpSound.of (sound_box hΓ hI hnx he ho (hE x d hd))
  case h_6 t ps =>
    split at he <;> try contradiction
    rename_i l hl
    have := sound_build hΓ hI (nx := nx) he ho (rep_parts hE hl)
    refine OpSound.of ?_
    have hh : (ps.map fun (i, x) => (i, a.eval x)) = (ps.toList.map fun (i, x) => (i, a.eval x)).toArray := Array.ext' (by rw [Array.toList_map])
    show Sound P (Instr.build t (ps.map fun (i, x) => (i, a.eval x))) id X ρ m w nx e
    rw [hh]; exact this
  case h_7 t n ps =>
    split at he <;> try contradiction
    rename_i l hl
    have := sound_buildSlice hΓ hI hnx he ho (rep_parts hE hl)
    refine OpSound.of ?_
    have hh : (ps.map fun (i, x) => (i, a.eval x)) = (ps.toList.map fun (i, x) => (i, a.eval x)).toArray := Array.ext' (by rw [Array.toList_map])
    show Sound P (Instr.buildSlice t n (ps.map fun (i, x) => (i, a.eval x))) id X ρ m w nx e
    rw [hh]; exact this
  case h_8 t x =>
    split at he <;> try contradiction
    rename_i d hd
    exact OpSound.of (sound_load hΓ hI hm he ho (hE x d hd))
  case h_9 t x y =>
    split at he <;> try contradiction
    rename_i d hd
    split at he <;> try contradiction
    rename_i y' hy
    exact OpSound.ofUnit (sound_store hΓ hI hm he ho (hE x d hd) (hE y y' hy))
  case h_10 x =>
    split at he <;> try contradiction
    · rename_i b p hd
      cases he
      obtain ⟨L, h1, h2⟩ := hE x _ hd
      refine OpSound.pure hI (r := a.eval x) ?_ ⟨L, h1, h2⟩
      simp [execOp, h2]
    · rename_i f bs cs hd
      cases he
      have h1 := hE x _ hd
      obtain ⟨us, vs, h2, h3⟩ := h1
      refine OpSound.pure hI (r := a.eval x) ?_ ⟨us, vs, h2, h3⟩
      simp [execOp, h2]
  case h_11 op t x y _ =>
    split at he <;> try contradiction
    rename_i dx hx
    split at he <;> try contradiction
    rename_i dy hy
    unfold ofPair at he
    split at he <;> try contradiction
    rename_i ob v hb
    cases he
    obtain ⟨r, h1, h2⟩ := sound_bin hΓ (w := w) (o1 := x) (o2 := y) hb ho (hE x dx hx) (hE y dy hy)
    exact OpSound.of (Sound.pure hI h1 h2)
  case h_12 op _ x =>
    split at he <;> try contradiction
    rename_i dx hx
    unfold ofPair at he
    split at he <;> try contradiction
    rename_i ob v hb
    cases he
    obtain ⟨r, h1, h2⟩ := sound_un (P := P) (w := w) hb ho (hE x dx hx)
    exact OpSound.of (Sound.pure hI h1 h2)
  case h_13 s d x =>
    split at he <;> try contradiction
    rename_i dx hx
    exact OpSound.of (sound_conv hΓ hI hm hnx he ho (hE x dx hx))
  case h_14 t x =>
    split at he <;> try contradiction
    rename_i dx hx
    exact OpSound.of (sound_toArr hΓ hI hm he ho (hE x dx hx))
  case h_15 fn first caps =>
    split at he <;> try contradiction
    rename_i f
    split at he <;> try contradiction
    rename_i l0 hl0
    split at he <;> try contradiction
    rename_i hb0
    split at he <;> try contradiction
    rename_i l hl
    split at he <;> try contradiction
    rename_i hb
    cases he
    refine OpSound.pure hI (r := .func (.func f) (first.map a.eval) (caps.map a.eval)) (by simp [execOp, Instr.makeFunc]) ?_
    refine ⟨(first.toList.map a.eval), (caps.toList.map a.eval), ?_, allBasic_rep hb0 (rep_list hE hl0), allBasic_rep hb (rep_list hE hl)⟩
    have hm : ∀ xs : Array Operand, xs.map a.eval = (xs.toList.map a.eval).toArray := fun xs => Array.ext' (by simp)
    rw [hm first, hm caps]
  case h_16 t l c =>
    split at he <;> try contradiction
    rename_i dx hx
    split at he <;> try contradiction
    rename_i dy hy
    exact OpSound.of (sound_makeSlice hΓ hI hnx he ho (hE l dx hx) (hE c dy hy))
  case h_17 t x lo hi mx =>
    split at he <;> try contradiction
    rename_i dx hx
    split at he <;> try contradiction
    rename_i dlo hlo
    split at he <;> try contradiction
    rename_i dhi hhi
    split at he <;> try contradiction
    rename_i dmx hmx
    exact OpSound.of (sound_slice hΓ hI hm he ho (hE x dx hx) (rep_opt hE hlo) (rep_opt hE hhi) (rep_opt hE hmx))
  case h_18 s x f =>
    split at he <;> try contradiction
    rename_i dx hx
    exact OpSound.of (sound_fieldAddr hΓ hI hm he (hE x dx hx))
  case h_19 s x f =>
    split at he <;> try contradiction
    rename_i dx hx
    exact OpSound.of (sound_field hΓ hI he ho (hE x dx hx))
  case h_20 t x i =>
    split at he <;> try contradiction
    rename_i dx hx
    split at he <;> try contradiction
    rename_i dy hy
    exact OpSound.of (sound_indexAddr hΓ hI hm he ho (hE x dx hx) (hE i dy hy))
  case h_21 t x i =>
    split at he <;> try contradiction
    rename_i dx hx
    split at he <;> try contradiction
    rename_i dy hy
    split at he <;> try contradiction
    rename_i hs
    refine OpSound.of (sound_index hΓ hI he ho (hE x dx hx) (hE i dy hy) ?_)
    intro l hl
    subst hl
    unfold opE.strOk at hs
    simp only at hs
    split at hs <;> try contradiction
    rename_i i' hi'
    split at hs <;> try contradiction
    rename_i hd
    have := (hΓ t i' hi').desc
    unfold DescOk at this
    rw [hd] at this
    exact this.1
  case h_22 x i =>
    split at he <;> try contradiction
    rename_i l hx
    split at he <;> try contradiction
    rename_i d hd
    split at he <;> try contradiction
    rename_i ht
    cases he
    obtain ⟨vs, h1, h2⟩ := hE x _ hx
    rw [nth_eq] at hd
    obtain ⟨v, h3, h4⟩ := h2.get i hd
    refine OpSound.of (Sound.pure hI (r := v) ?_ (by rw [rep_eq ht]; exact h4))
    rw [h1]
    simp [Instr.extract, h3]
  case h_23 c =>
    split at he <;> try contradiction
    rename_i b hb
    split at he <;> try contradiction
    rename_i l hl
    have hargs := rep_list hE hl
    have hexec : ∀ {s : Sem Value}, (∀ cs : Array Bool, builtin b c.argTypes type cs (c.args.map a.eval) = (do pure (.value (← s)))) → OpSound P (do pure (.value (← s))) X ρ m w nx e →
        OpSound P (execOp a.eval ⟨dst, .call c, type, pos, after, guard⟩) X ρ m w nx e := by
      intro s hs H
      have : (execOp a.eval ⟨dst, .call c, type, pos, after, guard⟩).run P w = (do pure (.value (← s)) : Sem Next).run P w := by
        simp only [execOp, resolve, hb, Sem.run_bind, Sem.run_pure, Result.andThen_ok, invoke]
        rw [hs]
        simp only [Sem.run_bind, Sem.run_pure]
      obtain ⟨v, w', ρ', h1, h2⟩ := H
      rw [← this] at h1
      exact ⟨v, w', ρ', h1, h2⟩
    have harr : ∀ {α : Type} {xs : Array α} {ys : List α}, xs.toList = ys → xs = ys.toArray := fun h => Array.ext' h
    generalize hat : c.argTypes.toList = ats at he
    have one : ∀ {x}, l = [x] → ∃ v, c.args.map a.eval = #[v] ∧ Rep ρ x v := by
      intro x hx
      rw [hx] at hargs
      cases hv : c.args.toList.map a.eval with
      | nil => rw [hv] at hargs; exact hargs.elim
      | cons v vs =>
        rw [hv] at hargs
        cases vs with
        | nil => exact ⟨v, harr (by rw [Array.toList_map]; exact hv), hargs.1⟩
        | cons _ _ => exact hargs.2.elim
    have two : ∀ {x y}, l = [x, y] → ∃ v u, c.args.map a.eval = #[v, u] ∧ Rep ρ x v ∧ Rep ρ y u := by
      intro x y hx
      rw [hx] at hargs
      cases hv : c.args.toList.map a.eval with
      | nil => rw [hv] at hargs; exact hargs.elim
      | cons v vs =>
        rw [hv] at hargs
        cases vs with
        | nil => exact hargs.2.elim
        | cons u us =>
          cases us with
          | nil => exact ⟨v, u, harr (by rw [Array.toList_map]; exact hv), hargs.1, hargs.2.1⟩
          | cons _ _ => exact hargs.2.2.elim
    unfold builtinE at he
    split at he <;> try contradiction
    case h_1 t x =>
      obtain ⟨v, hv, hr⟩ := one rfl
      refine hexec (s := Builtin.len_ #[t] type #[v]) (fun cs => by rw [hv, harr hat]; rfl) (OpSound.of (sound_len hΓ hI he hr))
    case h_2 td ts x y =>
      obtain ⟨v, u, hv, hr, hr2⟩ := two rfl
      refine hexec (s := Builtin.copy_ #[td, ts] type #[v, u]) (fun cs => by rw [hv, harr hat]; rfl) (OpSound.of (sound_copy hΓ hI hm he ho hr hr2))
    case h_3 ts tx x y =>
      obtain ⟨v, u, hv, hr, hr2⟩ := two rfl
      refine hexec (s := Builtin.append_ #[ts, tx] type #[v, u]) (fun cs => by rw [hv, harr hat]; rfl) (OpSound.of (sound_append hΓ hI hm hnx he ho hr hr2))
    case h_4 x y =>
      obtain ⟨v, u, hv, hr, hr2⟩ := two rfl
      exact hexec (s := Builtin.max_ c.argTypes type #[v, u]) (fun cs => by rw [hv]; rfl) (OpSound.of (sound_minmax (at_ := c.argTypes) (ty := type) (mx := true) hI he hr hr2))
    case h_5 x y =>
      obtain ⟨v, u, hv, hr, hr2⟩ := two rfl
      exact hexec (s := Builtin.min_ c.argTypes type #[v, u]) (fun cs => by rw [hv]; rfl) (OpSound.of (sound_minmax (at_ := c.argTypes) (ty := type) (mx := false) hI he hr hr2))
    case h_6 t x =>
      obtain ⟨v, hv, hr⟩ := one rfl
      refine hexec (s := Builtin.cap_ #[t] type #[v]) (fun cs => by rw [hv, harr hat]; rfl) (OpSound.of (sound_cap hΓ hI he hr))
  all_goals contradiction
end
end Go.Proofs.YtljkjdhkofbgmaaDoor.Av
