import Derived.Test.YtljkjdhkofbgmaaDoorAv3
namespace Go.Proofs.YtljkjdhkofbgmaaDoor.Av
open Go
set_option linter.all false
set_option maxRecDepth 3000

/-! one operand -/
def unD (op : UnOp) (x : D) : Option (Prop × D) :=
  match op, x with
  | .not, .bool b => some (True, .bool (!b))
  | .neg, .i64 n => some (inI (-n), .i64 (-n))
  | .xor, .u8 a => some (True, .u8 (~~~a))
  | .xor, .u16 a => some (True, .u16 (~~~a))
  | .xor, .u32 a => some (True, .u32 (~~~a))
  | .xor, .u64 a => some (True, .u64 (~~~a))
  | _, _ => none

theorem sound_un {P : Program} {w : World} {op : UnOp} {x : D} {ob : Prop} {v : D} {vx : Value} {ρ : Env} (h : unD op x = some (ob, v)) (ho : ob) (hx : Rep ρ x vx) :
    ∃ r, (Op.unary op vx).run P w = .ok r w ∧ Rep ρ v r := by
  unfold unD at h
  split at h <;> try contradiction
  all_goals simp only [Option.some.injEq, Prod.mk.injEq] at h
  all_goals obtain ⟨h1, rfl⟩ := h
  · cases hx; exact ⟨_, rfl, rfl⟩
  · rename_i n
    obtain ⟨rfl, _⟩ := hx
    subst h1
    refine ⟨.int .i64 (-n), ?_, rfl, ho⟩
    simp only [Op.unary, Op.intArith, Sem.run_pure, Int.zero_sub, wrap_i64_in ho]
  · rename_i a
    cases hx
    refine ⟨.int .u8 (~~~a).toNat, ?_, rfl⟩
    simp only [Op.unary, Op.intBits, IntKind.signed, Bool.false_eq_true, if_false, wrap_u8, Sem.run_pure, IntKind.bits, ofInt_u8]
    congr 2
    have e : (BitVec.ofInt 8 (IntKind.max .u8) ^^^ a) = ~~~a := by
      have : BitVec.ofInt 8 (IntKind.max .u8) = BitVec.allOnes 8 := by decide
      rw [this, BitVec.allOnes_xor]
    exact (by have := (~~~a).isLt; rw [e]; omega : ((BitVec.ofInt 8 (IntKind.max .u8) ^^^ a).toNat : Int) % 256 = ((~~~a).toNat : Int))
  · rename_i a
    cases hx
    refine ⟨.int .u16 (~~~a).toNat, ?_, rfl⟩
    simp only [Op.unary, Op.intBits, IntKind.signed, Bool.false_eq_true, if_false, wrap_u16, Sem.run_pure, IntKind.bits, ofInt_u16]
    congr 2
    have e : (BitVec.ofInt 16 (IntKind.max .u16) ^^^ a) = ~~~a := by
      have : BitVec.ofInt 16 (IntKind.max .u16) = BitVec.allOnes 16 := by decide
      rw [this, BitVec.allOnes_xor]
    exact (by have := (~~~a).isLt; rw [e]; omega : ((BitVec.ofInt 16 (IntKind.max .u16) ^^^ a).toNat : Int) % 65536 = ((~~~a).toNat : Int))
  · rename_i a
    cases hx
    refine ⟨.int .u32 (~~~a).toNat, ?_, rfl⟩
    simp only [Op.unary, Op.intBits, IntKind.signed, Bool.false_eq_true, if_false, wrap_u32, Sem.run_pure, IntKind.bits, ofInt_u32]
    congr 2
    have e : (BitVec.ofInt 32 (IntKind.max .u32) ^^^ a) = ~~~a := by
      have : BitVec.ofInt 32 (IntKind.max .u32) = BitVec.allOnes 32 := by decide
      rw [this, BitVec.allOnes_xor]
    exact (by have := (~~~a).isLt; rw [e]; omega : ((BitVec.ofInt 32 (IntKind.max .u32) ^^^ a).toNat : Int) % 4294967296 = ((~~~a).toNat : Int))
  · rename_i a
    cases hx
    refine ⟨.int .u64 (~~~a).toNat, ?_, rfl⟩
    simp only [Op.unary, Op.intBits, IntKind.signed, Bool.false_eq_true, if_false, wrap_u64, Sem.run_pure, IntKind.bits, ofInt_u64]
    congr 2
    have e : (BitVec.ofInt 64 (IntKind.max .u64) ^^^ a) = ~~~a := by
      have : BitVec.ofInt 64 (IntKind.max .u64) = BitVec.allOnes 64 := by decide
      rw [this, BitVec.allOnes_xor]
    exact (by have := (~~~a).isLt; rw [e]; omega : ((BitVec.ofInt 64 (IntKind.max .u64) ^^^ a).toNat : Int) % 18446744073709551616 = ((~~~a).toNat : Int))

/-! whole numbers of other kinds -/
def convI (k : IntKind) (x : D) : Option D :=
  match k, x with
  | .u8, .u8 a => some (.u8 a)
  | .u8, .u16 a => some (.u8 (a.setWidth 8))
  | .u8, .u32 a => some (.u8 (a.setWidth 8))
  | .u8, .u64 a => some (.u8 (a.setWidth 8))
  | .u8, .i64 n => some (.u8 (BitVec.ofInt 8 n))
  | .u16, .u8 a => some (.u16 (a.setWidth 16))
  | .u16, .u16 a => some (.u16 a)
  | .u16, .u32 a => some (.u16 (a.setWidth 16))
  | .u16, .u64 a => some (.u16 (a.setWidth 16))
  | .u16, .i64 n => some (.u16 (BitVec.ofInt 16 n))
  | .u32, .u8 a => some (.u32 (a.setWidth 32))
  | .u32, .u16 a => some (.u32 (a.setWidth 32))
  | .u32, .u32 a => some (.u32 a)
  | .u32, .u64 a => some (.u32 (a.setWidth 32))
  | .u32, .i64 n => some (.u32 (BitVec.ofInt 32 n))
  | .u64, .u8 a => some (.u64 (a.setWidth 64))
  | .u64, .u16 a => some (.u64 (a.setWidth 64))
  | .u64, .u32 a => some (.u64 (a.setWidth 64))
  | .u64, .u64 a => some (.u64 a)
  | .u64, .i64 n => some (.u64 (BitVec.ofInt 64 n))
  | .i64, .u8 a => some (.i64 a.toNat)
  | .i64, .u16 a => some (.i64 a.toNat)
  | .i64, .u32 a => some (.i64 a.toNat)
  | .i64, .u64 a => some (.i64 a.toInt)
  | .i64, .i64 n => some (.i64 n)
  | _, _ => none

theorem repw_u8 {x : BitVec 8} {n : Nat} {ρ : Env} (h : x.toNat = n % 256) : Rep ρ (.u8 x) (.int .u8 (IntKind.wrap .u8 n)) := by
  show Value.int _ _ = .int .u8 _
  rw [wrap_u8, h]
  rfl

theorem repw_u16 {x : BitVec 16} {n : Nat} {ρ : Env} (h : x.toNat = n % 65536) : Rep ρ (.u16 x) (.int .u16 (IntKind.wrap .u16 n)) := by
  show Value.int _ _ = .int .u16 _
  rw [wrap_u16, h]
  rfl

theorem repw_u32 {x : BitVec 32} {n : Nat} {ρ : Env} (h : x.toNat = n % 4294967296) : Rep ρ (.u32 x) (.int .u32 (IntKind.wrap .u32 n)) := by
  show Value.int _ _ = .int .u32 _
  rw [wrap_u32, h]
  rfl

theorem repw_u64 {x : BitVec 64} {n : Nat} {ρ : Env} (h : x.toNat = n % 18446744073709551616) : Rep ρ (.u64 x) (.int .u64 (IntKind.wrap .u64 n)) := by
  show Value.int _ _ = .int .u64 _
  rw [wrap_u64, h]
  rfl

theorem sound_convI {P : Program} {w : World} {k : IntKind} {x v : D} {vx : Value} {ρ : Env} (h : convI k x = some v) (hx : Rep ρ x vx) :
    ∃ j n r, vx = .int j n ∧ (Conv.intToInt k n).run P w = .ok r w ∧ Rep ρ v r := by
  unfold convI at h
  split at h <;> try contradiction
  all_goals simp only [Option.some.injEq] at h
  all_goals subst h
  case h_24 a => cases hx; exact ⟨_, _, .int .i64 a.toInt, rfl, by simp only [Conv.intToInt, Sem.run_pure, wrap_i64_toNat], rfl, inI_toInt a⟩
  case h_25 n => obtain ⟨rfl, hn⟩ := hx; exact ⟨_, _, .int .i64 n, rfl, by simp only [Conv.intToInt, Sem.run_pure, wrap_i64_in hn], rfl, hn⟩
  case h_5 n => obtain ⟨rfl, hn⟩ := hx; exact ⟨_, n, _, rfl, rfl, by show Value.int _ _ = .int .u8 _; congr 1; rw [wrap_u8, BitVec.toNat_ofInt]; omega⟩
  case h_10 n => obtain ⟨rfl, hn⟩ := hx; exact ⟨_, n, _, rfl, rfl, by show Value.int _ _ = .int .u16 _; congr 1; rw [wrap_u16, BitVec.toNat_ofInt]; omega⟩
  case h_15 n => obtain ⟨rfl, hn⟩ := hx; exact ⟨_, n, _, rfl, rfl, by show Value.int _ _ = .int .u32 _; congr 1; rw [wrap_u32, BitVec.toNat_ofInt]; omega⟩
  case h_20 n => obtain ⟨rfl, hn⟩ := hx; exact ⟨_, n, _, rfl, rfl, by show Value.int _ _ = .int .u64 _; congr 1; rw [wrap_u64, BitVec.toNat_ofInt]; omega⟩
  case h_21 a => cases hx; have := a.isLt; exact ⟨_, _, .int .i64 a.toNat, rfl, by simp only [Conv.intToInt, Sem.run_pure]; rw [wrap_i64_in (by unfold inI; omega)], rfl, by omega, by omega⟩
  case h_22 a => cases hx; have := a.isLt; exact ⟨_, _, .int .i64 a.toNat, rfl, by simp only [Conv.intToInt, Sem.run_pure]; rw [wrap_i64_in (by unfold inI; omega)], rfl, by omega, by omega⟩
  case h_23 a => cases hx; have := a.isLt; exact ⟨_, _, .int .i64 a.toNat, rfl, by simp only [Conv.intToInt, Sem.run_pure]; rw [wrap_i64_in (by unfold inI; omega)], rfl, by omega, by omega⟩
  all_goals
    rename_i a
    cases hx
    have := a.isLt
    first
      | exact ⟨_, _, _, rfl, rfl, repw_u8 (by first | rfl | omega | (rw [BitVec.toNat_setWidth]))⟩
      | exact ⟨_, _, _, rfl, rfl, repw_u16 (by first | rfl | omega | (rw [BitVec.toNat_setWidth]))⟩
      | exact ⟨_, _, _, rfl, rfl, repw_u32 (by first | rfl | omega | (rw [BitVec.toNat_setWidth]))⟩
      | exact ⟨_, _, _, rfl, rfl, repw_u64 (by first | rfl | omega | (rw [BitVec.toNat_setWidth]))⟩

/-! places -/
def fieldAddrE (Γ : Tab) (mg : MG) (s : Nat) (x : D) (f : Nat) : Option Eff :=
  match x with
  | .ptr b p => match mg b with
    | some e => match ti Γ s with
      | some i => match tyAt e.ty p with
        | some T => match T.beq i.ty with
          | true => match T with
            | .st fs => match fs[f]? with
              | some t => match Nat.beq t.size 0 with
                | false => pureE True (.ptr b (p ++ [.fld f]))
                | true => none
              | none => none
            | _ => none
          | false => none
        | none => none
      | none => none
    | none => none
  | _ => none

theorem fieldAddrE_inv {Γ : Tab} {mg : MG} {s : Nat} {x : D} {f : Nat} {e : Eff} (h : fieldAddrE Γ mg s x f = some e) :
    ∃ b p en i fs t, x = .ptr b p ∧ mg b = some en ∧ ti Γ s = some i ∧ tyAt en.ty p = some (.st fs) ∧ i.ty = .st fs ∧ fs[f]? = some t ∧ t.size ≠ 0 ∧ e = ⟨True, .ptr b (p ++ [.fld f]), [], 0⟩ := by
  unfold fieldAddrE at h
  repeat' split at h
  all_goals try contradiction
  have hb := Ty.eq_of_beq _ _ (by assumption)
  cases h
  refine ⟨_, _, _, _, _, _, rfl, by assumption, by assumption, by assumption, hb.symm, by assumption, ?_, rfl⟩
  rename_i hz
  intro h0
  rw [h0] at hz
  cases hz

theorem tyAt_append : ∀ (T : Ty) (p q : Path) (T' : Ty), tyAt T p = some T' → tyAt T (p ++ q) = tyAt T' q
  | T, [], q, T', h => by simp only [tyAt, Option.some.injEq] at h; subst h; rfl
  | .st fs, .fld i :: p, q, T', h => by
    simp only [tyAt, List.cons_append] at h ⊢
    cases e : fs[i]? with
    | none => simp [e] at h
    | some t => simp only [e] at h ⊢; exact tyAt_append t p q T' h
  | .arr _ t, .idx i :: p, q, T', h => by simp only [tyAt, List.cons_append] at h ⊢; exact tyAt_append _ p q T' h
  | .row t, .idx i :: p, q, T', h => by simp only [tyAt, List.cons_append] at h ⊢; exact tyAt_append _ p q T' h
  | .arr _ t, .win _ n :: p, q, T', h => by simp only [tyAt, List.cons_append] at h ⊢; exact tyAt_append _ p q T' h
  | .row t, .win _ n :: p, q, T', h => by simp only [tyAt, List.cons_append] at h ⊢; exact tyAt_append _ p q T' h
  | .cell, s :: p, q, T', h => absurd h tyAt_cell_cons
  | .st _, .idx _ :: _, _, _, h => by simp [tyAt] at h
  | .st _, .win _ _ :: _, _, _, h => by simp [tyAt] at h
  | .arr _ _, .fld _ :: _, _, _, h => by simp [tyAt] at h
  | .row _, .fld _ :: _, _, _, h => by simp [tyAt] at h

theorem offAt_append : ∀ (T : Ty) (p q : Path) (T' : Ty), tyAt T p = some T' → offAt T (p ++ q) = offAt T p + offAt T' q
  | T, [], q, T', h => by simp only [tyAt, Option.some.injEq] at h; subst h; simp [offAt]
  | .st fs, .fld i :: p, q, T', h => by
    simp only [tyAt] at h
    cases e : fs[i]? with
    | none => simp [e] at h
    | some t => simp only [e] at h; simp only [offAt, List.cons_append, e, offAt_append t p q T' h, Nat.add_assoc]
  | .arr _ t, .idx i :: p, q, T', h => by simp only [tyAt] at h; simp only [offAt, List.cons_append, offAt_append _ p q T' h, Nat.add_assoc]
  | .row t, .idx i :: p, q, T', h => by simp only [tyAt] at h; simp only [offAt, List.cons_append, offAt_append _ p q T' h, Nat.add_assoc]
  | .arr _ t, .win _ n :: p, q, T', h => by simp only [tyAt] at h; simp only [offAt, List.cons_append, offAt_append _ p q T' h, Nat.add_assoc]
  | .row t, .win _ n :: p, q, T', h => by simp only [tyAt] at h; simp only [offAt, List.cons_append, offAt_append _ p q T' h, Nat.add_assoc]
  | .cell, s :: p, q, T', h => absurd h tyAt_cell_cons
  | .st _, .idx _ :: _, _, _, h => by simp [tyAt] at h
  | .st _, .win _ _ :: _, _, _, h => by simp [tyAt] at h
  | .arr _ _, .fld _ :: _, _, _, h => by simp [tyAt] at h
  | .row _, .fld _ :: _, _, _, h => by simp [tyAt] at h

theorem fieldsOk_get {P : Program} : ∀ {fl : List Field} {ts : List Nat} {Ts : List Ty} {o : Nat} (_ : FieldsOk P fl ts Ts o) (f : Nat) {T : Ty} (_ : Ts[f]? = some T),
    ∃ fd, fl[f]? = some fd ∧ fd.offset = o + Ty.sizes (Ts.take f) ∧ (P.info? fd.type).map (·.size) = some T.size ∧ ts[f]? = some fd.type
  | fd :: _, t :: _, T0 :: _, o, h, 0, T, e => by
    simp at e; subst e
    exact ⟨fd, rfl, by simp [Ty.sizes, h.2.1], by rw [h.1]; exact h.2.2.1, by simp [h.1]⟩
  | _ :: fl, _ :: ts, T0 :: Ts, o, h, f + 1, T, e => by
    simp at e
    obtain ⟨fd, h1, h2, h3, h4⟩ := fieldsOk_get h.2.2.2 f e
    exact ⟨fd, by simpa using h1, by rw [h2, List.take_succ_cons]; simp only [Ty.sizes]; omega, h3, by simpa using h4⟩
  | [], [], [], _, _, f, _, e => by simp at e
  | [], _ :: _, _, _, h, _, _, _ => h.elim
  | [], [], _ :: _, _, h, _, _, _ => h.elim
  | _ :: _, [], _, _, h, _, _, _ => h.elim
  | _ :: _, _ :: _, [], _, h, _, _, _ => h.elim

theorem desc_st {P : Program} {Γ : Tab} (hΓ : TabOk P Γ) {t : Nat} {i : TI} {Ts : List Ty} (h : ti Γ t = some i) (hT : i.ty = .st Ts) :
    ∃ fs ts, P.underlying t = some (.struct fs) ∧ i.desc = .st ts ∧ FieldsOk P fs.toList ts Ts 0 := by
  have hd := (hΓ t i h).desc
  unfold DescOk at hd
  cases he : i.desc <;> simp only [he, hT] at hd
  case arr n e => obtain ⟨_, T, h1, _⟩ := hd; cases h1
  case st ts =>
    obtain ⟨fs, Ts', h1, h2, h3⟩ := hd
    cases h2
    exact ⟨fs, ts, h1, rfl, h3⟩
  case fn => simp at hd
  all_goals simp at hd

theorem desc_arr {P : Program} {Γ : Tab} (hΓ : TabOk P Γ) {t : Nat} {i : TI} {n : Nat} {T : Ty} (h : ti Γ t = some i) (hT : i.ty = .arr n T) :
    ∃ e, P.underlying t = some (.array n e) ∧ i.desc = .arr n e ∧ (P.info? e).map (·.size) = some T.size := by
  have hd := (hΓ t i h).desc
  unfold DescOk at hd
  cases he : i.desc <;> simp only [he, hT] at hd
  case arr m e =>
    obtain ⟨h1, T', h2, h3⟩ := hd
    cases h2
    exact ⟨e, h1, rfl, h3⟩
  case st ts => obtain ⟨_, _, _, h1, _⟩ := hd; cases h1
  case fn => simp at hd
  all_goals simp at hd

section
variable {P : Program} {Γ : Tab} (hΓ : TabOk P Γ) {X : Ctx} {ρ : Env} {m : Mem} {w : World} (hI : Inv X ρ m w) {mg : MG} (hm : ∀ b e, mg b = some e → get m b = some e) {nx : Nat}
include hΓ hI hm

theorem sound_fieldAddr {s : Nat} {x : D} {v : Value} {f : Nat} {e : Eff} (he : fieldAddrE Γ mg s x f = some e) (hx : Rep ρ x v) : Sound P (Instr.fieldAt s v f) id X ρ m w nx e := by
  obtain ⟨b, p, en, i, fs, t, rfl, hg, hi, hT, hit, hf, hz, rfl⟩ := fieldAddrE_inv he
  obtain ⟨L, h1, rfl⟩ := hx
  obtain ⟨L', h2, h3⟩ := hI.sat b en (hm _ _ hg)
  rw [h1] at h2; cases h2
  obtain ⟨fl, ts, h4, h5, h6⟩ := desc_st hΓ hi hit
  obtain ⟨fd, h7, h8, h9, _⟩ := fieldsOk_get h6 f hf
  refine Sound.pure hI (r := .pointer (some ⟨L.blk, L.base + offAt L.ty p + fd.offset, none⟩)) ?_ ?_
  · have h7' : fl[f]? = some fd := by simpa using h7
    cases hinf : P.info? fd.type with
    | none => simp [hinf] at h9
    | some inf =>
      simp only [hinf, Option.map_some, Option.some.injEq] at h9
      simp [Instr.fieldAt, underlying, h4, h7', Instr.sureAddr, fieldPlace, sizeOf, typeInfo, hinf, h9, hz, add_none]
  · refine ⟨L, h1, ?_⟩
    rw [h3.ty, offAt_append _ _ _ _ hT, h8]
    simp [offAt, hf, Nat.add_assoc]
end
end Go.Proofs.YtljkjdhkofbgmaaDoor.Av
