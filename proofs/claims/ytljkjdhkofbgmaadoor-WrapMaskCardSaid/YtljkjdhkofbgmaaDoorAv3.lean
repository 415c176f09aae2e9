import Derived.Test.YtljkjdhkofbgmaaDoorAvE
import Derived.Laws.Strings
import Derived.Laws.StructEq
namespace Go.Proofs.YtljkjdhkofbgmaaDoor.Av
open Go
set_option linter.all false
set_option maxRecDepth 3000

/-! whole numbers -/
abbrev inI (n : Int) : Prop := -9223372036854775808 ≤ n ∧ n < 9223372036854775808

def numW {w : Nat} (mk : BitVec w → D) (op : BinOp) (a b : BitVec w) : Option (Prop × D) :=
  match op with
  | .add => some (True, mk (a + b))
  | .sub => some (True, mk (a - b))
  | .mul => some (True, mk (a * b))
  | .and => some (True, mk (a &&& b))
  | .or => some (True, mk (a ||| b))
  | .xor => some (True, mk (a ^^^ b))
  | .andNot => some (True, mk (a &&& ~~~b))
  | .quo => some (b ≠ 0, mk (a / b))
  | .rem => some (b ≠ 0, mk (a % b))
  | .eql => some (True, .bool (decide (a = b)))
  | .neq => some (True, .bool (!decide (a = b)))
  | .lss => some (True, .bool (decide (a.toNat < b.toNat)))
  | .leq => some (True, .bool (decide (a.toNat ≤ b.toNat)))
  | .gtr => some (True, .bool (decide (b.toNat < a.toNat)))
  | .geq => some (True, .bool (decide (b.toNat ≤ a.toNat)))
  | _ => none

def numI (op : BinOp) (a b : Int) : Option (Prop × D) :=
  match op with
  | .add => some (inI (a + b), .i64 (a + b))
  | .sub => some (inI (a - b), .i64 (a - b))
  | .mul => some (inI (a * b), .i64 (a * b))
  | .and => some (True, .i64 (BitVec.ofInt 64 a &&& BitVec.ofInt 64 b).toInt)
  | .or => some (True, .i64 (BitVec.ofInt 64 a ||| BitVec.ofInt 64 b).toInt)
  | .xor => some (True, .i64 (BitVec.ofInt 64 a ^^^ BitVec.ofInt 64 b).toInt)
  | .quo => some (b ≠ 0 ∧ inI (a.tdiv b), .i64 (a.tdiv b))
  | .rem => some (b ≠ 0, .i64 (a.tmod b))
  | .eql => some (True, .bool (decide (a = b)))
  | .neq => some (True, .bool (!decide (a = b)))
  | .lss => some (True, .bool (decide (a < b)))
  | .leq => some (True, .bool (decide (a ≤ b)))
  | .gtr => some (True, .bool (decide (b < a)))
  | .geq => some (True, .bool (decide (b ≤ a)))
  | _ => none

/-- a shift's count -/
def cntD : D → Option (Prop × Nat)
  | .u8 x => some (True, x.toNat)
  | .u16 x => some (True, x.toNat)
  | .u32 x => some (True, x.toNat)
  | .u64 x => some (True, x.toNat)
  | .i64 n => some (0 ≤ n, n.toNat)
  | _ => none

def shiftD (left : Bool) (x : D) (ob : Prop) (n : Nat) : Option (Prop × D) :=
  match x with
  | .u8 a => some (ob, .u8 (match left with | true => a <<< n | false => a >>> n))
  | .u16 a => some (ob, .u16 (match left with | true => a <<< n | false => a >>> n))
  | .u32 a => some (ob, .u32 (match left with | true => a <<< n | false => a >>> n))
  | .u64 a => some (ob, .u64 (match left with | true => a <<< n | false => a >>> n))
  | .i64 a => match left with
    | true => some (ob ∧ n ≤ 62 ∧ inI (a * 2 ^ n), .i64 (a * 2 ^ n))
    | false => some (ob ∧ n ≤ 63, .i64 (a / 2 ^ n))
  | _ => none

def ltBytes : List Byte → List Byte → Bool
  | _, [] => false
  | [], _ :: _ => true
  | a :: x, b :: y => decide (a.toNat < b.toNat) || (decide (a = b) && ltBytes x y)

def strD (op : BinOp) (a b : List Byte) : Option (Prop × D) :=
  match op with
  | .add => some (a.length + b.length < 9223372036854775808, .str (a ++ b))
  | .eql => some (True, .bool (decide (a = b)))
  | .neq => some (True, .bool (!decide (a = b)))
  | .lss => some (True, .bool (ltBytes a b))
  | .leq => some (True, .bool (ltBytes a b || decide (a = b)))
  | .gtr => some (True, .bool (!(ltBytes a b || decide (a = b))))
  | .geq => some (True, .bool (!ltBytes a b))
  | _ => none

/-- is a pointer, a slice or a function there? -/
def nilD (op : BinOp) (b : Bool) : Option (Prop × D) :=
  match op with
  | .eql => some (True, .bool b)
  | .neq => some (True, .bool (!b))
  | _ => none

def boolD (op : BinOp) (a b : Bool) : Option (Prop × D) :=
  match op with
  | .eql => some (True, .bool (decide (a = b)))
  | .neq => some (True, .bool (!decide (a = b)))
  | _ => none

/-- two arrays, or two structs -/
def aggD (Γ : Tab) (t : Nat) (op : BinOp) (x y : D) : Option (Prop × D) :=
  match ti Γ t with
  | some i => match i.eq with
    | true => match op with
      | .eql => some (fitE Γ 20 t x ∧ fitE Γ 20 t y ∧ x.same y, .bool (x.eqb y))
      | .neq => some (fitE Γ 20 t x ∧ fitE Γ 20 t y ∧ x.same y, .bool (!x.eqb y))
      | _ => none
    | false => none
  | none => none

inductive NK where
  | ptr | slice | bool | none

def kindOf (Γ : Tab) (t : Nat) : NK :=
  match ti Γ t with
  | some i => match i.desc with
    | .ptr _ => .ptr
    | .slice _ => .slice
    | .bool => .bool
    | _ => .none
  | none => .none

def binD0 (Γ : Tab) (t : Nat) (op : BinOp) (x y : D) : Option (Prop × D) :=
  match x, y with
  | .u8 a, .u8 b => numW .u8 op a b
  | .u16 a, .u16 b => numW .u16 op a b
  | .u32 a, .u32 b => numW .u32 op a b
  | .u64 a, .u64 b => numW .u64 op a b
  | .i64 a, .i64 b => numI op a b
  | .str a, .str b => strD op a b
  | .bool a, .bool b => match kindOf Γ t with
    | .bool => boolD op a b
    | _ => none
  | .nilptr, .nilptr => match kindOf Γ t with
    | .ptr => nilD op true
    | _ => none
  | .ptr _ _, .nilptr => match kindOf Γ t with
    | .ptr => nilD op false
    | _ => none
  | .nilptr, .ptr _ _ => match kindOf Γ t with
    | .ptr => nilD op false
    | _ => none
  | .nilslice, .nilslice => match kindOf Γ t with
    | .slice => nilD op true
    | _ => none
  | .slice _ _ _ _ _, .nilslice => match kindOf Γ t with
    | .slice => nilD op false
    | _ => none
  | .nilslice, .slice _ _ _ _ _ => match kindOf Γ t with
    | .slice => nilD op false
    | _ => none
  | .u8s a, .u8s b => aggD Γ t op (.u8s a) (.u8s b)
  | .u32s a, .u32s b => aggD Γ t op (.u32s a) (.u32s b)
  | .u64s a, .u64s b => aggD Γ t op (.u64s a) (.u64s b)
  | .node a, .node b => aggD Γ t op (.node a) (.node b)
  | _, _ => none

def binD (Γ : Tab) (t : Nat) (op : BinOp) (x y : D) : Option (Prop × D) :=
  match op with
  | .shl => match cntD y with
    | some (ob, n) => shiftD true x ob n
    | none => none
  | .shr => match cntD y with
    | some (ob, n) => shiftD false x ob n
    | none => none
  | op => binD0 Γ t op x y

theorem wrap_u8 (n : Int) : IntKind.wrap .u8 n = n % 256 := by simp [IntKind.wrap, IntKind.signed, IntKind.bits]
theorem wrap_u16 (n : Int) : IntKind.wrap .u16 n = n % 65536 := by simp [IntKind.wrap, IntKind.signed, IntKind.bits]
theorem wrap_u32 (n : Int) : IntKind.wrap .u32 n = n % 4294967296 := by simp [IntKind.wrap, IntKind.signed, IntKind.bits]
theorem wrap_u64 (n : Int) : IntKind.wrap .u64 n = n % 18446744073709551616 := by simp [IntKind.wrap, IntKind.signed, IntKind.bits]
theorem wrap_i64_in {n : Int} (h : inI n) : IntKind.wrap .i64 n = n := by
  unfold inI at h
  simp only [IntKind.wrap, IntKind.signed, IntKind.bits, Bool.true_and]
  simp only [Nat.reduceSub, Int.reducePow, ge_iff_le, decide_eq_true_eq]
  split <;> omega

theorem ofInt_u8 (a : BitVec 8) : BitVec.ofInt 8 (a.toNat : Int) = a := by
  rw [BitVec.ofInt_natCast]; simp

theorem sound_u8 {P : Program} {w : World} {op : BinOp} {a b : BitVec 8} {t : TypeId} {ob : Prop} {v : D} (h : numW .u8 op a b = some (ob, v)) (ho : ob) (hop : op ≠ .shl ∧ op ≠ .shr) (ρ : Env) :
    ∃ r, (binOp op t (.int .u8 a.toNat) (.int .u8 b.toNat)).run P w = .ok r w ∧ Rep ρ v r := by
  have ha := a.isLt
  have hb := b.isLt
  cases op <;> simp only [numW, Option.some.injEq, Prod.mk.injEq] at h <;> try contradiction
  all_goals (obtain ⟨h1, rfl⟩ := h; subst h1)
  case add =>
    refine ⟨.int .u8 (a + b).toNat, ?_, rfl⟩
    simp only [binOp, ne_eq, not_true, if_false, Op.intArith, wrap_u8, Sem.run_pure, BitVec.toNat_add]
    congr 2
  case sub =>
    refine ⟨.int .u8 (a - b).toNat, ?_, rfl⟩
    simp only [binOp, ne_eq, not_true, if_false, Op.intArith, wrap_u8, Sem.run_pure, BitVec.toNat_sub]
    congr 2
    omega
  case mul =>
    refine ⟨.int .u8 (a * b).toNat, ?_, rfl⟩
    simp only [binOp, ne_eq, not_true, if_false, Op.intArith, wrap_u8, Sem.run_pure, BitVec.toNat_mul]
    congr 2
  case and =>
    refine ⟨.int .u8 (a &&& b).toNat, ?_, rfl⟩
    simp only [binOp, ne_eq, not_true, if_false, Op.intBits, wrap_u8, Sem.run_pure, IntKind.bits, ofInt_u8]
    congr 2
    exact (by have := (a &&& b).isLt; omega : ((a &&& b).toNat : Int) % 256 = ((a &&& b).toNat : Int))
  case or =>
    refine ⟨.int .u8 (a ||| b).toNat, ?_, rfl⟩
    simp only [binOp, ne_eq, not_true, if_false, Op.intBits, wrap_u8, Sem.run_pure, IntKind.bits, ofInt_u8]
    congr 2
    exact (by have := (a ||| b).isLt; omega : ((a ||| b).toNat : Int) % 256 = ((a ||| b).toNat : Int))
  case xor =>
    refine ⟨.int .u8 (a ^^^ b).toNat, ?_, rfl⟩
    simp only [binOp, ne_eq, not_true, if_false, Op.intBits, wrap_u8, Sem.run_pure, IntKind.bits, ofInt_u8]
    congr 2
    exact (by have := (a ^^^ b).isLt; omega : ((a ^^^ b).toNat : Int) % 256 = ((a ^^^ b).toNat : Int))
  case andNot =>
    refine ⟨.int .u8 (a &&& ~~~b).toNat, ?_, rfl⟩
    simp only [binOp, ne_eq, not_true, if_false, Op.intBits, wrap_u8, Sem.run_pure, IntKind.bits, ofInt_u8]
    congr 2
    exact (by have := (a &&& ~~~b).isLt; omega : ((a &&& ~~~b).toNat : Int) % 256 = ((a &&& ~~~b).toNat : Int))
  case quo =>
    have hb0 : b.toNat ≠ 0 := fun e => ho (by apply BitVec.eq_of_toNat_eq; simpa using e)
    have hb1 : (b.toNat : Int) ≠ 0 := by omega
    refine ⟨.int .u8 (a / b).toNat, ?_, rfl⟩
    simp only [binOp, ne_eq, not_true, if_false, Op.intDiv, hb1, wrap_u8, Sem.run_pure, BitVec.toNat_udiv]
    congr 2
    rw [Int.tdiv_eq_ediv_of_nonneg (by omega)]
    have := Nat.div_le_self a.toNat b.toNat
    rw [← Int.natCast_ediv]
    generalize a.toNat / b.toNat = q at *
    omega
  case rem =>
    have hb0 : b.toNat ≠ 0 := fun e => ho (by apply BitVec.eq_of_toNat_eq; simpa using e)
    have hb1 : (b.toNat : Int) ≠ 0 := by omega
    refine ⟨.int .u8 (a % b).toNat, ?_, rfl⟩
    simp only [binOp, ne_eq, not_true, if_false, Op.intDiv, hb1, Sem.run_pure, BitVec.toNat_umod]
    congr 2
  case eql =>
    refine ⟨.bool (decide (a = b)), ?_, rfl⟩
    simp only [binOp, ne_eq, not_true, if_false, Op.intCmp, Sem.run_pure]
    congr 2
    rw [Bool.eq_iff_iff]
    simp [BitVec.toNat_inj, Int.natCast_inj]
  case neq =>
    refine ⟨.bool (!decide (a = b)), ?_, rfl⟩
    simp only [binOp, ne_eq, not_true, if_false, Op.intCmp, Sem.run_pure]
    congr 2
    rw [Bool.eq_iff_iff]
    simp [BitVec.toNat_inj, Int.natCast_inj]
  case lss =>
    refine ⟨.bool (decide (a.toNat < b.toNat)), ?_, rfl⟩
    simp only [binOp, ne_eq, not_true, if_false, Op.intCmp, Sem.run_pure]
    congr 2
    rw [Bool.eq_iff_iff]
    simp
  case leq =>
    refine ⟨.bool (decide (a.toNat ≤ b.toNat)), ?_, rfl⟩
    simp only [binOp, ne_eq, not_true, if_false, Op.intCmp, Sem.run_pure]
    congr 2
    rw [Bool.eq_iff_iff]
    simp
  case gtr =>
    refine ⟨.bool (decide (b.toNat < a.toNat)), ?_, rfl⟩
    simp only [binOp, ne_eq, not_true, if_false, Op.intCmp, Sem.run_pure]
    congr 2
    rw [Bool.eq_iff_iff]
    simp
  case geq =>
    refine ⟨.bool (decide (b.toNat ≤ a.toNat)), ?_, rfl⟩
    simp only [binOp, ne_eq, not_true, if_false, Op.intCmp, Sem.run_pure]
    congr 2
    rw [Bool.eq_iff_iff]
    simp

theorem shl_u8 {P : Program} {w : World} {a : BitVec 8} {n : Nat} {t : TypeId} {j : IntKind} (ρ : Env) :
    ∃ r, (binOp .shl t (.int .u8 a.toNat) (.int j n)).run P w = .ok r w ∧ Rep ρ (.u8 (a <<< n)) r := by
  refine ⟨.int .u8 (a <<< n).toNat, ?_, rfl⟩
  simp only [binOp, Op.shift, Sem.run_ite]
  rw [if_neg (by omega)]
  simp only [Sem.run_pure, wrap_u8, IntKind.bits, Int.toNat_natCast, BitVec.toNat_shiftLeft, Nat.shiftLeft_eq]
  congr 2
  rcases Nat.le_total n 8 with h | h
  · rw [Nat.min_eq_left h]
    rw [Int.natCast_emod, Int.natCast_mul, Int.natCast_pow]
    rfl
  · rw [Nat.min_eq_right h]
    obtain ⟨c, rfl⟩ := Nat.exists_eq_add_of_le h
    rw [Nat.pow_add]
    have : a.toNat * (2 ^ 8 * 2 ^ c) % 2 ^ 8 = 0 := by
      rw [← Nat.mul_assoc, Nat.mul_comm a.toNat, Nat.mul_assoc]; exact Nat.mul_mod_right _ _
    rw [this]
    omega

theorem shr_u8 {P : Program} {w : World} {a : BitVec 8} {n : Nat} {t : TypeId} {j : IntKind} (ρ : Env) :
    ∃ r, (binOp .shr t (.int .u8 a.toNat) (.int j n)).run P w = .ok r w ∧ Rep ρ (.u8 (a >>> n)) r := by
  refine ⟨.int .u8 (a >>> n).toNat, ?_, rfl⟩
  simp only [binOp, Op.shift, Sem.run_ite]
  rw [if_neg (by omega)]
  simp only [Sem.run_pure, IntKind.bits, Int.toNat_natCast, BitVec.toNat_ushiftRight, Nat.shiftRight_eq_div_pow]
  congr 2
  have ha := a.isLt
  rw [Int.fdiv_eq_ediv_of_nonneg _ (by exact Int.le_of_lt (Int.pow_pos (by omega)))]
  rcases Nat.le_total n 8 with h | h
  · rw [Nat.min_eq_left h]
    rw [Int.natCast_ediv, Int.natCast_pow]
    rfl
  · rw [Nat.min_eq_right h]
    have h1 : a.toNat / 2 ^ n = 0 := Nat.div_eq_of_lt (Nat.lt_of_lt_of_le ha (Nat.pow_le_pow_right (by omega) h))
    rw [h1]
    omega

theorem ofInt_u16 (a : BitVec 16) : BitVec.ofInt 16 (a.toNat : Int) = a := by
  rw [BitVec.ofInt_natCast]; simp

theorem sound_u16 {P : Program} {w : World} {op : BinOp} {a b : BitVec 16} {t : TypeId} {ob : Prop} {v : D} (h : numW .u16 op a b = some (ob, v)) (ho : ob) (hop : op ≠ .shl ∧ op ≠ .shr) (ρ : Env) :
    ∃ r, (binOp op t (.int .u16 a.toNat) (.int .u16 b.toNat)).run P w = .ok r w ∧ Rep ρ v r := by
  have ha := a.isLt
  have hb := b.isLt
  cases op <;> simp only [numW, Option.some.injEq, Prod.mk.injEq] at h <;> try contradiction
  all_goals (obtain ⟨h1, rfl⟩ := h; subst h1)
  case add =>
    refine ⟨.int .u16 (a + b).toNat, ?_, rfl⟩
    simp only [binOp, ne_eq, not_true, if_false, Op.intArith, wrap_u16, Sem.run_pure, BitVec.toNat_add]
    congr 2
  case sub =>
    refine ⟨.int .u16 (a - b).toNat, ?_, rfl⟩
    simp only [binOp, ne_eq, not_true, if_false, Op.intArith, wrap_u16, Sem.run_pure, BitVec.toNat_sub]
    congr 2
    omega
  case mul =>
    refine ⟨.int .u16 (a * b).toNat, ?_, rfl⟩
    simp only [binOp, ne_eq, not_true, if_false, Op.intArith, wrap_u16, Sem.run_pure, BitVec.toNat_mul]
    congr 2
  case and =>
    refine ⟨.int .u16 (a &&& b).toNat, ?_, rfl⟩
    simp only [binOp, ne_eq, not_true, if_false, Op.intBits, wrap_u16, Sem.run_pure, IntKind.bits, ofInt_u16]
    congr 2
    exact (by have := (a &&& b).isLt; omega : ((a &&& b).toNat : Int) % 65536 = ((a &&& b).toNat : Int))
  case or =>
    refine ⟨.int .u16 (a ||| b).toNat, ?_, rfl⟩
    simp only [binOp, ne_eq, not_true, if_false, Op.intBits, wrap_u16, Sem.run_pure, IntKind.bits, ofInt_u16]
    congr 2
    exact (by have := (a ||| b).isLt; omega : ((a ||| b).toNat : Int) % 65536 = ((a ||| b).toNat : Int))
  case xor =>
    refine ⟨.int .u16 (a ^^^ b).toNat, ?_, rfl⟩
    simp only [binOp, ne_eq, not_true, if_false, Op.intBits, wrap_u16, Sem.run_pure, IntKind.bits, ofInt_u16]
    congr 2
    exact (by have := (a ^^^ b).isLt; omega : ((a ^^^ b).toNat : Int) % 65536 = ((a ^^^ b).toNat : Int))
  case andNot =>
    refine ⟨.int .u16 (a &&& ~~~b).toNat, ?_, rfl⟩
    simp only [binOp, ne_eq, not_true, if_false, Op.intBits, wrap_u16, Sem.run_pure, IntKind.bits, ofInt_u16]
    congr 2
    exact (by have := (a &&& ~~~b).isLt; omega : ((a &&& ~~~b).toNat : Int) % 65536 = ((a &&& ~~~b).toNat : Int))
  case quo =>
    have hb0 : b.toNat ≠ 0 := fun e => ho (by apply BitVec.eq_of_toNat_eq; simpa using e)
    have hb1 : (b.toNat : Int) ≠ 0 := by omega
    refine ⟨.int .u16 (a / b).toNat, ?_, rfl⟩
    simp only [binOp, ne_eq, not_true, if_false, Op.intDiv, hb1, wrap_u16, Sem.run_pure, BitVec.toNat_udiv]
    congr 2
    rw [Int.tdiv_eq_ediv_of_nonneg (by omega)]
    have := Nat.div_le_self a.toNat b.toNat
    rw [← Int.natCast_ediv]
    generalize a.toNat / b.toNat = q at *
    omega
  case rem =>
    have hb0 : b.toNat ≠ 0 := fun e => ho (by apply BitVec.eq_of_toNat_eq; simpa using e)
    have hb1 : (b.toNat : Int) ≠ 0 := by omega
    refine ⟨.int .u16 (a % b).toNat, ?_, rfl⟩
    simp only [binOp, ne_eq, not_true, if_false, Op.intDiv, hb1, Sem.run_pure, BitVec.toNat_umod]
    congr 2
  case eql =>
    refine ⟨.bool (decide (a = b)), ?_, rfl⟩
    simp only [binOp, ne_eq, not_true, if_false, Op.intCmp, Sem.run_pure]
    congr 2
    rw [Bool.eq_iff_iff]
    simp [BitVec.toNat_inj, Int.natCast_inj]
  case neq =>
    refine ⟨.bool (!decide (a = b)), ?_, rfl⟩
    simp only [binOp, ne_eq, not_true, if_false, Op.intCmp, Sem.run_pure]
    congr 2
    rw [Bool.eq_iff_iff]
    simp [BitVec.toNat_inj, Int.natCast_inj]
  case lss =>
    refine ⟨.bool (decide (a.toNat < b.toNat)), ?_, rfl⟩
    simp only [binOp, ne_eq, not_true, if_false, Op.intCmp, Sem.run_pure]
    congr 2
    rw [Bool.eq_iff_iff]
    simp
  case leq =>
    refine ⟨.bool (decide (a.toNat ≤ b.toNat)), ?_, rfl⟩
    simp only [binOp, ne_eq, not_true, if_false, Op.intCmp, Sem.run_pure]
    congr 2
    rw [Bool.eq_iff_iff]
    simp
  case gtr =>
    refine ⟨.bool (decide (b.toNat < a.toNat)), ?_, rfl⟩
    simp only [binOp, ne_eq, not_true, if_false, Op.intCmp, Sem.run_pure]
    congr 2
    rw [Bool.eq_iff_iff]
    simp
  case geq =>
    refine ⟨.bool (decide (b.toNat ≤ a.toNat)), ?_, rfl⟩
    simp only [binOp, ne_eq, not_true, if_false, Op.intCmp, Sem.run_pure]
    congr 2
    rw [Bool.eq_iff_iff]
    simp

theorem shl_u16 {P : Program} {w : World} {a : BitVec 16} {n : Nat} {t : TypeId} {j : IntKind} (ρ : Env) :
    ∃ r, (binOp .shl t (.int .u16 a.toNat) (.int j n)).run P w = .ok r w ∧ Rep ρ (.u16 (a <<< n)) r := by
  refine ⟨.int .u16 (a <<< n).toNat, ?_, rfl⟩
  simp only [binOp, Op.shift, Sem.run_ite]
  rw [if_neg (by omega)]
  simp only [Sem.run_pure, wrap_u16, IntKind.bits, Int.toNat_natCast, BitVec.toNat_shiftLeft, Nat.shiftLeft_eq]
  congr 2
  rcases Nat.le_total n 16 with h | h
  · rw [Nat.min_eq_left h]
    rw [Int.natCast_emod, Int.natCast_mul, Int.natCast_pow]
    rfl
  · rw [Nat.min_eq_right h]
    obtain ⟨c, rfl⟩ := Nat.exists_eq_add_of_le h
    rw [Nat.pow_add]
    have : a.toNat * (2 ^ 16 * 2 ^ c) % 2 ^ 16 = 0 := by
      rw [← Nat.mul_assoc, Nat.mul_comm a.toNat, Nat.mul_assoc]; exact Nat.mul_mod_right _ _
    rw [this]
    omega

theorem shr_u16 {P : Program} {w : World} {a : BitVec 16} {n : Nat} {t : TypeId} {j : IntKind} (ρ : Env) :
    ∃ r, (binOp .shr t (.int .u16 a.toNat) (.int j n)).run P w = .ok r w ∧ Rep ρ (.u16 (a >>> n)) r := by
  refine ⟨.int .u16 (a >>> n).toNat, ?_, rfl⟩
  simp only [binOp, Op.shift, Sem.run_ite]
  rw [if_neg (by omega)]
  simp only [Sem.run_pure, IntKind.bits, Int.toNat_natCast, BitVec.toNat_ushiftRight, Nat.shiftRight_eq_div_pow]
  congr 2
  have ha := a.isLt
  rw [Int.fdiv_eq_ediv_of_nonneg _ (by exact Int.le_of_lt (Int.pow_pos (by omega)))]
  rcases Nat.le_total n 16 with h | h
  · rw [Nat.min_eq_left h]
    rw [Int.natCast_ediv, Int.natCast_pow]
    rfl
  · rw [Nat.min_eq_right h]
    have h1 : a.toNat / 2 ^ n = 0 := Nat.div_eq_of_lt (Nat.lt_of_lt_of_le ha (Nat.pow_le_pow_right (by omega) h))
    rw [h1]
    omega

theorem ofInt_u32 (a : BitVec 32) : BitVec.ofInt 32 (a.toNat : Int) = a := by
  rw [BitVec.ofInt_natCast]; simp

theorem sound_u32 {P : Program} {w : World} {op : BinOp} {a b : BitVec 32} {t : TypeId} {ob : Prop} {v : D} (h : numW .u32 op a b = some (ob, v)) (ho : ob) (hop : op ≠ .shl ∧ op ≠ .shr) (ρ : Env) :
    ∃ r, (binOp op t (.int .u32 a.toNat) (.int .u32 b.toNat)).run P w = .ok r w ∧ Rep ρ v r := by
  have ha := a.isLt
  have hb := b.isLt
  cases op <;> simp only [numW, Option.some.injEq, Prod.mk.injEq] at h <;> try contradiction
  all_goals (obtain ⟨h1, rfl⟩ := h; subst h1)
  case add =>
    refine ⟨.int .u32 (a + b).toNat, ?_, rfl⟩
    simp only [binOp, ne_eq, not_true, if_false, Op.intArith, wrap_u32, Sem.run_pure, BitVec.toNat_add]
    congr 2
  case sub =>
    refine ⟨.int .u32 (a - b).toNat, ?_, rfl⟩
    simp only [binOp, ne_eq, not_true, if_false, Op.intArith, wrap_u32, Sem.run_pure, BitVec.toNat_sub]
    congr 2
    omega
  case mul =>
    refine ⟨.int .u32 (a * b).toNat, ?_, rfl⟩
    simp only [binOp, ne_eq, not_true, if_false, Op.intArith, wrap_u32, Sem.run_pure, BitVec.toNat_mul]
    congr 2
  case and =>
    refine ⟨.int .u32 (a &&& b).toNat, ?_, rfl⟩
    simp only [binOp, ne_eq, not_true, if_false, Op.intBits, wrap_u32, Sem.run_pure, IntKind.bits, ofInt_u32]
    congr 2
    exact (by have := (a &&& b).isLt; omega : ((a &&& b).toNat : Int) % 4294967296 = ((a &&& b).toNat : Int))
  case or =>
    refine ⟨.int .u32 (a ||| b).toNat, ?_, rfl⟩
    simp only [binOp, ne_eq, not_true, if_false, Op.intBits, wrap_u32, Sem.run_pure, IntKind.bits, ofInt_u32]
    congr 2
    exact (by have := (a ||| b).isLt; omega : ((a ||| b).toNat : Int) % 4294967296 = ((a ||| b).toNat : Int))
  case xor =>
    refine ⟨.int .u32 (a ^^^ b).toNat, ?_, rfl⟩
    simp only [binOp, ne_eq, not_true, if_false, Op.intBits, wrap_u32, Sem.run_pure, IntKind.bits, ofInt_u32]
    congr 2
    exact (by have := (a ^^^ b).isLt; omega : ((a ^^^ b).toNat : Int) % 4294967296 = ((a ^^^ b).toNat : Int))
  case andNot =>
    refine ⟨.int .u32 (a &&& ~~~b).toNat, ?_, rfl⟩
    simp only [binOp, ne_eq, not_true, if_false, Op.intBits, wrap_u32, Sem.run_pure, IntKind.bits, ofInt_u32]
    congr 2
    exact (by have := (a &&& ~~~b).isLt; omega : ((a &&& ~~~b).toNat : Int) % 4294967296 = ((a &&& ~~~b).toNat : Int))
  case quo =>
    have hb0 : b.toNat ≠ 0 := fun e => ho (by apply BitVec.eq_of_toNat_eq; simpa using e)
    have hb1 : (b.toNat : Int) ≠ 0 := by omega
    refine ⟨.int .u32 (a / b).toNat, ?_, rfl⟩
    simp only [binOp, ne_eq, not_true, if_false, Op.intDiv, hb1, wrap_u32, Sem.run_pure, BitVec.toNat_udiv]
    congr 2
    rw [Int.tdiv_eq_ediv_of_nonneg (by omega)]
    have := Nat.div_le_self a.toNat b.toNat
    rw [← Int.natCast_ediv]
    generalize a.toNat / b.toNat = q at *
    omega
  case rem =>
    have hb0 : b.toNat ≠ 0 := fun e => ho (by apply BitVec.eq_of_toNat_eq; simpa using e)
    have hb1 : (b.toNat : Int) ≠ 0 := by omega
    refine ⟨.int .u32 (a % b).toNat, ?_, rfl⟩
    simp only [binOp, ne_eq, not_true, if_false, Op.intDiv, hb1, Sem.run_pure, BitVec.toNat_umod]
    congr 2
  case eql =>
    refine ⟨.bool (decide (a = b)), ?_, rfl⟩
    simp only [binOp, ne_eq, not_true, if_false, Op.intCmp, Sem.run_pure]
    congr 2
    rw [Bool.eq_iff_iff]
    simp [BitVec.toNat_inj, Int.natCast_inj]
  case neq =>
    refine ⟨.bool (!decide (a = b)), ?_, rfl⟩
    simp only [binOp, ne_eq, not_true, if_false, Op.intCmp, Sem.run_pure]
    congr 2
    rw [Bool.eq_iff_iff]
    simp [BitVec.toNat_inj, Int.natCast_inj]
  case lss =>
    refine ⟨.bool (decide (a.toNat < b.toNat)), ?_, rfl⟩
    simp only [binOp, ne_eq, not_true, if_false, Op.intCmp, Sem.run_pure]
    congr 2
    rw [Bool.eq_iff_iff]
    simp
  case leq =>
    refine ⟨.bool (decide (a.toNat ≤ b.toNat)), ?_, rfl⟩
    simp only [binOp, ne_eq, not_true, if_false, Op.intCmp, Sem.run_pure]
    congr 2
    rw [Bool.eq_iff_iff]
    simp
  case gtr =>
    refine ⟨.bool (decide (b.toNat < a.toNat)), ?_, rfl⟩
    simp only [binOp, ne_eq, not_true, if_false, Op.intCmp, Sem.run_pure]
    congr 2
    rw [Bool.eq_iff_iff]
    simp
  case geq =>
    refine ⟨.bool (decide (b.toNat ≤ a.toNat)), ?_, rfl⟩
    simp only [binOp, ne_eq, not_true, if_false, Op.intCmp, Sem.run_pure]
    congr 2
    rw [Bool.eq_iff_iff]
    simp

theorem shl_u32 {P : Program} {w : World} {a : BitVec 32} {n : Nat} {t : TypeId} {j : IntKind} (ρ : Env) :
    ∃ r, (binOp .shl t (.int .u32 a.toNat) (.int j n)).run P w = .ok r w ∧ Rep ρ (.u32 (a <<< n)) r := by
  refine ⟨.int .u32 (a <<< n).toNat, ?_, rfl⟩
  simp only [binOp, Op.shift, Sem.run_ite]
  rw [if_neg (by omega)]
  simp only [Sem.run_pure, wrap_u32, IntKind.bits, Int.toNat_natCast, BitVec.toNat_shiftLeft, Nat.shiftLeft_eq]
  congr 2
  rcases Nat.le_total n 32 with h | h
  · rw [Nat.min_eq_left h]
    rw [Int.natCast_emod, Int.natCast_mul, Int.natCast_pow]
    rfl
  · rw [Nat.min_eq_right h]
    obtain ⟨c, rfl⟩ := Nat.exists_eq_add_of_le h
    rw [Nat.pow_add]
    have : a.toNat * (2 ^ 32 * 2 ^ c) % 2 ^ 32 = 0 := by
      rw [← Nat.mul_assoc, Nat.mul_comm a.toNat, Nat.mul_assoc]; exact Nat.mul_mod_right _ _
    rw [this]
    omega

theorem shr_u32 {P : Program} {w : World} {a : BitVec 32} {n : Nat} {t : TypeId} {j : IntKind} (ρ : Env) :
    ∃ r, (binOp .shr t (.int .u32 a.toNat) (.int j n)).run P w = .ok r w ∧ Rep ρ (.u32 (a >>> n)) r := by
  refine ⟨.int .u32 (a >>> n).toNat, ?_, rfl⟩
  simp only [binOp, Op.shift, Sem.run_ite]
  rw [if_neg (by omega)]
  simp only [Sem.run_pure, IntKind.bits, Int.toNat_natCast, BitVec.toNat_ushiftRight, Nat.shiftRight_eq_div_pow]
  congr 2
  have ha := a.isLt
  rw [Int.fdiv_eq_ediv_of_nonneg _ (by exact Int.le_of_lt (Int.pow_pos (by omega)))]
  rcases Nat.le_total n 32 with h | h
  · rw [Nat.min_eq_left h]
    rw [Int.natCast_ediv, Int.natCast_pow]
    rfl
  · rw [Nat.min_eq_right h]
    have h1 : a.toNat / 2 ^ n = 0 := Nat.div_eq_of_lt (Nat.lt_of_lt_of_le ha (Nat.pow_le_pow_right (by omega) h))
    rw [h1]
    omega

theorem ofInt_u64 (a : BitVec 64) : BitVec.ofInt 64 (a.toNat : Int) = a := by
  rw [BitVec.ofInt_natCast]; simp

theorem sound_u64 {P : Program} {w : World} {op : BinOp} {a b : BitVec 64} {t : TypeId} {ob : Prop} {v : D} (h : numW .u64 op a b = some (ob, v)) (ho : ob) (hop : op ≠ .shl ∧ op ≠ .shr) (ρ : Env) :
    ∃ r, (binOp op t (.int .u64 a.toNat) (.int .u64 b.toNat)).run P w = .ok r w ∧ Rep ρ v r := by
  have ha := a.isLt
  have hb := b.isLt
  cases op <;> simp only [numW, Option.some.injEq, Prod.mk.injEq] at h <;> try contradiction
  all_goals (obtain ⟨h1, rfl⟩ := h; subst h1)
  case add =>
    refine ⟨.int .u64 (a + b).toNat, ?_, rfl⟩
    simp only [binOp, ne_eq, not_true, if_false, Op.intArith, wrap_u64, Sem.run_pure, BitVec.toNat_add]
    congr 2
  case sub =>
    refine ⟨.int .u64 (a - b).toNat, ?_, rfl⟩
    simp only [binOp, ne_eq, not_true, if_false, Op.intArith, wrap_u64, Sem.run_pure, BitVec.toNat_sub]
    congr 2
    omega
  case mul =>
    refine ⟨.int .u64 (a * b).toNat, ?_, rfl⟩
    simp only [binOp, ne_eq, not_true, if_false, Op.intArith, wrap_u64, Sem.run_pure, BitVec.toNat_mul]
    congr 2
  case and =>
    refine ⟨.int .u64 (a &&& b).toNat, ?_, rfl⟩
    simp only [binOp, ne_eq, not_true, if_false, Op.intBits, wrap_u64, Sem.run_pure, IntKind.bits, ofInt_u64]
    congr 2
    exact (by have := (a &&& b).isLt; omega : ((a &&& b).toNat : Int) % 18446744073709551616 = ((a &&& b).toNat : Int))
  case or =>
    refine ⟨.int .u64 (a ||| b).toNat, ?_, rfl⟩
    simp only [binOp, ne_eq, not_true, if_false, Op.intBits, wrap_u64, Sem.run_pure, IntKind.bits, ofInt_u64]
    congr 2
    exact (by have := (a ||| b).isLt; omega : ((a ||| b).toNat : Int) % 18446744073709551616 = ((a ||| b).toNat : Int))
  case xor =>
    refine ⟨.int .u64 (a ^^^ b).toNat, ?_, rfl⟩
    simp only [binOp, ne_eq, not_true, if_false, Op.intBits, wrap_u64, Sem.run_pure, IntKind.bits, ofInt_u64]
    congr 2
    exact (by have := (a ^^^ b).isLt; omega : ((a ^^^ b).toNat : Int) % 18446744073709551616 = ((a ^^^ b).toNat : Int))
  case andNot =>
    refine ⟨.int .u64 (a &&& ~~~b).toNat, ?_, rfl⟩
    simp only [binOp, ne_eq, not_true, if_false, Op.intBits, wrap_u64, Sem.run_pure, IntKind.bits, ofInt_u64]
    congr 2
    exact (by have := (a &&& ~~~b).isLt; omega : ((a &&& ~~~b).toNat : Int) % 18446744073709551616 = ((a &&& ~~~b).toNat : Int))
  case quo =>
    have hb0 : b.toNat ≠ 0 := fun e => ho (by apply BitVec.eq_of_toNat_eq; simpa using e)
    have hb1 : (b.toNat : Int) ≠ 0 := by omega
    refine ⟨.int .u64 (a / b).toNat, ?_, rfl⟩
    simp only [binOp, ne_eq, not_true, if_false, Op.intDiv, hb1, wrap_u64, Sem.run_pure, BitVec.toNat_udiv]
    congr 2
    rw [Int.tdiv_eq_ediv_of_nonneg (by omega)]
    have := Nat.div_le_self a.toNat b.toNat
    rw [← Int.natCast_ediv]
    generalize a.toNat / b.toNat = q at *
    omega
  case rem =>
    have hb0 : b.toNat ≠ 0 := fun e => ho (by apply BitVec.eq_of_toNat_eq; simpa using e)
    have hb1 : (b.toNat : Int) ≠ 0 := by omega
    refine ⟨.int .u64 (a % b).toNat, ?_, rfl⟩
    simp only [binOp, ne_eq, not_true, if_false, Op.intDiv, hb1, Sem.run_pure, BitVec.toNat_umod]
    congr 2
  case eql =>
    refine ⟨.bool (decide (a = b)), ?_, rfl⟩
    simp only [binOp, ne_eq, not_true, if_false, Op.intCmp, Sem.run_pure]
    congr 2
    rw [Bool.eq_iff_iff]
    simp [BitVec.toNat_inj, Int.natCast_inj]
  case neq =>
    refine ⟨.bool (!decide (a = b)), ?_, rfl⟩
    simp only [binOp, ne_eq, not_true, if_false, Op.intCmp, Sem.run_pure]
    congr 2
    rw [Bool.eq_iff_iff]
    simp [BitVec.toNat_inj, Int.natCast_inj]
  case lss =>
    refine ⟨.bool (decide (a.toNat < b.toNat)), ?_, rfl⟩
    simp only [binOp, ne_eq, not_true, if_false, Op.intCmp, Sem.run_pure]
    congr 2
    rw [Bool.eq_iff_iff]
    simp
  case leq =>
    refine ⟨.bool (decide (a.toNat ≤ b.toNat)), ?_, rfl⟩
    simp only [binOp, ne_eq, not_true, if_false, Op.intCmp, Sem.run_pure]
    congr 2
    rw [Bool.eq_iff_iff]
    simp
  case gtr =>
    refine ⟨.bool (decide (b.toNat < a.toNat)), ?_, rfl⟩
    simp only [binOp, ne_eq, not_true, if_false, Op.intCmp, Sem.run_pure]
    congr 2
    rw [Bool.eq_iff_iff]
    simp
  case geq =>
    refine ⟨.bool (decide (b.toNat ≤ a.toNat)), ?_, rfl⟩
    simp only [binOp, ne_eq, not_true, if_false, Op.intCmp, Sem.run_pure]
    congr 2
    rw [Bool.eq_iff_iff]
    simp

theorem shl_u64 {P : Program} {w : World} {a : BitVec 64} {n : Nat} {t : TypeId} {j : IntKind} (ρ : Env) :
    ∃ r, (binOp .shl t (.int .u64 a.toNat) (.int j n)).run P w = .ok r w ∧ Rep ρ (.u64 (a <<< n)) r := by
  refine ⟨.int .u64 (a <<< n).toNat, ?_, rfl⟩
  simp only [binOp, Op.shift, Sem.run_ite]
  rw [if_neg (by omega)]
  simp only [Sem.run_pure, wrap_u64, IntKind.bits, Int.toNat_natCast, BitVec.toNat_shiftLeft, Nat.shiftLeft_eq]
  congr 2
  rcases Nat.le_total n 64 with h | h
  · rw [Nat.min_eq_left h]
    rw [Int.natCast_emod, Int.natCast_mul, Int.natCast_pow]
    rfl
  · rw [Nat.min_eq_right h]
    obtain ⟨c, rfl⟩ := Nat.exists_eq_add_of_le h
    rw [Nat.pow_add]
    have : a.toNat * (2 ^ 64 * 2 ^ c) % 2 ^ 64 = 0 := by
      rw [← Nat.mul_assoc, Nat.mul_comm a.toNat, Nat.mul_assoc]; exact Nat.mul_mod_right _ _
    rw [this]
    omega

theorem shr_u64 {P : Program} {w : World} {a : BitVec 64} {n : Nat} {t : TypeId} {j : IntKind} (ρ : Env) :
    ∃ r, (binOp .shr t (.int .u64 a.toNat) (.int j n)).run P w = .ok r w ∧ Rep ρ (.u64 (a >>> n)) r := by
  refine ⟨.int .u64 (a >>> n).toNat, ?_, rfl⟩
  simp only [binOp, Op.shift, Sem.run_ite]
  rw [if_neg (by omega)]
  simp only [Sem.run_pure, IntKind.bits, Int.toNat_natCast, BitVec.toNat_ushiftRight, Nat.shiftRight_eq_div_pow]
  congr 2
  have ha := a.isLt
  rw [Int.fdiv_eq_ediv_of_nonneg _ (by exact Int.le_of_lt (Int.pow_pos (by omega)))]
  rcases Nat.le_total n 64 with h | h
  · rw [Nat.min_eq_left h]
    rw [Int.natCast_ediv, Int.natCast_pow]
    rfl
  · rw [Nat.min_eq_right h]
    have h1 : a.toNat / 2 ^ n = 0 := Nat.div_eq_of_lt (Nat.lt_of_lt_of_le ha (Nat.pow_le_pow_right (by omega) h))
    rw [h1]
    omega


theorem wrap_i64_toNat (r : BitVec 64) : IntKind.wrap .i64 r.toNat = r.toInt := by
  have := r.isLt
  simp only [IntKind.wrap, IntKind.signed, IntKind.bits, Bool.true_and, Nat.reduceSub, Int.reducePow, ge_iff_le, decide_eq_true_eq, BitVec.toInt_eq_toNat_cond]
  split <;> split <;> omega

theorem inI_toInt (r : BitVec 64) : inI r.toInt := by
  have h1 := @BitVec.toInt_lt 64 r
  have h2 := @BitVec.le_toInt 64 r
  unfold inI
  simp at h1 h2
  omega

theorem sound_i64 {P : Program} {w : World} {op : BinOp} {a b : Int} {t : TypeId} {ob : Prop} {v : D} (h : numI op a b = some (ob, v)) (ho : ob) (ha : inI a) (ρ : Env) :
    ∃ r, (binOp op t (.int .i64 a) (.int .i64 b)).run P w = .ok r w ∧ Rep ρ v r := by
  cases op <;> simp only [numI, Option.some.injEq, Prod.mk.injEq] at h <;> try contradiction
  all_goals (obtain ⟨h1, rfl⟩ := h; subst h1)
  case add => exact ⟨.int .i64 (a + b), by simp [binOp, Op.intArith, wrap_i64_in ho], rfl, ho⟩
  case sub => exact ⟨.int .i64 (a - b), by simp [binOp, Op.intArith, wrap_i64_in ho], rfl, ho⟩
  case mul => exact ⟨.int .i64 (a * b), by simp [binOp, Op.intArith, wrap_i64_in ho], rfl, ho⟩
  case and =>
    refine ⟨.int .i64 (BitVec.ofInt 64 a &&& BitVec.ofInt 64 b).toInt, ?_, rfl, inI_toInt _⟩
    simp only [binOp, ne_eq, not_true, if_false, Op.intBits, Sem.run_pure]
    congr 2
    exact wrap_i64_toNat _
  case or =>
    refine ⟨.int .i64 (BitVec.ofInt 64 a ||| BitVec.ofInt 64 b).toInt, ?_, rfl, inI_toInt _⟩
    simp only [binOp, ne_eq, not_true, if_false, Op.intBits, Sem.run_pure]
    congr 2
    exact wrap_i64_toNat _
  case xor =>
    refine ⟨.int .i64 (BitVec.ofInt 64 a ^^^ BitVec.ofInt 64 b).toInt, ?_, rfl, inI_toInt _⟩
    simp only [binOp, ne_eq, not_true, if_false, Op.intBits, Sem.run_pure]
    congr 2
    exact wrap_i64_toNat _
  case quo => exact ⟨.int .i64 (a.tdiv b), by simp [binOp, Op.intDiv, ho.1, wrap_i64_in ho.2], rfl, ho.2⟩
  case rem =>
    refine ⟨.int .i64 (a.tmod b), by simp [binOp, Op.intDiv, ho], rfl, ?_⟩
    show inI (a.tmod b)
    have h1 : (a.tmod b).natAbs ≤ a.natAbs := by rw [Int.natAbs_tmod]; exact Nat.mod_le _ _
    have h2 : a.tmod b = a - b * a.tdiv b := by have := Int.mul_tdiv_add_tmod a b; omega
    unfold inI at ha ⊢
    rcases Int.le_total 0 a with h0 | h0
    · have := Int.tmod_nonneg b h0; omega
    · have : a.tmod b ≤ 0 := by
        have h3 := Int.tmod_nonneg b (a := -a) (by omega)
        rw [Int.neg_tmod] at h3; omega
      omega
  case eql => exact ⟨.bool (a == b), by simp [binOp, Op.intCmp], by show Value.bool (a == b) = .bool (decide (a = b)); congr 1⟩
  case neq =>
    exact ⟨.bool (a != b), by simp [binOp, Op.intCmp], by show Value.bool (a != b) = .bool (!decide (a = b)); congr 1⟩
  case lss => exact ⟨.bool (decide (a < b)), by simp [binOp, Op.intCmp], rfl⟩
  case leq => exact ⟨.bool (decide (a ≤ b)), by simp [binOp, Op.intCmp], rfl⟩
  case gtr => exact ⟨.bool (decide (b < a)), by simp [binOp, Op.intCmp], rfl⟩
  case geq => exact ⟨.bool (decide (b ≤ a)), by simp [binOp, Op.intCmp], rfl⟩

theorem ltBytes_spec : ∀ (a b : List Byte), Op.bytesLess (bytesV a) (bytesV b) = ltBytes a b
  | _, [] => by simp [bytesV, Op.bytesLess, ltBytes]
  | [], _ :: _ => by simp [bytesV, Op.bytesLess, ltBytes]
  | a :: x, b :: y => by
    have ih := ltBytes_spec x y
    unfold bytesV at ih ⊢
    simp only [List.map_cons, Op.bytesLess, ltBytes, ih]
    congr 1
    congr 1
    rw [Bool.eq_iff_iff]
    simp only [decide_eq_true_eq, beq_iff_eq]
    exact ⟨fun h => by cases h; rfl, fun h => by rw [h]⟩

theorem bytesV_inj {a b : List Byte} (h : bytesV a = bytesV b) : a = b := by
  unfold bytesV at h
  exact (List.map_inj_right fun x y e => by cases e; rfl).1 h

theorem toList_data (s : ByteArray) : s.toList = s.data.toList := by
  exact ByteArray.toList_eq s

theorem sound_str {P : Program} {w : World} {op : BinOp} {a b : List Byte} {t : TypeId} {ob : Prop} {v : D} {s u : ByteArray} (h : strD op a b = some (ob, v)) (ho : ob)
    (ha : s.data.toList = bytesV a) (hb : u.data.toList = bytesV b) (hop : op ≠ .shl ∧ op ≠ .shr) (ρ : Env) :
    ∃ r, (binOp op t (.string s) (.string u)).run P w = .ok r w ∧ Rep ρ v r := by
  have heq : (s.toList == u.toList) = decide (a = b) := by
    rw [Bool.eq_iff_iff]
    simp only [toList_data, ha, hb, beq_iff_eq, decide_eq_true_eq]
    exact ⟨bytesV_inj, fun e => by rw [e]⟩
  have hlt : Op.bytesLess s.toList u.toList = ltBytes a b := by rw [toList_data, toList_data, ha, hb, ltBytes_spec]
  have hs : s.size = a.length := by
    have := congrArg List.length ha
    rw [bytesV, List.length_map, Array.length_toList] at this
    exact this
  have hu : u.size = b.length := by
    have := congrArg List.length hb
    rw [bytesV, List.length_map, Array.length_toList] at this
    exact this
  cases op <;> simp only [strD, Option.some.injEq, Prod.mk.injEq] at h <;> try contradiction
  all_goals (obtain ⟨h1, rfl⟩ := h; subst h1)
  case add =>
    refine ⟨.string (s ++ u), ?_, s ++ u, rfl, ?_, by simpa using ho⟩
    · simp only [binOp, Op.stringOp, hs, hu]
      rw [if_neg (by simp [IntKind.max, IntKind.signed, IntKind.bits]; omega)]
      rfl
    · simp [ha, hb, bytesV]
  all_goals
    refine ⟨_, ?_, rfl⟩
    simp only [binOp, Op.stringOp, heq, hlt]
    rfl

theorem nat_lt_int {b : BitVec 64} : ∃ n : Nat, (b.toNat : Int) = n := ⟨_, rfl⟩

/-- a count is a natural number -/
theorem cnt_spec {ρ : Env} {y : D} {v : Value} {ob : Prop} {n : Nat} (h : cntD y = some (ob, n)) (ho : ob) (hy : Rep ρ y v) : ∃ k, v = .int k (n : Int) := by
  cases y <;> simp only [cntD, Option.some.injEq, Prod.mk.injEq] at h <;> try contradiction
  all_goals (obtain ⟨h1, rfl⟩ := h)
  case i64 n =>
    subst h1
    obtain ⟨rfl, _⟩ := hy
    exact ⟨.i64, by rw [Int.toNat_of_nonneg ho]⟩
  all_goals exact ⟨_, hy⟩

theorem sound_shift {P : Program} {w : World} {left : Bool} {x : D} {n : Nat} {t : TypeId} {j : IntKind} {ob : Prop} {v : D} {vx : Value} {ρ : Env} {o2 : Prop} (h : shiftD left x ob n = some (o2, v)) (ho : o2) (hx : Rep ρ x vx) :
    ∃ r, (binOp (if left then .shl else .shr) t vx (.int j n)).run P w = .ok r w ∧ Rep ρ v r := by
  cases x <;> simp only [shiftD, Option.some.injEq, Prod.mk.injEq] at h <;> try contradiction
  case u8 a =>
    obtain ⟨_, rfl⟩ := h
    have hx : vx = _ := hx; subst hx
    cases left
    · exact shr_u8 ρ
    · exact shl_u8 ρ
  case u16 a =>
    obtain ⟨_, rfl⟩ := h
    have hx : vx = _ := hx; subst hx
    cases left
    · exact shr_u16 ρ
    · exact shl_u16 ρ
  case u32 a =>
    obtain ⟨_, rfl⟩ := h
    have hx : vx = _ := hx; subst hx
    cases left
    · exact shr_u32 ρ
    · exact shl_u32 ρ
  case u64 a =>
    obtain ⟨_, rfl⟩ := h
    have hx : vx = _ := hx; subst hx
    cases left
    · exact shr_u64 ρ
    · exact shl_u64 ρ
  case i64 a =>
    obtain ⟨rfl, ha⟩ := hx
    cases left
    · simp only [Option.some.injEq, Prod.mk.injEq] at h
      obtain ⟨rfl, rfl⟩ := h
      refine ⟨.int .i64 (a / 2 ^ n), ?_, rfl, ?_⟩
      · simp only [binOp, Op.shift, Bool.false_eq_true, if_false, Sem.run_ite]
        rw [if_neg (by omega)]
        simp only [Sem.run_pure, IntKind.bits, Int.toNat_natCast]
        rw [Nat.min_eq_left (by omega), Int.fdiv_eq_ediv_of_nonneg _ (by exact Int.le_of_lt (Int.pow_pos (by omega)))]
      · have h2 : (0 : Int) < 2 ^ n := Int.pow_pos (by omega)
        have h3 := Int.ediv_le_self (a := a) (2 ^ n)
        have h4 : -9223372036854775808 ≤ a / 2 ^ n := by
          rw [Int.le_ediv_iff_mul_le h2]
          have : (1 : Int) ≤ 2 ^ n := by omega
          have := Int.mul_le_mul_of_nonneg_left this (show (0 : Int) ≤ 9223372036854775808 by omega)
          omega
        refine ⟨h4, ?_⟩
        rcases Int.le_total 0 a with h0 | h0
        · have := h3 h0; omega
        · have h5 := Int.ediv_le_ediv h2 h0
          rw [Int.zero_ediv] at h5; omega
    · simp only [Option.some.injEq, Prod.mk.injEq] at h
      obtain ⟨rfl, rfl⟩ := h
      refine ⟨.int .i64 (a * 2 ^ n), ?_, rfl, ho.2.2⟩
      simp only [binOp, Op.shift, if_true, Sem.run_ite]
      rw [if_neg (by omega)]
      simp only [Sem.run_pure, IntKind.bits, Int.toNat_natCast]
      rw [Nat.min_eq_left (by omega), wrap_i64_in ho.2.2]

theorem kind_ptr {P : Program} {Γ : Tab} (hΓ : TabOk P Γ) {t : Nat} (h : kindOf Γ t = .ptr) : ∃ e, P.underlying t = some (.pointer e) := by
  unfold kindOf at h
  repeat' split at h
  all_goals try contradiction
  have := (hΓ t _ (by assumption)).desc
  unfold DescOk at this
  split at this <;> simp_all

theorem kind_slice {P : Program} {Γ : Tab} (hΓ : TabOk P Γ) {t : Nat} (h : kindOf Γ t = .slice) : ∃ e, P.underlying t = some (.slice e) := by
  unfold kindOf at h
  repeat' split at h
  all_goals try contradiction
  have := (hΓ t _ (by assumption)).desc
  unfold DescOk at this
  split at this <;> simp_all

theorem kind_bool {P : Program} {Γ : Tab} (hΓ : TabOk P Γ) {t : Nat} (h : kindOf Γ t = .bool) : P.underlying t = some .bool := by
  unfold kindOf at h
  repeat' split at h
  all_goals try contradiction
  have := (hΓ t _ (by assumption)).desc
  unfold DescOk at this
  split at this <;> simp_all

theorem equalIn_ptr {P : Program} {w : World} {t e : TypeId} (h : P.underlying t = some (.pointer e)) (a b : Option Addr) (hn : a = none ∨ b = none) (d : Nat) :
    (Op.equalIn (d + 1) t (.pointer a) (.pointer b)).run P w = .ok (a.isNone && b.isNone) w := by
  rcases hn with rfl | rfl
  · cases b <;> simp [Op.equalIn, underlying, h]
  · cases a <;> simp [Op.equalIn, underlying, h]

theorem equalIn_slice {P : Program} {w : World} {t e : TypeId} (h : P.underlying t = some (.slice e)) (a b : Option Addr) (n c n' c' : Nat) (hn : a = none ∨ b = none) (d : Nat) :
    (Op.equalIn (d + 1) t (.slice a n c) (.slice b n' c')).run P w = .ok (a.isNone && b.isNone) w := by
  rcases hn with rfl | rfl
  · cases b <;> simp [Op.equalIn, underlying, h]
  · cases a <;> simp [Op.equalIn, underlying, h]

theorem eql_ptr {P : Program} {w : World} {t e : TypeId} (h : P.underlying t = some (.pointer e)) (a b : Option Addr) (hn : a = none ∨ b = none) {op : BinOp} {ob : Prop} {v : D}
    (hv : nilD op (a.isNone && b.isNone) = some (ob, v)) (ρ : Env) : ∃ r, (binOp op t (.pointer a) (.pointer b)).run P w = .ok r w ∧ Rep ρ v r := by
  have he : (Op.equal t (.pointer a) (.pointer b)).run P w = .ok (a.isNone && b.isNone) w := equalIn_ptr h a b hn 9999
  cases op <;> simp only [nilD, Option.some.injEq, Prod.mk.injEq] at hv <;> try contradiction
  all_goals
    obtain ⟨_, rfl⟩ := hv
    refine ⟨_, ?_, rfl⟩
    simp only [binOp, Sem.run_bind, he, Result.andThen_ok, Sem.run_pure]

theorem eql_slice {P : Program} {w : World} {t e : TypeId} (h : P.underlying t = some (.slice e)) (a b : Option Addr) (n c n' c' : Nat) (hn : a = none ∨ b = none) {op : BinOp} {ob : Prop} {v : D}
    (hv : nilD op (a.isNone && b.isNone) = some (ob, v)) (ρ : Env) : ∃ r, (binOp op t (.slice a n c) (.slice b n' c')).run P w = .ok r w ∧ Rep ρ v r := by
  have he : (Op.equal t (.slice a n c) (.slice b n' c')).run P w = .ok (a.isNone && b.isNone) w := equalIn_slice h a b n c n' c' hn 9999
  cases op <;> simp only [nilD, Option.some.injEq, Prod.mk.injEq] at hv <;> try contradiction
  all_goals
    obtain ⟨_, rfl⟩ := hv
    refine ⟨_, ?_, rfl⟩
    simp only [binOp, Sem.run_bind, he, Result.andThen_ok, Sem.run_pure]

theorem eql_bool {P : Program} {w : World} {t : TypeId} (h : P.underlying t = some .bool) (a b : Bool) {op : BinOp} {ob : Prop} {v : D}
    (hv : boolD op a b = some (ob, v)) (ρ : Env) : ∃ r, (binOp op t (.bool a) (.bool b)).run P w = .ok r w ∧ Rep ρ v r := by
  have he : (Op.equal t (.bool a) (.bool b)).run P w = .ok (a == b) w := run_equalIn_bool w 9999 t a b h
  have hb : (a == b) = decide (a = b) := by cases a <;> cases b <;> rfl
  rw [hb] at he
  cases op <;> simp only [boolD, Option.some.injEq, Prod.mk.injEq] at hv <;> try contradiction
  all_goals
    obtain ⟨_, rfl⟩ := hv
    refine ⟨_, ?_, rfl⟩
    simp only [binOp, Sem.run_bind, he, Result.andThen_ok, Sem.run_pure]

theorem binOp_agg {P : Program} {w : World} {op : BinOp} {t : TypeId} {xs ys : Array Value} {b : Bool} (h : (Op.equal t (.agg xs) (.agg ys)).run P w = .ok b w) (hop : op = .eql ∨ op = .neq) :
    (binOp op t (.agg xs) (.agg ys)).run P w = .ok (.bool (match op with | .eql => b | _ => !b)) w := by
  rcases hop with rfl | rfl <;> simp [binOp, h]

theorem guard_other {P : Program} {w : World} {op : BinOp} {t : TypeId} {x y : Operand} {a b : Value} (ha : a.oneCell' = true) (hi : a ≠ .nilIface) : (eqGuard op t x y a b).run P w = .ok () w := by
  unfold eqGuard
  cases op <;> simp <;> cases a <;> first
    | (simp [Value.oneCell'] at ha; done)
    | exact absurd rfl hi
    | (simp; done)
    | (cases b <;> simp)

theorem sound_agg {P : Program} {Γ : Tab} (hΓ : TabOk P Γ) {w : World} {op : BinOp} {x y : D} {t : Nat} {ob : Prop} {v : D} {vx vy : Value} {ρ : Env} {o1 o2 : Operand} (h : aggD Γ t op x y = some (ob, v)) (ho : ob)
    (hx : Rep ρ x vx) (hy : Rep ρ y vy) (hax : x.isAgg = true) (hay : y.isAgg = true) :
    ∃ r, (do eqGuard op t o1 o2 vx vy; binOp op t vx vy : Sem Value).run P w = .ok r w ∧ Rep ρ v r := by
  unfold aggD at h
  repeat' split at h
  all_goals try contradiction
  all_goals
    cases h
    obtain ⟨h1, h2, h3⟩ := ho
    have hg := ((hΓ t _ (by assumption)).eq (by assumption)).1
    have hr := eq_sound hΓ (ρ := ρ) (w := w) (by assumption) (by assumption) h1 h2 h3 hax hay hx hy
    rw [rep_eq (by cases x <;> simp_all [D.isAgg, D.isTup])] at hx
    rw [rep_eq (by cases y <;> simp_all [D.isAgg, D.isTup])] at hy
    unfold RepV at hx hy
    rw [hax] at hx
    rw [hay] at hy
    obtain ⟨xs, rfl, _⟩ := hx
    obtain ⟨ys, rfl, _⟩ := hy
    refine ⟨_, ?_, rfl⟩
    rw [Sem.run_bind, run_eqGuard_agg w _ t o1 o2 xs.toArray ys.toArray hg, Result.andThen_ok]
    rw [binOp_agg hr (by simp)]

theorem sound_bin0 {P : Program} {Γ : Tab} (hΓ : TabOk P Γ) {w : World} {op : BinOp} {x y : D} {t : Nat} {ob : Prop} {v : D} {vx vy : Value} {ρ : Env} {o1 o2 : Operand} (h : binD0 Γ t op x y = some (ob, v)) (ho : ob) (hop : op ≠ .shl ∧ op ≠ .shr)
    (hx : Rep ρ x vx) (hy : Rep ρ y vy) :
    ∃ r, (do eqGuard op t o1 o2 vx vy; binOp op t vx vy : Sem Value).run P w = .ok r w ∧ Rep ρ v r := by
  have key : ∀ r, vx.oneCell' = true → vx ≠ .nilIface → (binOp op t vx vy).run P w = .ok r w → Rep ρ v r → ∃ r, (do eqGuard op t o1 o2 vx vy; binOp op t vx vy : Sem Value).run P w = .ok r w ∧ Rep ρ v r := by
    intro r h1 h2 h3 h4
    exact ⟨r, by rw [Sem.run_bind, guard_other h1 h2, Result.andThen_ok, h3], h4⟩
  unfold binD0 at h
  split at h
  · cases hx; cases hy; obtain ⟨r, h1, h2⟩ := sound_u8 (t := t) (P := P) (w := w) h ho hop ρ; exact key r rfl (by simp) h1 h2
  · cases hx; cases hy; obtain ⟨r, h1, h2⟩ := sound_u16 (t := t) (P := P) (w := w) h ho hop ρ; exact key r rfl (by simp) h1 h2
  · cases hx; cases hy; obtain ⟨r, h1, h2⟩ := sound_u32 (t := t) (P := P) (w := w) h ho hop ρ; exact key r rfl (by simp) h1 h2
  · cases hx; cases hy; obtain ⟨r, h1, h2⟩ := sound_u64 (t := t) (P := P) (w := w) h ho hop ρ; exact key r rfl (by simp) h1 h2
  · obtain ⟨rfl, ha⟩ := hx
    obtain ⟨rfl, hb⟩ := hy
    obtain ⟨r, h1, h2⟩ := sound_i64 (t := t) (P := P) (w := w) h ho ha ρ; exact key r rfl (by simp) h1 h2
  · obtain ⟨s, rfl, ha, _⟩ := hx
    obtain ⟨u, rfl, hb, _⟩ := hy
    obtain ⟨r, h1, h2⟩ := sound_str (t := t) (P := P) (w := w) h ho ha hb hop ρ; exact key r rfl (by simp) h1 h2
  · split at h <;> try contradiction
    rename_i a b _ hk
    have hu := kind_bool hΓ hk
    cases hx; cases hy
    obtain ⟨r, h1, h2⟩ := eql_bool (w := w) hu a b h ρ
    exact key r rfl (by simp) h1 h2
  · split at h <;> try contradiction
    rename_i hk
    obtain ⟨e, hu⟩ := kind_ptr hΓ hk
    cases hx; cases hy
    obtain ⟨r, h1, h2⟩ := eql_ptr (w := w) hu none none (.inl rfl) h ρ
    exact key r rfl (by simp) h1 h2
  · split at h <;> try contradiction
    rename_i hk
    obtain ⟨e, hu⟩ := kind_ptr hΓ hk
    obtain ⟨L, _, rfl⟩ := hx
    cases hy
    obtain ⟨r, h1, h2⟩ := eql_ptr (w := w) hu (some _) none (.inr rfl) h ρ
    exact key r rfl (by simp) h1 h2
  · split at h <;> try contradiction
    rename_i hk
    obtain ⟨e, hu⟩ := kind_ptr hΓ hk
    obtain ⟨L, _, rfl⟩ := hy
    cases hx
    obtain ⟨r, h1, h2⟩ := eql_ptr (w := w) hu none (some _) (.inl rfl) h ρ
    exact key r rfl (by simp) h1 h2
  · split at h <;> try contradiction
    rename_i hk
    obtain ⟨e, hu⟩ := kind_slice hΓ hk
    cases hx; cases hy
    obtain ⟨r, h1, h2⟩ := eql_slice (w := w) hu none none 0 0 0 0 (.inl rfl) h ρ
    exact key r rfl (by simp) h1 h2
  · split at h <;> try contradiction
    rename_i hk
    obtain ⟨e, hu⟩ := kind_slice hΓ hk
    obtain ⟨L, _, T, t', a, c, _, _, rfl, _⟩ := hx
    cases hy
    obtain ⟨r, h1, h2⟩ := eql_slice (w := w) hu (some a) none _ c 0 0 (.inr rfl) h ρ
    exact key r rfl (by simp) h1 h2
  · split at h <;> try contradiction
    rename_i hk
    obtain ⟨e, hu⟩ := kind_slice hΓ hk
    obtain ⟨L, _, T, t', a, c, _, _, rfl, _⟩ := hy
    cases hx
    obtain ⟨r, h1, h2⟩ := eql_slice (w := w) hu none (some a) 0 0 _ c (.inl rfl) h ρ
    exact key r rfl (by simp) h1 h2
  · exact sound_agg hΓ h ho hx hy rfl rfl
  · exact sound_agg hΓ h ho hx hy rfl rfl
  · exact sound_agg hΓ h ho hx hy rfl rfl
  · exact sound_agg hΓ h ho hx hy rfl rfl
  · contradiction

theorem sound_bin {P : Program} {Γ : Tab} (hΓ : TabOk P Γ) {w : World} {op : BinOp} {x y : D} {t : Nat} {ob : Prop} {v : D} {vx vy : Value} {ρ : Env} {o1 o2 : Operand} (h : binD Γ t op x y = some (ob, v)) (ho : ob)
    (hx : Rep ρ x vx) (hy : Rep ρ y vy) :
    ∃ r, (do eqGuard op t o1 o2 vx vy; binOp op t vx vy : Sem Value).run P w = .ok r w ∧ Rep ρ v r := by
  have hg : ∀ op, op ≠ .eql → op ≠ .neq → (eqGuard op t o1 o2 vx vy).run P w = .ok () w := by
    intro op h1 h2
    unfold eqGuard
    cases op <;> simp at h1 h2 ⊢
  unfold binD at h
  split at h
  · split at h <;> try contradiction
    rename_i o' n hc
    have ho' : o' := by
      cases x <;> simp only [shiftD, Option.some.injEq, Prod.mk.injEq] at h <;> try contradiction
      case i64 a => obtain ⟨h1, _⟩ := h; rw [← h1] at ho; exact ho.1
      all_goals (obtain ⟨h1, _⟩ := h; rw [h1]; exact ho)
    obtain ⟨k, rfl⟩ := cnt_spec hc ho' hy
    obtain ⟨r, h1, h2⟩ := sound_shift (P := P) (w := w) (t := t) (j := k) h ho hx
    exact ⟨r, by rw [Sem.run_bind, hg _ (by simp) (by simp), Result.andThen_ok]; exact h1, h2⟩
  · split at h <;> try contradiction
    rename_i o' n hc
    have ho' : o' := by
      cases x <;> simp only [shiftD, Option.some.injEq, Prod.mk.injEq] at h <;> try contradiction
      case i64 a => obtain ⟨h1, _⟩ := h; rw [← h1] at ho; exact ho.1
      all_goals (obtain ⟨h1, _⟩ := h; rw [h1]; exact ho)
    obtain ⟨k, rfl⟩ := cnt_spec hc ho' hy
    obtain ⟨r, h1, h2⟩ := sound_shift (P := P) (w := w) (t := t) (j := k) h ho hx
    exact ⟨r, by rw [Sem.run_bind, hg _ (by simp) (by simp), Result.andThen_ok]; exact h1, h2⟩
  · rename_i h1 h2
    exact sound_bin0 hΓ h ho ⟨h1, h2⟩ hx hy

end Go.Proofs.YtljkjdhkofbgmaaDoor.Av
