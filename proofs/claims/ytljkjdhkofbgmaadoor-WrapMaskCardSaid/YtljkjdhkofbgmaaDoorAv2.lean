import Derived.Test.YtljkjdhkofbgmaaDoorAv1
import Derived.Laws.Entries
import GoSem.ClaimKeys
namespace Go.Proofs.YtljkjdhkofbgmaaDoor.Av
open Go
set_option linter.all false
set_option maxRecDepth 3000

def eqScal : D → D → Bool
  | .bool a, .bool b => decide (a = b)
  | .u8 a, .u8 b => decide (a = b)
  | .u16 a, .u16 b => decide (a = b)
  | .u32 a, .u32 b => decide (a = b)
  | .u64 a, .u64 b => decide (a = b)
  | .i64 a, .i64 b => decide (a = b)
  | .str a, .str b => decide (a = b)
  | _, _ => false

def scalSame : D → D → Prop
  | .bool _, .bool _ => True
  | .u8 _, .u8 _ => True
  | .u16 _, .u16 _ => True
  | .u32 _, .u32 _ => True
  | .u64 _, .u64 _ => True
  | .i64 _, .i64 _ => True
  | .str _, .str _ => True
  | _, _ => False

def eqList (eq : D → D → Bool) : List D → List D → Bool
  | [], [] => true
  | a :: as, b :: bs => eq a b && eqList eq as bs
  | _, _ => false

mutual
/-- equal, as Go compares arrays and structs -/
def D.eqb : D → D → Bool
  | .u8s a => fun y => match y with
    | .u8s b => decide (a = b)
    | _ => false
  | .u32s a => fun y => match y with
    | .u32s b => decide (a = b)
    | _ => false
  | .u64s a => fun y => match y with
    | .u64s b => decide (a = b)
    | _ => false
  | .node l => fun y => match y with
    | .node l' => D.eqbs l l'
    | _ => false
  | x => fun y => eqScal x y
def D.eqbs : List D → List D → Bool
  | [] => fun l => match l with
    | [] => true
    | _ => false
  | x :: xs => fun l => match l with
    | y :: ys => x.eqb y && D.eqbs xs ys
    | [] => false
end

mutual
def D.same : D → D → Prop
  | .u8s _ => fun y => match y with
    | .u8s _ => True
    | _ => False
  | .u32s _ => fun y => match y with
    | .u32s _ => True
    | _ => False
  | .u64s _ => fun y => match y with
    | .u64s _ => True
    | _ => False
  | .node l => fun y => match y with
    | .node l' => D.sames l l'
    | _ => False
  | x => fun y => scalSame x y
def D.sames : List D → List D → Prop
  | [] => fun l => match l with
    | [] => True
    | _ => False
  | x :: xs => fun l => match l with
    | y :: ys => x.same y ∧ D.sames xs ys
    | [] => False
end


/-! the table of types -/
inductive Desc where
  | bool
  | int (k : IntKind)
  | str
  | ptr (e : Nat)
  | slice (e : Nat)
  | arr (n e : Nat)
  | st (fs : List Nat)
  | fn
  | other

structure TI where
  desc : Desc
  ty : Ty
  zero : D
  bytes : Nat
  eq : Bool := false

/-- a table of types, as a tree -/
inductive Tab where
  | z
  | n (l : Tab) (k : Nat) (v : TI) (r : Tab)

def ti : Tab → Nat → Option TI
  | .z, _ => none
  | .n l k v r, j => match Nat.beq k j with
    | true => some v
    | false => match Nat.blt j k with
      | true => ti l j
      | false => ti r j

/-- fields: their types and places -/
def FieldsOk (P : Program) : List Field → List Nat → List Ty → Nat → Prop
  | [], [], [], _ => True
  | f :: fs, t :: ts, T :: Ts, o => f.type = t ∧ f.offset = o ∧ (P.info? t).map (·.size) = some T.size ∧ FieldsOk P fs ts Ts (o + T.size)
  | _, _, _, _ => False

def DescOk (P : Program) (t : Nat) (i : TI) : Prop :=
  match i.desc with
  | .bool => P.underlying t = some .bool ∧ i.ty = .cell
  | .int k => P.underlying t = some (.int k) ∧ i.ty = .cell
  | .str => P.underlying t = some .string ∧ i.ty = .cell
  | .ptr e => P.underlying t = some (.pointer e) ∧ i.ty = .cell
  | .slice e => P.underlying t = some (.slice e) ∧ i.ty = .cell
  | .arr n e => P.underlying t = some (.array n e) ∧ ∃ T, i.ty = .arr n T ∧ (P.info? e).map (·.size) = some T.size
  | .st ts => ∃ fs Ts, P.underlying t = some (.struct fs) ∧ i.ty = .st Ts ∧ FieldsOk P fs.toList ts Ts 0
  | .fn => (∃ a b c, P.underlying t = some (.func a b c)) ∧ i.ty = .cell
  | .other => False

structure TiOk (P : Program) (t : Nat) (i : TI) : Prop where
  desc : DescOk P t i
  flat : i.ty.flatTy
  zty : hasTy i.ty i.zero
  info : ∃ inf z, P.info? t = some inf ∧ inf.size = i.ty.size ∧ inf.bytes = i.bytes ∧ inf.zero = some z ∧ ∀ ρ, All2 (RepS ρ) i.zero.flat z.cells.toList
  eq : i.eq = true → P.eqGuardType P.depth t = false ∧ P.keyTypeAt 20 t = true

def TabOk (P : Program) (Γ : Tab) : Prop := ∀ t i, ti Γ t = some i → TiOk P t i

/-! effects -/
structure Eff where
  ob : Prop
  v : D
  up : List (Nat × Option Ent)
  nw : Nat

abbrev MG := Nat → Option Ent

def Ty.beqs (beq : Ty → Ty → Bool) : List Ty → List Ty → Bool
  | [], [] => true
  | a :: as, b :: bs => match beq a b with
    | true => Ty.beqs beq as bs
    | false => false
  | _, _ => false

mutual
def Ty.beq : Ty → Ty → Bool
  | .cell => fun u => match u with
    | .cell => true
    | _ => false
  | .arr n t => fun u => match u with
    | .arr m v => match Nat.beq n m with
      | true => t.beq v
      | false => false
    | _ => false
  | .row t => fun u => match u with
    | .row v => t.beq v
    | _ => false
  | .st fs => fun u => match u with
    | .st gs => Ty.beqL fs gs
    | _ => false
def Ty.beqL : List Ty → List Ty → Bool
  | [] => fun l => match l with
    | [] => true
    | _ => false
  | t :: ts => fun l => match l with
    | u :: us => match t.beq u with
      | true => Ty.beqL ts us
      | false => false
    | [] => false
end

mutual
theorem Ty.eq_of_beq : ∀ (a b : Ty), a.beq b = true → a = b
  | .cell, b, h => by cases b <;> simp_all [Ty.beq]
  | .arr n t, b, h => by
    cases b <;> simp only [Ty.beq] at h <;> try contradiction
    split at h <;> try contradiction
    rename_i m v _ hn
    rw [Nat.eq_of_beq_eq_true hn, Ty.eq_of_beq t v h]
  | .row t, b, h => by
    cases b <;> simp only [Ty.beq] at h <;> try contradiction
    rename_i v
    rw [Ty.eq_of_beq t v h]
  | .st fs, b, h => by
    cases b <;> simp only [Ty.beq] at h <;> try contradiction
    rename_i gs
    rw [Ty.eq_of_beqL fs gs h]
theorem Ty.eq_of_beqL : ∀ (a b : List Ty), Ty.beqL a b = true → a = b
  | [], b, h => by cases b <;> simp_all [Ty.beqL]
  | t :: ts, b, h => by
    cases b <;> simp only [Ty.beqL] at h <;> try contradiction
    split at h <;> try contradiction
    rename_i u us _ ht
    rw [Ty.eq_of_beq t u ht, Ty.eq_of_beqL ts us h]
end

/-- an operand's whole number -/
def toInt? : D → Option Int
  | .u8 x => some x.toNat
  | .u16 x => some x.toNat
  | .u32 x => some x.toNat
  | .u64 x => some x.toNat
  | .i64 n => some n
  | _ => none

def loadE (Γ : Tab) (mg : MG) (t : Nat) (a : D) : Option Eff :=
  match a with
  | .ptr b p => match mg b with
    | some e => match ti Γ t with
      | some i => match tyAt e.ty p with
        | some T => match T.beq i.ty with
          | true => match getP e.d p with
            | some x => some ⟨okP e.d p, x, [], 0⟩
            | none => none
          | false => none
        | none => none
      | none => none
    | none => none
  | _ => none

theorem loadE_inv {Γ : Tab} {mg : MG} {t : Nat} {a : D} {e : Eff} (h : loadE Γ mg t a = some e) :
    ∃ b p en i T x, a = .ptr b p ∧ mg b = some en ∧ ti Γ t = some i ∧ tyAt en.ty p = some T ∧ T.beq i.ty = true ∧ getP en.d p = some x ∧ e = ⟨okP en.d p, x, [], 0⟩ := by
  unfold loadE at h
  repeat' split at h
  all_goals try contradiction
  cases h
  exact ⟨_, _, _, _, _, _, rfl, by assumption, by assumption, by assumption, by assumption, by assumption, rfl⟩

def storeE (Γ : Tab) (mg : MG) (t : Nat) (a y : D) : Option Eff :=
  match a with
  | .ptr b p => match mg b with
    | some e => match ti Γ t with
      | some i => match tyAt e.ty p with
        | some T => match T.beq i.ty with
          | true => match e.rw with
            | true => match getP e.d p with
              | some _ => match setP e.d p y with
                | some d' => some ⟨okP e.d p ∧ hasTy i.ty y, .undef, [(b, some ⟨e.ty, d', true⟩)], 0⟩
                | none => none
              | none => none
            | false => none
          | false => none
        | none => none
      | none => none
    | none => none
  | _ => none

theorem storeE_inv {Γ : Tab} {mg : MG} {t : Nat} {a y : D} {e : Eff} (h : storeE Γ mg t a y = some e) :
    ∃ b p en i T x d', a = .ptr b p ∧ mg b = some en ∧ ti Γ t = some i ∧ tyAt en.ty p = some T ∧ T.beq i.ty = true ∧ en.rw = true ∧ getP en.d p = some x ∧ setP en.d p y = some d' ∧
      e = ⟨okP en.d p ∧ hasTy i.ty y, .undef, [(b, some ⟨en.ty, d', true⟩)], 0⟩ := by
  unfold storeE at h
  repeat' split at h
  all_goals try contradiction
  cases h
  exact ⟨_, _, _, _, _, _, _, rfl, by assumption, by assumption, by assumption, by assumption, by assumption, by assumption, by assumption, rfl⟩

def newE (nx : Nat) (T : Ty) (d : D) (v : D) (ob : Prop) : Option Eff :=
  match Nat.blt nx 1000000 with
  | true => some ⟨ob, v, [(nx, some ⟨T, d, true⟩)], 1⟩
  | false => none

def allocE (Γ : Tab) (nx t : Nat) : Option Eff :=
  match ti Γ t with
  | some i => newE nx i.ty i.zero (.ptr nx []) True
  | none => none

def boxE (Γ : Tab) (nx t : Nat) (x : D) : Option Eff :=
  match ti Γ t with
  | some i => newE nx i.ty x (.ptr nx []) (hasTy i.ty x)
  | none => none

def pureE (ob : Prop) (v : D) : Option Eff := some ⟨ob, v, [], 0⟩

def Ty.agg : Ty → Bool
  | .cell => false
  | _ => true

/-- sound: what an operation does is what the effect says -/
def Sound {α : Type} (P : Program) (s : Sem α) (val : α → Value) (X : Ctx) (ρ : Env) (m : Mem) (w : World) (nx : Nat) (e : Eff) : Prop :=
  ∃ r w' ρ', s.run P w = .ok r w' ∧ ρ.le ρ' ∧ (∀ i, ρ' i ≠ none → ρ i ≠ none ∨ (nx ≤ i ∧ i < nx + e.nw)) ∧ Rep ρ' e.v (val r) ∧ Inv X ρ' (e.up ++ m) w'

theorem Env.le_refl (ρ : Env) : ρ.le ρ := fun _ _ h => h

theorem Sound.pure {α : Type} {P : Program} {s : Sem α} {val : α → Value} {X : Ctx} {ρ : Env} {m : Mem} {w : World} {nx : Nat} {ob : Prop} {v : D} {r : α} (hI : Inv X ρ m w)
    (hr : s.run P w = .ok r w) (hv : Rep ρ v (val r)) : Sound P s val X ρ m w nx ⟨ob, v, [], 0⟩ :=
  ⟨r, w, ρ, hr, Env.le_refl ρ, fun _ h => .inl h, hv, hI⟩

section
set_option linter.unusedSectionVars false
variable {P : Program} {Γ : Tab} (hΓ : TabOk P Γ) {X : Ctx} {ρ : Env} {m : Mem} {w : World} (hI : Inv X ρ m w) {mg : MG} (hm : ∀ b e, mg b = some e → get m b = some e) {nx : Nat}
include hΓ

theorem run_sizeOf {t : Nat} {i : TI} (h : ti Γ t = some i) (w : World) : (sizeOf t).run P w = .ok i.ty.size w := by
  obtain ⟨inf, z, h1, h2, _⟩ := (hΓ t i h).info
  simp [sizeOf, typeInfo, h1, h2]

theorem run_zeroValue {t : Nat} {i : TI} (h : ti Γ t = some i) (w : World) : ∃ z, (zeroValue t).run P w = .ok z w ∧ ∀ ρ, All2 (RepS ρ) i.zero.flat z.cells.toList := by
  obtain ⟨inf, z, h1, h2, h3, h4, h5⟩ := (hΓ t i h).info
  exact ⟨z, by simp [zeroValue, typeInfo, h1, h4], h5⟩

theorem run_isAgg {t : Nat} {i : TI} (h : ti Γ t = some i) (w : World) : (isAgg t).run P w = .ok i.ty.agg w := by
  have hd := (hΓ t i h).desc
  obtain ⟨desc, ty, zero, bytes⟩ := i
  unfold DescOk at hd
  simp only [isAgg, underlying, Sem.run_bind, run_program, Result.andThen_ok]
  cases desc <;> simp only at hd <;> first
    | exact hd.elim
    | (obtain ⟨fs, Ts, h1, h2, _⟩ := hd; subst h2; rw [h1]; rfl)
    | (obtain ⟨h1, T, h2, _⟩ := hd; subst h2; rw [h1]; rfl)
    | (obtain ⟨⟨a, b, c, h1⟩, h2⟩ := hd; subst h2; rw [h1]; rfl)
    | (obtain ⟨h1, h2⟩ := hd; subst h2; rw [h1]; rfl)

omit hΓ in
theorem hasTy_agg {T : Ty} {d : D} (h : hasTy T d) (hT : T.flatTy) : d.isAgg = T.agg := by
  cases T with
  | cell =>
    have h : d.isCell = true := h
    cases d <;> first | rfl | simp [D.isCell] at h
  | row t => exact hT.elim
  | arr n t => cases d <;> first | rfl | exact h.elim
  | st fs => cases d <;> first | rfl | exact h.elim

theorem run_loadVar {t : Nat} {i : TI} (h : ti Γ t = some i) {a : Addr} {x : D} {vs : List Value} {ρ : Env} {w : World} (hx : hasTy i.ty x) (hr : All2 (RepS ρ) x.flat vs)
    (hc : ∀ j v, vs[j]? = some v → w.cell? (a.add j) = some v) : ∃ v, (loadVar t a).run P w = .ok v w ∧ Rep ρ x v := by
  have hf := (hΓ t i h).flat
  obtain ⟨inf, z, h1, h2, _⟩ := (hΓ t i h).info
  have hA := run_isAgg hΓ h w
  have hagg := hasTy_agg hx hf
  unfold loadVar
  rw [Sem.run_bind, hA, Result.andThen_ok]
  cases hc' : x.isAgg with
  | false =>
    rw [hc'] at hagg
    rw [← hagg]
    have hcell : x.isCell = true := by
      cases hT : i.ty <;> rw [hT] at hagg hx <;> first | exact hx | (simp [Ty.agg] at hagg)
    rw [D.flat_cell hcell] at hr
    cases vs with
    | nil => exact hr.elim
    | cons v vs =>
      have := hc 0 v rfl
      refine ⟨v, ?_, rep_of_repS hcell hr.1⟩
      have ha : a.add 0 = a := by simp [Addr.add]
      rw [ha] at this
      simp [run_load, this]
  | true =>
    rw [hc'] at hagg
    rw [← hagg]
    have hlen : vs.length = i.ty.size := by rw [← hr.length, hasTy_length _ _ hf hx]
    refine ⟨.agg vs.toArray, ?_, ?_⟩
    · simp only [if_true, Sem.run_bind, sizeOf, typeInfo, run_program, Result.andThen_ok, h1, Sem.run_pure, h2, ← hlen, run_loadCells_list w a vs hc]
    · rw [rep_eq (by cases x <;> simp_all [D.isAgg, D.isTup])]
      unfold RepV
      rw [hc']
      exact ⟨vs, rfl, hr⟩

include hI

include hm in
theorem sound_load {t : Nat} {d : D} {v : Value} {e : Eff} (he : loadE Γ mg t d = some e) (ho : e.ob) (hd : Rep ρ d v) : Sound P (Instr.loadAt t v) id X ρ m w nx e := by
  obtain ⟨b, p, en, i, T, x, rfl, hg, hi, hT, hb, hx, rfl⟩ := loadE_inv he
  obtain ⟨L, h1, rfl⟩ := hd
  obtain ⟨L', h2, h3⟩ := hI.sat b en (hm _ _ hg)
  rw [h1] at h2; cases h2
  have := Ty.eq_of_beq _ _ hb; subst this
  obtain ⟨h4, vs, h5, h6⟩ := h3.read hT ho hx
  obtain ⟨v, h7, h8⟩ := run_loadVar hΓ hi h4 h5 (a := ⟨L.blk, L.base + offAt L.ty p, none⟩) (fun j v hj => by rw [add_none]; exact h6 j v hj)
  exact Sound.pure hI (by simpa [Instr.loadAt, Instr.sureAddr] using h7) h8

include hm in
theorem sound_store {t : Nat} {d y : D} {v yv : Value} {e : Eff} (he : storeE Γ mg t d y = some e) (ho : e.ob) (hd : Rep ρ d v) (hy : Rep ρ y yv) :
    Sound P (Instr.storeAt t v yv) (fun _ => undef) X ρ m w nx e := by
  obtain ⟨b, p, en, i, T, x, d', rfl, hg, hi, hT, hb, hrw, hx, hs, rfl⟩ := storeE_inv he
  obtain ⟨ho, hty⟩ := ho
  obtain ⟨L, h1, rfl⟩ := hd
  obtain ⟨L', h2, h3⟩ := hI.sat b en (hm _ _ hg)
  rw [h1] at h2; cases h2
  have := Ty.eq_of_beq _ _ hb; subst this
  obtain ⟨hxT, _⟩ := h3.read hT ho hx
  have hf := (hΓ t i hi).flat
  have hcs := rep_cells hty hy
  obtain ⟨C', h4, h5⟩ := h3.write (P := P) hT ho hx hs hty (by rw [hasTy_length _ _ hf hxT, hasTy_length _ _ hf hty]) hcs hrw
  refine ⟨(), World.putBlk w L.blk C', ρ, ?_, Env.le_refl ρ, fun _ h => .inl h, trivial, ?_⟩
  · obtain ⟨inf, z, g1, g2, _⟩ := (hΓ t i hi).info
    have hsz : yv.cells.size = i.ty.size := by rw [← Array.length_toList, ← hcs.length, hasTy_length _ _ hf hty]
    simp [Instr.storeAt, Instr.sureAddr, storeVar, sizeOf, typeInfo, g1, g2, hsz, h4]
  · refine hI.put (hm _ _ hg) hrw h1 rfl ?_
    have : ({ en with d := d' } : Ent) = ⟨en.ty, d', true⟩ := by cases en; simp_all
    rw [← this]; exact h5

/-- a new block -/
theorem sound_new {α : Type} {s : Sem α} {val : α → Value} {T : Ty} {d v : D} {ob : Prop} {e : Eff} {C : Array Value} {t : TypeId} {front tail : List Value} {r : α}
    (hnx : ρ nx = none) (he : newE nx T d v ob = some e) (hg : T.good) (hty : hasTy T d) (hr : All2 (RepS ρ) d.flat front) (hC : C.toList = front ++ tail)
    {fr : Nat × Nat} {w0 : World} (hw0 : Inv X ρ m w0) (hfr : unfrozen C fr) (hrun : s.run P w = .ok r (w0.alloc (.cells C t fr)))
    (hv : ∀ ρ' : Env, ρ.le ρ' → ρ' nx = some ⟨w0.heap.size, 0, C.size, T⟩ → Rep ρ' v (val r)) : Sound P s val X ρ m w nx e := by
  unfold newE at he
  split at he <;> try contradiction
  rename_i hlt
  cases he
  obtain ⟨h1, h2⟩ := hw0.alloc (e := ⟨T, d, true⟩) (t := t) hnx (by simp [Nat.blt] at hlt; omega) hg hty hr hC hfr
  refine ⟨r, _, _, hrun, h1, ?_, ?_, h2⟩
  · intro i hi
    unfold Env.put at hi
    split at hi
    · subst_vars; exact .inr ⟨Nat.le_refl _, by simp⟩
    · exact .inl hi
  · exact hv _ h1 (by simp [Env.put])

theorem sound_alloc {t : Nat} {e : Eff} (hnx : ρ nx = none) (he : allocE Γ nx t = some e) : Sound P (Instr.alloc t true (.tuple #[])) id X ρ m w nx e := by
  unfold allocE at he
  split at he <;> try contradiction
  rename_i i hi
  obtain ⟨z, hz, hrz⟩ := run_zeroValue hΓ hi w
  have hok := hΓ t i hi
  have hg : i.ty.good := by have := hok.flat; cases hT : i.ty <;> simp_all [Ty.good, Ty.flatTy]
  refine sound_new hΓ hI (C := z.cells) (t := t) (front := z.cells.toList) (tail := []) (r := .pointer (some ⟨w.heap.size, 0, none⟩)) hnx he hg hok.zty (hrz ρ) (by simp) hI (fr := (0, 0)) (.inl rfl) ?_ ?_
  · simp [Instr.alloc, hz, newVar, newRow]
  · intro ρ' _ h'
    exact ⟨_, h', by simp [offAt]⟩

theorem sound_box {t : Nat} {x : D} {v : Value} {e : Eff} (hnx : ρ nx = none) (he : boxE Γ nx t x = some e) (ho : e.ob) (hx : Rep ρ x v) : Sound P (Instr.box t v) id X ρ m w nx e := by
  unfold boxE at he
  split at he <;> try contradiction
  rename_i i hi
  have hok := hΓ t i hi
  have hty : hasTy i.ty x := by
    unfold newE at he
    split at he <;> try contradiction
    cases he; exact ho
  have hg : i.ty.good := by have := hok.flat; cases hT : i.ty <;> simp_all [Ty.good, Ty.flatTy]
  refine sound_new hΓ hI (C := v.cells) (t := t) (front := v.cells.toList) (tail := []) (r := .pointer (some ⟨w.heap.size, 0, none⟩)) hnx he hg hty (rep_cells hty hx) (by simp) hI (fr := (0, 0)) (.inl rfl) ?_ ?_
  · simp [Instr.box, newVar, newRow]
  · intro ρ' _ h'
    exact ⟨_, h', by simp [offAt]⟩
end
end Go.Proofs.YtljkjdhkofbgmaaDoor.Av
