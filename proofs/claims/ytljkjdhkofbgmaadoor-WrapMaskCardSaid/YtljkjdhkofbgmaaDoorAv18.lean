import Derived.Test.YtljkjdhkofbgmaaDoorAv17
namespace Go.Proofs.YtljkjdhkofbgmaaDoor.Av
open Go
set_option linter.all false
set_option maxRecDepth 3000

/-! a table of types, checked by running -/
def cellZ : D → Value → Bool
  | .bool b, v => match v with
    | .bool b' => b == b'
    | _ => false
  | .u8 x, v => match v with
    | .int .u8 n => n == x.toNat
    | _ => false
  | .u16 x, v => match v with
    | .int .u16 n => n == x.toNat
    | _ => false
  | .u32 x, v => match v with
    | .int .u32 n => n == x.toNat
    | _ => false
  | .u64 x, v => match v with
    | .int .u64 n => n == x.toNat
    | _ => false
  | .i64 n, v => match v with
    | .int .i64 m => m == n && (decide (-9223372036854775808 ≤ n) && decide (n < 9223372036854775808))
    | _ => false
  | .str [], v => match v with
    | .string s => s.data.toList.isEmpty
    | _ => false
  | .nilptr, v => match v with
    | .pointer none => true
    | _ => false
  | .nilslice, v => match v with
    | .slice none 0 0 => true
    | _ => false
  | .nilfn, v => match v with
    | .nilFunc => true
    | _ => false
  | _, _ => false

theorem cellZ_spec {d : D} {v : Value} (h : cellZ d v = true) (ρ : Env) : RepS ρ d v := by
  unfold cellZ at h
  split at h
  all_goals first
    | (split at h <;> try contradiction)
    | cases h
  all_goals first
    | rfl
    | (have h := beq_iff_eq.1 h; subst h; rfl)
    | skip
  · simp only [Bool.and_eq_true, beq_iff_eq, decide_eq_true_eq] at h
    obtain ⟨rfl, h⟩ := h
    exact ⟨rfl, h⟩
  · rename_i s
    refine ⟨s, rfl, ?_, by decide⟩
    simpa [bytesV] using h

def cellsZ : List D → List Value → Bool
  | [], [] => true
  | d :: ds, v :: vs => cellZ d v && cellsZ ds vs
  | _, _ => false

theorem cellsZ_spec (ρ : Env) : ∀ {ds : List D} {vs : List Value}, cellsZ ds vs = true → All2 (RepS ρ) ds vs
  | [], [], _ => trivial
  | d :: ds, v :: vs, h => by
    simp only [cellsZ, Bool.and_eq_true] at h
    exact ⟨cellZ_spec h.1 ρ, cellsZ_spec ρ h.2⟩
  | [], _ :: _, h => by cases h
  | _ :: _, [], h => by cases h

def allB (p : D → Bool) : List D → Bool
  | [] => true
  | d :: ds => p d && allB p ds

theorem allB_spec {p : D → Bool} {q : D → Prop} (h : ∀ d, p d = true → q d) : ∀ {l : List D}, allB p l = true → AllD q l
  | [], _ => trivial
  | d :: ds, hl => by
    simp only [allB, Bool.and_eq_true] at hl
    exact ⟨h d hl.1, allB_spec h hl.2⟩

mutual
def hasTyB : Ty → D → Bool
  | .cell => fun d => d.isCell
  | .arr n t => fun d => match d with
    | .u8s l => match t with | .cell => l.length == n | _ => false
    | .u32s l => match t with | .cell => l.length == n | _ => false
    | .u64s l => match t with | .cell => l.length == n | _ => false
    | .node l => l.length == n && allB (hasTyB t) l
    | _ => false
  | .row _ => fun _ => false
  | .st fs => fun d => match d with
    | .node l => hasTysB fs l
    | _ => false
def hasTysB : List Ty → List D → Bool
  | [] => fun l => match l with
    | [] => true
    | _ => false
  | t :: ts => fun l => match l with
    | d :: ds => hasTyB t d && hasTysB ts ds
    | [] => false
end

mutual
theorem hasTyB_spec : ∀ {T : Ty} {d : D}, hasTyB T d = true → hasTy T d
  | .cell, d, h => h
  | .arr n t, d, h => by
    cases d <;> simp only [hasTyB] at h <;> try contradiction
    · cases t <;> simp only at h <;> first | contradiction | exact beq_iff_eq.1 h
    · cases t <;> simp only at h <;> first | contradiction | exact beq_iff_eq.1 h
    · cases t <;> simp only at h <;> first | contradiction | exact beq_iff_eq.1 h
    · rw [Bool.and_eq_true] at h
      exact ⟨beq_iff_eq.1 h.1, allB_spec (fun d hd => hasTyB_spec hd) h.2⟩
  | .row t, d, h => by simp only [hasTyB] at h; cases h
  | .st fs, d, h => by
    cases d <;> simp only [hasTyB] at h <;> try contradiction
    exact hasTysB_spec h
theorem hasTysB_spec : ∀ {fs : List Ty} {l : List D}, hasTysB fs l = true → hasTys fs l
  | [], [], _ => trivial
  | t :: ts, d :: ds, h => by
    simp only [hasTysB, Bool.and_eq_true] at h
    exact ⟨hasTyB_spec h.1, hasTysB_spec h.2⟩
  | [], _ :: _, h => by cases h
  | _ :: _, [], h => by cases h
end

mutual
def flatTyB : Ty → Bool
  | .row _ => false
  | .arr _ t => flatTyB t
  | .st fs => flatTysB fs
  | .cell => true
def flatTysB : List Ty → Bool
  | [] => true
  | t :: ts => flatTyB t && flatTysB ts
end

mutual
theorem flatTyB_spec : ∀ {T : Ty}, flatTyB T = true → T.flatTy
  | .cell, _ => trivial
  | .arr _ t, h => flatTyB_spec (T := t) h
  | .st fs, h => flatTysB_spec (fs := fs) h
theorem flatTysB_spec : ∀ {fs : List Ty}, flatTysB fs = true → Ty.flatTys fs
  | [], _ => trivial
  | t :: ts, h => by
    simp only [flatTysB, Bool.and_eq_true] at h
    exact ⟨flatTyB_spec h.1, flatTysB_spec h.2⟩
end

def isCellTy : Ty → Bool
  | .cell => true
  | _ => false

theorem isCellTy_spec {T : Ty} (h : isCellTy T = true) : T = .cell := by cases T <;> first | rfl | cases h

def sizeB (P : Program) (t n : Nat) : Bool :=
  match P.info? t with
  | some i => i.size == n
  | none => false

theorem sizeB_spec {P : Program} {t n : Nat} (h : sizeB P t n = true) : (P.info? t).map (·.size) = some n := by
  unfold sizeB at h
  split at h
  · rename_i i hi; rw [hi]; simp [beq_iff_eq.1 h]
  · cases h

def fieldsB (P : Program) : List Field → List Nat → List Ty → Nat → Bool
  | [], [], [], _ => true
  | f :: fs, t :: ts, T :: Ts, o => (f.type == t && f.offset == o) && (sizeB P t T.size && fieldsB P fs ts Ts (o + T.size))
  | _, _, _, _ => false

theorem fieldsB_spec {P : Program} : ∀ {fs : List Field} {ts : List Nat} {Ts : List Ty} {o : Nat}, fieldsB P fs ts Ts o = true → FieldsOk P fs ts Ts o
  | [], [], [], _, _ => trivial
  | f :: fs, t :: ts, T :: Ts, o, h => by
    simp only [fieldsB, Bool.and_eq_true, beq_iff_eq] at h
    exact ⟨h.1.1, h.1.2, sizeB_spec h.2.1, fieldsB_spec h.2.2⟩
  | [], [], _ :: _, _, h => by cases h
  | [], _ :: _, _, _, h => by cases h
  | _ :: _, [], _, _, h => by cases h
  | _ :: _, _ :: _, [], _, h => by cases h

def descB (P : Program) (t : Nat) (i : TI) : Bool :=
  match i.desc, P.underlying t with
  | .bool, some .bool => isCellTy i.ty
  | .int k, some (.int k') => decide (k' = k) && isCellTy i.ty
  | .str, some .string => isCellTy i.ty
  | .ptr e, some (.pointer e') => e' == e && isCellTy i.ty
  | .slice e, some (.slice e') => e' == e && isCellTy i.ty
  | .arr n e, some (.array n' e') => (n' == n && e' == e) && match i.ty with
    | .arr m T => m == n && sizeB P e T.size
    | _ => false
  | .st ts, some (.struct fs) => match i.ty with
    | .st Ts => fieldsB P fs.toList ts Ts 0
    | _ => false
  | .fn, some (.func _ _ _) => isCellTy i.ty
  | _, _ => false

theorem descB_spec {P : Program} {t : Nat} {i : TI} (h : descB P t i = true) : DescOk P t i := by
  unfold descB at h
  unfold DescOk
  split at h
  rotate_right
  · cases h
  all_goals (rename_i hd hu; rw [hd]; simp only)
  · exact ⟨hu, isCellTy_spec h⟩
  · rename_i k k'
    simp only [Bool.and_eq_true, decide_eq_true_eq] at h
    exact ⟨by rw [hu, h.1], isCellTy_spec h.2⟩
  · exact ⟨hu, isCellTy_spec h⟩
  · simp only [Bool.and_eq_true, beq_iff_eq] at h
    exact ⟨by rw [hu, h.1], isCellTy_spec h.2⟩
  · simp only [Bool.and_eq_true, beq_iff_eq] at h
    exact ⟨by rw [hu, h.1], isCellTy_spec h.2⟩
  · rw [Bool.and_eq_true, Bool.and_eq_true, beq_iff_eq, beq_iff_eq] at h
    obtain ⟨⟨h1, h2⟩, h3⟩ := h
    split at h3 <;> try contradiction
    rename_i m T hT
    rw [Bool.and_eq_true, beq_iff_eq] at h3
    exact ⟨by rw [hu, h1, h2], T, by rw [hT, h3.1], sizeB_spec h3.2⟩
  · split at h <;> try contradiction
    rename_i Ts hT
    exact ⟨_, Ts, hu, hT, fieldsB_spec h⟩
  · exact ⟨⟨_, _, _, hu⟩, isCellTy_spec h⟩

def tiB (P : Program) (t : Nat) (i : TI) : Bool :=
  (!i.eq || (!P.eqGuardType P.depth t && P.keyTypeAt 20 t)) && (descB P t i && (flatTyB i.ty && (hasTyB i.ty i.zero && match P.info? t with
    | some inf => (inf.size == i.ty.size && inf.bytes == i.bytes) && match inf.zero with
      | some z => cellsZ i.zero.flat z.cells.toList
      | none => false
    | none => false)))

theorem tiB_spec {P : Program} {t : Nat} {i : TI} (h : tiB P t i = true) : TiOk P t i := by
  unfold tiB at h
  rw [Bool.and_eq_true, Bool.and_eq_true, Bool.and_eq_true, Bool.and_eq_true] at h
  obtain ⟨h0, h⟩ := h
  have heq : i.eq = true → P.eqGuardType P.depth t = false ∧ P.keyTypeAt 20 t = true := by
    intro he
    rw [he] at h0
    simpa using h0
  obtain ⟨h1, h2, h3, h4⟩ := h
  split at h4 <;> try contradiction
  rename_i inf hi
  rw [Bool.and_eq_true, Bool.and_eq_true, beq_iff_eq, beq_iff_eq] at h4
  obtain ⟨⟨h5, h6⟩, h7⟩ := h4
  split at h7 <;> try contradiction
  rename_i z hz
  exact ⟨descB_spec h1, flatTyB_spec h2, hasTyB_spec h3, ⟨inf, z, hi, h5, h6, hz, fun ρ => cellsZ_spec ρ h7⟩, heq⟩

def tabB (P : Program) : Tab → Bool
  | .z => true
  | .n l k v r => tiB P k v && (tabB P l && tabB P r)

theorem tabB_get {P : Program} : ∀ {Γ : Tab}, tabB P Γ = true → ∀ {t : Nat} {i : TI}, ti Γ t = some i → tiB P t i = true
  | .n l k v r, h, t, i, hm => by
    simp only [tabB, Bool.and_eq_true] at h
    simp only [ti] at hm
    split at hm
    · rename_i hb
      have := Nat.eq_of_beq_eq_true hb
      cases hm; subst this; exact h.1
    · split at hm
      · exact tabB_get h.2.1 hm
      · exact tabB_get h.2.2 hm

theorem tab_ok {P : Program} {Γ : Tab} (h : tabB P Γ = true) : TabOk P Γ := fun _ _ hi =>
  tiB_spec (tabB_get h hi)
end Go.Proofs.YtljkjdhkofbgmaaDoor.Av
