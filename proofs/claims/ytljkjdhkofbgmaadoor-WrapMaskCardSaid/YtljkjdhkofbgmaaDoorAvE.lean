import Derived.Test.YtljkjdhkofbgmaaDoorAv2
import Derived.DeepKeys
namespace Go.Proofs.YtljkjdhkofbgmaaDoor.Av
open Go
set_option linter.all false
set_option maxRecDepth 3000

/-! '==' on arrays and structs -/

def D.lit : D → Lit
  | .bool b => .bool b
  | .u8 x => .int .u8 x.toNat
  | .u16 x => .int .u16 x.toNat
  | .u32 x => .int .u32 x.toNat
  | .u64 x => .int .u64 x.toNat
  | .i64 n => .int .i64 n
  | .str l => .string (bytesV l)
  | _ => .bool false

def fitEs (F : Nat → D → Prop) : List Nat → List D → Prop
  | [], [] => True
  | t :: ts, d :: ds => F t d ∧ fitEs F ts ds
  | _, _ => False

/-- of this type, down to the scalars -/
def fitE (Γ : Tab) : Nat → Nat → D → Prop
  | 0, _, _ => False
  | n + 1, t, x => match ti Γ t with
    | none => False
    | some i => match i.desc with
      | .bool => match x with
        | .bool _ => True
        | _ => False
      | .int k => match k, x with
        | .u8, .u8 _ => True
        | .u16, .u16 _ => True
        | .u32, .u32 _ => True
        | .u64, .u64 _ => True
        | .i64, .i64 _ => True
        | _, _ => False
      | .str => match x with
        | .str _ => True
        | _ => False
      | .arr c el => match x with
        | .u8s l => l.length = c ∧ fitE Γ n el (.u8 0)
        | .u32s l => l.length = c ∧ fitE Γ n el (.u32 0)
        | .u64s l => l.length = c ∧ fitE Γ n el (.u64 0)
        | .node l => l.length = c ∧ AllD (fitE Γ n el) l
        | _ => False
      | .st ts => match x with
        | .node l => fitEs (fitE Γ n) ts l
        | _ => False
      | _ => False

theorem fitE_u8 {Γ : Tab} : ∀ {n t : Nat} {a b : BitVec 8}, fitE Γ n t (.u8 a) → fitE Γ n t (.u8 b)
  | n + 1, t, a, b, h => by
    simp only [fitE] at h ⊢
    split at h <;> try contradiction
    split at h <;> first | contradiction | skip
    all_goals (try (split at h <;> first | contradiction | trivial))
theorem fitE_u32 {Γ : Tab} : ∀ {n t : Nat} {a b : BitVec 32}, fitE Γ n t (.u32 a) → fitE Γ n t (.u32 b)
  | n + 1, t, a, b, h => by
    simp only [fitE] at h ⊢
    split at h <;> try contradiction
    split at h <;> first | contradiction | skip
    all_goals (try (split at h <;> first | contradiction | trivial))
theorem fitE_u64 {Γ : Tab} : ∀ {n t : Nat} {a b : BitVec 64}, fitE Γ n t (.u64 a) → fitE Γ n t (.u64 b)
  | n + 1, t, a, b, h => by
    simp only [fitE] at h ⊢
    split at h <;> try contradiction
    split at h <;> first | contradiction | skip
    all_goals (try (split at h <;> first | contradiction | trivial))

section
variable {P : Program} {Γ : Tab} (hΓ : TabOk P Γ)
include hΓ

theorem cellsOf_ti {t : Nat} {i : TI} (h : ti Γ t = some i) : P.cellsOf t = i.ty.size := by
  obtain ⟨inf, z, h1, h2, _⟩ := (hΓ t i h).info
  unfold Program.cellsOf
  rw [h1]; simp [h2]

/-- an array's element, and its size -/
theorem arr_elem {t : Nat} {i : TI} {c el : Nat} (h : ti Γ t = some i) (hd : i.desc = .arr c el) : P.underlying t = some (.array c el) ∧ P.cellsOf t = c * P.cellsOf el := by
  have := (hΓ t i h).desc
  unfold DescOk at this
  rw [hd] at this
  obtain ⟨h1, T, h2, h3⟩ := this
  refine ⟨h1, ?_⟩
  rw [cellsOf_ti hΓ h, h2]
  unfold Program.cellsOf
  rw [h3]; simp [Ty.size]

theorem scal_cells {n t : Nat} {x : D} (hx : x.isCell = true) (h : fitE Γ n t x) : P.cellsOf t = 1 := by
  cases n with
  | zero => simp [fitE] at h
  | succ n =>
    simp only [fitE] at h
    split at h <;> try contradiction
    rename_i i hi
    have hd := (hΓ t i hi).desc
    unfold DescOk at hd
    rw [cellsOf_ti hΓ hi]
    split at h
    · rename_i he; rw [he] at hd; rw [hd.2]; rfl
    · rename_i he; rw [he] at hd; rw [hd.2]; rfl
    · rename_i he; rw [he] at hd; rw [hd.2]; rfl
    · cases x <;> simp_all [D.isCell]
    · cases x <;> simp_all [D.isCell]
    · contradiction


omit hΓ in
theorem flats_u8 (l : List (BitVec 8)) : D.flats (l.map .u8) = l.map .u8 := by
  induction l with
  | nil => rfl
  | cons a r ih => simp only [List.map_cons, D.flats, ih]; rfl
omit hΓ in
theorem flats_u32 (l : List (BitVec 32)) : D.flats (l.map .u32) = l.map .u32 := by
  induction l with
  | nil => rfl
  | cons a r ih => simp only [List.map_cons, D.flats, ih]; rfl
omit hΓ in
theorem flats_u64 (l : List (BitVec 64)) : D.flats (l.map .u64) = l.map .u64 := by
  induction l with
  | nil => rfl
  | cons a r ih => simp only [List.map_cons, D.flats, ih]; rfl

omit hΓ in
theorem flats_len {sz : Nat} : ∀ {ds : List D}, (∀ d ∈ ds, d.flat.length = sz) → (D.flats ds).length = ds.length * sz
  | [], _ => by simp [D.flats]
  | d :: ds, h => by
    rw [D.flats, List.length_append, h d (by simp), flats_len (fun x hx => h x (List.mem_cons_of_mem _ hx)), List.length_cons, Nat.succ_mul]; omega

omit hΓ in
theorem fields_len {F : Nat → D → Prop} (hF : ∀ t d, F t d → d.flat.length = P.cellsOf t) : ∀ {fs : List Field} {ts : List Nat} {Ts : List Ty} {o : Nat} {ds : List D}, FieldsOk P fs ts Ts o → fitEs F ts ds → (D.flats ds).length = Ty.sizes Ts
  | [], [], [], _, [], _, _ => rfl
  | f :: fs, t :: ts, T :: Ts, o, d :: ds, h, h' => by
    have e : P.cellsOf t = T.size := by unfold Program.cellsOf; rw [h.2.2.1]; rfl
    rw [D.flats, List.length_append, hF t d h'.1, e, fields_len hF h.2.2.2 h'.2]; rfl
  | [], [], [], _, _ :: _, _, h => h.elim
  | _ :: _, _ :: _, _ :: _, _, [], _, h => h.elim
  | _ :: _, [], _, _, _, h, _ => h.elim
  | _ :: _, _ :: _, [], _, _, h, _ => h.elim
  | [], _ :: _, _, _, _, h, _ => h.elim
  | [], [], _ :: _, _, _, h, _ => h.elim

theorem fitE_len : ∀ (n t : Nat) (x : D), fitE Γ n t x → x.flat.length = P.cellsOf t
  | 0, _, _, h => by simp [fitE] at h
  | n + 1, t, x, h => by
    have h0 := h
    simp only [fitE] at h
    split at h <;> try contradiction
    rename_i i hi
    split at h
    · cases x <;> first | contradiction | (rw [scal_cells hΓ rfl h0]; rfl)
    · cases x <;> first | (rw [scal_cells hΓ rfl h0]; rfl) | (split at h <;> simp_all)
    · cases x <;> first | contradiction | (rw [scal_cells hΓ rfl h0]; rfl)
    · rename_i c el hd
      obtain ⟨hu, hs⟩ := arr_elem hΓ hi hd
      rw [hs]
      cases x <;> try contradiction
      case u8s l => simp only [D.flat, List.length_map]; rw [h.1, scal_cells hΓ rfl h.2, Nat.mul_one]
      case u32s l => simp only [D.flat, List.length_map]; rw [h.1, scal_cells hΓ rfl h.2, Nat.mul_one]
      case u64s l => simp only [D.flat, List.length_map]; rw [h.1, scal_cells hΓ rfl h.2, Nat.mul_one]
      case node l =>
        simp only [D.flat]
        rw [flats_len (fun d hd => fitE_len n el d (AllD_mem.1 h.2 d hd)), h.1]
    · rename_i ts hd
      cases x <;> try contradiction
      rename_i l
      have hD := (hΓ t i hi).desc
      unfold DescOk at hD
      rw [hd] at hD
      obtain ⟨fs, Ts, h1, h2, h3⟩ := hD
      rw [cellsOf_ti hΓ hi, h2]
      exact fields_len (fitE_len n) h3 h
    · contradiction

omit hΓ in
theorem chunks {R : D → Value → Prop} {β : Type} (f : List Value → Option β) (g : D → β) (sz : Nat) : ∀ (ds : List D) (k : Nat) (cs : List Value),
    (∀ d ∈ ds, d.flat.length = sz ∧ ∀ c, All2 R d.flat c → f c = some (g d)) → All2 R (D.flats ds) (cs.drop (k * sz)) → (List.range' k ds.length).mapM (fun i => f ((cs.drop (i * sz)).take sz)) = some (ds.map g)
  | [], k, cs, _, _ => by simp
  | d :: ds, k, cs, h, H => by
    obtain ⟨c1, c2, e, h1, h2⟩ := All2.split_left (as := d.flat) H
    have hl : c1.length = sz := h1.length.symm.trans (h d (by simp)).1
    have e1 : (cs.drop (k * sz)).take sz = c1 := by rw [e, ← hl, List.take_left]
    have e2 : cs.drop ((k + 1) * sz) = c2 := by rw [Nat.succ_mul, ← List.drop_drop, e, ← hl, List.drop_left]
    rw [List.length_cons, List.range'_succ, List.mapM_cons, e1, (h d (by simp)).2 c1 h1, chunks f g sz ds (k + 1) cs (fun x hx => h x (List.mem_cons_of_mem _ hx)) (by rw [e2]; exact h2)]
    rfl

omit hΓ in
theorem fieldsM {R : D → Value → Prop} {β : Type} (f : Nat → List Value → Option β) (g : D → β) (cs : List Value) : ∀ (fs : List Field) (ts : List Nat) (Ts : List Ty) (o : Nat) (ds : List D),
    FieldsOk P fs ts Ts o → fitEs (fun t d => d.flat.length = P.cellsOf t ∧ ∀ c, All2 R d.flat c → f t c = some (g d)) ts ds → All2 R (D.flats ds) (cs.drop o) →
    fs.mapM (fun fd => f fd.type ((cs.drop fd.offset).take (P.cellsOf fd.type))) = some (ds.map g)
  | [], [], [], _, [], _, _, _ => by simp
  | fd :: fs, t :: ts, T :: Ts, o, d :: ds, h, h', H => by
    obtain ⟨c1, c2, e, h1, h2⟩ := All2.split_left (as := d.flat) H
    have hs : P.cellsOf t = T.size := by unfold Program.cellsOf; rw [h.2.2.1]; rfl
    have hl : c1.length = P.cellsOf t := h1.length.symm.trans h'.1.1
    have e1 : (cs.drop o).take (P.cellsOf t) = c1 := by rw [e, ← hl, List.take_left]
    have e2 : cs.drop (o + T.size) = c2 := by rw [← hs, ← List.drop_drop, e, ← hl, List.drop_left]
    rw [List.mapM_cons, h.1, h.2.1, e1, h'.1.2 c1 h1, fieldsM f g cs fs ts Ts (o + T.size) ds h.2.2.2 h'.2 (by rw [e2]; exact h2)]
    rfl
  | [], [], [], _, _ :: _, _, h, _ => h.elim
  | _ :: _, _ :: _, _ :: _, _, [], _, h, _ => h.elim
  | _ :: _, [], _, _, _, h, _, _ => h.elim
  | _ :: _, _ :: _, [], _, _, h, _, _ => h.elim
  | [], _ :: _, _, _, _, h, _, _ => h.elim
  | [], [], _ :: _, _, _, h, _, _ => h.elim

omit hΓ in
theorem flats_lit (ds : List D) : (ds.map (fun d => d.flat.map D.lit)).flatten = (D.flats ds).map D.lit := by
  induction ds with
  | nil => rfl
  | cons d ds ih => simp only [List.map_cons, List.flatten_cons, D.flats, List.map_append, ih]

omit hΓ in
theorem fitEs_mono {F G : Nat → D → Prop} : ∀ {ts : List Nat} {ds : List D}, (∀ t ∈ ts, ∀ d, F t d → G t d) → fitEs F ts ds → fitEs G ts ds
  | [], [], _, _ => trivial
  | t :: ts, d :: ds, h, h' => ⟨h t (by simp) d h'.1, fitEs_mono (fun x hx => h x (List.mem_cons_of_mem _ hx)) h'.2⟩
  | [], _ :: _, _, h => h.elim
  | _ :: _, [], _, h => h.elim

omit hΓ in
theorem fields_types : ∀ {fs : List Field} {ts : List Nat} {Ts : List Ty} {o : Nat}, FieldsOk P fs ts Ts o → ts = fs.map (·.type)
  | [], [], [], _, _ => rfl
  | f :: fs, t :: ts, T :: Ts, o, h => by rw [List.map_cons, h.1, fields_types h.2.2.2]
  | _ :: _, [], _, _, h => h.elim
  | _ :: _, _ :: _, [], _, h => h.elim
  | [], _ :: _, _, _, h => h.elim
  | [], [], _ :: _, _, h => h.elim

omit hΓ in
theorem all2_one {R : D → Value → Prop} {d : D} {cs : List Value} (H : All2 R [d] cs) : ∃ v, cs = [v] ∧ R d v := by
  match cs, H with
  | [v], H => exact ⟨v, rfl, H.1⟩

omit hΓ in
theorem keyLits_int_at {n t : Nat} {k : IntKind} {a : Int} (hD : P.underlying t = some (.int k)) (hw : (Lit.int k a).wf = true) : P.keyLits (n + 1) t [.int k a] = some [.int k a] := by
  simp [Program.keyLits, hD, hw]

theorem fitE_keys {ρ : Env} : ∀ (n m t : Nat) (x : D) (cs : List Value), fitE Γ n t x → P.keyTypeAt m t = true → All2 (RepS ρ) x.flat cs → P.keyLits n t cs = some (x.flat.map D.lit)
  | 0, _, _, _, _, h, _, _ => by simp [fitE] at h
  | _ + 1, 0, _, _, _, _, hk, _ => by simp [Program.keyTypeAt] at hk
  | n + 1, m + 1, t, x, cs, h, hk, H => by
    have hlen := fitE_len hΓ (n + 1) t x h
    rw [H.length] at hlen
    simp only [fitE] at h
    split at h <;> try contradiction
    rename_i i hi
    have hD := (hΓ t i hi).desc
    unfold DescOk at hD
    split at h
    · rename_i hd; rw [hd] at hD
      cases x <;> try contradiction
      rename_i b
      match cs, H with
      | [v], H =>
        have hv : v = .bool b := H.1
        subst hv
        simp [Program.keyLits, hD.1, D.flat, D.lit]
    · rename_i k hd; rw [hd] at hD
      split at h <;> try contradiction
      all_goals
        obtain ⟨v, rfl, hv⟩ := all2_one H
        simp only [RepS, RepB] at hv
      · rename_i a; subst hv
        have := a.isLt
        exact keyLits_int_at hD.1 (by simp [Lit.wf, IntKind.min, IntKind.max, IntKind.signed, IntKind.bits]; omega)
      · rename_i a; subst hv
        have := a.isLt
        exact keyLits_int_at hD.1 (by simp [Lit.wf, IntKind.min, IntKind.max, IntKind.signed, IntKind.bits]; omega)
      · rename_i a; subst hv
        have := a.isLt
        exact keyLits_int_at hD.1 (by simp [Lit.wf, IntKind.min, IntKind.max, IntKind.signed, IntKind.bits]; omega)
      · rename_i a; subst hv
        have := a.isLt
        exact keyLits_int_at hD.1 (by simp [Lit.wf, IntKind.min, IntKind.max, IntKind.signed, IntKind.bits]; omega)
      · obtain ⟨rfl, h1, h2⟩ := hv
        exact keyLits_int_at hD.1 (by simp [Lit.wf, IntKind.min, IntKind.max, IntKind.signed, IntKind.bits]; omega)
    · rename_i hd; rw [hd] at hD
      cases x <;> try contradiction
      rename_i l
      match cs, H with
      | [v], H =>
        obtain ⟨s, rfl, h1, h2⟩ := H.1
        have hsz : s.size ≤ maxLen := by
          have := congrArg List.length h1
          simp [bytesV] at this
          have e : s.size = s.data.size := rfl
          unfold maxLen
          omega
        simp [Program.keyLits, hD.1, D.flat, D.lit, hsz, h1]
    · rename_i c el hd
      obtain ⟨hu, hs⟩ := arr_elem hΓ hi hd
      have hke : P.keyTypeAt m el = true := by
        unfold Program.keyTypeAt at hk
        rw [hu] at hk; exact hk
      have key : ∀ ds : List D, x.flat = D.flats ds → ds.length = c → (∀ d ∈ ds, fitE Γ n el d) → P.keyLits (n + 1) t cs = some (x.flat.map D.lit) := by
        intro ds hf hc hall
        rw [hf] at H ⊢
        have := chunks (R := RepS ρ) (P.keyLits n el) (fun d => d.flat.map D.lit) (P.cellsOf el) ds 0 cs (fun d hd => ⟨fitE_len hΓ n el d (hall d hd), fun c' hc' => fitE_keys n m el d c' (hall d hd) hke hc'⟩) (by simpa using H)
        unfold Program.keyLits
        simp only [hu]
        rw [if_pos hlen, List.range_eq_range', ← hc, this, Option.map_some, flats_lit]
      cases x <;> try contradiction
      case u8s l => exact key (l.map .u8) (by rw [flats_u8]; rfl) (by rw [List.length_map, h.1]) (fun d hd => by
        obtain ⟨a, _, rfl⟩ := List.mem_map.1 hd; exact fitE_u8 h.2)
      case u32s l => exact key (l.map .u32) (by rw [flats_u32]; rfl) (by rw [List.length_map, h.1]) (fun d hd => by
        obtain ⟨a, _, rfl⟩ := List.mem_map.1 hd; exact fitE_u32 h.2)
      case u64s l => exact key (l.map .u64) (by rw [flats_u64]; rfl) (by rw [List.length_map, h.1]) (fun d hd => by
        obtain ⟨a, _, rfl⟩ := List.mem_map.1 hd; exact fitE_u64 h.2)
      case node l => exact key l rfl h.1 (AllD_mem.1 h.2)
    · rename_i ts hd
      cases x <;> try contradiction
      rename_i l
      rw [hd] at hD
      obtain ⟨fs, Ts, h1, h2, h3⟩ := hD
      unfold Program.keyTypeAt at hk
      rw [h1] at hk
      simp only [Bool.and_eq_true] at hk
      have hall : ∀ f ∈ fs.toList, f.name ≠ "_" ∧ P.keyTypeAt m f.type = true := fun f hf => by
        have := Array.all_eq_true_iff_forall_mem.1 hk.1.1 f (Array.mem_toList_iff.1 hf)
        simpa only [Bool.and_eq_true, bne_iff_ne, ne_eq] using this
      have hts := fields_types h3
      have := fieldsM (P := P) (R := RepS ρ) (P.keyLits n) (fun d => d.flat.map D.lit) cs fs.toList ts Ts 0 l h3
        (fitEs_mono (fun t' ht' d hd' => ⟨fitE_len hΓ n t' d hd', fun c' hc' => fitE_keys n m t' d c' hd' (by
          rw [hts] at ht'
          obtain ⟨f, hf, rfl⟩ := List.mem_map.1 ht'
          exact (hall f hf).2) hc'⟩) h) (by simpa [D.flat] using H)
      unfold Program.keyLits
      simp only [h1]
      rw [if_pos ⟨hlen, Array.all_eq_true_iff_forall_mem.2 (fun f hf => by simpa using (hall f (Array.mem_toList_iff.2 hf)).1)⟩, this, Option.map_some, flats_lit]
      rfl
    · contradiction

omit hΓ in
theorem eqbs_iff : ∀ {ds ds' : List D}, All2 (fun d d' => d.flat.length = d'.flat.length ∧ (d.eqb d' = true ↔ d.flat.map D.lit = d'.flat.map D.lit)) ds ds' → (D.eqbs ds ds' = true ↔ (D.flats ds).map D.lit = (D.flats ds').map D.lit)
  | [], [], _ => by simp [D.eqbs]
  | d :: ds, d' :: ds', h => by
    simp only [D.eqbs, D.flats, List.map_append, Bool.and_eq_true]
    rw [h.1.2, eqbs_iff h.2]
    constructor
    · rintro ⟨h1, h2⟩; rw [h1, h2]
    · intro h1
      exact List.append_inj h1 (by simp [h.1.1])
  | [], _ :: _, h => h.elim
  | _ :: _, [], h => h.elim

omit hΓ in
theorem sames_all2 {F : D → D → Prop} : ∀ {ds ds' : List D}, D.sames ds ds' → (∀ d ∈ ds, ∀ d' ∈ ds', d.same d' → F d d') → All2 F ds ds'
  | [], [], _, _ => trivial
  | d :: ds, d' :: ds', h, hF => ⟨hF d (by simp) d' (by simp) h.1, sames_all2 h.2 (fun x hx y hy => hF x (List.mem_cons_of_mem _ hx) y (List.mem_cons_of_mem _ hy))⟩
  | [], _ :: _, h, _ => h.elim
  | _ :: _, [], h, _ => h.elim

omit hΓ in
theorem sames_fits {G : D → D → Prop} {F : Nat → D → Prop} (hF : ∀ t d d', F t d → F t d' → d.same d' → G d d') : ∀ {ts : List Nat} {ds ds' : List D}, D.sames ds ds' → fitEs F ts ds → fitEs F ts ds' → All2 G ds ds'
  | [], [], [], _, _, _ => trivial
  | t :: ts, d :: ds, d' :: ds', h, h1, h2 => ⟨hF t d d' h1.1 h2.1 h.1, sames_fits hF h.2 h1.2 h2.2⟩
  | [], _ :: _, _, _, h, _ => h.elim
  | _ :: _, [], _, _, h, _ => h.elim
  | [], [], _ :: _, _, _, h => h.elim
  | _ :: _, _ :: _, [], _, _, h => h.elim

omit hΓ in
theorem bytesV_iff {a b : List Byte} : bytesV a = bytesV b ↔ a = b := by
  unfold bytesV
  exact List.map_inj_right (fun x y h => by cases h; rfl)

omit hΓ in
theorem scal_eqb {x y : D} (h : scalSame x y) : eqScal x y = true ↔ x.lit = y.lit := by
  unfold scalSame at h
  split at h <;> try contradiction
  · simp [eqScal, D.lit]
  · simp only [eqScal, D.lit, decide_eq_true_eq]
    exact ⟨fun h => by rw [h], fun h => BitVec.eq_of_toNat_eq (by have := (Lit.int.inj h).2; omega)⟩
  · simp only [eqScal, D.lit, decide_eq_true_eq]
    exact ⟨fun h => by rw [h], fun h => BitVec.eq_of_toNat_eq (by have := (Lit.int.inj h).2; omega)⟩
  · simp only [eqScal, D.lit, decide_eq_true_eq]
    exact ⟨fun h => by rw [h], fun h => BitVec.eq_of_toNat_eq (by have := (Lit.int.inj h).2; omega)⟩
  · simp only [eqScal, D.lit, decide_eq_true_eq]
    exact ⟨fun h => by rw [h], fun h => BitVec.eq_of_toNat_eq (by have := (Lit.int.inj h).2; omega)⟩
  · simp [eqScal, D.lit]
  · simp [eqScal, D.lit, bytesV_iff]

theorem fitE_eqb : ∀ (n t : Nat) (x y : D), fitE Γ n t x → fitE Γ n t y → x.same y → (x.eqb y = true ↔ x.flat.map D.lit = y.flat.map D.lit)
  | 0, _, _, _, h, _, _ => by simp [fitE] at h
  | n + 1, t, x, y, h, h', hs => by
    have scal : scalSame x y → x.eqb y = eqScal x y → x.flat = [x] → y.flat = [y] → (x.eqb y = true ↔ x.flat.map D.lit = y.flat.map D.lit) := by
      intro h1 h2 h3 h4
      rw [h2, h3, h4, scal_eqb h1]; simp
    have node : ∀ l l', x = .node l → y = .node l' → All2 (fun d d' => d.flat.length = d'.flat.length ∧ (d.eqb d' = true ↔ d.flat.map D.lit = d'.flat.map D.lit)) l l' → (x.eqb y = true ↔ x.flat.map D.lit = y.flat.map D.lit) := by
      intro l l' h1 h2 h3
      subst h1 h2
      simp only [D.eqb, D.flat]
      exact eqbs_iff h3
    simp only [fitE] at h h'
    split at h <;> try contradiction
    rename_i i hi
    simp only [hi] at h'
    split at h
    · rename_i hd
      cases x <;> try contradiction
      cases y <;> simp only [D.same, scalSame] at hs
      exact scal trivial rfl rfl rfl
    · rename_i k hd
      split at h <;> try contradiction
      all_goals (cases y <;> simp only [D.same, scalSame] at hs)
      all_goals exact scal trivial rfl rfl rfl
    · rename_i hd
      cases x <;> try contradiction
      cases y <;> simp only [D.same, scalSame] at hs
      exact scal trivial rfl rfl rfl
    · rename_i c el hd
      rw [hd] at h'
      cases x <;> try contradiction
      · cases y <;> simp only [D.same] at hs
        simp only [D.eqb, D.flat, decide_eq_true_eq, List.map_map]
        exact (List.map_inj_right (fun a b hab => BitVec.eq_of_toNat_eq (by have := (Lit.int.inj hab).2; omega))).symm
      · cases y <;> simp only [D.same] at hs
        simp only [D.eqb, D.flat, decide_eq_true_eq, List.map_map]
        exact (List.map_inj_right (fun a b hab => BitVec.eq_of_toNat_eq (by have := (Lit.int.inj hab).2; omega))).symm
      · cases y <;> simp only [D.same] at hs
        simp only [D.eqb, D.flat, decide_eq_true_eq, List.map_map]
        exact (List.map_inj_right (fun a b hab => BitVec.eq_of_toNat_eq (by have := (Lit.int.inj hab).2; omega))).symm
      · cases y <;> simp only [D.same] at hs
        rename_i l l'
        have f1 := AllD_mem.1 h.2
        have f2 := AllD_mem.1 h'.2
        exact node l l' rfl rfl (sames_all2 hs (fun d hd d' hd' hq => ⟨by rw [fitE_len hΓ n el d (f1 d hd), fitE_len hΓ n el d' (f2 d' hd')], fitE_eqb n el d d' (f1 d hd) (f2 d' hd') hq⟩))
    · rename_i ts hd
      rw [hd] at h'
      cases x <;> try contradiction
      cases y <;> simp only [D.same] at hs
      rename_i l l'
      exact node l l' rfl rfl (sames_fits (F := fitE Γ n) (fun t' d d' q1 q2 q3 => ⟨by rw [fitE_len hΓ n t' d q1, fitE_len hΓ n t' d' q2], fitE_eqb n t' d d' q1 q2 q3⟩) hs h h')
    · contradiction

theorem eq_sound {t : Nat} {i : TI} (hi : ti Γ t = some i) (he : i.eq = true) {x y : D} {vx vy : Value} {ρ : Env} {w : World} (fx : fitE Γ 20 t x) (fy : fitE Γ 20 t y) (hs : x.same y) (hax : x.isAgg = true) (hay : y.isAgg = true) (hx : Rep ρ x vx) (hy : Rep ρ y vy) :
    (Op.equal t vx vy).run P w = .ok (x.eqb y) w := by
  have hk := ((hΓ t i hi).eq he).2
  have formed : ∀ (z : D) (cs : List Value), fitE Γ 20 t z → z.isAgg = true → All2 (RepS ρ) z.flat cs → (Value.agg cs.toArray).formed P t = true := by
    intro z cs hz haz H
    have hl := fitE_len hΓ 20 t z hz
    rw [H.length] at hl
    have hsz : (cs.toArray.size == P.cellsOf t) = true := by simpa using hl
    unfold fitE at hz
    rw [hi] at hz
    simp only [] at hz
    have hD := (hΓ t i hi).desc
    unfold DescOk at hD
    split at hz
    · cases z <;> first | exact hz.elim | (simp [D.isAgg] at haz; done)
    · split at hz <;> first | contradiction | (simp [D.isAgg] at haz; done)
    · cases z <;> first | exact hz.elim | (simp [D.isAgg] at haz; done)
    · rename_i hd; rw [hd] at hD
      simp only [Value.formed, hD.1]; exact hsz
    · rename_i hd; rw [hd] at hD
      obtain ⟨fs, Ts, h1, _⟩ := hD
      simp only [Value.formed, h1]; exact hsz
    · contradiction
  have tup : ∀ z : D, z.isAgg = true → z.isTup = false := by intro z; cases z <;> simp [D.isAgg, D.isTup]
  rw [rep_eq (tup x hax)] at hx
  rw [rep_eq (tup y hay)] at hy
  unfold RepV at hx hy
  rw [hax] at hx
  rw [hay] at hy
  obtain ⟨xs, rfl, Hx⟩ := hx
  obtain ⟨ys, rfl, Hy⟩ := hy
  obtain ⟨r, hr, hiff⟩ := run_equalIn_deep (P := P) 9980 20 t hk w 20 20 _ _ _ _ (formed x xs fx hax Hx) (formed y ys fy hay Hy)
    (fitE_keys hΓ 20 20 t x xs fx hk Hx) (fitE_keys hΓ 20 20 t y ys fy hk Hy)
  have : r = x.eqb y := by
    have h2 := fitE_eqb hΓ 20 t x y fx fy hs
    rw [← h2] at hiff
    cases r <;> cases hb : x.eqb y <;> simp_all
  rw [← this]
  exact hr
end
end Go.Proofs.YtljkjdhkofbgmaaDoor.Av
