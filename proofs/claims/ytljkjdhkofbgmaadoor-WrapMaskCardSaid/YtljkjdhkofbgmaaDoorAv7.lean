import Derived.Test.YtljkjdhkofbgmaaDoorAv6
namespace Go.Proofs.YtljkjdhkofbgmaaDoor.Av
open Go
set_option linter.all false
set_option maxRecDepth 3000

def lenD : D → Nat
  | .u8s l => l.length
  | .u32s l => l.length
  | .u64s l => l.length
  | .node l => l.length
  | _ => 0

def catD : D → D → Option D
  | .u8s a, .u8s b => some (.u8s (a ++ b))
  | .u32s a, .u32s b => some (.u32s (a ++ b))
  | .u64s a, .u64s b => some (.u64s (a ++ b))
  | .node a, .node b => some (.node (a ++ b))
  | _, _ => none

/-- the first n elements of a slice, or bytes of a text: what must hold, and what they are -/
def elemsD (mg : MG) (j : TI) (x : D) (n : Nat) : Option (Prop × D) :=
  match x with
  | .slice b p off len _ => match mg b with
    | some e => match tyAt e.ty p with
      | some T => match elemTy T with
        | some t' => match t'.beq j.ty with
          | true => match getP e.d (p ++ [.win off n]) with
            | some y => some (n ≤ len ∧ okP e.d (p ++ [.win off n]), y)
            | none => none
          | false => none
        | none => none
      | none => none
    | none => none
  | .nilslice => some (n = 0, zerosD j.zero 0)
  | .str l => match j.desc with
    | .int .u8 => some (n ≤ l.length, .u8s (l.take n))
    | _ => none
  | _ => none

def cntOf : D → Option Nat
  | .slice _ _ _ len _ => some len
  | .nilslice => some 0
  | .str l => some l.length
  | _ => none

def notInt (Γ : Tab) (t : Nat) : Bool :=
  match ti Γ t with
  | some i => match i.desc with
    | .slice _ => true
    | .str => true
    | _ => false
  | none => false

def isI64 (Γ : Tab) (t : Nat) : Bool :=
  match ti Γ t with
  | some i => match i.desc with
    | .int .i64 => true
    | _ => false
  | none => false

def elemOfT (Γ : Tab) (t : Nat) : Option (Nat × TI) :=
  match ti Γ t with
  | some i => match i.desc with
    | .slice el => match ti Γ el with
      | some j => match Nat.beq j.ty.size 0 with
        | false => some (el, j)
        | true => none
      | none => none
    | _ => none
  | none => none

def copyE (Γ : Tab) (mg : MG) (td : Nat) (dst src : D) : Option Eff :=
  match elemOfT Γ td with
  | some (_, j) => match cntOf src with
    | some k => match dst with
      | .slice b p off len _ => match mg b with
        | some e => match e.rw with
          | true => match tyAt e.ty p with
            | some T => match elemTy T with
              | some t' => match t'.beq j.ty with
                | true => match elemsD mg j src (Nat.min k len) with
                  | some (ob, y) => match getP e.d (p ++ [.win off (Nat.min k len)]) with
                    | some _ => match setP e.d (p ++ [.win off (Nat.min k len)]) y with
                      | some d' => some ⟨ob ∧ okP e.d (p ++ [.win off (Nat.min k len)]) ∧ hasTy (.arr (Nat.min k len) j.ty) y, .i64 (Nat.min k len), [(b, some ⟨e.ty, d', true⟩)], 0⟩
                      | none => none
                    | none => none
                  | none => none
                | false => none
              | none => none
            | none => none
          | false => none
        | none => none
      | .nilslice => match elemsD mg j src 0 with
        | some (ob, _) => pureE ob (.i64 0)
        | none => none
      | _ => none
    | none => none
  | none => none

def appendE (Γ : Tab) (nx : Nat) (mg : MG) (alt ts tx : Nat) (s x : D) : Option Eff :=
  match notInt Γ tx with
  | true => match elemOfT Γ ts with
    | some (_, j) => match cntOf s with
      | some n => match cntOf x with
        | some k => match elemsD mg j s n with
          | some (ob1, sd) => match elemsD mg j x k with
            | some (ob2, xd) => match alt with
              | 2 => match s with
                | .slice _ _ _ _ _ => pureE ((ob1 ∧ ob2) ∧ k = 0) s
                | .nilslice => pureE ((ob1 ∧ ob2) ∧ k = 0) s
                | _ => none
              | 1 => match catD sd xd with
                | some y => match s with
                  | .slice _ _ _ len (some c) => newE nx (.row j.ty) y (.slice nx [] 0 (n + k) none) ((ob1 ∧ ob2) ∧ (c < len + k ∧ (n + k) * j.bytes ≤ 140737488355328 ∧ n + k < 9223372036854775808 ∧ 0 < j.bytes) ∧ hasTy (.row j.ty) y)
                  | .nilslice => newE nx (.row j.ty) y (.slice nx [] 0 (n + k) none) ((ob1 ∧ ob2) ∧ (0 < k ∧ (n + k) * j.bytes ≤ 140737488355328 ∧ n + k < 9223372036854775808 ∧ 0 < j.bytes) ∧ hasTy (.row j.ty) y)
                  | _ => none
                | none => none
              | _ => match catD sd xd with
                | some y => match s with
                  | .slice b [] off len _ => match mg b with
                    | some e => match e.rw with
                      | true => match e.ty with
                        | .row _ => match Nat.blt nx 1000000 with
                          | true => some ⟨(ob1 ∧ ob2) ∧ ((n + k) * j.bytes ≤ 140737488355328 ∧ n + k < 9223372036854775808 ∧ 0 < j.bytes) ∧ hasTy (.row j.ty) y,
                              .slice nx [] 0 (n + k) none, [(nx, some ⟨.row j.ty, y, true⟩), (b, none)], 1⟩
                          | false => none
                        | _ => none
                      | false => none
                    | none => none
                  | _ => none
                | none => none
            | none => none
          | none => none
        | none => none
      | none => none
    | none => none
  | false => match isI64 Γ tx with
    | true => match s with
      | .nilslice => match x with
        | .i64 k => match elemOfT Γ ts with
          | some (_, j) => newE nx (.row j.ty) (zerosD j.zero k.toNat) (.slice nx [] 0 k.toNat none) (0 < k ∧ k * j.bytes ≤ 140737488355328 ∧ k < 9223372036854775808 ∧ 0 < j.bytes)
          | none => none
        | _ => none
      | _ => none
    | false => none

def capE (Γ : Tab) (t : Nat) (x : D) : Option Eff :=
  match ti Γ t with
  | some i => match i.desc with
    | .slice _ => match x with
      | .slice _ _ _ _ (some c) => pureE True (.i64 c)
      | .nilslice => pureE True (.i64 0)
      | _ => none
    | _ => none
  | none => none

def lenE (Γ : Tab) (t : Nat) (x : D) : Option Eff :=
  match ti Γ t with
  | some i => match i.desc with
    | .arr n _ => match Nat.blt n 9223372036854775808 with
      | true => pureE True (.i64 n)
      | false => none
    | .str => match x with
      | .str l => pureE True (.i64 l.length)
      | _ => none
    | .slice _ => match x with
      | .slice _ _ _ len _ => pureE True (.i64 len)
      | .nilslice => pureE True (.i64 0)
      | _ => none
    | _ => none
  | none => none

def minmaxE (mx : Bool) (x y : D) : Option Eff :=
  match x, y with
  | .i64 a, .i64 b => match mx with
    | true => pureE True (.i64 (max a b))
    | false => pureE True (.i64 (min a b))
  | _, _ => none

def convE (Γ : Tab) (nx : Nat) (mg : MG) (src dst : Nat) (x : D) : Option Eff :=
  match ti Γ src with
  | some i => match ti Γ dst with
    | some k => match i.desc, k.desc with
      | .int _, .int kk => match convI kk x with
        | some v => pureE True v
        | none => none
      | .str, .str => match x with
        | .str l => pureE True (.str l)
        | _ => none
      | .slice _, .slice el => match Nat.beq src dst with
        | true => match ti Γ el with
          | some j => match j.desc with
            | .int .u8 => match x with
              | .slice b p off len cap => match mg b with
                | some en => match en.rw with
                  | true => some ⟨0 < len, .slice b p off len cap, [(b, some en)], 0⟩
                  | false => none
                | none => none
              | _ => none
            | _ => none
          | none => none
        | false => none
      | .str, .slice el => match ti Γ el with
        | some j => match j.desc with
          | .int .u8 => match x with
            | .str l => newE nx (.row .cell) (.u8s l) (.slice nx [] 0 l.length none) True
            | _ => none
          | _ => none
        | none => none
      | .slice el, .str => match ti Γ el with
        | some j => match j.desc with
          | .int .u8 => match cntOf x with
            | some n => match elemsD mg j x n with
              | some (ob, .u8s l) => match x with
                | .str _ => none
                | _ => pureE (ob ∧ l.length = n) (.str l)
              | _ => none
            | none => none
          | _ => none
        | none => none
      | _, _ => none
    | none => none
  | none => none

section
set_option linter.unusedSectionVars false
variable {P : Program} {Γ : Tab} (hΓ : TabOk P Γ) {X : Ctx} {ρ : Env} {m : Mem} {w : World} (hI : Inv X ρ m w) {mg : MG} (hm : ∀ b e, mg b = some e → get m b = some e) {nx : Nat}
include hΓ hI

theorem sound_len {t : Nat} {x : D} {v : Value} {ty : TypeId} {e : Eff} (he : lenE Γ t x = some e) (hx : Rep ρ x v) : Sound P (Builtin.len_ #[t] ty #[v]) id X ρ m w nx e := by
  unfold lenE at he
  split at he <;> try contradiction
  rename_i i hi
  have hdd := (hΓ t i hi).desc
  unfold DescOk at hdd
  split at he <;> try contradiction
  · rename_i n el hd
    rw [hd] at hdd
    split at he <;> try contradiction
    rename_i hb
    cases he
    refine Sound.pure hI (r := .int .i64 n) ?_ ⟨rfl, by omega, by simp [Nat.blt] at hb; omega⟩
    simp [Builtin.len_, underlying, hdd.1, goInt]
  · rename_i hd
    rw [hd] at hdd
    split at he <;> try contradiction
    rename_i l
    cases he
    obtain ⟨s, rfl, hs, hl⟩ := hx
    have hsz : s.size = l.length := by
      have := congrArg List.length hs
      rw [bytesV, List.length_map, Array.length_toList] at this
      exact this
    refine Sound.pure hI (r := .int .i64 l.length) ?_ ⟨rfl, by omega, by omega⟩
    simp [Builtin.len_, underlying, hdd.1, goInt, hsz]
  · rename_i el hd
    rw [hd] at hdd
    split at he <;> try contradiction
    · rename_i b p off len cap
      cases he
      obtain ⟨L, h2, T1, t1, a, c, k1, k2, rfl, k3, k4, k5, k6⟩ := hx
      refine Sound.pure hI (r := .int .i64 len) ?_ ⟨rfl, by omega, by omega⟩
      simp [Builtin.len_, underlying, hdd.1, goInt]
    · cases he
      have hx : v = .slice none 0 0 := hx
      subst hx
      refine Sound.pure hI (r := .int .i64 0) ?_ ⟨rfl, by omega, by omega⟩
      simp [Builtin.len_, underlying, hdd.1, goInt]

theorem sound_cap {t : Nat} {x : D} {v : Value} {ty : TypeId} {e : Eff} (he : capE Γ t x = some e) (hx : Rep ρ x v) : Sound P (Builtin.cap_ #[t] ty #[v]) id X ρ m w nx e := by
  unfold capE at he
  split at he <;> try contradiction
  rename_i i hi
  have hdd := (hΓ t i hi).desc
  unfold DescOk at hdd
  split at he <;> try contradiction
  rename_i el hd
  rw [hd] at hdd
  split at he <;> try contradiction
  · rename_i b p off len c
    cases he
    obtain ⟨L, h2, T1, t1, a, c', k1, k2, rfl, k3, k4, k5, k6⟩ := hx
    obtain rfl := k5 c rfl
    refine Sound.pure hI (r := .int .i64 c') ?_ ⟨rfl, by omega, by omega⟩
    simp [Builtin.cap_, underlying, hdd.1, goInt]
  · cases he
    have hx : v = .slice none 0 0 := hx
    subst hx
    refine Sound.pure hI (r := .int .i64 0) ?_ ⟨rfl, by omega, by omega⟩
    simp [Builtin.cap_, underlying, hdd.1, goInt]

omit hΓ in
theorem sound_minmax {mx : Bool} {x y : D} {vx vy : Value} {e : Eff} {at_ : Array TypeId} {ty : TypeId} (he : minmaxE mx x y = some e) (hx : Rep ρ x vx) (hy : Rep ρ y vy) :
    Sound P (if mx then Builtin.max_ at_ ty #[vx, vy] else Builtin.min_ at_ ty #[vx, vy]) id X ρ m w nx e := by
  unfold minmaxE at he
  split at he <;> try contradiction
  rename_i a b
  obtain ⟨rfl, ha⟩ := hx
  obtain ⟨rfl, hb⟩ := hy
  split at he
  · cases he
    refine Sound.pure hI (r := .int .i64 (max a b)) ?_ ⟨rfl, by omega, by omega⟩
    simp only [if_true, Builtin.max_, List.foldlM_cons, List.foldlM_nil, Builtin.max2, Sem.run_bind, Sem.run_pure, Result.andThen_ok]
    congr 2
    split <;> omega
  · cases he
    refine Sound.pure hI (r := .int .i64 (min a b)) ?_ ⟨rfl, by omega, by omega⟩
    simp only [Bool.false_eq_true, if_false, Builtin.min_, List.foldlM_cons, List.foldlM_nil, Builtin.min2, Sem.run_bind, Sem.run_pure, Result.andThen_ok]
    congr 2
    split <;> omega

theorem elemOfT_spec {t : Nat} {el : Nat} {j : TI} (h : elemOfT Γ t = some (el, j)) : P.underlying t = some (.slice el) ∧ ti Γ el = some j ∧ j.ty.size ≠ 0 := by
  unfold elemOfT at h
  split at h <;> try contradiction
  rename_i i hi
  have hdd := (hΓ t i hi).desc
  unfold DescOk at hdd
  split at h <;> try contradiction
  rename_i el' hd
  rw [hd] at hdd
  split at h <;> try contradiction
  rename_i j' hj
  split at h <;> try contradiction
  rename_i hb
  cases h
  exact ⟨hdd.1, hj, fun e => by rw [e] at hb; cases hb⟩

include hm

/-- what a value's first elements are, cell by cell -/
theorem run_elems {j : TI} {el : Nat} (hj : ti Γ el = some j) {x : D} {n : Nat} {ob : Prop} {y : D} {v : Value} (h : elemsD mg j x n = some (ob, y)) (ho : ob) (hx : Rep ρ x v) :
    hasTy (.arr n j.ty) y ∧ ∃ cs : List Value, (Builtin.firstCells j.ty.size n v).run P w = .ok cs.toArray w ∧ All2 (RepS ρ) y.flat cs ∧ cs.length = n * j.ty.size := by
  have hf := (hΓ el j hj).flat
  have fin : ∀ y, hasTy (.arr n j.ty) y → ∀ cs : List Value, All2 (RepS ρ) y.flat cs → cs.length = n * j.ty.size := by
    intro y hy cs hc
    have := hasTy_length (.arr n j.ty) y hf hy
    rw [← hc.length, this]
    rfl
  unfold elemsD at h
  split at h <;> try contradiction
  · rename_i b p off len cap
    repeat' split at h
    all_goals try contradiction
    rename_i en hg _ T hT _ t' ht' _ hb _ y' hy
    cases h
    obtain ⟨ho1, ho2⟩ := ho
    obtain ⟨L, h2, T1, t1, a, c, k1, k2, rfl, k3, k4, k5, k6⟩ := hx
    obtain ⟨L', h3, h4⟩ := hI.sat b en (hm _ _ hg)
    rw [h2] at h3; cases h3
    rw [h4.ty, hT] at k1; cases k1
    rw [ht'] at k2; cases k2
    have := Ty.eq_of_beq _ _ hb; subst this
    have hT2 : tyAt en.ty (p ++ [.win off n]) = some (.arr n j.ty) := by
      rw [tyAt_append _ _ _ _ hT]
      cases T <;> simp only [elemTy, Option.some.injEq] at ht' <;> try contradiction
      all_goals (subst ht'; rfl)
    obtain ⟨h5, vs, h6, h7⟩ := h4.read hT2 ho2 hy
    refine ⟨h5, vs, ?_, h6, fin y h5 vs h6⟩
    have hl := fin y h5 vs h6
    simp only [Builtin.firstCells, ← hl]
    rcases Nat.eq_zero_or_pos c with h0 | h0
    · have hn : n = 0 := by omega
      have : vs = [] := List.length_eq_zero_iff.1 (by rw [hl, hn]; simp)
      rw [this]
      rfl
    · obtain ⟨k7, k8⟩ := k6 h0
      refine run_loadCells_list w a vs fun jj v hv => ?_
      rw [k7, add_none]
      have := h7 jj v hv
      rw [h4.ty, offAt_append _ _ _ _ hT] at this
      have he : offAt T [.win off n] = off * j.ty.size := by
        cases T <;> simp only [elemTy, Option.some.injEq] at ht' <;> try contradiction
        all_goals (subst ht'; simp [offAt])
      rw [he] at this
      rw [h4.ty, Nat.add_assoc L.base]
      exact this
  · cases h
    have hx : v = .slice none 0 0 := hx
    subst hx
    subst ho
    have hz := zerosD_ty (n := 0) (hΓ el j hj).zty
    have hy : hasTy (.arr 0 j.ty) (zerosD j.zero 0) := by
      cases hzz : j.zero <;> rw [hzz] at hz <;> simp only [zerosD] at hz ⊢ <;> first
        | exact ⟨rfl, trivial⟩
        | (cases hjt : j.ty <;> rw [hjt] at hz <;> first | rfl | exact hz.elim)
    refine ⟨hy, [], rfl, ?_, by simp⟩
    have := hasTy_length (.arr 0 j.ty) _ hf hy
    simp only [Ty.size, Nat.zero_mul] at this
    rw [List.length_eq_zero_iff.1 this]
    trivial
  · rename_i l
    split at h <;> try contradiction
    rename_i hd
    cases h
    have hdd := (hΓ el j hj).desc
    unfold DescOk at hdd
    rw [hd] at hdd
    obtain ⟨s, rfl, hs, hlen⟩ := hx
    have hdt : j.ty = .cell := hdd.2
    rw [hdt]
    have hnl : n ≤ l.length := ho
    have hcs : ((s.extract 0 n).data.map fun b => (.int .u8 b.toNat : Value)) = ((l.take n).map fun b => (.int .u8 b.toNat : Value)).toArray := by
      apply Array.ext'
      rw [Array.toList_map, ByteArray.data_extract, Array.toList_extract, hs]
      unfold bytesV
      simp [List.extract, ← List.map_take, List.map_map]
    refine ⟨by show (l.take n).length = n; rw [List.length_take]; omega, (l.take n).map fun b => .int .u8 b.toNat, ?_, ?_, ?_⟩
    · simp only [Builtin.firstCells, Sem.run_pure]
      rw [hcs]
    · simp only [D.flat]
      rw [All2.map_left, All2.map_right]
      exact All2.refl_of (R := fun a b => RepS ρ (D.u8 a) (Value.int IntKind.u8 (BitVec.toNat b))) (fun a => rfl) _
    · simp only [List.length_map, List.length_take, Ty.size]
      omega

theorem lenOf_spec {x : D} {v : Value} {k : Nat} (h : cntOf x = some k) (hx : Rep ρ x v) (w : World) : (Builtin.lenOf v).run P w = .ok k w ∧ k < 9223372036854775808 := by
  cases x <;> simp only [cntOf, Option.some.injEq] at h <;> try contradiction
  · rename_i l
    obtain ⟨s, rfl, hs, hlen⟩ := hx
    have hsz : s.size = l.length := by
      have := congrArg List.length hs
      rw [bytesV, List.length_map, Array.length_toList] at this
      exact this
    subst h
    exact ⟨by simp [Builtin.lenOf, hsz], hlen⟩
  · subst h
    have hx : v = .slice none 0 0 := hx
    subst hx
    exact ⟨rfl, by omega⟩
  · subst h
    obtain ⟨L, h2, T1, t1, a, c, k1, k2, rfl, k3, k4, k5, k6⟩ := hx
    exact ⟨rfl, by omega⟩

theorem sound_copy {td ts : Nat} {ty : TypeId} {dst src : D} {vd vs : Value} {e : Eff} (he : copyE Γ mg td dst src = some e) (ho : e.ob) (hd : Rep ρ dst vd) (hs : Rep ρ src vs) :
    Sound P (Builtin.copy_ #[td, ts] ty #[vd, vs]) id X ρ m w nx e := by
  unfold copyE at he
  split at he <;> try contradiction
  rename_i _ el j hj
  obtain ⟨g1, hj, hnz⟩ := elemOfT_spec hΓ hI hj
  split at he <;> try contradiction
  rename_i k hk
  obtain ⟨hlen, hk63⟩ := lenOf_spec (P := P) hΓ hI hm hk hs w
  split at he <;> try contradiction
  · rename_i b p off len cap
    split at he <;> try contradiction
    rename_i en hg
    split at he <;> try contradiction
    rename_i hrw
    split at he <;> try contradiction
    rename_i T hT
    split at he <;> try contradiction
    rename_i t' ht'
    split at he <;> try contradiction
    rename_i hb
    split at he <;> try contradiction
    rename_i ob y hy
    split at he <;> try contradiction
    rename_i z hz
    split at he <;> try contradiction
    rename_i d' hset
    cases he
    obtain ⟨ho1, ho2, ho3⟩ := ho
    have := Ty.eq_of_beq _ _ hb; subst this
    obtain ⟨h5, cs, h6, h7, h8⟩ := run_elems hΓ hI hm hj hy ho1 hs
    obtain ⟨L, h2, T1, t1, a, c, k1, k2, rfl, k3, k4, k5, k6⟩ := hd
    obtain ⟨L', h3, h4⟩ := hI.sat b en (hm _ _ hg)
    rw [h2] at h3; cases h3
    rw [h4.ty, hT] at k1; cases k1
    rw [ht'] at k2; cases k2
    have hf := (hΓ el j hj).flat
    have hT2 : tyAt en.ty (p ++ [.win off (Nat.min k len)]) = some (.arr (Nat.min k len) j.ty) := by
      rw [tyAt_append _ _ _ _ hT]
      cases T <;> simp only [elemTy, Option.some.injEq] at ht' <;> try contradiction
      all_goals (subst ht'; rfl)
    have hzT := (h4.read hT2 ho2 hz).1
    have hl : z.flat.length = y.flat.length := by rw [hasTy_length (.arr _ j.ty) _ hf hzT, hasTy_length (.arr _ j.ty) _ hf ho3]
    obtain ⟨C', g3, g4⟩ := h4.write (P := P) hT2 ho2 hz hset ho3 hl h7 hrw
    have hen : ({ en with d := d' } : Ent) = ⟨en.ty, d', true⟩ := by cases en; simp_all
    rw [hen] at g4
    have hmin : Nat.min k len ≤ len := Nat.min_le_right _ _
    have hrep : Rep ρ (.i64 (Nat.min k len)) (.int .i64 (Nat.min k len)) := ⟨rfl, by omega, by omega⟩
    have hoff : L.base + offAt L.ty (p ++ [.win off (Nat.min k len)]) = L.base + offAt L.ty p + off * j.ty.size := by
      rw [h4.ty, offAt_append _ _ _ _ hT]
      cases T <;> simp only [elemTy, Option.some.injEq] at ht' <;> try contradiction
      all_goals (subst ht'; simp [offAt]; omega)
    have hrun : ∀ w', (storeCells a cs).run P w = .ok () w' → (Builtin.copy_ #[td, ts] ty #[Value.slice (some a) len c, vs]).run P w = .ok (.int .i64 (Nat.min k len)) w' := by
      intro w' hw'
      simp [Builtin.copy_, underlying, g1, hlen, run_sizeOf hΓ hj w, h6, hw', goInt]
    rcases Nat.eq_zero_or_pos c with h0 | h0
    · have hmin0 : Nat.min k len = 0 := by omega
      have hcs : cs = [] := List.length_eq_zero_iff.1 (by rw [h8, hmin0]; simp)
      subst hcs
      refine ⟨.int .i64 (Nat.min k len), w, ρ, hrun w rfl, Env.le_refl ρ, fun _ h => .inl h, hrep, ?_⟩
      have hput : World.putBlk w L.blk C' = w := by
        have : (storeCells ⟨L.blk, L.base + offAt L.ty (p ++ [.win off (Nat.min k len)]), none⟩ []).run P w = .ok () w := rfl
        rw [this] at g3
        injection g3 with _ g5
        exact g5.symm
      have := hI.put (hm _ _ hg) hrw h2 (C := C') rfl g4
      rw [hput] at this
      exact this
    · obtain ⟨k7, k8⟩ := k6 h0
      rw [hoff, ← k7] at g3
      exact ⟨.int .i64 (Nat.min k len), _, ρ, hrun _ g3, Env.le_refl ρ, fun _ h => .inl h, hrep, hI.put (hm _ _ hg) hrw h2 rfl g4⟩
  · split at he <;> try contradiction
    rename_i ob y hy
    cases he
    obtain ⟨h5, cs, h6, h7, h8⟩ := run_elems hΓ hI hm hj hy ho hs
    have hd : vd = .slice none 0 0 := hd
    subst hd
    refine Sound.pure hI (r := .int .i64 0) ?_ ⟨rfl, by omega, by omega⟩
    simp [Builtin.copy_, underlying, g1, hlen, run_sizeOf hΓ hj w, h6, goInt]
end

theorem Inv.drop {X : Ctx} {ρ : Env} {m : Mem} {w : World} (H : Inv X ρ m w) (b : Nat) : Inv X ρ ((b, none) :: m) w := by
  have key : ∀ i e, get ((b, none) :: m) i = some e → get m i = some e ∧ i ≠ b := by
    intro i e h
    rw [get_cons] at h
    split at h
    · cases h
    · exact ⟨h, fun e => by subst e; contradiction⟩
  exact ⟨H.glob, fun i e h => H.sat i e (key i e h).1, fun i j ei ej Li Lj hi hj => H.inj i j ei ej Li Lj (key i ei hi).1 (key j ej hj).1, fun i e L h => H.own i e L (key i e h).1, H.ext, H.size, H.os, H.out, H.tape⟩

/-- a block that was b's is another one's from now on -/
theorem Inv.renew {X : Ctx} {ρ : Env} {m : Mem} {w : World} (H : Inv X ρ m w) {b nx : Nat} {e e' : Ent} {L L' : Loc} {C : Array Value} (hg : get m b = some e) (hw : e.rw = true) (hL : ρ b = some L)
    (hnx : ρ nx = none) (hlt : nx < 1000000) (hblk : L'.blk = L.blk) (hs : SatE (ρ.put nx L') e' L' (World.putBlk w L.blk C)) :
    Inv X (ρ.put nx L') ((nx, some e') :: (b, none) :: m) (World.putBlk w L.blk C) := by
  have hle := Env.le_put (L := L') hnx
  have hnew : (ρ.put nx L') nx = some L' := by simp [Env.put]
  have key : ∀ i ei, get ((nx, some e') :: (b, none) :: m) i = some ei → (i = nx ∧ ei = e') ∨ (i ≠ nx ∧ i ≠ b ∧ get m i = some ei) := by
    intro i ei h
    rw [get_cons] at h
    split at h
    · cases h; exact .inl ⟨by subst_vars; rfl, rfl⟩
    · rename_i h1
      rw [get_cons] at h
      split at h
      · cases h
      · rename_i h2; exact .inr ⟨fun e => h1 e.symm, fun e => h2 e.symm, h⟩
  have hold : ∀ i ei, get m i = some ei → i ≠ b → ∃ Li, ρ i = some Li ∧ SatE ρ ei Li w ∧ Li.blk ≠ L.blk := by
    intro i ei h hib
    obtain ⟨Li, h1, h2⟩ := H.sat i ei h
    exact ⟨Li, h1, h2, fun eq => H.inj b i e ei L Li hg h (Ne.symm hib) hw hL h1 eq.symm⟩
  refine ⟨fun g L0 hg0 => ?_, fun i ei hi => ?_, fun i j ei ej Li Lj hi hj hne hr h1 h2 => ?_, fun i ei Li hi hr h1 => ?_, fun c hc hn => ?_, ?_, H.os, H.out, H.tape⟩
  · unfold Env.put at hg0
    split at hg0
    · rename_i hgi; unfold gid at hgi; omega
    · exact H.glob g L0 hg0
  · rcases key i ei hi with ⟨rfl, rfl⟩ | ⟨h1, h2, h3⟩
    · exact ⟨L', hnew, hs⟩
    · obtain ⟨Li, h4, h5, h6⟩ := hold i ei h3 h2
      exact ⟨Li, hle _ _ h4, (h5.mono hle).same (putBlk_other (Ne.symm h6))⟩
  · rcases key i ei hi with ⟨rfl, rfl⟩ | ⟨a1, a2, a3⟩
    · rcases key j ej hj with ⟨rfl, rfl⟩ | ⟨b1, b2, b3⟩
      · contradiction
      · rw [hnew] at h1; cases h1
        obtain ⟨Lj', h4, h5, h6⟩ := hold j ej b3 b2
        have := hle _ _ h4
        rw [h2] at this; cases this
        rw [hblk]; exact Ne.symm h6
    · obtain ⟨Li', h4, h5, h6⟩ := hold i ei a3 a2
      have e1 := hle _ _ h4
      rw [h1] at e1; cases e1
      rcases key j ej hj with ⟨rfl, rfl⟩ | ⟨b1, b2, b3⟩
      · rw [hnew] at h2; cases h2
        rw [hblk]; exact h6
      · obtain ⟨Lj', h7, h8, h9⟩ := hold j ej b3 b2
        have e2 := hle _ _ h7
        rw [h2] at e2; cases e2
        exact H.inj i j ei ej _ _ a3 b3 hne hr h4 h7
  · rcases key i ei hi with ⟨rfl, rfl⟩ | ⟨a1, a2, a3⟩
    · rw [hnew] at h1; cases h1
      rw [hblk]; exact H.own b e L hg hw hL
    · obtain ⟨Li', h4, h5, h6⟩ := hold i ei a3 a2
      have e1 := hle _ _ h4
      rw [h1] at e1; cases e1
      exact H.own i ei _ a3 hr h4
  · by_cases h : L.blk = c
    · rcases H.own b e L hg hw hL with h' | h'
      · exact absurd (h ▸ h') hn
      · omega
    · rw [putBlk_other h]; exact H.ext c hc hn
  · rw [putBlk_size]; exact H.size

theorem growBy_le (n : Nat) : ∀ (r c : Nat), 256 ≤ c → c ≤ 2 * n → Builtin.growBy n r c ≤ 2 * n
  | 0, c, _, h => h
  | r + 1, c, h0, h => by
    simp only [Builtin.growBy]
    split
    · exact h
    · exact growBy_le n r _ (by omega) (by omega)

theorem nextcap_le {n c : Nat} (h : c < n) : Builtin.nextslicecap n c ≤ 2 * n := by
  unfold Builtin.nextslicecap
  split
  · omega
  · split
    · omega
    · exact growBy_le n 4 c (by omega) (by omega)

theorem catD_flat {a b y : D} (h : catD a b = some y) : y.flat = a.flat ++ b.flat := by
  unfold catD at h
  split at h <;> try contradiction
  all_goals
    cases h
    simp [D.flat, D.flats_append]

theorem lenD_cat {a b y : D} (h : catD a b = some y) : lenD y = lenD a + lenD b := by
  unfold catD at h
  split at h <;> try contradiction
  all_goals
    cases h
    simp [lenD]
end Go.Proofs.YtljkjdhkofbgmaaDoor.Av
