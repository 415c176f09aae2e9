import Derived.Test.YtljkjdhkofbgmaaDoorAv5
namespace Go.Proofs.YtljkjdhkofbgmaaDoor.Av
open Go
set_option linter.all false
set_option maxRecDepth 3000

/-! a row of zeros -/
def zerosD (z : D) (n : Nat) : D :=
  match z with
  | .u8 x => .u8s (List.replicate n x)
  | .u32 x => .u32s (List.replicate n x)
  | .u64 x => .u64s (List.replicate n x)
  | z => .node (List.replicate n z)

def makeSliceE (Γ : Tab) (nx t : Nat) (len cap : D) : Option Eff :=
  match len with
  | .i64 l => match cap with
    | .i64 c => match ti Γ t with
      | some i => match i.desc with
        | .slice el => match ti Γ el with
          | some j => match zerosD j.zero l.toNat with
            | .u8s z => newE nx (.row j.ty) (.u8s z) (.slice nx [] 0 l.toNat none) (0 ≤ l ∧ l ≤ c ∧ c * j.bytes ≤ 281474976710656 ∧ c < 9223372036854775808)
            | .u32s z => newE nx (.row j.ty) (.u32s z) (.slice nx [] 0 l.toNat none) (0 ≤ l ∧ l ≤ c ∧ c * j.bytes ≤ 281474976710656 ∧ c < 9223372036854775808)
            | .u64s z => newE nx (.row j.ty) (.u64s z) (.slice nx [] 0 l.toNat none) (0 ≤ l ∧ l ≤ c ∧ c * j.bytes ≤ 281474976710656 ∧ c < 9223372036854775808)
            | .node z => newE nx (.row j.ty) (.node z) (.slice nx [] 0 l.toNat none) (0 ≤ l ∧ l ≤ c ∧ c * j.bytes ≤ 281474976710656 ∧ c < 9223372036854775808)
            | _ => none
          | none => none
        | _ => none
      | none => none
    | _ => none
  | _ => none

theorem flat_replicate (z : D) (n : Nat) : (D.node (List.replicate n z)).flat = (List.replicate n z.flat).flatten := by
  simp only [D.flat]
  induction n with
  | zero => rfl
  | succ n ih => simp [List.replicate_succ, D.flats, ih]

theorem zerosD_flat (z : D) (n : Nat) : (zerosD z n).flat = (List.replicate n z.flat).flatten := by
  cases z <;> simp only [zerosD] <;> first
    | exact flat_replicate _ n
    | (simp only [D.flat]; induction n with
        | zero => rfl
        | succ n ih => simp [List.replicate_succ, ih])

theorem zerosD_ty {z : D} {n : Nat} {T : Ty} (h : hasTy T z) : hasTy (.row T) (zerosD z n) := by
  have hn : ∀ z, hasTy T z → hasTy (.row T) (.node (List.replicate n z)) := fun z h => AllD_mem.2 fun d hd => by rw [List.eq_of_mem_replicate hd]; exact h
  cases z <;> simp only [zerosD] <;> first
    | exact hn _ h
    | (cases T <;> first | trivial | exact h.elim)

theorem zeros_cells (zc : Array Value) (n : Nat) (hz : zc.size ≠ 0 ∨ n = 0) : ((Array.range (n * zc.size)).map (zc[· % zc.size]!)).toList = (List.replicate n zc.toList).flatten := by
  apply List.ext_getElem?
  intro i
  simp only [Array.toList_map, Array.toList_range, List.getElem?_map]
  induction n generalizing i with
  | zero => simp
  | succ n ih =>
    have hz : zc.size ≠ 0 := by rcases hz with h | h; exact h; omega
    rw [List.replicate_succ, List.flatten_cons]
    by_cases hi : i < zc.size
    · have : i < (n + 1) * zc.size := by rw [Nat.add_mul]; omega
      rw [List.getElem?_append_left (by simpa using hi)]
      rw [List.getElem?_range this]
      simp only [Option.map_some, Nat.mod_eq_of_lt hi, Array.getElem?_toList]
      rw [getElem!_pos zc i hi, getElem?_pos zc i hi]
    · rw [List.getElem?_append_right (by simpa using hi)]
      simp only [Array.length_toList]
      rw [← ih (.inl hz) (i - zc.size)]
      by_cases h2 : i < (n + 1) * zc.size
      · rw [List.getElem?_range h2, List.getElem?_range (by rw [Nat.add_mul] at h2; omega)]
        simp only [Option.map_some]
        rw [Nat.mod_eq_sub_mod (by omega)]
      · rw [List.getElem?_eq_none (by simpa using h2), List.getElem?_eq_none (by rw [Nat.add_mul] at h2; simp; omega)]

theorem All2.flatten_replicate {α β : Type} {R : α → β → Prop} {as : List α} {bs : List β} (h : All2 R as bs) : ∀ n, All2 R (List.replicate n as).flatten (List.replicate n bs).flatten
  | 0 => trivial
  | n + 1 => by rw [List.replicate_succ, List.replicate_succ, List.flatten_cons, List.flatten_cons]; exact h.append (flatten_replicate h n)

/-! parts laid into a value -/
def fillD (T : Ty) (step : Nat → Step) : D → List (Nat × D) → Option (Prop × D)
  | d, [] => some (True, d)
  | d, (k, x) :: r => match tyAt T [step k] with
    | some T' => match getP d [step k] with
      | some _ => match setP d [step k] x with
        | some d' => match fillD T step d' r with
          | some (ob, d'') => some ((okP d [step k] ∧ hasTy T' x) ∧ ob, d'')
          | none => none
        | none => none
      | none => none
    | none => none

def buildE (Γ : Tab) (t : Nat) (parts : List (Nat × D)) : Option Eff :=
  match ti Γ t with
  | some i => match i.ty with
    | .st _ => match fillD i.ty .fld i.zero parts with
      | some (ob, d) => pureE ob d
      | none => none
    | .arr _ _ => match fillD i.ty .idx i.zero parts with
      | some (ob, d) => pureE ob d
      | none => none
    | _ => none
  | none => none

def nonzeroLe (s a b : Nat) : Bool :=
  match Nat.beq s 0 with
  | true => false
  | false => Nat.ble a b

theorem nonzeroLe_spec {s a b : Nat} (h : nonzeroLe s a b = true) : s ≠ 0 ∧ a ≤ b := by
  unfold nonzeroLe at h
  split at h <;> try contradiction
  rename_i hb
  exact ⟨(fun e => by rw [e] at hb; cases hb), Nat.le_of_ble_eq_true h⟩

def buildSliceE (Γ : Tab) (nx t len : Nat) (parts : List (Nat × D)) : Option Eff :=
  match ti Γ t with
  | some i => match i.desc with
    | .slice el => match ti Γ el with
      | some j => match nonzeroLe j.ty.size (len * j.ty.size) 16777216 with
        | true => match fillD (.row j.ty) .idx (zerosD j.zero len) parts with
          | some (ob, d) => newE nx (.row j.ty) d (.slice nx [] 0 len (some len)) ob
          | none => none
        | false => none
      | none => none
    | _ => none
  | none => none

theorem foldl_set (off : Nat) : ∀ (vs : List Value) (k : Nat) (cs : Array Value), off + k + vs.length ≤ cs.size →
    ((vs.zipIdx k).foldl (fun cs (x : Value × Nat) => cs.setIfInBounds (off + x.2) x.1) cs).toList = cs.toList.take (off + k) ++ vs ++ cs.toList.drop (off + k + vs.length)
  | [], k, cs, _ => by simp
  | v :: vs, k, cs, h => by
    simp only [List.length_cons] at h
    have ih := foldl_set off vs (k + 1) (cs.setIfInBounds (off + k) v) (by simp; omega)
    simp only [List.zipIdx_cons, List.foldl_cons]
    rw [ih]
    have hlt : off + k < cs.toList.length := by simp; omega
    simp only [Array.toList_setIfInBounds, List.length_cons]
    rw [list_set _ _ _ hlt]
    have e1 : (List.take (off + k) cs.toList ++ v :: List.drop (off + k + 1) cs.toList).take (off + (k + 1)) = List.take (off + k) cs.toList ++ [v] := by
      rw [List.take_append]
      simp only [List.length_take, Nat.min_eq_left (Nat.le_of_lt hlt)]
      rw [List.take_of_length_le (by simp; omega)]
      rw [show off + (k + 1) - (off + k) = 1 by omega]
      simp
    have e2 : (List.take (off + k) cs.toList ++ v :: List.drop (off + k + 1) cs.toList).drop (off + (k + 1) + vs.length) = cs.toList.drop (off + k + (vs.length + 1)) := by
      rw [List.drop_append]
      simp only [List.length_take, Nat.min_eq_left (Nat.le_of_lt hlt)]
      rw [List.drop_of_length_le (by simp; omega)]
      rw [show off + (k + 1) + vs.length - (off + k) = vs.length + 1 by omega]
      simp [List.drop_drop]
      congr 1
      omega
    rw [e1, e2]
    simp

theorem fill_spec {ρ : Env} (T : Ty) (hg : T.good) (step : Nat → Step) (place : Nat → Option (Nat × Nat))
    (hp : ∀ k T', tyAt T [step k] = some T' → T'.flatTy ∧ place k = some (offAt T [step k], T'.size)) :
    ∀ (parts : List (Nat × D)) (vs : List (Nat × Value)) (d d' : D) (cs : Array Value) (ob : Prop), fillD T step d parts = some (ob, d') → ob → hasTy T d → All2 (RepS ρ) d.flat cs.toList →
      All2 (fun (a : Nat × D) (b : Nat × Value) => a.1 = b.1 ∧ Rep ρ a.2 b.2) parts vs →
      ∃ cs', Instr.fill place cs vs = some cs' ∧ hasTy T d' ∧ All2 (RepS ρ) d'.flat cs'.toList ∧ cs'.size = cs.size
  | [], [], d, d', cs, ob, h, _, ht, hr, _ => by
    simp only [fillD, Option.some.injEq, Prod.mk.injEq] at h
    obtain ⟨_, rfl⟩ := h
    exact ⟨cs, rfl, ht, hr, rfl⟩
  | (k, x) :: r, (k', v) :: vs, d, d', cs, ob, h, ho, ht, hr, hv => by
    obtain ⟨⟨hk, hxv⟩, hrest⟩ := hv
    simp only at hk hxv
    subst hk
    simp only [fillD] at h
    cases e1 : tyAt T [step k] with
    | none => simp [e1] at h
    | some T' =>
      cases e2 : getP d [step k] with
      | none => simp [e1, e2] at h
      | some y =>
        cases e3 : setP d [step k] x with
        | none => simp [e1, e2, e3] at h
        | some d1 =>
          cases e4 : fillD T step d1 r with
          | none => simp [e1, e2, e3, e4] at h
          | some res =>
            obtain ⟨ob', d2⟩ := res
            simp only [e1, e2, e3, e4, Option.some.injEq, Prod.mk.injEq] at h
            obtain ⟨h1, rfl⟩ := h
            subst h1
            obtain ⟨⟨hok, hxt⟩, ho⟩ := ho
            obtain ⟨hf, hpl⟩ := hp k T' e1
            obtain ⟨g1, pre, post, ⟨g2, g3⟩, g4⟩ := setP_spec [step k] T d y x d1 T' hg ht e1 hok e2 e3 hxt
            obtain ⟨hyT, _⟩ := getP_spec [step k] T d y T' hg ht e1 hok e2
            have hxl := hasTy_length _ _ hf hxt
            have hyl := hasTy_length _ _ hf hyT
            have hxc := rep_cells hxt hxv
            have hxs : v.cells.size = T'.size := by rw [← Array.length_toList, ← hxc.length, hxl]
            rw [g2] at hr
            obtain ⟨b12, b3, q1, ha, hb⟩ := All2.split_left hr
            obtain ⟨b1, b2, q2, hc, hd⟩ := All2.split_left ha
            have hl1 : b1.length = offAt T [step k] := by rw [← hc.length, g3]
            have hl2 : b2.length = T'.size := by rw [← hd.length, hyl]
            have hcs : cs.toList = b1 ++ b2 ++ b3 := by rw [q1, q2]
            have hsz : offAt T [step k] + T'.size ≤ cs.size := by
              rw [← Array.length_toList, hcs]; simp; omega
            have hfold := foldl_set (offAt T [step k]) v.cells.toList 0 cs (by simp [hxs]; omega)
            have hcs1 : (v.cells.zipIdx.foldl (fun cs (x : Value × Nat) => cs.setIfInBounds (offAt T [step k] + x.2) x.1) cs).toList = b1 ++ v.cells.toList ++ b3 := by
              rw [← Array.foldl_toList, Array.toList_zipIdx, hfold, hcs]
              simp only [Nat.add_zero, Array.length_toList, hxs]
              congr 1
              · congr 1
                rw [← hl1, List.append_assoc, List.take_left]
              · rw [← hl1, ← hl2, ← List.length_append, List.drop_left]
            obtain ⟨cs', f1, f2, f3, f4⟩ := fill_spec T hg step place hp r vs d1 d2 _ ob' e4 ho g1 (by rw [hcs1, g4]; exact (hc.append hxc).append hb) hrest
            refine ⟨cs', ?_, f2, f3, ?_⟩
            rotate_left
            · rw [f4, ← Array.length_toList, hcs1, ← Array.length_toList (xs := cs), hcs]
              simp [hl2, hxs]
            simp only [Instr.fill, hpl]
            rw [if_neg (by simp [hxs]; omega)]
            exact f1
  | [], _ :: _, _, _, _, _, _, _, _, _, hv => hv.elim
  | _ :: _, [], _, _, _, _, _, _, _, _, hv => hv.elim

theorem tyAt_flat {T T' : Ty} {s : Step} (hf : T.good) (h : tyAt T [s] = some T') : T'.flatTy := by
  cases T <;> cases s <;> simp only [tyAt] at h <;> try contradiction
  · simp at h; subst h; exact hf
  · simp at h; subst h; exact hf
  · rename_i fs i
    cases e : fs[i]? with
    | none => simp [e] at h
    | some t => simp [e] at h; subst h; exact flatTys_get hf i e
  · simp at h; subst h; exact hf
  · simp at h; subst h; exact hf

/-- the sizes of all fields, read in a row -/
theorem run_places {P : Program} {w : World} : ∀ {fl : List Field} {ts : List Nat} {Ts : List Ty} {o : Nat} (_ : FieldsOk P fl ts Ts o),
    ∃ ps : List (Nat × Nat), (fl.mapM fun f => do pure (f.offset, ← sizeOf f.type) : Sem (List (Nat × Nat))).run P w = .ok ps w ∧ ∀ k T, Ts[k]? = some T → ps[k]? = some (o + Ty.sizes (Ts.take k), T.size)
  | [], [], [], o, _ => ⟨[], rfl, fun k T h => by simp at h⟩
  | f :: fl, t :: ts, T :: Ts, o, h => by
    obtain ⟨ps, h1, h2⟩ := run_places (w := w) h.2.2.2
    refine ⟨(o, T.size) :: ps, ?_, ?_⟩
    · have h3 := h.2.2.1
      cases hinf : P.info? t with
      | none => simp [hinf] at h3
      | some inf =>
        simp only [hinf, Option.map_some, Option.some.injEq] at h3
        rw [List.mapM_cons]
        simp only [Sem.run_bind, sizeOf, typeInfo, run_program, Result.andThen_ok, h.1, hinf, Sem.run_pure, h.2.1, h3] at h1 ⊢
        rw [h1]
        rfl
    · intro k T' hk
      cases k with
      | zero => simp at hk; subst hk; simp [Ty.sizes]
      | succ k => simp at hk ⊢; rw [h2 k T' hk]; simp [Ty.sizes]; omega
  | [], _ :: _, _, _, h => h.elim
  | [], [], _ :: _, _, h => h.elim
  | _ :: _, [], _, _, h => h.elim
  | _ :: _, _ :: _, [], _, h => h.elim

section
set_option linter.unusedSectionVars false
variable {P : Program} {Γ : Tab} (hΓ : TabOk P Γ) {X : Ctx} {ρ : Env} {m : Mem} {w : World} (hI : Inv X ρ m w) {mg : MG} (hm : ∀ b e, mg b = some e → get m b = some e) {nx : Nat}
include hΓ hI

theorem tiGood {t : Nat} {i : TI} (h : ti Γ t = some i) : i.ty.good := by
  have := (hΓ t i h).flat
  cases hT : i.ty <;> rw [hT] at this <;> first | exact this | exact this.elim

theorem sound_build {t : Nat} {parts : List (Nat × D)} {vs : List (Nat × Value)} {e : Eff} (he : buildE Γ t parts = some e) (ho : e.ob)
    (hv : All2 (fun (a : Nat × D) (b : Nat × Value) => a.1 = b.1 ∧ Rep ρ a.2 b.2) parts vs) : Sound P (Instr.build t vs.toArray) id X ρ m w nx e := by
  unfold buildE at he
  split at he <;> try contradiction
  rename_i i hi
  have hok := hΓ t i hi
  have hgood := tiGood hΓ hI hi
  obtain ⟨z, hz, hrz⟩ := run_zeroValue hΓ hi w
  split at he <;> try contradiction
  · rename_i Ts hT
    split at he <;> try contradiction
    rename_i ob d hfill
    cases he
    obtain ⟨fl, ts, g1, g2, g3⟩ := desc_st hΓ hi hT
    obtain ⟨ps, p1, p2⟩ := run_places (w := w) g3
    obtain ⟨cs', f1, f2, f3, f4⟩ := fill_spec (ρ := ρ) i.ty hgood .fld (fun k : Nat => ps[k]?) (fun k T' hk => by
      refine ⟨tyAt_flat hgood hk, ?_⟩
      rw [hT] at hk ⊢
      simp only [tyAt] at hk
      cases e : Ts[k]? with
      | none => simp [e] at hk
      | some T =>
        simp only [e, Option.some.injEq] at hk; subst hk
        rw [p2 k T e]
        simp [offAt, e]) parts vs i.zero d z.cells ob hfill ho hok.zty (hrz ρ) hv
    have hag : d.isAgg = true := by
      rw [hT] at f2
      cases d <;> first | rfl | exact f2.elim
    refine Sound.pure hI (r := .agg cs') ?_ ?_
    · have hpl : (fl.mapM fun f => do pure (f.offset, ← sizeOf f.type) : Sem (Array (Nat × Nat))).run P w = .ok ps.toArray w := by
        rw [Array.mapM_eq_mapM_toList]
        simp only [Sem.run_map, p1, Result.andThen_ok]
      simp only [Instr.build, underlying, Sem.run_bind, Sem.run_pure, Result.andThen_ok, run_program, g1, hz]
      rw [hpl]
      simp only [Result.andThen_ok]
      have : (fun k : Nat => ps.toArray[k]?) = fun k : Nat => ps[k]? := by funext k; simp
      rw [this, f1]
      rfl
    · show Rep ρ d (Value.agg cs')
      rw [rep_eq (by cases d <;> simp_all [D.isAgg, D.isTup])]
      unfold RepV
      rw [hag]
      exact ⟨cs'.toList, rfl, f3⟩
  · rename_i n T0 hT
    split at he <;> try contradiction
    rename_i ob d hfill
    cases he
    obtain ⟨el, g1, g2, g3⟩ := desc_arr hΓ hi hT
    obtain ⟨cs', f1, f2, f3, f4⟩ := fill_spec (ρ := ρ) i.ty hgood .idx (fun k => some (k * T0.size, T0.size)) (fun k T' hk => by
      refine ⟨tyAt_flat hgood hk, ?_⟩
      rw [hT] at hk ⊢
      simp only [tyAt, Option.some.injEq] at hk
      subst hk
      simp [offAt]) parts vs i.zero d z.cells ob hfill ho hok.zty (hrz ρ) hv
    have hag : d.isAgg = true := by
      rw [hT] at f2
      cases d <;> first | rfl | exact f2.elim
    refine Sound.pure hI (r := .agg cs') ?_ ?_
    · cases hinf : P.info? el with
      | none => simp [hinf] at g3
      | some inf =>
        simp only [hinf, Option.map_some, Option.some.injEq] at g3
        simp only [Instr.build, underlying, Sem.run_bind, Sem.run_pure, Result.andThen_ok, run_program, g1, hz, sizeOf, typeInfo, hinf, g3, f1]
    · show Rep ρ d (Value.agg cs')
      rw [rep_eq (by cases d <;> simp_all [D.isAgg, D.isTup])]
      unfold RepV
      rw [hag]
      exact ⟨cs'.toList, rfl, f3⟩

theorem sound_buildSlice {t len : Nat} {parts : List (Nat × D)} {vs : List (Nat × Value)} {e : Eff} (hnx : ρ nx = none) (he : buildSliceE Γ nx t len parts = some e) (ho : e.ob)
    (hv : All2 (fun (a : Nat × D) (b : Nat × Value) => a.1 = b.1 ∧ Rep ρ a.2 b.2) parts vs) : Sound P (Instr.buildSlice t len vs.toArray) id X ρ m w nx e := by
  unfold buildSliceE at he
  split at he <;> try contradiction
  rename_i i hi
  split at he <;> try contradiction
  rename_i el hd
  split at he <;> try contradiction
  rename_i j hj
  split at he <;> try contradiction
  rename_i hlim
  split at he <;> try contradiction
  rename_i ob d hfill
  have hob : ob := by
    unfold newE at he
    split at he <;> try contradiction
    cases he; exact ho
  have hdd := (hΓ t i hi).desc
  unfold DescOk at hdd
  rw [hd] at hdd
  obtain ⟨g1, g2⟩ := hdd
  have hok := hΓ el j hj
  obtain ⟨hnz, hlim⟩ := nonzeroLe_spec hlim
  obtain ⟨z, hz, hrz⟩ := run_zeroValue hΓ hj w
  have hzl : z.cells.size = j.ty.size := by rw [← Array.length_toList, ← (hrz ρ).length, hasTy_length _ _ hok.flat hok.zty]
  have hgood : (Ty.row j.ty).good := hok.flat
  have hcells : All2 (RepS ρ) (zerosD j.zero len).flat ((Array.range (len * j.ty.size)).map (z.cells[· % z.cells.size]!)).toList := by
    rw [← hzl, zeros_cells z.cells len (.inl (by omega)), zerosD_flat]
    exact (hrz ρ).flatten_replicate len
  obtain ⟨cs', f1, f2, f3, f4⟩ := fill_spec (ρ := ρ) (.row j.ty) hgood .idx (fun k => some (k * j.ty.size, j.ty.size)) (fun k T' hk => by
    refine ⟨tyAt_flat hgood hk, ?_⟩
    simp only [tyAt, Option.some.injEq] at hk
    subst hk
    simp [offAt]) parts vs _ d _ ob hfill hob (zerosD_ty hok.zty) hcells hv
  have hcs' : cs'.size = len * j.ty.size := by rw [f4]; simp
  have hle : len ≤ len * j.ty.size := Nat.le_mul_of_pos_right len (by omega)
  refine sound_new hΓ hI (C := cs') (t := el) (front := cs'.toList) (tail := []) (r := .slice (some ⟨w.heap.size, 0, none⟩) len len) hnx he hgood f2 f3 (by simp) hI (fr := (0, 0)) (.inl rfl) ?_ ?_
  · simp only [Instr.buildSlice, underlying, Sem.run_bind, Sem.run_pure, Result.andThen_ok, run_program, g1, run_sizeOf hΓ hj w]
    rw [Sem.run_ite, if_neg (by simp; omega)]
    simp only [Sem.run_bind, Sem.run_ite]
    by_cases h0 : len * j.ty.size = 0
    · rw [if_pos h0]
      simp only [Sem.run_pure, Result.andThen_ok]
      have : ((Array.range (len * j.ty.size)).map fun x => (#[] : Array Value)[x % (#[] : Array Value).size]!) = (Array.range (len * j.ty.size)).map (z.cells[· % z.cells.size]!) := by
        rw [h0]; simp
      rw [this, f1]
      rfl
    · rw [if_neg h0]
      simp only [hz, Sem.run_pure, Result.andThen_ok]
      rw [f1]
      rfl
  · intro ρ' _ h'
    refine ⟨_, h', _, _, _, _, rfl, rfl, rfl, Nat.le_refl _, by omega, fun k hk => by cases hk; rfl, fun hc => ⟨by simp [offAt], by simp [offAt]; omega⟩⟩

theorem newE_ob {T : Ty} {d v : D} {ob : Prop} {e : Eff} (h : newE nx T d v ob = some e) (ho : e.ob) : ob := by
  unfold newE at h
  split at h <;> try contradiction
  cases h; exact ho

theorem sound_makeSlice {t : Nat} {len cap : D} {vl vc : Value} {e : Eff} (hnx : ρ nx = none) (he : makeSliceE Γ nx t len cap = some e) (ho : e.ob) (hl : Rep ρ len vl) (hc : Rep ρ cap vc) :
    Sound P (Instr.makeSlice t vl vc) id X ρ m w nx e := by
  unfold makeSliceE at he
  split at he <;> try contradiction
  rename_i l
  split at he <;> try contradiction
  rename_i c
  split at he <;> try contradiction
  rename_i i hi
  split at he <;> try contradiction
  rename_i el hd
  split at he <;> try contradiction
  rename_i j hj
  have key : ∀ z, zerosD j.zero l.toNat = z → newE nx (.row j.ty) z (.slice nx [] 0 l.toNat none) (0 ≤ l ∧ l ≤ c ∧ c * j.bytes ≤ 281474976710656 ∧ c < 9223372036854775808) = some e → Sound P (Instr.makeSlice t vl vc) id X ρ m w nx e := by
    intro zd hzd he
    obtain ⟨o1, o2, o3, o4⟩ := newE_ob hΓ hI he ho
    have hdd := (hΓ t i hi).desc
    unfold DescOk at hdd
    rw [hd] at hdd
    obtain ⟨g1, g2⟩ := hdd
    have hok := hΓ el j hj
    obtain ⟨z, hz, hrz⟩ := run_zeroValue hΓ hj w
    obtain ⟨inf, z', q1, q2, q3, _⟩ := hok.info
    have hzl : z.cells.size = j.ty.size := by rw [← Array.length_toList, ← (hrz ρ).length, hasTy_length _ _ hok.flat hok.zty]
    have hgood : (Ty.row j.ty).good := hok.flat
    obtain ⟨rfl, hlr⟩ := hl
    obtain ⟨rfl, hcr⟩ := hc
    -- all cells
    have hall : ∀ n, All2 (RepS ρ) (zerosD j.zero n).flat (List.replicate n z.cells.toList).flatten := fun n => by rw [zerosD_flat]; exact (hrz ρ).flatten_replicate n
    have hsplit : (List.replicate c.toNat z.cells.toList).flatten = (List.replicate l.toNat z.cells.toList).flatten ++ (List.replicate (c.toNat - l.toNat) z.cells.toList).flatten := by
      rw [← List.flatten_append, List.replicate_append_replicate]
      congr 2
      omega
    have hlen : (List.replicate c.toNat z.cells.toList).flatten.length = c.toNat * j.ty.size := by
      rw [List.length_flatten]; simp [hzl]
    refine sound_new hΓ hI (C := (List.replicate c.toNat z.cells.toList).flatten.toArray) (t := el) (front := (List.replicate l.toNat z.cells.toList).flatten) (tail := (List.replicate (c.toNat - l.toNat) z.cells.toList).flatten)
      (r := .slice (some ⟨w.heap.size, 0, none⟩) l.toNat c.toNat) hnx he hgood (by rw [← hzd]; exact zerosD_ty hok.zty) (by rw [← hzd]; exact hall _) (by exact hsplit) hI (fr := (0, 0)) (.inl rfl) ?_ ?_
    · have hb : (typeInfo el).run P w = .ok inf w := by simp [typeInfo, q1]
      have hwl : IntKind.wrap .i64 l = l := wrap_i64_in hlr
      have hwc : IntKind.wrap .i64 c = c := wrap_i64_in hcr
      have h1 : (c < 0 || (inf.bytes : Int) * c > 2 ^ 48) = false := by
        rw [q3]
        simp only [Bool.or_eq_false_iff, decide_eq_false_iff_not]
        refine ⟨by omega, ?_⟩
        rw [Int.mul_comm]
        simp only [Int.reducePow]
        omega
      simp only [Instr.makeSlice, underlying, Sem.run_bind, Sem.run_pure, Result.andThen_ok, run_program, g1, asInt, asIntOf, hb, hwl, hwc, h1]
      have h2 : (false || decide (l < 0) || decide (l > c)) = false := by simp; omega
      rw [Sem.run_ite, if_neg (by rw [h2]; simp)]
      simp only [Sem.run_bind, run_askRoom, Result.andThen_ok, run_sizeOf hΓ hj w, Sem.run_ite, Sem.run_pure]
      have harr : ∀ zc : Array Value, (c.toNat * j.ty.size = 0 ∨ zc = z.cells) → (Array.range (c.toNat * j.ty.size)).map (fun x => zc[x % zc.size]!) = (List.replicate c.toNat z.cells.toList).flatten.toArray := by
        intro zc hzc
        apply Array.ext'
        by_cases h0 : c.toNat * j.ty.size = 0
        · have : (List.replicate c.toNat z.cells.toList).flatten = [] := List.length_eq_zero_iff.1 (by rw [hlen, h0])
          rw [h0, this]
          simp
        · have hzc := hzc.resolve_left h0
          subst hzc
          rw [← hzl, zeros_cells z.cells c.toNat (.inl (by intro h; rw [← hzl, h] at h0; simp at h0))]
      by_cases h0 : c.toNat * j.ty.size = 0
      · rw [if_pos h0, harr #[] (.inl h0)]
        rfl
      · rw [if_neg h0, hz]
        simp only [Result.andThen_ok]
        rw [harr z.cells (.inr rfl)]
        rfl
    · intro ρ' _ h'
      refine ⟨_, h', _, _, _, _, rfl, rfl, rfl, by omega, by omega, (fun k hk => by cases hk), fun hc => ⟨by simp [offAt], ?_⟩⟩
      simp only [offAt, Nat.zero_add, List.size_toArray, hlen]
      omega
  split at he <;> try contradiction
  all_goals (rename_i z hz; exact key _ hz he)
end
end Go.Proofs.YtljkjdhkofbgmaaDoor.Av
