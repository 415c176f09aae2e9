import Derived.Test.YtljkjdhkofbgmaaDoorAv4
namespace Go.Proofs.YtljkjdhkofbgmaaDoor.Av
open Go
set_option linter.all false
set_option maxRecDepth 3000

/-- a part of an array's or a struct's value, at a way of one step -/
def partE (Γ : Tab) (T : Ty) (x : D) (s : Step) (t : Nat) (ob : Prop) : Option Eff :=
  match ti Γ t with
  | some i => match tyAt T [s] with
    | some T' => match T'.beq i.ty with
      | true => match getP x [s] with
        | some y => some ⟨(ob ∧ okP x [s]) ∧ hasTy T x, y, [], 0⟩
        | none => none
      | false => none
    | none => none
  | none => none

def fieldE (Γ : Tab) (s : Nat) (x : D) (f : Nat) : Option Eff :=
  match ti Γ s with
  | some i => match i.desc with
    | .st ts => match ts[f]? with
      | some t => partE Γ i.ty x (.fld f) t True
      | none => none
    | _ => none
  | none => none

def indexE (Γ : Tab) (t : Nat) (x ix : D) : Option Eff :=
  match toInt? ix with
  | some n => match x with
    | .str l => some ⟨0 ≤ n ∧ n < l.length, .u8 (l.getD n.toNat 0), [], 0⟩
    | x => match ti Γ t with
      | some i => match i.desc with
        | .arr len e => partE Γ i.ty x (.idx n.toNat) e (0 ≤ n ∧ n < len)
        | _ => none
      | none => none
  | none => none

def indexAddrE (Γ : Tab) (mg : MG) (t : Nat) (x ix : D) : Option Eff :=
  match toInt? ix with
  | some n => match ti Γ t with
    | some i => match x with
      | .ptr b p => match mg b with
        | some e => match i.desc with
          | .arr len _ => match tyAt e.ty p with
            | some T => match T.beq i.ty with
              | true => pureE (0 ≤ n ∧ n < len) (.ptr b (p ++ [.idx n.toNat]))
              | false => none
            | none => none
          | _ => none
        | none => none
      | .slice b p off len _ => match mg b with
        | some e => match i.desc with
          | .slice el => match ti Γ el with
            | some j => match tyAt e.ty p with
              | some T => match elemTy T with
                | some t' => match t'.beq j.ty with
                  | true => pureE (0 ≤ n ∧ n < len) (.ptr b (p ++ [.idx (off + n.toNat)]))
                  | false => none
                | none => none
              | none => none
            | none => none
          | _ => none
        | none => none
      | _ => none
    | none => none
  | none => none

def optInt (x : Option D) : Option (Option Int) :=
  match x with
  | none => some none
  | some d => match toInt? d with
    | some n => some (some n)
    | none => none

def noHigh (hi mx : Option Int) : Bool :=
  match mx with
  | none => false
  | some _ => match hi with
    | none => true
    | some _ => false

/-- lower and upper bounds: the lower one, the upper one, and the new capacity -/
def sliceE (Γ : Tab) (mg : MG) (t : Nat) (x : D) (lo hi mx : Option D) : Option Eff :=
  match optInt lo with
  | some lo => match optInt hi with
    | some hi => match optInt mx with
      | some mx => match x with
        | .ptr b p => match mg b with
          | some e => match ti Γ t with
            | some i => match i.desc with
              | .arr n el => match ti Γ el with
                | some j => match tyAt e.ty p with
                  | some T => match T.beq i.ty with
                    | true => match elemTy i.ty with
                      | some t' => match t'.beq j.ty with
                        | true => match getP e.d p with
                          | some _ => match noHigh hi mx with
                            | false => pureE ((0 ≤ lo.getD 0 ∧ lo.getD 0 ≤ hi.getD n ∧ hi.getD n ≤ mx.getD n ∧ mx.getD n ≤ n) ∧ n < 9223372036854775808 ∧ okP e.d p)
                                (.slice b p (lo.getD 0).toNat ((hi.getD n).toNat - (lo.getD 0).toNat) (some ((mx.getD n).toNat - (lo.getD 0).toNat)))
                            | true => none
                          | none => none
                        | false => none
                      | none => none
                    | false => none
                  | none => none
                | none => none
              | _ => none
            | none => none
          | none => none
        | .slice b p off len cap => match mg b with
          | some e => match ti Γ t with
            | some i => match i.desc with
              | .slice el => match ti Γ el with
                | some j => match tyAt e.ty p with
                  | some T => match elemTy T with
                    | some t' => match t'.beq j.ty with
                      | true => match noHigh hi mx with
                        | false => match mx with
                          | some m => pureE (0 ≤ lo.getD 0 ∧ lo.getD 0 ≤ hi.getD len ∧ hi.getD len ≤ m ∧ m ≤ len)
                              (.slice b p (off + (lo.getD 0).toNat) ((hi.getD len).toNat - (lo.getD 0).toNat) (some (m.toNat - (lo.getD 0).toNat)))
                          | none => pureE (0 ≤ lo.getD 0 ∧ lo.getD 0 ≤ hi.getD len ∧ hi.getD len ≤ len)
                              (.slice b p (off + (lo.getD 0).toNat) ((hi.getD len).toNat - (lo.getD 0).toNat) (cap.map (· - (lo.getD 0).toNat)))
                        | true => none
                      | false => none
                    | none => none
                  | none => none
                | none => none
              | _ => none
            | none => none
          | none => none
        | .nilslice => match ti Γ t with
          | some i => match i.desc with
            | .slice el => match ti Γ el with
              | some _ => match noHigh hi mx with
                | false => pureE (lo.getD 0 = 0 ∧ hi.getD 0 = 0 ∧ mx.getD 0 = 0) .nilslice
                | true => none
              | none => none
            | _ => none
          | none => none
        | .str l => match mx with
          | none => match ti Γ t with
            | some i => match i.desc with
              | .str =>
                pureE (0 ≤ lo.getD 0 ∧ lo.getD 0 ≤ hi.getD l.length ∧ hi.getD l.length ≤ l.length) (.str ((l.drop (lo.getD 0).toNat).take ((hi.getD l.length).toNat - (lo.getD 0).toNat)))
              | _ => none
            | none => none
          | some _ => none
        | _ => none
      | none => none
    | none => none
  | none => none

def toArrE (Γ : Tab) (mg : MG) (t : Nat) (x : D) : Option Eff :=
  match x with
  | .slice b p off len _ => match mg b with
    | some e => match ti Γ t with
      | some i => match i.desc with
        | .arr n _ => match Nat.beq n 0 with
          | false => match tyAt e.ty p with
            | some T => match elemTy T with
              | some t' => match (Ty.arr n t').beq i.ty with
                | true => pureE (n ≤ len) (.ptr b (p ++ [.win off n]))
                | false => none
              | none => none
            | none => none
          | true => none
        | _ => none
      | none => none
    | none => none
  | _ => none

def D.basic : D → Bool
  | .undef | .fn _ _ _ | .u8s _ | .u32s _ | .u64s _ | .node _ | .tup _ => false
  | _ => true

def allBasic : List D → Bool
  | [] => true
  | d :: ds => match d.basic with
    | true => allBasic ds
    | false => false

def pickD (c a b : Option D) : Option D :=
  match c with
  | some (.bool true) => a
  | some (.bool false) => b
  | _ => none

theorem repV_basic {ρ : Env} {d : D} {v : Value} (h : d.basic = true) (H : Rep ρ d v) : RepB ρ d v := by
  cases d <;> first | exact H | (simp [D.basic] at h)

/-! soundness -/
section
set_option linter.unusedSectionVars false
variable {P : Program} {Γ : Tab} (hΓ : TabOk P Γ) {X : Ctx} {ρ : Env} {m : Mem} {w : World} (hI : Inv X ρ m w) {mg : MG} (hm : ∀ b e, mg b = some e → get m b = some e) {nx : Nat}
include hΓ

theorem run_part {T T' : Ty} {x y : D} {v : Value} {s : Step} {t : Nat} {i : TI} (hi : ti Γ t = some i) (hg : T.flatTy) (hx : hasTy T x) (hT : tyAt T [s] = some T') (hb : T'.beq i.ty = true)
    (ho : okP x [s]) (hy : getP x [s] = some y) (hv : Rep ρ x v) (w : World) : ∃ r, (part t v.cells (offAt T [s])).run P w = .ok r w ∧ Rep ρ y r := by
  have := Ty.eq_of_beq _ _ hb; subst this
  have hgg : T.good := by cases T <;> first | exact hg | exact hg.elim
  obtain ⟨h1, pre, post, h2, h3⟩ := getP_spec [s] T x y i.ty hgg hx hT ho hy
  have hc := rep_cells hx hv
  rw [h2] at hc
  obtain ⟨b12, b3, e1, ha, hb'⟩ := All2.split_left hc
  obtain ⟨b1, b2, e2, hc', hd⟩ := All2.split_left ha
  have hl : b1.length = offAt T [s] := by rw [← hc'.length, h3]
  have hf := (hΓ t i hi).flat
  have hagg := hasTy_agg h1 hf
  unfold part
  rw [Sem.run_bind, run_isAgg hΓ hi w, Result.andThen_ok]
  cases hca : y.isAgg with
  | false =>
    rw [hca] at hagg
    rw [← hagg]
    have hcell : y.isCell = true := by
      cases hT' : i.ty <;> rw [hT'] at hagg h1 <;> first | exact h1 | (simp [Ty.agg] at hagg)
    rw [D.flat_cell hcell] at hd
    cases b2 with
    | nil => exact hd.elim
    | cons z zs =>
      have hz : v.cells[offAt T [s]]? = some z := by
        rw [← Array.getElem?_toList, e1, e2, ← hl]
        simp
      refine ⟨z, ?_, rep_of_repS hcell hd.1⟩
      simp only [Bool.false_eq_true, if_false, hz]
      rfl
  | true =>
    rw [hca] at hagg
    rw [← hagg]
    have hlen : b2.length = i.ty.size := by rw [← hd.length, hasTy_length _ _ hf h1]
    refine ⟨.agg b2.toArray, ?_, ?_⟩
    · simp only [if_true, Sem.run_bind, run_sizeOf hΓ hi w, Result.andThen_ok, Sem.run_pure]
      congr 2
      apply Array.ext'
      rw [Array.toList_extract, e1, e2, ← hl, ← hlen]
      simp [List.extract]
    · rw [rep_eq (by cases y <;> simp_all [D.isAgg, D.isTup])]
      unfold RepV
      rw [hca]
      exact ⟨b2, rfl, hd⟩

include hI

theorem partE_inv {T : Ty} {x : D} {s : Step} {t : Nat} {ob : Prop} {e : Eff} (h : partE Γ T x s t ob = some e) :
    ∃ i T' y, ti Γ t = some i ∧ tyAt T [s] = some T' ∧ T'.beq i.ty = true ∧ getP x [s] = some y ∧ e = ⟨(ob ∧ okP x [s]) ∧ hasTy T x, y, [], 0⟩ := by
  unfold partE at h
  repeat' split at h
  all_goals try contradiction
  cases h
  exact ⟨_, _, _, by assumption, by assumption, by assumption, by assumption, rfl⟩

theorem isAgg_of {T : Ty} {x : D} {s : Step} {T' : Ty} (h : hasTy T x) (hT : tyAt T [s] = some T') : x.isAgg = true := by
  cases T with
  | cell => exact absurd hT tyAt_cell_cons
  | arr n t => cases x <;> first | rfl | exact h.elim
  | st fs => cases x <;> first | rfl | exact h.elim
  | row t => cases x <;> first | rfl | exact h.elim

theorem agg_cells {x : D} {v : Value} (h : x.isAgg = true) (hv : Rep ρ x v) : ∃ cs, v = .agg cs ∧ v.cells = cs := by
  rw [rep_eq (by cases x <;> simp_all [D.isAgg, D.isTup])] at hv
  unfold RepV at hv
  rw [h] at hv
  obtain ⟨cs, rfl, _⟩ := hv
  exact ⟨_, rfl, rfl⟩

theorem sound_field {s : Nat} {x : D} {v : Value} {f : Nat} {e : Eff} (he : fieldE Γ s x f = some e) (ho : e.ob) (hx : Rep ρ x v) : Sound P (Instr.field s v f) id X ρ m w nx e := by
  unfold fieldE at he
  repeat' split at he
  all_goals try contradiction
  rename_i i hi _ ts hd _ t ht
  obtain ⟨j, T', y, h1, h2, h3, h4, rfl⟩ := partE_inv hΓ hI he
  obtain ⟨⟨_, ho⟩, hty⟩ := ho
  have hdd := (hΓ s i hi).desc
  unfold DescOk at hdd
  rw [hd] at hdd
  obtain ⟨fs, Ts, g1, g2, g3⟩ := hdd
  rw [g2] at h2 hty
  have hf : ∃ T, Ts[f]? = some T := by
    simp only [tyAt] at h2
    cases e : Ts[f]? with
    | none => simp [e] at h2
    | some T => exact ⟨T, rfl⟩
  obtain ⟨T, hf⟩ := hf
  obtain ⟨fd, k1, k2, k3, k4⟩ := fieldsOk_get g3 f hf
  have : fd.type = t := by rw [ht] at k4; cases k4; rfl
  subst this
  obtain ⟨r, h5, h6⟩ := run_part hΓ h1 (by rw [← g2]; exact (hΓ s i hi).flat) hty h2 h3 ho h4 hx w
  obtain ⟨cs, rfl, hcs⟩ := agg_cells hΓ hI (isAgg_of hΓ hI hty h2) hx
  refine Sound.pure hI (r := r) ?_ h6
  have k1' : fs[f]? = some fd := by simpa using k1
  have hoff : offAt (.st Ts) [.fld f] = fd.offset := by simp [offAt, hf, k2]
  rw [hoff, hcs] at h5
  simp [Instr.field, underlying, g1, k1', asAgg, h5]

theorem sound_index {t : Nat} {x ix : D} {v iv : Value} {e : Eff} (he : indexE Γ t x ix = some e) (ho : e.ob) (hx : Rep ρ x v) (hix : Rep ρ ix iv)
    (hstr : ∀ l, x = .str l → P.underlying t = some .string) : Sound P (Instr.index t v iv) id X ρ m w nx e := by
  unfold indexE at he
  split at he <;> try contradiction
  rename_i n hn
  have hiv : ∃ k, iv = .int k n := by
    cases ix <;> simp only [toInt?, Option.some.injEq] at hn <;> try contradiction
    all_goals subst hn
    case i64 n => obtain ⟨rfl, _⟩ := hix; exact ⟨_, rfl⟩
    all_goals exact ⟨_, hix⟩
  obtain ⟨k, rfl⟩ := hiv
  split at he
  · rename_i l
    cases he
    obtain ⟨s, rfl, hs, hlen⟩ := hx
    obtain ⟨h0, h1⟩ := ho
    have hu := hstr l rfl
    have hsz : s.size = l.length := by
      have := congrArg List.length hs
      rw [bytesV, List.length_map, Array.length_toList] at this
      exact this
    have hlt : n.toNat < s.size := by omega
    refine Sound.pure hI (r := .int .u8 (l.getD n.toNat 0).toNat) ?_ rfl
    have hb : s[n.toNat]? = some ⟨l.getD n.toNat 0⟩ := by
      have h2 : s[n.toNat]? = s.data.toList[n.toNat]? := by
        rw [getElem?_pos s n.toNat hlt, Array.getElem?_toList, getElem?_pos s.data n.toNat hlt]
        rfl
      rw [h2, hs, bytesV, List.getElem?_map]
      have : l[n.toNat]? = some (l.getD n.toNat 0) := by
        rw [List.getElem?_eq_getElem (by omega)]
        simp [List.getD, List.getElem?_eq_getElem (show n.toNat < l.length by omega)]
      rw [this]
      rfl
    simp only [Instr.index, asIntOf, underlying, Sem.run_bind, Sem.run_pure, Result.andThen_ok, run_program, hu, if_pos h0, hb]
    rfl
  · repeat' split at he
    all_goals try contradiction
    rename_i i hi _ len el hd
    obtain ⟨j, T', y, h1, h2, h3, h4, rfl⟩ := partE_inv hΓ hI he
    obtain ⟨⟨⟨hn0, hn1⟩, ho⟩, hty⟩ := ho
    have hdd := (hΓ t i hi).desc
    unfold DescOk at hdd
    rw [hd] at hdd
    obtain ⟨g1, T, g2, g3⟩ := hdd
    rw [g2] at h2 hty
    obtain ⟨r, h5, h6⟩ := run_part hΓ h1 (by rw [← g2]; exact (hΓ t i hi).flat) hty h2 h3 ho h4 hx w
    obtain ⟨cs, rfl, hcs⟩ := agg_cells hΓ hI (isAgg_of hΓ hI hty h2) hx
    refine Sound.pure hI (r := r) ?_ h6
    have hoff : offAt (.arr len T) [.idx n.toNat] = n.toNat * T.size := by simp [offAt]
    rw [hoff, hcs] at h5
    have hT' := Ty.eq_of_beq _ _ h3
    simp only [tyAt, Option.some.injEq] at h2
    subst h2
    have hsz := run_sizeOf hΓ h1 w
    rw [← hT'] at hsz
    simp only [Instr.index, asIntOf, underlying, Sem.run_bind, Sem.run_pure, Result.andThen_ok, run_program, g1, if_pos (show 0 ≤ n ∧ n < (len : Int) from ⟨hn0, hn1⟩), hsz]
    exact h5

theorem int_of {ix : D} {iv : Value} {n : Int} (hn : toInt? ix = some n) (hix : Rep ρ ix iv) : ∃ k, iv = .int k n := by
  cases ix <;> simp only [toInt?, Option.some.injEq] at hn <;> try contradiction
  all_goals subst hn
  case i64 n => obtain ⟨rfl, _⟩ := hix; exact ⟨_, rfl⟩
  all_goals exact ⟨_, hix⟩

include hm

theorem sound_indexAddr {t : Nat} {x ix : D} {v iv : Value} {e : Eff} (he : indexAddrE Γ mg t x ix = some e) (ho : e.ob) (hx : Rep ρ x v) (hix : Rep ρ ix iv) : Sound P (Instr.indexAt t v iv) id X ρ m w nx e := by
  unfold indexAddrE at he
  split at he <;> try contradiction
  rename_i n hn
  obtain ⟨k, rfl⟩ := int_of hΓ hI hn hix
  split at he <;> try contradiction
  rename_i i hi
  have hdd := (hΓ t i hi).desc
  unfold DescOk at hdd
  split at he <;> try contradiction
  · rename_i b p
    repeat' split at he
    all_goals try contradiction
    rename_i en hg _ len el hd _ T hT _ hb
    cases he
    rw [hd] at hdd
    obtain ⟨g1, T0, g2, g3⟩ := hdd
    obtain ⟨h0, h1⟩ := ho
    obtain ⟨L, h2, rfl⟩ := hx
    obtain ⟨L', h3, h4⟩ := hI.sat b en (hm _ _ hg)
    rw [h2] at h3; cases h3
    have := Ty.eq_of_beq _ _ hb; subst this
    rw [g2] at hT
    refine Sound.pure hI (r := .pointer (some ⟨L.blk, L.base + offAt L.ty p + n.toNat * T0.size, none⟩)) ?_ ?_
    · cases hinf : P.info? el with
      | none => simp [hinf] at g3
      | some inf =>
        simp only [hinf, Option.map_some, Option.some.injEq] at g3
        simp only [Instr.indexAt, asIntOf, underlying, Sem.run_bind, Sem.run_pure, Result.andThen_ok, run_program, g1, Instr.sureAddr]
        rw [Sem.run_ite, if_pos (show 0 ≤ n ∧ n < (len : Int) from ⟨h0, h1⟩)]
        simp [sizeOf, typeInfo, hinf, g3, add_none]
    · refine ⟨L, h2, ?_⟩
      rw [h4.ty, offAt_append _ _ _ _ hT]
      simp [offAt, Nat.add_assoc]
  · rename_i b p off len cap
    repeat' split at he
    all_goals try contradiction
    rename_i en hg _ el hd _ j hj _ T hT _ t' ht' _ hb
    cases he
    rw [hd] at hdd
    obtain ⟨g1, g2⟩ := hdd
    obtain ⟨h0, h1⟩ := ho
    obtain ⟨L, h2, T1, t1, a, c, k1, k2, rfl, k3, k4, k5, k6⟩ := hx
    obtain ⟨L', h3, h4⟩ := hI.sat b en (hm _ _ hg)
    rw [h2] at h3; cases h3
    rw [h4.ty, hT] at k1; cases k1
    rw [ht'] at k2; cases k2
    obtain ⟨k7, k8⟩ := k6 (by omega)
    have := Ty.eq_of_beq _ _ hb; subst this
    refine Sound.pure hI (r := .pointer (some ⟨L.blk, L.base + offAt L.ty p + (off + n.toNat) * j.ty.size, none⟩)) ?_ ?_
    · simp only [Instr.indexAt, asIntOf, underlying, Sem.run_bind, Sem.run_pure, Result.andThen_ok, run_program, g1]
      rw [Sem.run_ite, if_pos (show 0 ≤ n ∧ n < (len : Int) from ⟨h0, h1⟩)]
      simp only [Sem.run_bind, run_sizeOf hΓ hj w, Result.andThen_ok, Sem.run_pure, k7, add_none]
      congr 4
      rw [Nat.add_mul]; omega
    · refine ⟨L, h2, ?_⟩
      rw [h4.ty, offAt_append _ _ _ _ hT]
      cases T <;> simp only [elemTy, Option.some.injEq] at ht' <;> try contradiction
      · subst ht'; simp [offAt, Nat.add_assoc]
      · subst ht'; simp [offAt, Nat.add_assoc]

theorem sound_toArr {t : Nat} {x : D} {v : Value} {e : Eff} (he : toArrE Γ mg t x = some e) (ho : e.ob) (hx : Rep ρ x v) : Sound P (Instr.arrayAt t v) id X ρ m w nx e := by
  unfold toArrE at he
  split at he <;> try contradiction
  rename_i b p off len cap
  repeat' split at he
  all_goals try contradiction
  rename_i en hg _ i hi _ n el hd _ hz _ T hT _ t' ht' _ hb
  cases he
  have hdd := (hΓ t i hi).desc
  unfold DescOk at hdd
  rw [hd] at hdd
  obtain ⟨g1, T0, g2, g3⟩ := hdd
  obtain ⟨L, h2, T1, t1, a, c, k1, k2, rfl, k3, k4, k5, k6⟩ := hx
  obtain ⟨L', h3, h4⟩ := hI.sat b en (hm _ _ hg)
  rw [h2] at h3; cases h3
  rw [h4.ty, hT] at k1; cases k1
  rw [ht'] at k2; cases k2
  have hn : n ≠ 0 := by intro h0; rw [h0] at hz; cases hz
  have ho : n ≤ len := ho
  obtain ⟨k7, k8⟩ := k6 (by omega)
  refine Sound.pure hI (r := .pointer (some a)) ?_ ?_
  · simp only [Instr.arrayAt, underlying, Sem.run_bind, Sem.run_pure, Result.andThen_ok, run_program, g1]
    rw [Sem.run_ite, if_neg (by omega)]
    rfl
  · refine ⟨L, h2, ?_⟩
    rw [k7, h4.ty, offAt_append _ _ _ _ hT]
    cases T <;> simp only [elemTy, Option.some.injEq] at ht' <;> try contradiction
    · subst ht'; simp [offAt, Nat.add_assoc]
    · subst ht'; simp [offAt, Nat.add_assoc]

omit hΓ hI hm in
theorem run_sliceBound {P : Program} {w : World} {k : IntKind} {n : Int} {y : Nat} {c : BoundsCode} (h0 : 0 ≤ n) (h1 : n ≤ y) : (Instr.sliceBound (.int k n) y c).run P w = .ok n.toNat w := by
  simp [Instr.sliceBound, asIntOf, h0, h1]

/-- an optional value -/
def RepO (ρ : Env) (x : Option D) (v : Option Value) : Prop :=
  match x, v with
  | none, none => True
  | some d, some v => Rep ρ d v
  | _, _ => False

/-- an optional bound's value -/
def BoundIs (o : Option Int) (v : Option Value) : Prop :=
  match o, v with
  | none, none => True
  | some n, some v => ∃ k, v = .int k n
  | _, _ => False

omit hΓ hI hm in
theorem bound_of {x : Option D} {v : Option Value} {o : Option Int} (h : optInt x = some o) (hx : RepO ρ x v) : BoundIs o v := by
  cases x with
  | none =>
    cases v with
    | none => simp only [optInt, Option.some.injEq] at h; subst h; trivial
    | some _ => exact hx.elim
  | some d =>
    cases v with
    | none => exact hx.elim
    | some v =>
      simp only [optInt] at h
      cases hd : toInt? d with
      | none => simp [hd] at h
      | some n =>
        simp only [hd, Option.some.injEq] at h
        subst h
        cases d <;> simp only [toInt?, Option.some.injEq] at hd <;> try contradiction
        all_goals subst hd
        case i64 n => obtain ⟨rfl, _⟩ := hx; exact ⟨_, rfl⟩
        all_goals exact ⟨_, hx⟩

omit hΓ hI hm in
theorem run_bounds {P : Program} {w : World} {sl : Bool} {len cap : Nat} {lo hi mx : Option Int} {vl vh vm : Option Value} (hl : BoundIs lo vl) (hh : BoundIs hi vh) (hx : BoundIs mx vm)
    (hmh : mx = none ∨ hi ≠ none) (h0 : 0 ≤ lo.getD 0) (h1 : lo.getD 0 ≤ hi.getD len) (h2 : hi.getD len ≤ mx.getD cap) (h3 : mx.getD cap ≤ cap) :
    (Instr.sliceBounds sl len cap vl vh vm).run P w = .ok ((lo.getD 0).toNat, (hi.getD len).toNat, (mx.getD cap).toNat) w := by
  have hb : ∀ {k : IntKind} {n : Int} {y : Nat} {c : BoundsCode}, 0 ≤ n → n ≤ y → (Instr.sliceBound (.int k n) y c).run P w = .ok n.toNat w := fun a b => run_sliceBound a b
  have hb2 : ∀ {n : Int}, 0 ≤ n → ((n.toNat : Nat) : Int) = n := fun h => Int.toNat_of_nonneg h
  cases lo <;> cases vl <;> try exact hl.elim
  all_goals cases hi <;> cases vh <;> try exact hh.elim
  all_goals cases mx <;> cases vm <;> try exact hx.elim
  all_goals simp only [Option.getD_none, Option.getD_some] at h0 h1 h2 h3 ⊢
  all_goals try (obtain ⟨kl, rfl⟩ := hl)
  all_goals try (obtain ⟨kh, rfl⟩ := hh)
  all_goals try (obtain ⟨kx, rfl⟩ := hx)
  all_goals try (rcases hmh with h | h <;> (first | cases h | exact absurd rfl h); done)
  all_goals unfold Instr.sliceBounds
  all_goals simp only [Sem.run_bind, Sem.run_pure, Result.andThen_ok]
  all_goals repeat (first | rw [hb (by omega) (by omega)] | simp only [Result.andThen_ok])
  all_goals simp

omit hΓ hI hm in
theorem noHigh_spec {hi mx : Option Int} (h : noHigh hi mx = false) : mx = none ∨ hi ≠ none := by
  cases mx <;> cases hi <;> simp_all [noHigh]

omit hΓ hI hm in
theorem SatE.fits {e : Ent} {L : Loc} (H : SatE ρ e L w) {p : Path} {T : Ty} {x : D} (ht : tyAt e.ty p = some T) (ho : okP e.d p) (hx : getP e.d p = some x) (hf : T.flatTy) :
    L.base + offAt L.ty p + T.size ≤ L.n := by
  obtain ⟨C, t, fr, pre, front, tail, h1, h2, h3, h4, h5, h6⟩ := H.mem
  obtain ⟨hT, pr, po, h7, h8⟩ := getP_spec p e.ty e.d x T H.good H.has ht ho hx
  have h9 := h5.length
  rw [h7] at h9
  have h10 := hasTy_length _ _ hf hT
  have h11 := congrArg List.length h2
  simp only [List.length_append, Array.length_toList] at h9 h11
  rw [H.ty]
  omega

theorem sound_slice {t : Nat} {x : D} {v : Value} {lo hi mx : Option D} {vl vh vm : Option Value} {e : Eff} (he : sliceE Γ mg t x lo hi mx = some e) (ho : e.ob) (hx : Rep ρ x v)
    (hl : RepO ρ lo vl) (hh : RepO ρ hi vh)
    (hmx : RepO ρ mx vm) : Sound P (Instr.sliceAt t v vl vh vm) id X ρ m w nx e := by
  unfold sliceE at he
  split at he <;> try contradiction
  rename_i lo' hlo
  split at he <;> try contradiction
  rename_i hi' hhi
  split at he <;> try contradiction
  rename_i mx' hmx'
  have bl := bound_of hlo hl
  have bh := bound_of hhi hh
  have bm := bound_of hmx' hmx
  split at he <;> try contradiction
  · rename_i b p
    repeat' split at he
    all_goals try contradiction
    rename_i en hg _ i hi _ n el hd _ j hj _ T hT _ hb _ t' ht' _ hb2 _ x hgx _ hnh
    cases he
    have hdd := (hΓ t i hi).desc
    unfold DescOk at hdd
    rw [hd] at hdd
    obtain ⟨g1, T0, g2, g3⟩ := hdd
    obtain ⟨⟨o1, o2, o3, o4⟩, o5, o6⟩ := ho
    obtain ⟨L, h2, rfl⟩ := hx
    obtain ⟨L', h3, h4⟩ := hI.sat b en (hm _ _ hg)
    rw [h2] at h3; cases h3
    have := Ty.eq_of_beq _ _ hb; subst this
    have := Ty.eq_of_beq _ _ hb2; subst this
    have hfit := h4.fits hT o6 hgx (hΓ t i hi).flat
    rw [g2] at hT ht' hfit
    simp only [elemTy, Option.some.injEq] at ht'
    subst ht'
    refine Sound.pure hI (r := .slice (some (if (mx'.getD n).toNat = (lo'.getD 0).toNat then ⟨L.blk, L.base + offAt L.ty p, none⟩ else ⟨L.blk, L.base + offAt L.ty p + (lo'.getD 0).toNat * j.ty.size, none⟩))
      ((hi'.getD n).toNat - (lo'.getD 0).toNat) ((mx'.getD n).toNat - (lo'.getD 0).toNat)) ?_ ?_
    · simp only [Instr.sliceAt, underlying, Sem.run_bind, Sem.run_pure, Result.andThen_ok, run_program, g1, Instr.sureAddr, run_bounds bl bh bm (noHigh_spec hnh) o1 o2 o3 o4, run_sizeOf hΓ hj w, add_none]
    · refine ⟨L, h2, _, _, _, _, by rw [h4.ty]; exact hT, rfl, rfl, by omega, by omega, fun k hk => by cases hk; rfl, fun hc => ⟨?_, ?_⟩⟩
      · rw [if_neg (by omega)]
      · have : (lo'.getD 0).toNat + ((mx'.getD n).toNat - (lo'.getD 0).toNat) ≤ n := by omega
        have := Nat.mul_le_mul_right j.ty.size this
        simp only [Ty.size] at hfit
        omega
  · rename_i b p off len cap
    split at he <;> try contradiction
    rename_i en hg
    split at he <;> try contradiction
    rename_i i hi
    split at he <;> try contradiction
    rename_i el hd
    split at he <;> try contradiction
    rename_i j hj
    split at he <;> try contradiction
    rename_i T hT
    split at he <;> try contradiction
    rename_i t' ht'
    split at he <;> try contradiction
    rename_i hb
    split at he <;> try contradiction
    rename_i hnh
    have hdd := (hΓ t i hi).desc
    unfold DescOk at hdd
    rw [hd] at hdd
    obtain ⟨g1, g2⟩ := hdd
    obtain ⟨L, h2, T1, t1, a, c, k1, k2, rfl, k3, k4, k5, k6⟩ := hx
    obtain ⟨L', h3, h4⟩ := hI.sat b en (hm _ _ hg)
    rw [h2] at h3; cases h3
    rw [h4.ty, hT] at k1; cases k1
    rw [ht'] at k2; cases k2
    have := Ty.eq_of_beq _ _ hb; subst this
    split at he
    · rename_i mm
      cases he
      obtain ⟨o1, o2, o3, o4⟩ := ho
      refine Sound.pure hI (r := .slice (if mm.toNat = (lo'.getD 0).toNat then some a else some (a.add ((lo'.getD 0).toNat * j.ty.size))) ((hi'.getD len).toNat - (lo'.getD 0).toNat) (mm.toNat - (lo'.getD 0).toNat)) ?_ ?_
      · simp only [Instr.sliceAt, Instr.slice, underlying, Sem.run_bind, Sem.run_pure, Result.andThen_ok, run_program, g1, run_bounds (cap := c) bl bh bm (noHigh_spec hnh) o1 o2 o3 (by show mm ≤ c; omega), run_sizeOf hΓ hj w]
        rfl
      · refine ⟨L, h2, _, _, if mm.toNat = (lo'.getD 0).toNat then a else (a.add ((lo'.getD 0).toNat * j.ty.size)), mm.toNat - (lo'.getD 0).toNat, by rw [h4.ty]; exact hT, ht', by split <;> rfl, by omega, by omega, fun k hk => by cases hk; rfl, fun hc => ?_⟩
        obtain ⟨k7, k8⟩ := k6 (by omega)
        rw [if_neg (by omega), k7, add_none]
        have : off + (lo'.getD 0).toNat + (mm.toNat - (lo'.getD 0).toNat) ≤ off + c := by omega
        have := Nat.mul_le_mul_right j.ty.size this
        refine ⟨?_, by omega⟩
        rw [Nat.add_mul]
        simp [Nat.add_assoc]
    · cases he
      obtain ⟨o1, o2, o3⟩ := ho
      refine Sound.pure hI (r := .slice (if c = (lo'.getD 0).toNat then some a else some (a.add ((lo'.getD 0).toNat * j.ty.size))) ((hi'.getD len).toNat - (lo'.getD 0).toNat) (c - (lo'.getD 0).toNat)) ?_ ?_
      · simp only [Instr.sliceAt, Instr.slice, underlying, Sem.run_bind, Sem.run_pure, Result.andThen_ok, run_program, g1, run_bounds (cap := c) bl bh bm (noHigh_spec hnh) o1 o2 (by show _ ≤ (c : Int); omega) (by show (c : Int) ≤ c; omega), run_sizeOf hΓ hj w]
        simp
      · refine ⟨L, h2, _, _, if c = (lo'.getD 0).toNat then a else (a.add ((lo'.getD 0).toNat * j.ty.size)), c - (lo'.getD 0).toNat, by rw [h4.ty]; exact hT, ht', by split <;> rfl, by omega, by omega, ?_, fun hc => ?_⟩
        · intro k hk
          cases cap with
          | none => cases hk
          | some k0 => simp only [Option.map_some, Option.some.injEq] at hk; rw [k5 k0 rfl, hk]
        · obtain ⟨k7, k8⟩ := k6 (by omega)
          rw [if_neg (by omega), k7, add_none]
          have : off + (lo'.getD 0).toNat + (c - (lo'.getD 0).toNat) ≤ off + c := by omega
          have := Nat.mul_le_mul_right j.ty.size this
          refine ⟨?_, by omega⟩
          rw [Nat.add_mul]
          simp [Nat.add_assoc]
  · repeat' split at he
    all_goals try contradiction
    rename_i i hi _ el hd _ j hj _ hnh
    cases he
    have hdd := (hΓ t i hi).desc
    unfold DescOk at hdd
    rw [hd] at hdd
    obtain ⟨g1, g2⟩ := hdd
    obtain ⟨o1, o2, o3⟩ := ho
    have hx : v = .slice none 0 0 := hx
    subst hx
    refine Sound.pure hI (r := .slice none 0 0) ?_ rfl
    simp only [Instr.sliceAt, Instr.slice, underlying, Sem.run_bind, Sem.run_pure, Result.andThen_ok, run_program, g1,
      run_bounds (len := 0) (cap := 0) bl bh bm (noHigh_spec hnh) (by omega) (by simp only [Int.natCast_zero]; omega) (by simp only [Int.natCast_zero]; omega) (by simp only [Int.natCast_zero]; omega), run_sizeOf hΓ hj w]
    simp [o1, o2, o3]
  · rename_i l
    repeat' split at he
    all_goals try contradiction
    rename_i i hi _ hd
    cases he
    have hdd := (hΓ t i hi).desc
    unfold DescOk at hdd
    rw [hd] at hdd
    obtain ⟨g1, g2⟩ := hdd
    obtain ⟨o1, o2, o3⟩ := ho
    obtain ⟨s, rfl, hs, hlen⟩ := hx
    have hsz : s.size = l.length := by
      have := congrArg List.length hs
      rw [bytesV, List.length_map, Array.length_toList] at this
      exact this
    have hvm : vm = none := by cases vm with | none => rfl | some _ => exact bm.elim
    subst hvm
    refine Sound.pure hI (r := .string (s.extract (lo'.getD 0).toNat (hi'.getD l.length).toNat)) ?_ ?_
    · rw [← hsz] at o2 o3 ⊢
      simp only [Instr.sliceAt, Instr.slice, underlying, Sem.run_bind, Sem.run_pure, Result.andThen_ok, run_program, g1, Option.isSome_none, Bool.false_eq_true, if_false,
        run_bounds (len := s.size) (cap := s.size) bl bh bm (.inl rfl) o1 o2 o3 (by show (s.size : Int) ≤ s.size; omega)]
    · refine ⟨_, rfl, ?_, by simp; omega⟩
      have : (s.extract (lo'.getD 0).toNat (hi'.getD l.length).toNat).data = s.data.extract (lo'.getD 0).toNat (hi'.getD l.length).toNat := by
        simp [ByteArray.data_extract]
      rw [this, Array.toList_extract, hs]
      unfold bytesV
      simp [List.extract, List.map_take, List.map_drop]
end
end Go.Proofs.YtljkjdhkofbgmaaDoor.Av
