import Derived.Test.YtodkhgofmgaafaaDoorM1
import Derived.Laws.BytesString
import Derived.Laws.Append
import Derived.Orders
namespace Go.Proofs.YtodkhgofmgaafaaDoor.Av
open Go
set_option linter.all false
set_option maxRecDepth 3000

/-- a part of an array's or a struct's value, at a way of one step -/
def partE (Γ : Tab) (T : Ty) (x : D) (s : Step) (t : Nat) (ob : Prop) : Option Eff :=
  match ti Γ t with
  | some i => match tyAt T [s] with
    | some T' => match T'.beq i.ty with
      | true => match getP x [s] with
        | some y => some ⟨(ob ∧ okP x [s]) ∧ hasTy T x, y, [], 0⟩
        | none => none
      | false => none
    | none => none
  | none => none

def fieldE (Γ : Tab) (s : Nat) (x : D) (f : Nat) : Option Eff :=
  match ti Γ s with
  | some i => match i.desc with
    | .st ts => match ts[f]? with
      | some t => partE Γ i.ty x (.fld f) t True
      | none => none
    | _ => none
  | none => none

def indexE (Γ : Tab) (t : Nat) (x ix : D) : Option Eff :=
  match toInt? ix with
  | some n => match x with
    | .str l => some ⟨0 ≤ n ∧ n < l.length, .u8 (l.getD n.toNat 0), [], 0⟩
    | x => match ti Γ t with
      | some i => match i.desc with
        | .arr len e => partE Γ i.ty x (.idx n.toNat) e (0 ≤ n ∧ n < len)
        | _ => none
      | none => none
  | none => none

def indexAddrE (Γ : Tab) (mg : MG) (t : Nat) (x ix : D) : Option Eff :=
  match toInt? ix with
  | some n => match ti Γ t with
    | some i => match x with
      | .ptr b p => match mg b with
        | some e => match i.desc with
          | .arr len _ => match tyAt e.ty p with
            | some T => match T.beq i.ty with
              | true => pureE (0 ≤ n ∧ n < len) (.ptr b (p ++ [.idx n.toNat]))
              | false => none
            | none => none
          | _ => none
        | none => none
      | .slice b p off len _ => match mg b with
        | some e => match i.desc with
          | .slice el => match ti Γ el with
            | some j => match tyAt e.ty p with
              | some T => match elemTy T with
                | some t' => match t'.beq j.ty with
                  | true => pureE (0 ≤ n ∧ n < len) (.ptr b (p ++ [.idx (off + n.toNat)]))
                  | false => none
                | none => none
              | none => none
            | none => none
          | _ => none
        | none => none
      | _ => none
    | none => none
  | none => none

def optInt (x : Option D) : Option (Option Int) :=
  match x with
  | none => some none
  | some d => match toInt? d with
    | some n => some (some n)
    | none => none

def noHigh (hi mx : Option Int) : Bool :=
  match mx with
  | none => false
  | some _ => match hi with
    | none => true
    | some _ => false

/-- lower and upper bounds: the lower one, the upper one, and the new capacity -/
def sliceE (Γ : Tab) (mg : MG) (t : Nat) (x : D) (lo hi mx : Option D) : Option Eff :=
  match optInt lo with
  | some lo => match optInt hi with
    | some hi => match optInt mx with
      | some mx => match x with
        | .ptr b p => match mg b with
          | some e => match ti Γ t with
            | some i => match i.desc with
              | .arr n el => match ti Γ el with
                | some j => match tyAt e.ty p with
                  | some T => match T.beq i.ty with
                    | true => match elemTy i.ty with
                      | some t' => match t'.beq j.ty with
                        | true => match getP e.d p with
                          | some _ => match noHigh hi mx with
                            | false => pureE ((0 ≤ lo.getD 0 ∧ lo.getD 0 ≤ hi.getD n ∧ hi.getD n ≤ mx.getD n ∧ mx.getD n ≤ n) ∧ n < 9223372036854775808 ∧ okP e.d p)
                                (.slice b p (lo.getD 0).toNat ((hi.getD n).toNat - (lo.getD 0).toNat) (some ((mx.getD n).toNat - (lo.getD 0).toNat)))
                            | true => none
                          | none => none
                        | false => none
                      | none => none
                    | false => none
                  | none => none
                | none => none
              | _ => none
            | none => none
          | none => none
        | .slice b p off len cap => match mg b with
          | some e => match ti Γ t with
            | some i => match i.desc with
              | .slice el => match ti Γ el with
                | some j => match tyAt e.ty p with
                  | some T => match elemTy T with
                    | some t' => match t'.beq j.ty with
                      | true => match noHigh hi mx with
                        | false => match mx with
                          | some m => pureE (0 ≤ lo.getD 0 ∧ lo.getD 0 ≤ hi.getD len ∧ hi.getD len ≤ m ∧ m ≤ len)
                              (.slice b p (off + (lo.getD 0).toNat) ((hi.getD len).toNat - (lo.getD 0).toNat) (some (m.toNat - (lo.getD 0).toNat)))
                          | none => pureE (0 ≤ lo.getD 0 ∧ lo.getD 0 ≤ hi.getD len ∧ hi.getD len ≤ len)
                              (.slice b p (off + (lo.getD 0).toNat) ((hi.getD len).toNat - (lo.getD 0).toNat) (cap.map (· - (lo.getD 0).toNat)))
                        | true => none
                      | false => none
                    | none => none
                  | none => none
                | none => none
              | _ => none
            | none => none
          | none => none
        | .nilslice => match ti Γ t with
          | some i => match i.desc with
            | .slice el => match ti Γ el with
              | some _ => match noHigh hi mx with
                | false => pureE (lo.getD 0 = 0 ∧ hi.getD 0 = 0 ∧ mx.getD 0 = 0) .nilslice
                | true => none
              | none => none
            | _ => none
          | none => none
        | .str l => match mx with
          | none => match ti Γ t with
            | some i => match i.desc with
              | .str =>
                pureE (0 ≤ lo.getD 0 ∧ lo.getD 0 ≤ hi.getD l.length ∧ hi.getD l.length ≤ l.length) (.str ((l.drop (lo.getD 0).toNat).take ((hi.getD l.length).toNat - (lo.getD 0).toNat)))
              | _ => none
            | none => none
          | some _ => none
        | _ => none
      | none => none
    | none => none
  | none => none

def toArrE (Γ : Tab) (mg : MG) (t : Nat) (x : D) : Option Eff :=
  match x with
  | .slice b p off len _ => match mg b with
    | some e => match ti Γ t with
      | some i => match i.desc with
        | .arr n _ => match Nat.beq n 0 with
          | false => match tyAt e.ty p with
            | some T => match elemTy T with
              | some t' => match (Ty.arr n t').beq i.ty with
                | true => pureE (n ≤ len) (.ptr b (p ++ [.win off n]))
                | false => none
              | none => none
            | none => none
          | true => none
        | _ => none
      | none => none
    | none => none
  | _ => none

def D.basic : D → Bool
  | .undef | .fn _ _ _ | .u8s _ | .u32s _ | .u64s _ | .node _ | .tup _ => false
  | _ => true

def allBasic : List D → Bool
  | [] => true
  | d :: ds => match d.basic with
    | true => allBasic ds
    | false => false

def pickD (c a b : Option D) : Option D :=
  match c with
  | some (.bool true) => a
  | some (.bool false) => b
  | _ => none

theorem repV_basic {ρ : Env} {d : D} {v : Value} (h : d.basic = true) (H : Rep ρ d v) : RepB ρ d v := by
  cases d <;> first | exact H | (simp [D.basic] at h)

/-! soundness -/
section
set_option linter.unusedSectionVars false
variable {P : Program} {Γ : Tab} (hΓ : TabOk P Γ) {X : Ctx} {ρ : Env} {m : Mem} {w : World} (hI : Inv X ρ m w) {mg : MG} (hm : ∀ b e, mg b = some e → get m b = some e) {nx : Nat}
include hΓ

theorem run_part {T T' : Ty} {x y : D} {v : Value} {s : Step} {t : Nat} {i : TI} (hi : ti Γ t = some i) (hg : T.flatTy) (hx : hasTy T x) (hT : tyAt T [s] = some T') (hb : T'.beq i.ty = true)
    (ho : okP x [s]) (hy : getP x [s] = some y) (hv : Rep ρ x v) (w : World) : ∃ r, (part t v.cells (offAt T [s])).run P w = .ok r w ∧ Rep ρ y r := by
  have := Ty.eq_of_beq _ _ hb; subst this
  have hgg : T.good := by cases T <;> first | exact hg | exact hg.elim
  obtain ⟨h1, pre, post, h2, h3⟩ := getP_spec [s] T x y i.ty hgg hx hT ho hy
  have hc := rep_cells hx hv
  rw [h2] at hc
  obtain ⟨b12, b3, e1, ha, hb'⟩ := All2.split_left hc
  obtain ⟨b1, b2, e2, hc', hd⟩ := All2.split_left ha
  have hl : b1.length = offAt T [s] := by rw [← hc'.length, h3]
  have hf := (hΓ t i hi).flat
  have hagg := hasTy_agg h1 hf
  unfold part
  rw [Sem.run_bind, run_isAgg hΓ hi w, Result.andThen_ok]
  cases hca : y.isAgg with
  | false =>
    rw [hca] at hagg
    rw [← hagg]
    have hcell : y.isCell = true := by
      cases hT' : i.ty <;> rw [hT'] at hagg h1 <;> first | exact h1 | (simp [Ty.agg] at hagg)
    rw [D.flat_cell hcell] at hd
    cases b2 with
    | nil => exact hd.elim
    | cons z zs =>
      have hz : v.cells[offAt T [s]]? = some z := by
        rw [← Array.getElem?_toList, e1, e2, ← hl]
        simp
      refine ⟨z, ?_, rep_of_repS hcell hd.1⟩
      simp only [Bool.false_eq_true, if_false, hz]
      rfl
  | true =>
    rw [hca] at hagg
    rw [← hagg]
    have hlen : b2.length = i.ty.size := by rw [← hd.length, hasTy_length _ _ hf h1]
    refine ⟨.agg b2.toArray, ?_, ?_⟩
    · simp only [if_true, Sem.run_bind, run_sizeOf hΓ hi w, Result.andThen_ok, Sem.run_pure]
      congr 2
      apply Array.ext'
      rw [Array.toList_extract, e1, e2, ← hl, ← hlen]
      simp [List.extract]
    · rw [rep_eq (by cases y <;> simp_all [D.isAgg, D.isTup])]
      unfold RepV
      rw [hca]
      exact ⟨b2, rfl, hd⟩

include hI

theorem partE_inv {T : Ty} {x : D} {s : Step} {t : Nat} {ob : Prop} {e : Eff} (h : partE Γ T x s t ob = some e) :
    ∃ i T' y, ti Γ t = some i ∧ tyAt T [s] = some T' ∧ T'.beq i.ty = true ∧ getP x [s] = some y ∧ e = ⟨(ob ∧ okP x [s]) ∧ hasTy T x, y, [], 0⟩ := by
  unfold partE at h
  repeat' split at h
  all_goals try contradiction
  cases h
  exact ⟨_, _, _, by assumption, by assumption, by assumption, by assumption, rfl⟩

theorem isAgg_of {T : Ty} {x : D} {s : Step} {T' : Ty} (h : hasTy T x) (hT : tyAt T [s] = some T') : x.isAgg = true := by
  cases T with
  | cell => exact absurd hT tyAt_cell_cons
  | arr n t => cases x <;> first | rfl | exact h.elim
  | st fs => cases x <;> first | rfl | exact h.elim
  | row t => cases x <;> first | rfl | exact h.elim

theorem agg_cells {x : D} {v : Value} (h : x.isAgg = true) (hv : Rep ρ x v) : ∃ cs, v = .agg cs ∧ v.cells = cs := by
  rw [rep_eq (by cases x <;> simp_all [D.isAgg, D.isTup])] at hv
  unfold RepV at hv
  rw [h] at hv
  obtain ⟨cs, rfl, _⟩ := hv
  exact ⟨_, rfl, rfl⟩

theorem sound_field {s : Nat} {x : D} {v : Value} {f : Nat} {e : Eff} (he : fieldE Γ s x f = some e) (ho : e.ob) (hx : Rep ρ x v) : Sound P (Instr.field s v f) id X ρ m w nx e := by
  unfold fieldE at he
  repeat' split at he
  all_goals try contradiction
  rename_i i hi _ ts hd _ t ht
  obtain ⟨j, T', y, h1, h2, h3, h4, rfl⟩ := partE_inv hΓ hI he
  obtain ⟨⟨_, ho⟩, hty⟩ := ho
  have hdd := (hΓ s i hi).desc
  unfold DescOk at hdd
  rw [hd] at hdd
  obtain ⟨fs, Ts, g1, g2, g3⟩ := hdd
  rw [g2] at h2 hty
  have hf : ∃ T, Ts[f]? = some T := by
    simp only [tyAt] at h2
    cases e : Ts[f]? with
    | none => simp [e] at h2
    | some T => exact ⟨T, rfl⟩
  obtain ⟨T, hf⟩ := hf
  obtain ⟨fd, k1, k2, k3, k4⟩ := fieldsOk_get g3 f hf
  have : fd.type = t := by rw [ht] at k4; cases k4; rfl
  subst this
  obtain ⟨r, h5, h6⟩ := run_part hΓ h1 (by rw [← g2]; exact (hΓ s i hi).flat) hty h2 h3 ho h4 hx w
  obtain ⟨cs, rfl, hcs⟩ := agg_cells hΓ hI (isAgg_of hΓ hI hty h2) hx
  refine Sound.pure hI (r := r) ?_ h6
  have k1' : fs[f]? = some fd := by simpa using k1
  have hoff : offAt (.st Ts) [.fld f] = fd.offset := by simp [offAt, hf, k2]
  rw [hoff, hcs] at h5
  simp [Instr.field, underlying, g1, k1', asAgg, h5]

theorem sound_index {t : Nat} {x ix : D} {v iv : Value} {e : Eff} (he : indexE Γ t x ix = some e) (ho : e.ob) (hx : Rep ρ x v) (hix : Rep ρ ix iv)
    (hstr : ∀ l, x = .str l → P.underlying t = some .string) : Sound P (Instr.index t v iv) id X ρ m w nx e := by
  unfold indexE at he
  split at he <;> try contradiction
  rename_i n hn
  have hiv : ∃ k, iv = .int k n := by
    cases ix <;> simp only [toInt?, Option.some.injEq] at hn <;> try contradiction
    all_goals subst hn
    case i64 n => obtain ⟨rfl, _⟩ := hix; exact ⟨_, rfl⟩
    all_goals exact ⟨_, hix⟩
  obtain ⟨k, rfl⟩ := hiv
  split at he
  · rename_i l
    cases he
    obtain ⟨s, rfl, hs, hlen⟩ := hx
    obtain ⟨h0, h1⟩ := ho
    have hu := hstr l rfl
    have hsz : s.size = l.length := by
      have := congrArg List.length hs
      rw [bytesV, List.length_map, Array.length_toList] at this
      exact this
    have hlt : n.toNat < s.size := by omega
    refine Sound.pure hI (r := .int .u8 (l.getD n.toNat 0).toNat) ?_ rfl
    have hb : s[n.toNat]? = some ⟨l.getD n.toNat 0⟩ := by
      have h2 : s[n.toNat]? = s.data.toList[n.toNat]? := by
        rw [getElem?_pos s n.toNat hlt, Array.getElem?_toList, getElem?_pos s.data n.toNat hlt]
        rfl
      rw [h2, hs, bytesV, List.getElem?_map]
      have : l[n.toNat]? = some (l.getD n.toNat 0) := by
        rw [List.getElem?_eq_getElem (by omega)]
        simp [List.getD, List.getElem?_eq_getElem (show n.toNat < l.length by omega)]
      rw [this]
      rfl
    simp only [Instr.index, asIntOf, underlying, Sem.run_bind, Sem.run_pure, Result.andThen_ok, run_program, hu, if_pos h0, hb]
    rfl
  · repeat' split at he
    all_goals try contradiction
    rename_i i hi _ len el hd
    obtain ⟨j, T', y, h1, h2, h3, h4, rfl⟩ := partE_inv hΓ hI he
    obtain ⟨⟨⟨hn0, hn1⟩, ho⟩, hty⟩ := ho
    have hdd := (hΓ t i hi).desc
    unfold DescOk at hdd
    rw [hd] at hdd
    obtain ⟨g1, T, g2, g3⟩ := hdd
    rw [g2] at h2 hty
    obtain ⟨r, h5, h6⟩ := run_part hΓ h1 (by rw [← g2]; exact (hΓ t i hi).flat) hty h2 h3 ho h4 hx w
    obtain ⟨cs, rfl, hcs⟩ := agg_cells hΓ hI (isAgg_of hΓ hI hty h2) hx
    refine Sound.pure hI (r := r) ?_ h6
    have hoff : offAt (.arr len T) [.idx n.toNat] = n.toNat * T.size := by simp [offAt]
    rw [hoff, hcs] at h5
    have hT' := Ty.eq_of_beq _ _ h3
    simp only [tyAt, Option.some.injEq] at h2
    subst h2
    have hsz := run_sizeOf hΓ h1 w
    rw [← hT'] at hsz
    simp only [Instr.index, asIntOf, underlying, Sem.run_bind, Sem.run_pure, Result.andThen_ok, run_program, g1, if_pos (show 0 ≤ n ∧ n < (len : Int) from ⟨hn0, hn1⟩), hsz]
    exact h5

theorem int_of {ix : D} {iv : Value} {n : Int} (hn : toInt? ix = some n) (hix : Rep ρ ix iv) : ∃ k, iv = .int k n := by
  cases ix <;> simp only [toInt?, Option.some.injEq] at hn <;> try contradiction
  all_goals subst hn
  case i64 n => obtain ⟨rfl, _⟩ := hix; exact ⟨_, rfl⟩
  all_goals exact ⟨_, hix⟩

include hm

theorem sound_indexAddr {t : Nat} {x ix : D} {v iv : Value} {e : Eff} (he : indexAddrE Γ mg t x ix = some e) (ho : e.ob) (hx : Rep ρ x v) (hix : Rep ρ ix iv) : Sound P (Instr.indexAt t v iv) id X ρ m w nx e := by
  unfold indexAddrE at he
  split at he <;> try contradiction
  rename_i n hn
  obtain ⟨k, rfl⟩ := int_of hΓ hI hn hix
  split at he <;> try contradiction
  rename_i i hi
  have hdd := (hΓ t i hi).desc
  unfold DescOk at hdd
  split at he <;> try contradiction
  · rename_i b p
    repeat' split at he
    all_goals try contradiction
    rename_i en hg _ len el hd _ T hT _ hb
    cases he
    rw [hd] at hdd
    obtain ⟨g1, T0, g2, g3⟩ := hdd
    obtain ⟨h0, h1⟩ := ho
    obtain ⟨L, h2, rfl⟩ := hx
    obtain ⟨L', h3, h4⟩ := hI.sat b en (hm _ _ hg)
    rw [h2] at h3; cases h3
    have := Ty.eq_of_beq _ _ hb; subst this
    rw [g2] at hT
    refine Sound.pure hI (r := .pointer (some ⟨L.blk, L.base + offAt L.ty p + n.toNat * T0.size, none⟩)) ?_ ?_
    · cases hinf : P.info? el with
      | none => simp [hinf] at g3
      | some inf =>
        simp only [hinf, Option.map_some, Option.some.injEq] at g3
        simp only [Instr.indexAt, asIntOf, underlying, Sem.run_bind, Sem.run_pure, Result.andThen_ok, run_program, g1, Instr.sureAddr]
        rw [Sem.run_ite, if_pos (show 0 ≤ n ∧ n < (len : Int) from ⟨h0, h1⟩)]
        simp [sizeOf, typeInfo, hinf, g3, add_none]
    · refine ⟨L, h2, ?_⟩
      rw [h4.ty, offAt_append _ _ _ _ hT]
      simp [offAt, Nat.add_assoc]
  · rename_i b p off len cap
    repeat' split at he
    all_goals try contradiction
    rename_i en hg _ el hd _ j hj _ T hT _ t' ht' _ hb
    cases he
    rw [hd] at hdd
    obtain ⟨g1, g2⟩ := hdd
    obtain ⟨h0, h1⟩ := ho
    obtain ⟨L, h2, T1, t1, a, c, k1, k2, rfl, k3, k4, k5, k6⟩ := hx
    obtain ⟨L', h3, h4⟩ := hI.sat b en (hm _ _ hg)
    rw [h2] at h3; cases h3
    rw [h4.ty, hT] at k1; cases k1
    rw [ht'] at k2; cases k2
    obtain ⟨k7, k8⟩ := k6 (by omega)
    have := Ty.eq_of_beq _ _ hb; subst this
    refine Sound.pure hI (r := .pointer (some ⟨L.blk, L.base + offAt L.ty p + (off + n.toNat) * j.ty.size, none⟩)) ?_ ?_
    · simp only [Instr.indexAt, asIntOf, underlying, Sem.run_bind, Sem.run_pure, Result.andThen_ok, run_program, g1]
      rw [Sem.run_ite, if_pos (show 0 ≤ n ∧ n < (len : Int) from ⟨h0, h1⟩)]
      simp only [Sem.run_bind, run_sizeOf hΓ hj w, Result.andThen_ok, Sem.run_pure, k7, add_none]
      congr 4
      rw [Nat.add_mul]; omega
    · refine ⟨L, h2, ?_⟩
      rw [h4.ty, offAt_append _ _ _ _ hT]
      cases T <;> simp only [elemTy, Option.some.injEq] at ht' <;> try contradiction
      · subst ht'; simp [offAt, Nat.add_assoc]
      · subst ht'; simp [offAt, Nat.add_assoc]

theorem sound_toArr {t : Nat} {x : D} {v : Value} {e : Eff} (he : toArrE Γ mg t x = some e) (ho : e.ob) (hx : Rep ρ x v) : Sound P (Instr.arrayAt t v) id X ρ m w nx e := by
  unfold toArrE at he
  split at he <;> try contradiction
  rename_i b p off len cap
  repeat' split at he
  all_goals try contradiction
  rename_i en hg _ i hi _ n el hd _ hz _ T hT _ t' ht' _ hb
  cases he
  have hdd := (hΓ t i hi).desc
  unfold DescOk at hdd
  rw [hd] at hdd
  obtain ⟨g1, T0, g2, g3⟩ := hdd
  obtain ⟨L, h2, T1, t1, a, c, k1, k2, rfl, k3, k4, k5, k6⟩ := hx
  obtain ⟨L', h3, h4⟩ := hI.sat b en (hm _ _ hg)
  rw [h2] at h3; cases h3
  rw [h4.ty, hT] at k1; cases k1
  rw [ht'] at k2; cases k2
  have hn : n ≠ 0 := by intro h0; rw [h0] at hz; cases hz
  have ho : n ≤ len := ho
  obtain ⟨k7, k8⟩ := k6 (by omega)
  refine Sound.pure hI (r := .pointer (some a)) ?_ ?_
  · simp only [Instr.arrayAt, underlying, Sem.run_bind, Sem.run_pure, Result.andThen_ok, run_program, g1]
    rw [Sem.run_ite, if_neg (by omega)]
    rfl
  · refine ⟨L, h2, ?_⟩
    rw [k7, h4.ty, offAt_append _ _ _ _ hT]
    cases T <;> simp only [elemTy, Option.some.injEq] at ht' <;> try contradiction
    · subst ht'; simp [offAt, Nat.add_assoc]
    · subst ht'; simp [offAt, Nat.add_assoc]

omit hΓ hI hm in
theorem run_sliceBound {P : Program} {w : World} {k : IntKind} {n : Int} {y : Nat} {c : BoundsCode} (h0 : 0 ≤ n) (h1 : n ≤ y) : (Instr.sliceBound (.int k n) y c).run P w = .ok n.toNat w := by
  simp [Instr.sliceBound, asIntOf, h0, h1]

/-- an optional value -/
def RepO (ρ : Env) (x : Option D) (v : Option Value) : Prop :=
  match x, v with
  | none, none => True
  | some d, some v => Rep ρ d v
  | _, _ => False

/-- an optional bound's value -/
def BoundIs (o : Option Int) (v : Option Value) : Prop :=
  match o, v with
  | none, none => True
  | some n, some v => ∃ k, v = .int k n
  | _, _ => False

omit hΓ hI hm in
theorem bound_of {x : Option D} {v : Option Value} {o : Option Int} (h : optInt x = some o) (hx : RepO ρ x v) : BoundIs o v := by
  cases x with
  | none =>
    cases v with
    | none => simp only [optInt, Option.some.injEq] at h; subst h; trivial
    | some _ => exact hx.elim
  | some d =>
    cases v with
    | none => exact hx.elim
    | some v =>
      simp only [optInt] at h
      cases hd : toInt? d with
      | none => simp [hd] at h
      | some n =>
        simp only [hd, Option.some.injEq] at h
        subst h
        cases d <;> simp only [toInt?, Option.some.injEq] at hd <;> try contradiction
        all_goals subst hd
        case i64 n => obtain ⟨rfl, _⟩ := hx; exact ⟨_, rfl⟩
        all_goals exact ⟨_, hx⟩

omit hΓ hI hm in
theorem run_bounds {P : Program} {w : World} {sl : Bool} {len cap : Nat} {lo hi mx : Option Int} {vl vh vm : Option Value} (hl : BoundIs lo vl) (hh : BoundIs hi vh) (hx : BoundIs mx vm)
    (hmh : mx = none ∨ hi ≠ none) (h0 : 0 ≤ lo.getD 0) (h1 : lo.getD 0 ≤ hi.getD len) (h2 : hi.getD len ≤ mx.getD cap) (h3 : mx.getD cap ≤ cap) :
    (Instr.sliceBounds sl len cap vl vh vm).run P w = .ok ((lo.getD 0).toNat, (hi.getD len).toNat, (mx.getD cap).toNat) w := by
  have hb : ∀ {k : IntKind} {n : Int} {y : Nat} {c : BoundsCode}, 0 ≤ n → n ≤ y → (Instr.sliceBound (.int k n) y c).run P w = .ok n.toNat w := fun a b => run_sliceBound a b
  have hb2 : ∀ {n : Int}, 0 ≤ n → ((n.toNat : Nat) : Int) = n := fun h => Int.toNat_of_nonneg h
  cases lo <;> cases vl <;> try exact hl.elim
  all_goals cases hi <;> cases vh <;> try exact hh.elim
  all_goals cases mx <;> cases vm <;> try exact hx.elim
  all_goals simp only [Option.getD_none, Option.getD_some] at h0 h1 h2 h3 ⊢
  all_goals try (obtain ⟨kl, rfl⟩ := hl)
  all_goals try (obtain ⟨kh, rfl⟩ := hh)
  all_goals try (obtain ⟨kx, rfl⟩ := hx)
  all_goals try (rcases hmh with h | h <;> (first | cases h | exact absurd rfl h); done)
  all_goals unfold Instr.sliceBounds
  all_goals simp only [Sem.run_bind, Sem.run_pure, Result.andThen_ok]
  all_goals repeat (first | rw [hb (by omega) (by omega)] | simp only [Result.andThen_ok])
  all_goals simp

omit hΓ hI hm in
theorem noHigh_spec {hi mx : Option Int} (h : noHigh hi mx = false) : mx = none ∨ hi ≠ none := by
  cases mx <;> cases hi <;> simp_all [noHigh]

omit hΓ hI hm in
theorem SatE.fits {e : Ent} {L : Loc} (H : SatE ρ e L w) {p : Path} {T : Ty} {x : D} (ht : tyAt e.ty p = some T) (ho : okP e.d p) (hx : getP e.d p = some x) (hf : T.flatTy) :
    L.base + offAt L.ty p + T.size ≤ L.n := by
  obtain ⟨C, t, fr, pre, front, tail, h1, h2, h3, h4, h5, h6⟩ := H.mem
  obtain ⟨hT, pr, po, h7, h8⟩ := getP_spec p e.ty e.d x T H.good H.has ht ho hx
  have h9 := h5.length
  rw [h7] at h9
  have h10 := hasTy_length _ _ hf hT
  have h11 := congrArg List.length h2
  simp only [List.length_append, Array.length_toList] at h9 h11
  rw [H.ty]
  omega

theorem sound_slice {t : Nat} {x : D} {v : Value} {lo hi mx : Option D} {vl vh vm : Option Value} {e : Eff} (he : sliceE Γ mg t x lo hi mx = some e) (ho : e.ob) (hx : Rep ρ x v)
    (hl : RepO ρ lo vl) (hh : RepO ρ hi vh)
    (hmx : RepO ρ mx vm) : Sound P (Instr.sliceAt t v vl vh vm) id X ρ m w nx e := by
  unfold sliceE at he
  split at he <;> try contradiction
  rename_i lo' hlo
  split at he <;> try contradiction
  rename_i hi' hhi
  split at he <;> try contradiction
  rename_i mx' hmx'
  have bl := bound_of hlo hl
  have bh := bound_of hhi hh
  have bm := bound_of hmx' hmx
  split at he <;> try contradiction
  · rename_i b p
    repeat' split at he
    all_goals try contradiction
    rename_i en hg _ i hi _ n el hd _ j hj _ T hT _ hb _ t' ht' _ hb2 _ x hgx _ hnh
    cases he
    have hdd := (hΓ t i hi).desc
    unfold DescOk at hdd
    rw [hd] at hdd
    obtain ⟨g1, T0, g2, g3⟩ := hdd
    obtain ⟨⟨o1, o2, o3, o4⟩, o5, o6⟩ := ho
    obtain ⟨L, h2, rfl⟩ := hx
    obtain ⟨L', h3, h4⟩ := hI.sat b en (hm _ _ hg)
    rw [h2] at h3; cases h3
    have := Ty.eq_of_beq _ _ hb; subst this
    have := Ty.eq_of_beq _ _ hb2; subst this
    have hfit := h4.fits hT o6 hgx (hΓ t i hi).flat
    rw [g2] at hT ht' hfit
    simp only [elemTy, Option.some.injEq] at ht'
    subst ht'
    refine Sound.pure hI (r := .slice (some (if (mx'.getD n).toNat = (lo'.getD 0).toNat then ⟨L.blk, L.base + offAt L.ty p, none⟩ else ⟨L.blk, L.base + offAt L.ty p + (lo'.getD 0).toNat * j.ty.size, none⟩))
      ((hi'.getD n).toNat - (lo'.getD 0).toNat) ((mx'.getD n).toNat - (lo'.getD 0).toNat)) ?_ ?_
    · simp only [Instr.sliceAt, underlying, Sem.run_bind, Sem.run_pure, Result.andThen_ok, run_program, g1, Instr.sureAddr, run_bounds bl bh bm (noHigh_spec hnh) o1 o2 o3 o4, run_sizeOf hΓ hj w, add_none]
    · refine ⟨L, h2, _, _, _, _, by rw [h4.ty]; exact hT, rfl, rfl, by omega, by omega, fun k hk => by cases hk; rfl, fun hc => ⟨?_, ?_⟩⟩
      · rw [if_neg (by omega)]
      · have : (lo'.getD 0).toNat + ((mx'.getD n).toNat - (lo'.getD 0).toNat) ≤ n := by omega
        have := Nat.mul_le_mul_right j.ty.size this
        simp only [Ty.size] at hfit
        omega
  · rename_i b p off len cap
    split at he <;> try contradiction
    rename_i en hg
    split at he <;> try contradiction
    rename_i i hi
    split at he <;> try contradiction
    rename_i el hd
    split at he <;> try contradiction
    rename_i j hj
    split at he <;> try contradiction
    rename_i T hT
    split at he <;> try contradiction
    rename_i t' ht'
    split at he <;> try contradiction
    rename_i hb
    split at he <;> try contradiction
    rename_i hnh
    have hdd := (hΓ t i hi).desc
    unfold DescOk at hdd
    rw [hd] at hdd
    obtain ⟨g1, g2⟩ := hdd
    obtain ⟨L, h2, T1, t1, a, c, k1, k2, rfl, k3, k4, k5, k6⟩ := hx
    obtain ⟨L', h3, h4⟩ := hI.sat b en (hm _ _ hg)
    rw [h2] at h3; cases h3
    rw [h4.ty, hT] at k1; cases k1
    rw [ht'] at k2; cases k2
    have := Ty.eq_of_beq _ _ hb; subst this
    split at he
    · rename_i mm
      cases he
      obtain ⟨o1, o2, o3, o4⟩ := ho
      refine Sound.pure hI (r := .slice (if mm.toNat = (lo'.getD 0).toNat then some a else some (a.add ((lo'.getD 0).toNat * j.ty.size))) ((hi'.getD len).toNat - (lo'.getD 0).toNat) (mm.toNat - (lo'.getD 0).toNat)) ?_ ?_
      · simp only [Instr.sliceAt, Instr.slice, underlying, Sem.run_bind, Sem.run_pure, Result.andThen_ok, run_program, g1, run_bounds (cap := c) bl bh bm (noHigh_spec hnh) o1 o2 o3 (by show mm ≤ c; omega), run_sizeOf hΓ hj w]
        rfl
      · refine ⟨L, h2, _, _, if mm.toNat = (lo'.getD 0).toNat then a else (a.add ((lo'.getD 0).toNat * j.ty.size)), mm.toNat - (lo'.getD 0).toNat, by rw [h4.ty]; exact hT, ht', by split <;> rfl, by omega, by omega, fun k hk => by cases hk; rfl, fun hc => ?_⟩
        obtain ⟨k7, k8⟩ := k6 (by omega)
        rw [if_neg (by omega), k7, add_none]
        have : off + (lo'.getD 0).toNat + (mm.toNat - (lo'.getD 0).toNat) ≤ off + c := by omega
        have := Nat.mul_le_mul_right j.ty.size this
        refine ⟨?_, by omega⟩
        rw [Nat.add_mul]
        simp [Nat.add_assoc]
    · cases he
      obtain ⟨o1, o2, o3⟩ := ho
      refine Sound.pure hI (r := .slice (if c = (lo'.getD 0).toNat then some a else some (a.add ((lo'.getD 0).toNat * j.ty.size))) ((hi'.getD len).toNat - (lo'.getD 0).toNat) (c - (lo'.getD 0).toNat)) ?_ ?_
      · simp only [Instr.sliceAt, Instr.slice, underlying, Sem.run_bind, Sem.run_pure, Result.andThen_ok, run_program, g1, run_bounds (cap := c) bl bh bm (noHigh_spec hnh) o1 o2 (by show _ ≤ (c : Int); omega) (by show (c : Int) ≤ c; omega), run_sizeOf hΓ hj w]
        simp
      · refine ⟨L, h2, _, _, if c = (lo'.getD 0).toNat then a else (a.add ((lo'.getD 0).toNat * j.ty.size)), c - (lo'.getD 0).toNat, by rw [h4.ty]; exact hT, ht', by split <;> rfl, by omega, by omega, ?_, fun hc => ?_⟩
        · intro k hk
          cases cap with
          | none => cases hk
          | some k0 => simp only [Option.map_some, Option.some.injEq] at hk; rw [k5 k0 rfl, hk]
        · obtain ⟨k7, k8⟩ := k6 (by omega)
          rw [if_neg (by omega), k7, add_none]
          have : off + (lo'.getD 0).toNat + (c - (lo'.getD 0).toNat) ≤ off + c := by omega
          have := Nat.mul_le_mul_right j.ty.size this
          refine ⟨?_, by omega⟩
          rw [Nat.add_mul]
          simp [Nat.add_assoc]
  · repeat' split at he
    all_goals try contradiction
    rename_i i hi _ el hd _ j hj _ hnh
    cases he
    have hdd := (hΓ t i hi).desc
    unfold DescOk at hdd
    rw [hd] at hdd
    obtain ⟨g1, g2⟩ := hdd
    obtain ⟨o1, o2, o3⟩ := ho
    have hx : v = .slice none 0 0 := hx
    subst hx
    refine Sound.pure hI (r := .slice none 0 0) ?_ rfl
    simp only [Instr.sliceAt, Instr.slice, underlying, Sem.run_bind, Sem.run_pure, Result.andThen_ok, run_program, g1,
      run_bounds (len := 0) (cap := 0) bl bh bm (noHigh_spec hnh) (by omega) (by simp only [Int.natCast_zero]; omega) (by simp only [Int.natCast_zero]; omega) (by simp only [Int.natCast_zero]; omega), run_sizeOf hΓ hj w]
    simp [o1, o2, o3]
  · rename_i l
    repeat' split at he
    all_goals try contradiction
    rename_i i hi _ hd
    cases he
    have hdd := (hΓ t i hi).desc
    unfold DescOk at hdd
    rw [hd] at hdd
    obtain ⟨g1, g2⟩ := hdd
    obtain ⟨o1, o2, o3⟩ := ho
    obtain ⟨s, rfl, hs, hlen⟩ := hx
    have hsz : s.size = l.length := by
      have := congrArg List.length hs
      rw [bytesV, List.length_map, Array.length_toList] at this
      exact this
    have hvm : vm = none := by cases vm with | none => rfl | some _ => exact bm.elim
    subst hvm
    refine Sound.pure hI (r := .string (s.extract (lo'.getD 0).toNat (hi'.getD l.length).toNat)) ?_ ?_
    · rw [← hsz] at o2 o3 ⊢
      simp only [Instr.sliceAt, Instr.slice, underlying, Sem.run_bind, Sem.run_pure, Result.andThen_ok, run_program, g1, Option.isSome_none, Bool.false_eq_true, if_false,
        run_bounds (len := s.size) (cap := s.size) bl bh bm (.inl rfl) o1 o2 o3 (by show (s.size : Int) ≤ s.size; omega)]
    · refine ⟨_, rfl, ?_, by simp; omega⟩
      have : (s.extract (lo'.getD 0).toNat (hi'.getD l.length).toNat).data = s.data.extract (lo'.getD 0).toNat (hi'.getD l.length).toNat := by
        simp [ByteArray.data_extract]
      rw [this, Array.toList_extract, hs]
      unfold bytesV
      simp [List.extract, List.map_take, List.map_drop]
end
end Go.Proofs.YtodkhgofmgaafaaDoor.Av

namespace Go.Proofs.YtodkhgofmgaafaaDoor.Av
open Go
set_option linter.all false
set_option maxRecDepth 3000

/-! a row of zeros -/
def zerosD (z : D) (n : Nat) : D :=
  match z with
  | .u8 x => .u8s (List.replicate n x)
  | .u32 x => .u32s (List.replicate n x)
  | .u64 x => .u64s (List.replicate n x)
  | z => .node (List.replicate n z)

def makeSliceE (Γ : Tab) (nx t : Nat) (len cap : D) : Option Eff :=
  match len with
  | .i64 l => match cap with
    | .i64 c => match ti Γ t with
      | some i => match i.desc with
        | .slice el => match ti Γ el with
          | some j => match zerosD j.zero l.toNat with
            | .u8s z => newE nx (.row j.ty) (.u8s z) (.slice nx [] 0 l.toNat none) (0 ≤ l ∧ l ≤ c ∧ c * j.bytes ≤ 281474976710656 ∧ c < 9223372036854775808)
            | .u32s z => newE nx (.row j.ty) (.u32s z) (.slice nx [] 0 l.toNat none) (0 ≤ l ∧ l ≤ c ∧ c * j.bytes ≤ 281474976710656 ∧ c < 9223372036854775808)
            | .u64s z => newE nx (.row j.ty) (.u64s z) (.slice nx [] 0 l.toNat none) (0 ≤ l ∧ l ≤ c ∧ c * j.bytes ≤ 281474976710656 ∧ c < 9223372036854775808)
            | .node z => newE nx (.row j.ty) (.node z) (.slice nx [] 0 l.toNat none) (0 ≤ l ∧ l ≤ c ∧ c * j.bytes ≤ 281474976710656 ∧ c < 9223372036854775808)
            | _ => none
          | none => none
        | _ => none
      | none => none
    | _ => none
  | _ => none

theorem flat_replicate (z : D) (n : Nat) : (D.node (List.replicate n z)).flat = (List.replicate n z.flat).flatten := by
  simp only [D.flat]
  induction n with
  | zero => rfl
  | succ n ih => simp [List.replicate_succ, D.flats, ih]

theorem zerosD_flat (z : D) (n : Nat) : (zerosD z n).flat = (List.replicate n z.flat).flatten := by
  cases z <;> simp only [zerosD] <;> first
    | exact flat_replicate _ n
    | (simp only [D.flat]; induction n with
        | zero => rfl
        | succ n ih => simp [List.replicate_succ, ih])

theorem zerosD_ty {z : D} {n : Nat} {T : Ty} (h : hasTy T z) : hasTy (.row T) (zerosD z n) := by
  have hn : ∀ z, hasTy T z → hasTy (.row T) (.node (List.replicate n z)) := fun z h => AllD_mem.2 fun d hd => by rw [List.eq_of_mem_replicate hd]; exact h
  cases z <;> simp only [zerosD] <;> first
    | exact hn _ h
    | (cases T <;> first | trivial | exact h.elim)

theorem zeros_cells (zc : Array Value) (n : Nat) (hz : zc.size ≠ 0 ∨ n = 0) : ((Array.range (n * zc.size)).map (zc[· % zc.size]!)).toList = (List.replicate n zc.toList).flatten := by
  apply List.ext_getElem?
  intro i
  simp only [Array.toList_map, Array.toList_range, List.getElem?_map]
  induction n generalizing i with
  | zero => simp
  | succ n ih =>
    have hz : zc.size ≠ 0 := by rcases hz with h | h; exact h; omega
    rw [List.replicate_succ, List.flatten_cons]
    by_cases hi : i < zc.size
    · have : i < (n + 1) * zc.size := by rw [Nat.add_mul]; omega
      rw [List.getElem?_append_left (by simpa using hi)]
      rw [List.getElem?_range this]
      simp only [Option.map_some, Nat.mod_eq_of_lt hi, Array.getElem?_toList]
      rw [getElem!_pos zc i hi, getElem?_pos zc i hi]
    · rw [List.getElem?_append_right (by simpa using hi)]
      simp only [Array.length_toList]
      rw [← ih (.inl hz) (i - zc.size)]
      by_cases h2 : i < (n + 1) * zc.size
      · rw [List.getElem?_range h2, List.getElem?_range (by rw [Nat.add_mul] at h2; omega)]
        simp only [Option.map_some]
        rw [Nat.mod_eq_sub_mod (by omega)]
      · rw [List.getElem?_eq_none (by simpa using h2), List.getElem?_eq_none (by rw [Nat.add_mul] at h2; simp; omega)]

theorem All2.flatten_replicate {α β : Type} {R : α → β → Prop} {as : List α} {bs : List β} (h : All2 R as bs) : ∀ n, All2 R (List.replicate n as).flatten (List.replicate n bs).flatten
  | 0 => trivial
  | n + 1 => by rw [List.replicate_succ, List.replicate_succ, List.flatten_cons, List.flatten_cons]; exact h.append (flatten_replicate h n)

/-! parts laid into a value -/
def fillD (T : Ty) (step : Nat → Step) : D → List (Nat × D) → Option (Prop × D)
  | d, [] => some (True, d)
  | d, (k, x) :: r => match tyAt T [step k] with
    | some T' => match getP d [step k] with
      | some _ => match setP d [step k] x with
        | some d' => match fillD T step d' r with
          | some (ob, d'') => some ((okP d [step k] ∧ hasTy T' x) ∧ ob, d'')
          | none => none
        | none => none
      | none => none
    | none => none

def buildE (Γ : Tab) (t : Nat) (parts : List (Nat × D)) : Option Eff :=
  match ti Γ t with
  | some i => match i.ty with
    | .st _ => match fillD i.ty .fld i.zero parts with
      | some (ob, d) => pureE ob d
      | none => none
    | .arr _ _ => match fillD i.ty .idx i.zero parts with
      | some (ob, d) => pureE ob d
      | none => none
    | _ => none
  | none => none

def nonzeroLe (s a b : Nat) : Bool :=
  match Nat.beq s 0 with
  | true => false
  | false => Nat.ble a b

theorem nonzeroLe_spec {s a b : Nat} (h : nonzeroLe s a b = true) : s ≠ 0 ∧ a ≤ b := by
  unfold nonzeroLe at h
  split at h <;> try contradiction
  rename_i hb
  exact ⟨(fun e => by rw [e] at hb; cases hb), Nat.le_of_ble_eq_true h⟩

def buildSliceE (Γ : Tab) (nx t len : Nat) (parts : List (Nat × D)) : Option Eff :=
  match ti Γ t with
  | some i => match i.desc with
    | .slice el => match ti Γ el with
      | some j => match nonzeroLe j.ty.size (len * j.ty.size) 16777216 with
        | true => match fillD (.row j.ty) .idx (zerosD j.zero len) parts with
          | some (ob, d) => newE nx (.row j.ty) d (.slice nx [] 0 len (some len)) ob
          | none => none
        | false => none
      | none => none
    | _ => none
  | none => none

theorem foldl_set (off : Nat) : ∀ (vs : List Value) (k : Nat) (cs : Array Value), off + k + vs.length ≤ cs.size →
    ((vs.zipIdx k).foldl (fun cs (x : Value × Nat) => cs.setIfInBounds (off + x.2) x.1) cs).toList = cs.toList.take (off + k) ++ vs ++ cs.toList.drop (off + k + vs.length)
  | [], k, cs, _ => by simp
  | v :: vs, k, cs, h => by
    simp only [List.length_cons] at h
    have ih := foldl_set off vs (k + 1) (cs.setIfInBounds (off + k) v) (by simp; omega)
    simp only [List.zipIdx_cons, List.foldl_cons]
    rw [ih]
    have hlt : off + k < cs.toList.length := by simp; omega
    simp only [Array.toList_setIfInBounds, List.length_cons]
    rw [list_set _ _ _ hlt]
    have e1 : (List.take (off + k) cs.toList ++ v :: List.drop (off + k + 1) cs.toList).take (off + (k + 1)) = List.take (off + k) cs.toList ++ [v] := by
      rw [List.take_append]
      simp only [List.length_take, Nat.min_eq_left (Nat.le_of_lt hlt)]
      rw [List.take_of_length_le (by simp; omega)]
      rw [show off + (k + 1) - (off + k) = 1 by omega]
      simp
    have e2 : (List.take (off + k) cs.toList ++ v :: List.drop (off + k + 1) cs.toList).drop (off + (k + 1) + vs.length) = cs.toList.drop (off + k + (vs.length + 1)) := by
      rw [List.drop_append]
      simp only [List.length_take, Nat.min_eq_left (Nat.le_of_lt hlt)]
      rw [List.drop_of_length_le (by simp; omega)]
      rw [show off + (k + 1) + vs.length - (off + k) = vs.length + 1 by omega]
      simp [List.drop_drop]
      congr 1
      omega
    rw [e1, e2]
    simp

theorem fill_spec {ρ : Env} (T : Ty) (hg : T.good) (step : Nat → Step) (place : Nat → Option (Nat × Nat))
    (hp : ∀ k T', tyAt T [step k] = some T' → T'.flatTy ∧ place k = some (offAt T [step k], T'.size)) :
    ∀ (parts : List (Nat × D)) (vs : List (Nat × Value)) (d d' : D) (cs : Array Value) (ob : Prop), fillD T step d parts = some (ob, d') → ob → hasTy T d → All2 (RepS ρ) d.flat cs.toList →
      All2 (fun (a : Nat × D) (b : Nat × Value) => a.1 = b.1 ∧ Rep ρ a.2 b.2) parts vs →
      ∃ cs', Instr.fill place cs vs = some cs' ∧ hasTy T d' ∧ All2 (RepS ρ) d'.flat cs'.toList ∧ cs'.size = cs.size
  | [], [], d, d', cs, ob, h, _, ht, hr, _ => by
    simp only [fillD, Option.some.injEq, Prod.mk.injEq] at h
    obtain ⟨_, rfl⟩ := h
    exact ⟨cs, rfl, ht, hr, rfl⟩
  | (k, x) :: r, (k', v) :: vs, d, d', cs, ob, h, ho, ht, hr, hv => by
    obtain ⟨⟨hk, hxv⟩, hrest⟩ := hv
    simp only at hk hxv
    subst hk
    simp only [fillD] at h
    cases e1 : tyAt T [step k] with
    | none => simp [e1] at h
    | some T' =>
      cases e2 : getP d [step k] with
      | none => simp [e1, e2] at h
      | some y =>
        cases e3 : setP d [step k] x with
        | none => simp [e1, e2, e3] at h
        | some d1 =>
          cases e4 : fillD T step d1 r with
          | none => simp [e1, e2, e3, e4] at h
          | some res =>
            obtain ⟨ob', d2⟩ := res
            simp only [e1, e2, e3, e4, Option.some.injEq, Prod.mk.injEq] at h
            obtain ⟨h1, rfl⟩ := h
            subst h1
            obtain ⟨⟨hok, hxt⟩, ho⟩ := ho
            obtain ⟨hf, hpl⟩ := hp k T' e1
            obtain ⟨g1, pre, post, ⟨g2, g3⟩, g4⟩ := setP_spec [step k] T d y x d1 T' hg ht e1 hok e2 e3 hxt
            obtain ⟨hyT, _⟩ := getP_spec [step k] T d y T' hg ht e1 hok e2
            have hxl := hasTy_length _ _ hf hxt
            have hyl := hasTy_length _ _ hf hyT
            have hxc := rep_cells hxt hxv
            have hxs : v.cells.size = T'.size := by rw [← Array.length_toList, ← hxc.length, hxl]
            rw [g2] at hr
            obtain ⟨b12, b3, q1, ha, hb⟩ := All2.split_left hr
            obtain ⟨b1, b2, q2, hc, hd⟩ := All2.split_left ha
            have hl1 : b1.length = offAt T [step k] := by rw [← hc.length, g3]
            have hl2 : b2.length = T'.size := by rw [← hd.length, hyl]
            have hcs : cs.toList = b1 ++ b2 ++ b3 := by rw [q1, q2]
            have hsz : offAt T [step k] + T'.size ≤ cs.size := by
              rw [← Array.length_toList, hcs]; simp; omega
            have hfold := foldl_set (offAt T [step k]) v.cells.toList 0 cs (by simp [hxs]; omega)
            have hcs1 : (v.cells.zipIdx.foldl (fun cs (x : Value × Nat) => cs.setIfInBounds (offAt T [step k] + x.2) x.1) cs).toList = b1 ++ v.cells.toList ++ b3 := by
              rw [← Array.foldl_toList, Array.toList_zipIdx, hfold, hcs]
              simp only [Nat.add_zero, Array.length_toList, hxs]
              congr 1
              · congr 1
                rw [← hl1, List.append_assoc, List.take_left]
              · rw [← hl1, ← hl2, ← List.length_append, List.drop_left]
            obtain ⟨cs', f1, f2, f3, f4⟩ := fill_spec T hg step place hp r vs d1 d2 _ ob' e4 ho g1 (by rw [hcs1, g4]; exact (hc.append hxc).append hb) hrest
            refine ⟨cs', ?_, f2, f3, ?_⟩
            rotate_left
            · rw [f4, ← Array.length_toList, hcs1, ← Array.length_toList (xs := cs), hcs]
              simp [hl2, hxs]
            simp only [Instr.fill, hpl]
            rw [if_neg (by simp [hxs]; omega)]
            exact f1
  | [], _ :: _, _, _, _, _, _, _, _, _, hv => hv.elim
  | _ :: _, [], _, _, _, _, _, _, _, _, hv => hv.elim

theorem tyAt_flat {T T' : Ty} {s : Step} (hf : T.good) (h : tyAt T [s] = some T') : T'.flatTy := by
  cases T <;> cases s <;> simp only [tyAt] at h <;> try contradiction
  · simp at h; subst h; exact hf
  · simp at h; subst h; exact hf
  · rename_i fs i
    cases e : fs[i]? with
    | none => simp [e] at h
    | some t => simp [e] at h; subst h; exact flatTys_get hf i e
  · simp at h; subst h; exact hf
  · simp at h; subst h; exact hf

/-- the sizes of all fields, read in a row -/
theorem run_places {P : Program} {w : World} : ∀ {fl : List Field} {ts : List Nat} {Ts : List Ty} {o : Nat} (_ : FieldsOk P fl ts Ts o),
    ∃ ps : List (Nat × Nat), (fl.mapM fun f => do pure (f.offset, ← sizeOf f.type) : Sem (List (Nat × Nat))).run P w = .ok ps w ∧ ∀ k T, Ts[k]? = some T → ps[k]? = some (o + Ty.sizes (Ts.take k), T.size)
  | [], [], [], o, _ => ⟨[], rfl, fun k T h => by simp at h⟩
  | f :: fl, t :: ts, T :: Ts, o, h => by
    obtain ⟨ps, h1, h2⟩ := run_places (w := w) h.2.2.2
    refine ⟨(o, T.size) :: ps, ?_, ?_⟩
    · have h3 := h.2.2.1
      cases hinf : P.info? t with
      | none => simp [hinf] at h3
      | some inf =>
        simp only [hinf, Option.map_some, Option.some.injEq] at h3
        rw [List.mapM_cons]
        simp only [Sem.run_bind, sizeOf, typeInfo, run_program, Result.andThen_ok, h.1, hinf, Sem.run_pure, h.2.1, h3] at h1 ⊢
        rw [h1]
        rfl
    · intro k T' hk
      cases k with
      | zero => simp at hk; subst hk; simp [Ty.sizes]
      | succ k => simp at hk ⊢; rw [h2 k T' hk]; simp [Ty.sizes]; omega
  | [], _ :: _, _, _, h => h.elim
  | [], [], _ :: _, _, h => h.elim
  | _ :: _, [], _, _, h => h.elim
  | _ :: _, _ :: _, [], _, h => h.elim

section
set_option linter.unusedSectionVars false
variable {P : Program} {Γ : Tab} (hΓ : TabOk P Γ) {X : Ctx} {ρ : Env} {m : Mem} {w : World} (hI : Inv X ρ m w) {mg : MG} (hm : ∀ b e, mg b = some e → get m b = some e) {nx : Nat}
include hΓ hI

theorem tiGood {t : Nat} {i : TI} (h : ti Γ t = some i) : i.ty.good := by
  have := (hΓ t i h).flat
  cases hT : i.ty <;> rw [hT] at this <;> first | exact this | exact this.elim

theorem sound_build {t : Nat} {parts : List (Nat × D)} {vs : List (Nat × Value)} {e : Eff} (he : buildE Γ t parts = some e) (ho : e.ob)
    (hv : All2 (fun (a : Nat × D) (b : Nat × Value) => a.1 = b.1 ∧ Rep ρ a.2 b.2) parts vs) : Sound P (Instr.build t vs.toArray) id X ρ m w nx e := by
  unfold buildE at he
  split at he <;> try contradiction
  rename_i i hi
  have hok := hΓ t i hi
  have hgood := tiGood hΓ hI hi
  obtain ⟨z, hz, hrz⟩ := run_zeroValue hΓ hi w
  split at he <;> try contradiction
  · rename_i Ts hT
    split at he <;> try contradiction
    rename_i ob d hfill
    cases he
    obtain ⟨fl, ts, g1, g2, g3⟩ := desc_st hΓ hi hT
    obtain ⟨ps, p1, p2⟩ := run_places (w := w) g3
    obtain ⟨cs', f1, f2, f3, f4⟩ := fill_spec (ρ := ρ) i.ty hgood .fld (fun k : Nat => ps[k]?) (fun k T' hk => by
      refine ⟨tyAt_flat hgood hk, ?_⟩
      rw [hT] at hk ⊢
      simp only [tyAt] at hk
      cases e : Ts[k]? with
      | none => simp [e] at hk
      | some T =>
        simp only [e, Option.some.injEq] at hk; subst hk
        rw [p2 k T e]
        simp [offAt, e]) parts vs i.zero d z.cells ob hfill ho hok.zty (hrz ρ) hv
    have hag : d.isAgg = true := by
      rw [hT] at f2
      cases d <;> first | rfl | exact f2.elim
    refine Sound.pure hI (r := .agg cs') ?_ ?_
    · have hpl : (fl.mapM fun f => do pure (f.offset, ← sizeOf f.type) : Sem (Array (Nat × Nat))).run P w = .ok ps.toArray w := by
        rw [Array.mapM_eq_mapM_toList]
        simp only [Sem.run_map, p1, Result.andThen_ok]
      simp only [Instr.build, underlying, Sem.run_bind, Sem.run_pure, Result.andThen_ok, run_program, g1, hz]
      rw [hpl]
      simp only [Result.andThen_ok]
      have : (fun k : Nat => ps.toArray[k]?) = fun k : Nat => ps[k]? := by funext k; simp
      rw [this, f1]
      rfl
    · show Rep ρ d (Value.agg cs')
      rw [rep_eq (by cases d <;> simp_all [D.isAgg, D.isTup])]
      unfold RepV
      rw [hag]
      exact ⟨cs'.toList, rfl, f3⟩
  · rename_i n T0 hT
    split at he <;> try contradiction
    rename_i ob d hfill
    cases he
    obtain ⟨el, g1, g2, g3⟩ := desc_arr hΓ hi hT
    obtain ⟨cs', f1, f2, f3, f4⟩ := fill_spec (ρ := ρ) i.ty hgood .idx (fun k => some (k * T0.size, T0.size)) (fun k T' hk => by
      refine ⟨tyAt_flat hgood hk, ?_⟩
      rw [hT] at hk ⊢
      simp only [tyAt, Option.some.injEq] at hk
      subst hk
      simp [offAt]) parts vs i.zero d z.cells ob hfill ho hok.zty (hrz ρ) hv
    have hag : d.isAgg = true := by
      rw [hT] at f2
      cases d <;> first | rfl | exact f2.elim
    refine Sound.pure hI (r := .agg cs') ?_ ?_
    · cases hinf : P.info? el with
      | none => simp [hinf] at g3
      | some inf =>
        simp only [hinf, Option.map_some, Option.some.injEq] at g3
        simp only [Instr.build, underlying, Sem.run_bind, Sem.run_pure, Result.andThen_ok, run_program, g1, hz, sizeOf, typeInfo, hinf, g3, f1]
    · show Rep ρ d (Value.agg cs')
      rw [rep_eq (by cases d <;> simp_all [D.isAgg, D.isTup])]
      unfold RepV
      rw [hag]
      exact ⟨cs'.toList, rfl, f3⟩

theorem sound_buildSlice {t len : Nat} {parts : List (Nat × D)} {vs : List (Nat × Value)} {e : Eff} (hnx : ρ nx = none) (he : buildSliceE Γ nx t len parts = some e) (ho : e.ob)
    (hv : All2 (fun (a : Nat × D) (b : Nat × Value) => a.1 = b.1 ∧ Rep ρ a.2 b.2) parts vs) : Sound P (Instr.buildSlice t len vs.toArray) id X ρ m w nx e := by
  unfold buildSliceE at he
  split at he <;> try contradiction
  rename_i i hi
  split at he <;> try contradiction
  rename_i el hd
  split at he <;> try contradiction
  rename_i j hj
  split at he <;> try contradiction
  rename_i hlim
  split at he <;> try contradiction
  rename_i ob d hfill
  have hob : ob := by
    unfold newE at he
    split at he <;> try contradiction
    cases he; exact ho
  have hdd := (hΓ t i hi).desc
  unfold DescOk at hdd
  rw [hd] at hdd
  obtain ⟨g1, g2⟩ := hdd
  have hok := hΓ el j hj
  obtain ⟨hnz, hlim⟩ := nonzeroLe_spec hlim
  obtain ⟨z, hz, hrz⟩ := run_zeroValue hΓ hj w
  have hzl : z.cells.size = j.ty.size := by rw [← Array.length_toList, ← (hrz ρ).length, hasTy_length _ _ hok.flat hok.zty]
  have hgood : (Ty.row j.ty).good := hok.flat
  have hcells : All2 (RepS ρ) (zerosD j.zero len).flat ((Array.range (len * j.ty.size)).map (z.cells[· % z.cells.size]!)).toList := by
    rw [← hzl, zeros_cells z.cells len (.inl (by omega)), zerosD_flat]
    exact (hrz ρ).flatten_replicate len
  obtain ⟨cs', f1, f2, f3, f4⟩ := fill_spec (ρ := ρ) (.row j.ty) hgood .idx (fun k => some (k * j.ty.size, j.ty.size)) (fun k T' hk => by
    refine ⟨tyAt_flat hgood hk, ?_⟩
    simp only [tyAt, Option.some.injEq] at hk
    subst hk
    simp [offAt]) parts vs _ d _ ob hfill hob (zerosD_ty hok.zty) hcells hv
  have hcs' : cs'.size = len * j.ty.size := by rw [f4]; simp
  have hle : len ≤ len * j.ty.size := Nat.le_mul_of_pos_right len (by omega)
  refine sound_new hΓ hI (C := cs') (t := el) (front := cs'.toList) (tail := []) (r := .slice (some ⟨w.heap.size, 0, none⟩) len len) hnx he hgood f2 f3 (by simp) hI (fr := (0, 0)) (.inl rfl) ?_ ?_
  · simp only [Instr.buildSlice, underlying, Sem.run_bind, Sem.run_pure, Result.andThen_ok, run_program, g1, run_sizeOf hΓ hj w]
    rw [Sem.run_ite, if_neg (by simp; omega)]
    simp only [Sem.run_bind, Sem.run_ite]
    by_cases h0 : len * j.ty.size = 0
    · rw [if_pos h0]
      simp only [Sem.run_pure, Result.andThen_ok]
      have : ((Array.range (len * j.ty.size)).map fun x => (#[] : Array Value)[x % (#[] : Array Value).size]!) = (Array.range (len * j.ty.size)).map (z.cells[· % z.cells.size]!) := by
        rw [h0]; simp
      rw [this, f1]
      rfl
    · rw [if_neg h0]
      simp only [hz, Sem.run_pure, Result.andThen_ok]
      rw [f1]
      rfl
  · intro ρ' _ h'
    refine ⟨_, h', _, _, _, _, rfl, rfl, rfl, Nat.le_refl _, by omega, fun k hk => by cases hk; rfl, fun hc => ⟨by simp [offAt], by simp [offAt]; omega⟩⟩

theorem newE_ob {T : Ty} {d v : D} {ob : Prop} {e : Eff} (h : newE nx T d v ob = some e) (ho : e.ob) : ob := by
  unfold newE at h
  split at h <;> try contradiction
  cases h; exact ho

theorem sound_makeSlice {t : Nat} {len cap : D} {vl vc : Value} {e : Eff} (hnx : ρ nx = none) (he : makeSliceE Γ nx t len cap = some e) (ho : e.ob) (hl : Rep ρ len vl) (hc : Rep ρ cap vc) :
    Sound P (Instr.makeSlice t vl vc) id X ρ m w nx e := by
  unfold makeSliceE at he
  split at he <;> try contradiction
  rename_i l
  split at he <;> try contradiction
  rename_i c
  split at he <;> try contradiction
  rename_i i hi
  split at he <;> try contradiction
  rename_i el hd
  split at he <;> try contradiction
  rename_i j hj
  have key : ∀ z, zerosD j.zero l.toNat = z → newE nx (.row j.ty) z (.slice nx [] 0 l.toNat none) (0 ≤ l ∧ l ≤ c ∧ c * j.bytes ≤ 281474976710656 ∧ c < 9223372036854775808) = some e → Sound P (Instr.makeSlice t vl vc) id X ρ m w nx e := by
    intro zd hzd he
    obtain ⟨o1, o2, o3, o4⟩ := newE_ob hΓ hI he ho
    have hdd := (hΓ t i hi).desc
    unfold DescOk at hdd
    rw [hd] at hdd
    obtain ⟨g1, g2⟩ := hdd
    have hok := hΓ el j hj
    obtain ⟨z, hz, hrz⟩ := run_zeroValue hΓ hj w
    obtain ⟨inf, z', q1, q2, q3, _⟩ := hok.info
    have hzl : z.cells.size = j.ty.size := by rw [← Array.length_toList, ← (hrz ρ).length, hasTy_length _ _ hok.flat hok.zty]
    have hgood : (Ty.row j.ty).good := hok.flat
    obtain ⟨rfl, hlr⟩ := hl
    obtain ⟨rfl, hcr⟩ := hc
    -- all cells
    have hall : ∀ n, All2 (RepS ρ) (zerosD j.zero n).flat (List.replicate n z.cells.toList).flatten := fun n => by rw [zerosD_flat]; exact (hrz ρ).flatten_replicate n
    have hsplit : (List.replicate c.toNat z.cells.toList).flatten = (List.replicate l.toNat z.cells.toList).flatten ++ (List.replicate (c.toNat - l.toNat) z.cells.toList).flatten := by
      rw [← List.flatten_append, List.replicate_append_replicate]
      congr 2
      omega
    have hlen : (List.replicate c.toNat z.cells.toList).flatten.length = c.toNat * j.ty.size := by
      rw [List.length_flatten]; simp [hzl]
    refine sound_new hΓ hI (C := (List.replicate c.toNat z.cells.toList).flatten.toArray) (t := el) (front := (List.replicate l.toNat z.cells.toList).flatten) (tail := (List.replicate (c.toNat - l.toNat) z.cells.toList).flatten)
      (r := .slice (some ⟨w.heap.size, 0, none⟩) l.toNat c.toNat) hnx he hgood (by rw [← hzd]; exact zerosD_ty hok.zty) (by rw [← hzd]; exact hall _) (by exact hsplit) hI (fr := (0, 0)) (.inl rfl) ?_ ?_
    · have hb : (typeInfo el).run P w = .ok inf w := by simp [typeInfo, q1]
      have hwl : IntKind.wrap .i64 l = l := wrap_i64_in hlr
      have hwc : IntKind.wrap .i64 c = c := wrap_i64_in hcr
      have h1 : (c < 0 || (inf.bytes : Int) * c > 2 ^ 48) = false := by
        rw [q3]
        simp only [Bool.or_eq_false_iff, decide_eq_false_iff_not]
        refine ⟨by omega, ?_⟩
        rw [Int.mul_comm]
        simp only [Int.reducePow]
        omega
      simp only [Instr.makeSlice, underlying, Sem.run_bind, Sem.run_pure, Result.andThen_ok, run_program, g1, asInt, asIntOf, hb, hwl, hwc, h1]
      have h2 : (false || decide (l < 0) || decide (l > c)) = false := by simp; omega
      rw [Sem.run_ite, if_neg (by rw [h2]; simp)]
      simp only [Sem.run_bind, run_askRoom, Result.andThen_ok, run_sizeOf hΓ hj w, Sem.run_ite, Sem.run_pure]
      have harr : ∀ zc : Array Value, (c.toNat * j.ty.size = 0 ∨ zc = z.cells) → (Array.range (c.toNat * j.ty.size)).map (fun x => zc[x % zc.size]!) = (List.replicate c.toNat z.cells.toList).flatten.toArray := by
        intro zc hzc
        apply Array.ext'
        by_cases h0 : c.toNat * j.ty.size = 0
        · have : (List.replicate c.toNat z.cells.toList).flatten = [] := List.length_eq_zero_iff.1 (by rw [hlen, h0])
          rw [h0, this]
          simp
        · have hzc := hzc.resolve_left h0
          subst hzc
          rw [← hzl, zeros_cells z.cells c.toNat (.inl (by intro h; rw [← hzl, h] at h0; simp at h0))]
      by_cases h0 : c.toNat * j.ty.size = 0
      · rw [if_pos h0, harr #[] (.inl h0)]
        rfl
      · rw [if_neg h0, hz]
        simp only [Result.andThen_ok]
        rw [harr z.cells (.inr rfl)]
        rfl
    · intro ρ' _ h'
      refine ⟨_, h', _, _, _, _, rfl, rfl, rfl, by omega, by omega, (fun k hk => by cases hk), fun hc => ⟨by simp [offAt], ?_⟩⟩
      simp only [offAt, Nat.zero_add, List.size_toArray, hlen]
      omega
  split at he <;> try contradiction
  all_goals (rename_i z hz; exact key _ hz he)
end
end Go.Proofs.YtodkhgofmgaafaaDoor.Av

namespace Go.Proofs.YtodkhgofmgaafaaDoor.Av
open Go
set_option linter.all false
set_option maxRecDepth 3000

def lenD : D → Nat
  | .u8s l => l.length
  | .u32s l => l.length
  | .u64s l => l.length
  | .node l => l.length
  | _ => 0

def catD : D → D → Option D
  | .u8s a, .u8s b => some (.u8s (a ++ b))
  | .u32s a, .u32s b => some (.u32s (a ++ b))
  | .u64s a, .u64s b => some (.u64s (a ++ b))
  | .node a, .node b => some (.node (a ++ b))
  | _, _ => none

/-- the first n elements of a slice, or bytes of a text: what must hold, and what they are -/
def elemsD (mg : MG) (j : TI) (x : D) (n : Nat) : Option (Prop × D) :=
  match x with
  | .slice b p off len _ => match mg b with
    | some e => match tyAt e.ty p with
      | some T => match elemTy T with
        | some t' => match t'.beq j.ty with
          | true => match getP e.d (p ++ [.win off n]) with
            | some y => some (n ≤ len ∧ okP e.d (p ++ [.win off n]), y)
            | none => none
          | false => none
        | none => none
      | none => none
    | none => none
  | .nilslice => some (n = 0, zerosD j.zero 0)
  | .str l => match j.desc with
    | .int .u8 => some (n ≤ l.length, .u8s (l.take n))
    | _ => none
  | _ => none

def cntOf : D → Option Nat
  | .slice _ _ _ len _ => some len
  | .nilslice => some 0
  | .str l => some l.length
  | _ => none

def notInt (Γ : Tab) (t : Nat) : Bool :=
  match ti Γ t with
  | some i => match i.desc with
    | .slice _ => true
    | .str => true
    | _ => false
  | none => false

def isI64 (Γ : Tab) (t : Nat) : Bool :=
  match ti Γ t with
  | some i => match i.desc with
    | .int .i64 => true
    | _ => false
  | none => false

def elemOfT (Γ : Tab) (t : Nat) : Option (Nat × TI) :=
  match ti Γ t with
  | some i => match i.desc with
    | .slice el => match ti Γ el with
      | some j => match Nat.beq j.ty.size 0 with
        | false => some (el, j)
        | true => none
      | none => none
    | _ => none
  | none => none

def copyE (Γ : Tab) (mg : MG) (td : Nat) (dst src : D) : Option Eff :=
  match elemOfT Γ td with
  | some (_, j) => match cntOf src with
    | some k => match dst with
      | .slice b p off len _ => match mg b with
        | some e => match e.rw with
          | true => match tyAt e.ty p with
            | some T => match elemTy T with
              | some t' => match t'.beq j.ty with
                | true => match elemsD mg j src (Nat.min k len) with
                  | some (ob, y) => match getP e.d (p ++ [.win off (Nat.min k len)]) with
                    | some _ => match setP e.d (p ++ [.win off (Nat.min k len)]) y with
                      | some d' => some ⟨ob ∧ okP e.d (p ++ [.win off (Nat.min k len)]) ∧ hasTy (.arr (Nat.min k len) j.ty) y, .i64 (Nat.min k len), [(b, some ⟨e.ty, d', true⟩)], 0⟩
                      | none => none
                    | none => none
                  | none => none
                | false => none
              | none => none
            | none => none
          | false => none
        | none => none
      | .nilslice => match elemsD mg j src 0 with
        | some (ob, _) => pureE ob (.i64 0)
        | none => none
      | _ => none
    | none => none
  | none => none

def appendE (Γ : Tab) (nx : Nat) (mg : MG) (alt ts tx : Nat) (s x : D) : Option Eff :=
  match notInt Γ tx with
  | true => match elemOfT Γ ts with
    | some (_, j) => match cntOf s with
      | some n => match cntOf x with
        | some k => match elemsD mg j s n with
          | some (ob1, sd) => match elemsD mg j x k with
            | some (ob2, xd) => match alt with
              | 2 => match s with
                | .slice _ _ _ _ _ => pureE ((ob1 ∧ ob2) ∧ k = 0) s
                | .nilslice => pureE ((ob1 ∧ ob2) ∧ k = 0) s
                | _ => none
              | 1 => match catD sd xd with
                | some y => match s with
                  | .slice _ _ _ len (some c) => newE nx (.row j.ty) y (.slice nx [] 0 (n + k) none) ((ob1 ∧ ob2) ∧ (c < len + k ∧ (n + k) * j.bytes ≤ 140737488355328 ∧ n + k < 9223372036854775808 ∧ 0 < j.bytes) ∧ hasTy (.row j.ty) y)
                  | .nilslice => newE nx (.row j.ty) y (.slice nx [] 0 (n + k) none) ((ob1 ∧ ob2) ∧ (0 < k ∧ (n + k) * j.bytes ≤ 140737488355328 ∧ n + k < 9223372036854775808 ∧ 0 < j.bytes) ∧ hasTy (.row j.ty) y)
                  | _ => none
                | none => none
              | _ => match catD sd xd with
                | some y => match s with
                  | .slice b [] off len _ => match mg b with
                    | some e => match e.rw with
                      | true => match e.ty with
                        | .row _ => match Nat.blt nx 1000000 with
                          | true => some ⟨(ob1 ∧ ob2) ∧ ((n + k) * j.bytes ≤ 140737488355328 ∧ n + k < 9223372036854775808 ∧ 0 < j.bytes) ∧ hasTy (.row j.ty) y,
                              .slice nx [] 0 (n + k) none, [(nx, some ⟨.row j.ty, y, true⟩), (b, none)], 1⟩
                          | false => none
                        | _ => none
                      | false => none
                    | none => none
                  | _ => none
                | none => none
            | none => none
          | none => none
        | none => none
      | none => none
    | none => none
  | false => match isI64 Γ tx with
    | true => match s with
      | .nilslice => match x with
        | .i64 k => match elemOfT Γ ts with
          | some (_, j) => newE nx (.row j.ty) (zerosD j.zero k.toNat) (.slice nx [] 0 k.toNat none) (0 < k ∧ k * j.bytes ≤ 140737488355328 ∧ k < 9223372036854775808 ∧ 0 < j.bytes)
          | none => none
        | _ => none
      | .slice b [] off len _ => match x with
        | .i64 k => match elemOfT Γ ts with
          | some (_, j) => match elemsD mg j s len with
            | some (ob1, sd) => match catD sd (zerosD j.zero k.toNat) with
              | some y => match mg b with
                | some e => match e.rw with
                  | true => match e.ty with
                    | .row _ => match Nat.blt nx 1000000 with
                      | true => some ⟨ob1 ∧ (0 ≤ k ∧ (len + k.toNat) * j.bytes ≤ 140737488355328 ∧ len + k.toNat < 9223372036854775808 ∧ 0 < j.bytes) ∧ hasTy (.row j.ty) y,
                          .slice nx [] 0 (len + k.toNat) none, [(nx, some ⟨.row j.ty, y, true⟩), (b, none)], 1⟩
                      | false => none
                    | _ => none
                  | false => none
                | none => none
              | none => none
            | none => none
          | none => none
        | _ => none
      | _ => none
    | false => none

def capE (Γ : Tab) (t : Nat) (x : D) : Option Eff :=
  match ti Γ t with
  | some i => match i.desc with
    | .slice _ => match x with
      | .slice _ _ _ _ (some c) => pureE True (.i64 c)
      | .nilslice => pureE True (.i64 0)
      | _ => none
    | _ => none
  | none => none

def lenE (Γ : Tab) (t : Nat) (x : D) : Option Eff :=
  match ti Γ t with
  | some i => match i.desc with
    | .arr n _ => match Nat.blt n 9223372036854775808 with
      | true => pureE True (.i64 n)
      | false => none
    | .str => match x with
      | .str l => pureE True (.i64 l.length)
      | _ => none
    | .slice _ => match x with
      | .slice _ _ _ len _ => pureE True (.i64 len)
      | .nilslice => pureE True (.i64 0)
      | _ => none
    | _ => none
  | none => none

def minmaxE (mx : Bool) (x y : D) : Option Eff :=
  match x, y with
  | .i64 a, .i64 b => match mx with
    | true => pureE True (.i64 (max a b))
    | false => pureE True (.i64 (min a b))
  | _, _ => none

def convE (Γ : Tab) (nx : Nat) (mg : MG) (src dst : Nat) (x : D) : Option Eff :=
  match ti Γ src with
  | some i => match ti Γ dst with
    | some k => match i.desc, k.desc with
      | .int _, .int kk => match convI kk x with
        | some v => pureE True v
        | none => none
      | .str, .str => match x with
        | .str l => pureE True (.str l)
        | _ => none
      | .slice _, .slice el => match Nat.beq src dst with
        | true => match ti Γ el with
          | some j => match j.desc with
            | .int .u8 => match x with
              | .slice b p off len cap => match mg b with
                | some en => match en.rw with
                  | true => some ⟨0 < len, .slice b p off len cap, [(b, some en)], 0⟩
                  | false => none
                | none => none
              | _ => none
            | _ => none
          | none => none
        | false => none
      | .str, .slice el => match ti Γ el with
        | some j => match j.desc with
          | .int .u8 => match x with
            | .str l => newE nx (.row .cell) (.u8s l) (.slice nx [] 0 l.length none) True
            | _ => none
          | _ => none
        | none => none
      | .slice el, .str => match ti Γ el with
        | some j => match j.desc with
          | .int .u8 => match cntOf x with
            | some n => match elemsD mg j x n with
              | some (ob, .u8s l) => match x with
                | .str _ => none
                | _ => pureE (ob ∧ l.length = n) (.str l)
              | _ => none
            | none => none
          | _ => none
        | none => none
      | _, _ => none
    | none => none
  | none => none

section
set_option linter.unusedSectionVars false
variable {P : Program} {Γ : Tab} (hΓ : TabOk P Γ) {X : Ctx} {ρ : Env} {m : Mem} {w : World} (hI : Inv X ρ m w) {mg : MG} (hm : ∀ b e, mg b = some e → get m b = some e) {nx : Nat}
include hΓ hI

theorem sound_len {t : Nat} {x : D} {v : Value} {ty : TypeId} {e : Eff} (he : lenE Γ t x = some e) (hx : Rep ρ x v) : Sound P (Builtin.len_ #[t] ty #[v]) id X ρ m w nx e := by
  unfold lenE at he
  split at he <;> try contradiction
  rename_i i hi
  have hdd := (hΓ t i hi).desc
  unfold DescOk at hdd
  split at he <;> try contradiction
  · rename_i n el hd
    rw [hd] at hdd
    split at he <;> try contradiction
    rename_i hb
    cases he
    refine Sound.pure hI (r := .int .i64 n) ?_ ⟨rfl, by omega, by simp [Nat.blt] at hb; omega⟩
    simp [Builtin.len_, underlying, hdd.1, goInt]
  · rename_i hd
    rw [hd] at hdd
    split at he <;> try contradiction
    rename_i l
    cases he
    obtain ⟨s, rfl, hs, hl⟩ := hx
    have hsz : s.size = l.length := by
      have := congrArg List.length hs
      rw [bytesV, List.length_map, Array.length_toList] at this
      exact this
    refine Sound.pure hI (r := .int .i64 l.length) ?_ ⟨rfl, by omega, by omega⟩
    simp [Builtin.len_, underlying, hdd.1, goInt, hsz]
  · rename_i el hd
    rw [hd] at hdd
    split at he <;> try contradiction
    · rename_i b p off len cap
      cases he
      obtain ⟨L, h2, T1, t1, a, c, k1, k2, rfl, k3, k4, k5, k6⟩ := hx
      refine Sound.pure hI (r := .int .i64 len) ?_ ⟨rfl, by omega, by omega⟩
      simp [Builtin.len_, underlying, hdd.1, goInt]
    · cases he
      have hx : v = .slice none 0 0 := hx
      subst hx
      refine Sound.pure hI (r := .int .i64 0) ?_ ⟨rfl, by omega, by omega⟩
      simp [Builtin.len_, underlying, hdd.1, goInt]

theorem sound_cap {t : Nat} {x : D} {v : Value} {ty : TypeId} {e : Eff} (he : capE Γ t x = some e) (hx : Rep ρ x v) : Sound P (Builtin.cap_ #[t] ty #[v]) id X ρ m w nx e := by
  unfold capE at he
  split at he <;> try contradiction
  rename_i i hi
  have hdd := (hΓ t i hi).desc
  unfold DescOk at hdd
  split at he <;> try contradiction
  rename_i el hd
  rw [hd] at hdd
  split at he <;> try contradiction
  · rename_i b p off len c
    cases he
    obtain ⟨L, h2, T1, t1, a, c', k1, k2, rfl, k3, k4, k5, k6⟩ := hx
    obtain rfl := k5 c rfl
    refine Sound.pure hI (r := .int .i64 c') ?_ ⟨rfl, by omega, by omega⟩
    simp [Builtin.cap_, underlying, hdd.1, goInt]
  · cases he
    have hx : v = .slice none 0 0 := hx
    subst hx
    refine Sound.pure hI (r := .int .i64 0) ?_ ⟨rfl, by omega, by omega⟩
    simp [Builtin.cap_, underlying, hdd.1, goInt]

omit hΓ in
theorem sound_minmax {mx : Bool} {x y : D} {vx vy : Value} {e : Eff} {at_ : Array TypeId} {ty : TypeId} (he : minmaxE mx x y = some e) (hx : Rep ρ x vx) (hy : Rep ρ y vy) :
    Sound P (if mx then Builtin.max_ at_ ty #[vx, vy] else Builtin.min_ at_ ty #[vx, vy]) id X ρ m w nx e := by
  unfold minmaxE at he
  split at he <;> try contradiction
  rename_i a b
  obtain ⟨rfl, ha⟩ := hx
  obtain ⟨rfl, hb⟩ := hy
  split at he
  · cases he
    refine Sound.pure hI (r := .int .i64 (max a b)) ?_ ⟨rfl, by omega, by omega⟩
    simp only [if_true, Builtin.max_, List.foldlM_cons, List.foldlM_nil, Builtin.max2, Sem.run_bind, Sem.run_pure, Result.andThen_ok]
    congr 2
    split <;> omega
  · cases he
    refine Sound.pure hI (r := .int .i64 (min a b)) ?_ ⟨rfl, by omega, by omega⟩
    simp only [Bool.false_eq_true, if_false, Builtin.min_, List.foldlM_cons, List.foldlM_nil, Builtin.min2, Sem.run_bind, Sem.run_pure, Result.andThen_ok]
    congr 2
    split <;> omega

theorem elemOfT_spec {t : Nat} {el : Nat} {j : TI} (h : elemOfT Γ t = some (el, j)) : P.underlying t = some (.slice el) ∧ ti Γ el = some j ∧ j.ty.size ≠ 0 := by
  unfold elemOfT at h
  split at h <;> try contradiction
  rename_i i hi
  have hdd := (hΓ t i hi).desc
  unfold DescOk at hdd
  split at h <;> try contradiction
  rename_i el' hd
  rw [hd] at hdd
  split at h <;> try contradiction
  rename_i j' hj
  split at h <;> try contradiction
  rename_i hb
  cases h
  exact ⟨hdd.1, hj, fun e => by rw [e] at hb; cases hb⟩

include hm

/-- what a value's first elements are, cell by cell -/
theorem run_elems {j : TI} {el : Nat} (hj : ti Γ el = some j) {x : D} {n : Nat} {ob : Prop} {y : D} {v : Value} (h : elemsD mg j x n = some (ob, y)) (ho : ob) (hx : Rep ρ x v) :
    hasTy (.arr n j.ty) y ∧ ∃ cs : List Value, (Builtin.firstCells j.ty.size n v).run P w = .ok cs.toArray w ∧ All2 (RepS ρ) y.flat cs ∧ cs.length = n * j.ty.size := by
  have hf := (hΓ el j hj).flat
  have fin : ∀ y, hasTy (.arr n j.ty) y → ∀ cs : List Value, All2 (RepS ρ) y.flat cs → cs.length = n * j.ty.size := by
    intro y hy cs hc
    have := hasTy_length (.arr n j.ty) y hf hy
    rw [← hc.length, this]
    rfl
  unfold elemsD at h
  split at h <;> try contradiction
  · rename_i b p off len cap
    repeat' split at h
    all_goals try contradiction
    rename_i en hg _ T hT _ t' ht' _ hb _ y' hy
    cases h
    obtain ⟨ho1, ho2⟩ := ho
    obtain ⟨L, h2, T1, t1, a, c, k1, k2, rfl, k3, k4, k5, k6⟩ := hx
    obtain ⟨L', h3, h4⟩ := hI.sat b en (hm _ _ hg)
    rw [h2] at h3; cases h3
    rw [h4.ty, hT] at k1; cases k1
    rw [ht'] at k2; cases k2
    have := Ty.eq_of_beq _ _ hb; subst this
    have hT2 : tyAt en.ty (p ++ [.win off n]) = some (.arr n j.ty) := by
      rw [tyAt_append _ _ _ _ hT]
      cases T <;> simp only [elemTy, Option.some.injEq] at ht' <;> try contradiction
      all_goals (subst ht'; rfl)
    obtain ⟨h5, vs, h6, h7⟩ := h4.read hT2 ho2 hy
    refine ⟨h5, vs, ?_, h6, fin y h5 vs h6⟩
    have hl := fin y h5 vs h6
    simp only [Builtin.firstCells, ← hl]
    rcases Nat.eq_zero_or_pos c with h0 | h0
    · have hn : n = 0 := by omega
      have : vs = [] := List.length_eq_zero_iff.1 (by rw [hl, hn]; simp)
      rw [this]
      rfl
    · obtain ⟨k7, k8⟩ := k6 h0
      refine run_loadCells_list w a vs fun jj v hv => ?_
      rw [k7, add_none]
      have := h7 jj v hv
      rw [h4.ty, offAt_append _ _ _ _ hT] at this
      have he : offAt T [.win off n] = off * j.ty.size := by
        cases T <;> simp only [elemTy, Option.some.injEq] at ht' <;> try contradiction
        all_goals (subst ht'; simp [offAt])
      rw [he] at this
      rw [h4.ty, Nat.add_assoc L.base]
      exact this
  · cases h
    have hx : v = .slice none 0 0 := hx
    subst hx
    subst ho
    have hz := zerosD_ty (n := 0) (hΓ el j hj).zty
    have hy : hasTy (.arr 0 j.ty) (zerosD j.zero 0) := by
      cases hzz : j.zero <;> rw [hzz] at hz <;> simp only [zerosD] at hz ⊢ <;> first
        | exact ⟨rfl, trivial⟩
        | (cases hjt : j.ty <;> rw [hjt] at hz <;> first | rfl | exact hz.elim)
    refine ⟨hy, [], rfl, ?_, by simp⟩
    have := hasTy_length (.arr 0 j.ty) _ hf hy
    simp only [Ty.size, Nat.zero_mul] at this
    rw [List.length_eq_zero_iff.1 this]
    trivial
  · rename_i l
    split at h <;> try contradiction
    rename_i hd
    cases h
    have hdd := (hΓ el j hj).desc
    unfold DescOk at hdd
    rw [hd] at hdd
    obtain ⟨s, rfl, hs, hlen⟩ := hx
    have hdt : j.ty = .cell := hdd.2
    rw [hdt]
    have hnl : n ≤ l.length := ho
    have hcs : ((s.extract 0 n).data.map fun b => (.int .u8 b.toNat : Value)) = ((l.take n).map fun b => (.int .u8 b.toNat : Value)).toArray := by
      apply Array.ext'
      rw [Array.toList_map, ByteArray.data_extract, Array.toList_extract, hs]
      unfold bytesV
      simp [List.extract, ← List.map_take, List.map_map]
    refine ⟨by show (l.take n).length = n; rw [List.length_take]; omega, (l.take n).map fun b => .int .u8 b.toNat, ?_, ?_, ?_⟩
    · simp only [Builtin.firstCells, Sem.run_pure]
      rw [hcs]
    · simp only [D.flat]
      rw [All2.map_left, All2.map_right]
      exact All2.refl_of (R := fun a b => RepS ρ (D.u8 a) (Value.int IntKind.u8 (BitVec.toNat b))) (fun a => rfl) _
    · simp only [List.length_map, List.length_take, Ty.size]
      omega

theorem lenOf_spec {x : D} {v : Value} {k : Nat} (h : cntOf x = some k) (hx : Rep ρ x v) (w : World) : (Builtin.lenOf v).run P w = .ok k w ∧ k < 9223372036854775808 := by
  cases x <;> simp only [cntOf, Option.some.injEq] at h <;> try contradiction
  · rename_i l
    obtain ⟨s, rfl, hs, hlen⟩ := hx
    have hsz : s.size = l.length := by
      have := congrArg List.length hs
      rw [bytesV, List.length_map, Array.length_toList] at this
      exact this
    subst h
    exact ⟨by simp [Builtin.lenOf, hsz], hlen⟩
  · subst h
    have hx : v = .slice none 0 0 := hx
    subst hx
    exact ⟨rfl, by omega⟩
  · subst h
    obtain ⟨L, h2, T1, t1, a, c, k1, k2, rfl, k3, k4, k5, k6⟩ := hx
    exact ⟨rfl, by omega⟩

theorem sound_copy {td ts : Nat} {ty : TypeId} {dst src : D} {vd vs : Value} {e : Eff} (he : copyE Γ mg td dst src = some e) (ho : e.ob) (hd : Rep ρ dst vd) (hs : Rep ρ src vs) :
    Sound P (Builtin.copy_ #[td, ts] ty #[vd, vs]) id X ρ m w nx e := by
  unfold copyE at he
  split at he <;> try contradiction
  rename_i _ el j hj
  obtain ⟨g1, hj, hnz⟩ := elemOfT_spec hΓ hI hj
  split at he <;> try contradiction
  rename_i k hk
  obtain ⟨hlen, hk63⟩ := lenOf_spec (P := P) hΓ hI hm hk hs w
  split at he <;> try contradiction
  · rename_i b p off len cap
    split at he <;> try contradiction
    rename_i en hg
    split at he <;> try contradiction
    rename_i hrw
    split at he <;> try contradiction
    rename_i T hT
    split at he <;> try contradiction
    rename_i t' ht'
    split at he <;> try contradiction
    rename_i hb
    split at he <;> try contradiction
    rename_i ob y hy
    split at he <;> try contradiction
    rename_i z hz
    split at he <;> try contradiction
    rename_i d' hset
    cases he
    obtain ⟨ho1, ho2, ho3⟩ := ho
    have := Ty.eq_of_beq _ _ hb; subst this
    obtain ⟨h5, cs, h6, h7, h8⟩ := run_elems hΓ hI hm hj hy ho1 hs
    obtain ⟨L, h2, T1, t1, a, c, k1, k2, rfl, k3, k4, k5, k6⟩ := hd
    obtain ⟨L', h3, h4⟩ := hI.sat b en (hm _ _ hg)
    rw [h2] at h3; cases h3
    rw [h4.ty, hT] at k1; cases k1
    rw [ht'] at k2; cases k2
    have hf := (hΓ el j hj).flat
    have hT2 : tyAt en.ty (p ++ [.win off (Nat.min k len)]) = some (.arr (Nat.min k len) j.ty) := by
      rw [tyAt_append _ _ _ _ hT]
      cases T <;> simp only [elemTy, Option.some.injEq] at ht' <;> try contradiction
      all_goals (subst ht'; rfl)
    have hzT := (h4.read hT2 ho2 hz).1
    have hl : z.flat.length = y.flat.length := by rw [hasTy_length (.arr _ j.ty) _ hf hzT, hasTy_length (.arr _ j.ty) _ hf ho3]
    obtain ⟨C', g3, g4⟩ := h4.write (P := P) hT2 ho2 hz hset ho3 hl h7 hrw
    have hen : ({ en with d := d' } : Ent) = ⟨en.ty, d', true⟩ := by cases en; simp_all
    rw [hen] at g4
    have hmin : Nat.min k len ≤ len := Nat.min_le_right _ _
    have hrep : Rep ρ (.i64 (Nat.min k len)) (.int .i64 (Nat.min k len)) := ⟨rfl, by omega, by omega⟩
    have hoff : L.base + offAt L.ty (p ++ [.win off (Nat.min k len)]) = L.base + offAt L.ty p + off * j.ty.size := by
      rw [h4.ty, offAt_append _ _ _ _ hT]
      cases T <;> simp only [elemTy, Option.some.injEq] at ht' <;> try contradiction
      all_goals (subst ht'; simp [offAt]; omega)
    have hrun : ∀ w', (storeCells a cs).run P w = .ok () w' → (Builtin.copy_ #[td, ts] ty #[Value.slice (some a) len c, vs]).run P w = .ok (.int .i64 (Nat.min k len)) w' := by
      intro w' hw'
      simp [Builtin.copy_, underlying, g1, hlen, run_sizeOf hΓ hj w, h6, hw', goInt]
    rcases Nat.eq_zero_or_pos c with h0 | h0
    · have hmin0 : Nat.min k len = 0 := by omega
      have hcs : cs = [] := List.length_eq_zero_iff.1 (by rw [h8, hmin0]; simp)
      subst hcs
      refine ⟨.int .i64 (Nat.min k len), w, ρ, hrun w rfl, Env.le_refl ρ, fun _ h => .inl h, hrep, ?_⟩
      have hput : World.putBlk w L.blk C' = w := by
        have : (storeCells ⟨L.blk, L.base + offAt L.ty (p ++ [.win off (Nat.min k len)]), none⟩ []).run P w = .ok () w := rfl
        rw [this] at g3
        injection g3 with _ g5
        exact g5.symm
      have := hI.put (hm _ _ hg) hrw h2 (C := C') rfl g4
      rw [hput] at this
      exact this
    · obtain ⟨k7, k8⟩ := k6 h0
      rw [hoff, ← k7] at g3
      exact ⟨.int .i64 (Nat.min k len), _, ρ, hrun _ g3, Env.le_refl ρ, fun _ h => .inl h, hrep, hI.put (hm _ _ hg) hrw h2 rfl g4⟩
  · split at he <;> try contradiction
    rename_i ob y hy
    cases he
    obtain ⟨h5, cs, h6, h7, h8⟩ := run_elems hΓ hI hm hj hy ho hs
    have hd : vd = .slice none 0 0 := hd
    subst hd
    refine Sound.pure hI (r := .int .i64 0) ?_ ⟨rfl, by omega, by omega⟩
    simp [Builtin.copy_, underlying, g1, hlen, run_sizeOf hΓ hj w, h6, goInt]
end

theorem Inv.drop {X : Ctx} {ρ : Env} {m : Mem} {w : World} (H : Inv X ρ m w) (b : Nat) : Inv X ρ ((b, none) :: m) w := by
  have key : ∀ i e, get ((b, none) :: m) i = some e → get m i = some e ∧ i ≠ b := by
    intro i e h
    rw [get_cons] at h
    split at h
    · cases h
    · exact ⟨h, fun e => by subst e; contradiction⟩
  exact ⟨H.glob, fun i e h => H.sat i e (key i e h).1, fun i j ei ej Li Lj hi hj => H.inj i j ei ej Li Lj (key i ei hi).1 (key j ej hj).1, fun i e L h => H.own i e L (key i e h).1, H.ext, H.size, H.os, H.out, H.tape⟩

/-- a block that was b's is another one's from now on -/
theorem Inv.renew {X : Ctx} {ρ : Env} {m : Mem} {w : World} (H : Inv X ρ m w) {b nx : Nat} {e e' : Ent} {L L' : Loc} {C : Array Value} (hg : get m b = some e) (hw : e.rw = true) (hL : ρ b = some L)
    (hnx : ρ nx = none) (hlt : nx < 1000000) (hblk : L'.blk = L.blk) (hs : SatE (ρ.put nx L') e' L' (World.putBlk w L.blk C)) :
    Inv X (ρ.put nx L') ((nx, some e') :: (b, none) :: m) (World.putBlk w L.blk C) := by
  have hle := Env.le_put (L := L') hnx
  have hnew : (ρ.put nx L') nx = some L' := by simp [Env.put]
  have key : ∀ i ei, get ((nx, some e') :: (b, none) :: m) i = some ei → (i = nx ∧ ei = e') ∨ (i ≠ nx ∧ i ≠ b ∧ get m i = some ei) := by
    intro i ei h
    rw [get_cons] at h
    split at h
    · cases h; exact .inl ⟨by subst_vars; rfl, rfl⟩
    · rename_i h1
      rw [get_cons] at h
      split at h
      · cases h
      · rename_i h2; exact .inr ⟨fun e => h1 e.symm, fun e => h2 e.symm, h⟩
  have hold : ∀ i ei, get m i = some ei → i ≠ b → ∃ Li, ρ i = some Li ∧ SatE ρ ei Li w ∧ Li.blk ≠ L.blk := by
    intro i ei h hib
    obtain ⟨Li, h1, h2⟩ := H.sat i ei h
    exact ⟨Li, h1, h2, fun eq => H.inj b i e ei L Li hg h (Ne.symm hib) hw hL h1 eq.symm⟩
  refine ⟨fun g L0 hg0 => ?_, fun i ei hi => ?_, fun i j ei ej Li Lj hi hj hne hr h1 h2 => ?_, fun i ei Li hi hr h1 => ?_, fun c hc hn => ?_, ?_, H.os, H.out, H.tape⟩
  · unfold Env.put at hg0
    split at hg0
    · rename_i hgi; unfold gid at hgi; omega
    · exact H.glob g L0 hg0
  · rcases key i ei hi with ⟨rfl, rfl⟩ | ⟨h1, h2, h3⟩
    · exact ⟨L', hnew, hs⟩
    · obtain ⟨Li, h4, h5, h6⟩ := hold i ei h3 h2
      exact ⟨Li, hle _ _ h4, (h5.mono hle).same (putBlk_other (Ne.symm h6))⟩
  · rcases key i ei hi with ⟨rfl, rfl⟩ | ⟨a1, a2, a3⟩
    · rcases key j ej hj with ⟨rfl, rfl⟩ | ⟨b1, b2, b3⟩
      · contradiction
      · rw [hnew] at h1; cases h1
        obtain ⟨Lj', h4, h5, h6⟩ := hold j ej b3 b2
        have := hle _ _ h4
        rw [h2] at this; cases this
        rw [hblk]; exact Ne.symm h6
    · obtain ⟨Li', h4, h5, h6⟩ := hold i ei a3 a2
      have e1 := hle _ _ h4
      rw [h1] at e1; cases e1
      rcases key j ej hj with ⟨rfl, rfl⟩ | ⟨b1, b2, b3⟩
      · rw [hnew] at h2; cases h2
        rw [hblk]; exact h6
      · obtain ⟨Lj', h7, h8, h9⟩ := hold j ej b3 b2
        have e2 := hle _ _ h7
        rw [h2] at e2; cases e2
        exact H.inj i j ei ej _ _ a3 b3 hne hr h4 h7
  · rcases key i ei hi with ⟨rfl, rfl⟩ | ⟨a1, a2, a3⟩
    · rw [hnew] at h1; cases h1
      rw [hblk]; exact H.own b e L hg hw hL
    · obtain ⟨Li', h4, h5, h6⟩ := hold i ei a3 a2
      have e1 := hle _ _ h4
      rw [h1] at e1; cases e1
      exact H.own i ei _ a3 hr h4
  · by_cases h : L.blk = c
    · rcases H.own b e L hg hw hL with h' | h'
      · exact absurd (h ▸ h') hn
      · omega
    · rw [putBlk_other h]; exact H.ext c hc hn
  · rw [putBlk_size]; exact H.size

theorem growBy_le (n : Nat) : ∀ (r c : Nat), 256 ≤ c → c ≤ 2 * n → Builtin.growBy n r c ≤ 2 * n
  | 0, c, _, h => h
  | r + 1, c, h0, h => by
    simp only [Builtin.growBy]
    split
    · exact h
    · exact growBy_le n r _ (by omega) (by omega)

theorem nextcap_le {n c : Nat} (h : c < n) : Builtin.nextslicecap n c ≤ 2 * n := by
  unfold Builtin.nextslicecap
  split
  · omega
  · split
    · omega
    · exact growBy_le n 4 c (by omega) (by omega)

theorem catD_flat {a b y : D} (h : catD a b = some y) : y.flat = a.flat ++ b.flat := by
  unfold catD at h
  split at h <;> try contradiction
  all_goals
    cases h
    simp [D.flat, D.flats_append]

end Go.Proofs.YtodkhgofmgaafaaDoor.Av

namespace Go.Proofs.YtodkhgofmgaafaaDoor.Av
open Go
set_option linter.all false
set_option maxRecDepth 3000

theorem freeze_last (w : World) (C : Array Value) (el : TypeId) : (w.alloc (.cells C el)).freeze ⟨w.heap.size, C.size, none⟩ 1 = w.alloc (.cells C el (C.size, C.size + 1)) := by
  show (⟨_, _, _, _, _⟩ : World) = ⟨_, _, _, _, _⟩
  congr 1
  apply Array.ext_getElem?
  intro q
  show ((w.heap.push (.cells C el)).modify w.heap.size _)[q]? = (w.heap.push (.cells C el (C.size, C.size + 1)))[q]?
  rw [Array.getElem?_modify, Array.getElem?_push, Array.getElem?_push]
  by_cases hq : q = w.heap.size
  · subst hq; simp
  · rw [if_neg (fun e => hq e.symm), if_neg hq, if_neg hq]

theorem hasTy_cat {a b y : D} {T : Ty} {n k : Nat} (h : catD a b = some y) (ha : hasTy (.arr n T) a) (hb : hasTy (.arr k T) b) : hasTy (.row T) y := by
  unfold catD at h
  split at h <;> try contradiction
  all_goals cases h
  all_goals first
    | (cases T <;> first | trivial | exact ha.elim)
    | exact AllD_mem.2 fun d hd => by
        rcases List.mem_append.1 hd with hd | hd
        · exact AllD_mem.1 ha.2 d hd
        · exact AllD_mem.1 hb.2 d hd

section
set_option linter.unusedSectionVars false
variable {P : Program} {Γ : Tab} (hΓ : TabOk P Γ) {X : Ctx} {ρ : Env} {m : Mem} {w : World} (hI : Inv X ρ m w) {mg : MG} (hm : ∀ b e, mg b = some e → get m b = some e) {nx : Nat}
include hΓ hI hm

theorem notInt_spec {t : Nat} (h : notInt Γ t = true) : (∃ e, P.underlying t = some (.slice e)) ∨ P.underlying t = some .string := by
  unfold notInt at h
  split at h <;> try contradiction
  rename_i i hi
  have hdd := (hΓ t i hi).desc
  unfold DescOk at hdd
  split at h <;> try contradiction
  · rename_i el hd
    rw [hd] at hdd
    exact .inl ⟨_, hdd.1⟩
  · rename_i hd
    rw [hd] at hdd
    exact .inr hdd.1

/-- the slice is made anew -/
theorem append_grows {ts tx : Nat} {ty : TypeId} {el : Nat} {j : TI} {n k c : Nat} {base : Option Addr} {vx : Value} {os xs : List Value} {y : D} (m' : Mem) (hI' : Inv X ρ m' w)
    (g1 : P.underlying ts = some (.slice el)) (hj : ti Γ el = some j) (hx : notInt Γ tx = true) (hlx : (Builtin.lenOf vx).run P w = .ok k w) (hgrow : c < n + k)
    (ho : (Builtin.firstCells j.ty.size n (.slice base n c)).run P w.drew = .ok os.toArray w.drew) (hxs : (Builtin.firstCells j.ty.size k vx).run P w.drew = .ok xs.toArray w.drew)
    (hsz : (n + k) * j.bytes ≤ 140737488355328) (h63 : n + k < 9223372036854775808) (_ : 0 < j.bytes) (hnx : ρ nx = none) (hlt : nx < 1000000)
    (hlen : (os ++ xs).length = (n + k) * j.ty.size)
    (hyt : hasTy (.row j.ty) y) (hy : All2 (RepS ρ) y.flat (os ++ xs)) :
    ∃ r w' ρ', (Builtin.append_ #[ts, tx] ty #[.slice base n c, vx]).run P w = .ok r w' ∧ ρ.le ρ' ∧ (∀ i, ρ' i ≠ none → ρ i ≠ none ∨ i = nx) ∧ Rep ρ' (.slice nx [] 0 (n + k) none) r ∧
      Inv X ρ' ((nx, some ⟨.row j.ty, y, true⟩) :: m') w' := by
  have hdx := notInt_spec hΓ hI hm hx
  have hok := hΓ el j hj
  obtain ⟨z, hz, hrz⟩ := run_zeroValue hΓ hj w.drew
  obtain ⟨inf, z', q1, q2, q3, right⟩ := hok.info
  have hbt : ∀ w, (typeInfo el).run P w = .ok inf w := fun w => by simp [typeInfo, q1]
  -- the cells
  let cap := (Question.appendCap (n + k) c el).cut (w.tape w.drawn (.appendCap (n + k) c el))
  have hcap : n + k ≤ cap ∧ cap < 9223372036854775808 := by
    show n + k ≤ n + k + w.tape w.drawn (.appendCap (n + k) c el) % (2 ^ 63 - (n + k)) ∧ n + k + w.tape w.drawn (.appendCap (n + k) c el) % (2 ^ 63 - (n + k)) < 9223372036854775808
    have : w.tape w.drawn (.appendCap (n + k) c el) % (2 ^ 63 - (n + k)) < 2 ^ 63 - (n + k) := Nat.mod_lt _ (by omega)
    omega
  have hnext : ¬ (Builtin.nextslicecap (n + k) c * inf.bytes > 2 ^ 48) := by
    have h1 := nextcap_le hgrow
    rw [q3]
    have := Nat.mul_le_mul_right j.bytes h1
    rw [Nat.mul_assoc] at this
    omega
  have hrun : (Builtin.append_ #[ts, tx] ty #[.slice base n c, vx]).run P w =
      .ok (.slice (some ⟨w.drew.heap.size, 0, none⟩) (n + k) cap) (w.drew.alloc (.cells (os.toArray ++ xs.toArray ++ Builtin.zeroCells z.cells (cap - (n + k))) el)) := by
    have h1 : ¬ (n + k ≤ c) := by omega
    have h2 : ¬ (9223372036854775807 < ((n : Int) + (k : Int))) := by omega
    have h3 : ¬ (281474976710656 < Builtin.nextslicecap (n + k) c * inf.bytes) := by simpa using hnext
    rw [← q2] at ho hxs
    obtain ⟨z2, hz2⟩ : ∃ z2, inf.zero = some z2 := ⟨_, right.1⟩
    have hzz : z = z2 := by
      have := hz
      simp [zeroValue, typeInfo, q1, hz2] at this
      exact this.symm
    subst hzz
    rcases hdx with ⟨e', hdx⟩ | hdx
    · simp [Builtin.append_, run_underlying g1, run_underlying hdx, sizeOf, typeInfo, zeroValue, q1, hz2, hlx, h1, h2, h3, Question.forced, ho, hxs, newRow]
      refine ⟨rfl, ?_⟩
      congr 2
      apply Array.ext'
      simp [cap]
    · simp [Builtin.append_, run_underlying g1, run_underlying hdx, sizeOf, typeInfo, zeroValue, q1, hz2, hlx, h1, h2, h3, Question.forced, ho, hxs, newRow]
      refine ⟨rfl, ?_⟩
      congr 2
      apply Array.ext'
      simp [cap]
  have hsplit : (os.toArray ++ xs.toArray ++ Builtin.zeroCells z.cells (cap - (n + k))).toList = (os ++ xs) ++ (Builtin.zeroCells z.cells (cap - (n + k))).toList := by simp
  obtain ⟨h1, h2⟩ := (hI'.drew).alloc (i := nx) (e := ⟨.row j.ty, y, true⟩) (t := el) (C := os.toArray ++ xs.toArray ++ Builtin.zeroCells z.cells (cap - (n + k))) (fr := (0, 0)) hnx hlt hok.flat hyt hy hsplit (.inl rfl)
  refine ⟨_, _, _, hrun, h1, ?_, ?_, h2⟩
  · intro i hi
    unfold Env.put at hi
    split at hi
    · exact .inr (by assumption)
    · exact .inl hi
  · have hnew : (ρ.put nx ⟨w.drew.heap.size, 0, (os.toArray ++ xs.toArray ++ Builtin.zeroCells z.cells (cap - (n + k))).size, .row j.ty⟩) nx = some ⟨w.drew.heap.size, 0, (os.toArray ++ xs.toArray ++ Builtin.zeroCells z.cells (cap - (n + k))).size, .row j.ty⟩ := by simp [Env.put]
    refine ⟨_, hnew, _, _, _, _, rfl, rfl, rfl, hcap.1, hcap.2, (fun k hk => by cases hk), fun hc => ⟨by simp [offAt], ?_⟩⟩
    have hzl : z.cells.size = j.ty.size := by rw [← Array.length_toList, ← (hrz ρ).length, hasTy_length _ _ hok.flat hok.zty]
    have hzz : (Builtin.zeroCells z.cells (cap - (n + k))).size = (cap - (n + k)) * j.ty.size := by simp [Builtin.zeroCells, hzl]
    simp only [offAt, Nat.zero_add, Array.size_append, List.size_toArray, hzz]
    rw [List.length_append] at hlen
    have : cap * j.ty.size = (n + k) * j.ty.size + (cap - (n + k)) * j.ty.size := by rw [← Nat.add_mul]; congr 1; omega
    omega

/-- there is room: the cells behind are written -/
theorem append_room {ts tx : Nat} {ty : TypeId} {el : Nat} {j : TI} {n k c : Nat} {a : Addr} {vx : Value} {xs : List Value} {w' : World}
    (g1 : P.underlying ts = some (.slice el)) (hj : ti Γ el = some j) (hx : notInt Γ tx = true) (hlx : (Builtin.lenOf vx).run P w = .ok k w) (hroom : n + k ≤ c)
    (hxs : (Builtin.firstCells j.ty.size k vx).run P w = .ok xs.toArray w) (hst : (storeCells (a.add (n * j.ty.size)) xs).run P w = .ok () w') :
    (Builtin.append_ #[ts, tx] ty #[.slice (some a) n c, vx]).run P w = .ok (.slice (some a) (n + k) c) w' := by
  have hdx := notInt_spec hΓ hI hm hx
  obtain ⟨inf, z', q1, q2, q3, right⟩ := (hΓ el j hj).info
  rw [← q2] at hxs hst
  rcases hdx with ⟨e', hdx⟩ | hdx
  · simp [Builtin.append_, run_underlying g1, run_underlying hdx, sizeOf, typeInfo, q1, hlx, hroom, hxs, hst]
  · simp [Builtin.append_, run_underlying g1, run_underlying hdx, sizeOf, typeInfo, q1, hlx, hroom, hxs, hst]

/-- noughts behind nothing -/
theorem append_made {ts tx : Nat} {ty : TypeId} {el : Nat} {j : TI} {k : Int} (g1 : P.underlying ts = some (.slice el)) (hj : ti Γ el = some j) (hx : P.underlying tx = some (.int .i64)) (hk : 0 < k) (hz : j.ty.size ≠ 0)
    (hsz : k * j.bytes ≤ 140737488355328) (h63 : k < 9223372036854775808) (_ : 0 < j.bytes) (hnx : ρ nx = none) (hlt : nx < 1000000) :
    ∃ r w' ρ', (Builtin.append_ #[ts, tx] ty #[.slice none 0 0, .int .i64 k]).run P w = .ok r w' ∧ ρ.le ρ' ∧ (∀ i, ρ' i ≠ none → ρ i ≠ none ∨ i = nx) ∧ Rep ρ' (.slice nx [] 0 k.toNat none) r ∧
      Inv X ρ' ((nx, some ⟨.row j.ty, zerosD j.zero k.toNat, true⟩) :: m) w' := by
  have hok := hΓ el j hj
  obtain ⟨z, hzv, hrz⟩ := run_zeroValue hΓ hj w.drew
  obtain ⟨inf, z', q1, q2, q3, right⟩ := hok.info
  obtain ⟨n, rfl⟩ : ∃ n : Nat, k = n := ⟨k.toNat, by omega⟩
  have hn0 : 0 < n := by omega
  have hszn : n * j.bytes ≤ 140737488355328 := by omega
  let cap := (Question.appendCap n 0 el).cut (w.tape w.drawn (.appendCap n 0 el))
  have hcap : n ≤ cap ∧ cap < 9223372036854775808 := by
    show n ≤ n + w.tape w.drawn (.appendCap n 0 el) % (2 ^ 63 - n) ∧ n + w.tape w.drawn (.appendCap n 0 el) % (2 ^ 63 - n) < 9223372036854775808
    have : w.tape w.drawn (.appendCap n 0 el) % (2 ^ 63 - n) < 2 ^ 63 - n := Nat.mod_lt _ (by omega)
    omega
  have hnext : ¬ (281474976710656 < Builtin.nextslicecap n 0 * inf.bytes) := by
    have h1 := nextcap_le hn0
    rw [q3]
    have := Nat.mul_le_mul_right j.bytes h1
    rw [Nat.mul_assoc] at this
    omega
  obtain ⟨z2, hz2⟩ : ∃ z2, inf.zero = some z2 := ⟨_, right.1⟩
  have hzz : z = z2 := by
    have := hzv
    simp [zeroValue, typeInfo, q1, hz2] at this
    exact this.symm
  subst hzz
  have hrun : (Builtin.append_ #[ts, tx] ty #[.slice none 0 0, .int .i64 (n : Int)]).run P w =
      .ok (.slice (some ⟨w.drew.heap.size, 0, none⟩) n cap) (w.drew.alloc (.cells (Builtin.zeroCells z.cells n ++ Builtin.zeroCells z.cells (cap - n)) el)) := by
    have hw : IntKind.wrap .i64 (n : Int) = n := wrap_i64_in ⟨by omega, by omega⟩
    have h1 : ¬ ((n : Int) < 0) := by omega
    have h2 : ¬ (281474976710656 < (n : Int) * (inf.bytes : Int)) := by
      rw [q3]; omega
    have h3 : ¬ (n = 0) := by omega
    have h4 : ¬ (9223372036854775807 < (n : Int)) := by omega
    have h5 : ¬ (inf.size = 0) := by rw [q2]; exact hz
    simp [Builtin.append_, run_underlying g1, run_underlying hx, sizeOf, typeInfo, zeroValue, asInt, asIntOf, q1, hz2, hw, h1, h2, h3, h4, h5, hnext, Question.forced, Builtin.firstCells, newRow, hn0]
    rw [if_neg (by intro h; rcases Nat.mul_eq_zero.1 h with h | h; exact h3 h; exact h5 h)]
  have hzl : z.cells.size = j.ty.size := by rw [← Array.length_toList, ← (hrz ρ).length, hasTy_length _ _ hok.flat hok.zty]
  have hzc : ∀ n, (Builtin.zeroCells z.cells n).toList = (List.replicate n z.cells.toList).flatten := by
    intro n
    simp only [Builtin.zeroCells, hzl]
    rw [← hzl, zeros_cells z.cells n (.inl (by rw [hzl]; exact hz))]
  have hsplit : (Builtin.zeroCells z.cells n ++ Builtin.zeroCells z.cells (cap - n)).toList = (Builtin.zeroCells z.cells n).toList ++ (Builtin.zeroCells z.cells (cap - n)).toList := by simp
  obtain ⟨h1, h2⟩ := (hI.drew).alloc (i := nx) (e := ⟨.row j.ty, zerosD j.zero n, true⟩) (t := el) (C := Builtin.zeroCells z.cells n ++ Builtin.zeroCells z.cells (cap - n)) (fr := (0, 0)) hnx hlt hok.flat (zerosD_ty hok.zty)
    (by rw [hzc n]; show All2 _ (zerosD j.zero n).flat _; rw [zerosD_flat]; exact (hrz ρ).flatten_replicate n) hsplit (.inl rfl)
  refine ⟨_, _, _, hrun, h1, fun i hi => ?_, ?_, h2⟩
  · unfold Env.put at hi
    split at hi
    · exact .inr (by assumption)
    · exact .inl hi
  · refine ⟨_, if_pos rfl, _, _, _, _, rfl, rfl, rfl, hcap.1, hcap.2, (fun k hk => by cases hk), fun hc => ⟨by simp [offAt], ?_⟩⟩
    have hs1 : ∀ n, (Builtin.zeroCells z.cells n).size = n * j.ty.size := fun n => by
      rw [← Array.length_toList, hzc n, List.length_flatten]; simp [hzl]
    simp only [offAt, Nat.zero_add, Array.size_append, hs1]
    rw [← Nat.add_mul]
    exact Nat.mul_le_mul_right _ (by omega)

/-- noughts behind a slice that has no room for them -/
theorem append_zgrows {ts tx : Nat} {ty : TypeId} {el : Nat} {j : TI} {n k c : Nat} {base : Option Addr} {os : List Value} {y : D} (m' : Mem) (hI' : Inv X ρ m' w)
    (g1 : P.underlying ts = some (.slice el)) (hj : ti Γ el = some j) (hx : P.underlying tx = some (.int .i64)) (hgrow : c < n + k) (hz : j.ty.size ≠ 0)
    (ho : (Builtin.firstCells j.ty.size n (.slice base n c)).run P w.drew = .ok os.toArray w.drew)
    (hsz : (n + k) * j.bytes ≤ 140737488355328) (h63 : n + k < 9223372036854775808) (h0 : 0 < j.bytes) (hnx : ρ nx = none) (hlt : nx < 1000000) (hol : os.length = n * j.ty.size)
    (hyt : hasTy (.row j.ty) y) (hy : ∀ zs, All2 (RepS ρ) (zerosD j.zero k).flat zs → All2 (RepS ρ) y.flat (os ++ zs)) :
    ∃ r w' ρ', (Builtin.append_ #[ts, tx] ty #[.slice base n c, .int .i64 k]).run P w = .ok r w' ∧ ρ.le ρ' ∧ (∀ i, ρ' i ≠ none → ρ i ≠ none ∨ i = nx) ∧ Rep ρ' (.slice nx [] 0 (n + k) none) r ∧
      Inv X ρ' ((nx, some ⟨.row j.ty, y, true⟩) :: m') w' := by
  have hok := hΓ el j hj
  obtain ⟨z, hzv, hrz⟩ := run_zeroValue hΓ hj w.drew
  obtain ⟨inf, z', q1, q2, q3, right⟩ := hok.info
  let cap := (Question.appendCap (n + k) c el).cut (w.tape w.drawn (.appendCap (n + k) c el))
  have hcap : n + k ≤ cap ∧ cap < 9223372036854775808 := by
    show n + k ≤ n + k + w.tape w.drawn (.appendCap (n + k) c el) % (2 ^ 63 - (n + k)) ∧ n + k + w.tape w.drawn (.appendCap (n + k) c el) % (2 ^ 63 - (n + k)) < 9223372036854775808
    have : w.tape w.drawn (.appendCap (n + k) c el) % (2 ^ 63 - (n + k)) < 2 ^ 63 - (n + k) := Nat.mod_lt _ (by omega)
    omega
  have hnext : ¬ (281474976710656 < Builtin.nextslicecap (n + k) c * inf.bytes) := by
    have h1 := nextcap_le hgrow
    rw [q3]
    have := Nat.mul_le_mul_right j.bytes h1
    rw [Nat.mul_assoc] at this
    omega
  obtain ⟨z2, hz2⟩ : ∃ z2, inf.zero = some z2 := ⟨_, right.1⟩
  have hzz : z = z2 := by
    have := hzv
    simp [zeroValue, typeInfo, q1, hz2] at this
    exact this.symm
  subst hzz
  have hkb : k * j.bytes ≤ 140737488355328 := Nat.le_trans (Nat.mul_le_mul_right _ (Nat.le_add_left k n)) hsz
  have hzl : z.cells.size = j.ty.size := by rw [← Array.length_toList, ← (hrz ρ).length, hasTy_length _ _ hok.flat hok.zty]
  have hzc : ∀ n, (Builtin.zeroCells z.cells n).toList = (List.replicate n z.cells.toList).flatten := by
    intro n
    simp only [Builtin.zeroCells, hzl]
    rw [← hzl, zeros_cells z.cells n (.inl (by rw [hzl]; exact hz))]
  have hk0 : k * inf.size = 0 → Builtin.zeroCells z.cells k = #[] := fun h => by
    have : k = 0 := by
      rcases Nat.mul_eq_zero.1 h with h | h
      · exact h
      · exact absurd (q2 ▸ h) hz
    subst this
    apply Array.ext'
    rw [hzc]; rfl
  have hrun : (Builtin.append_ #[ts, tx] ty #[.slice base n c, .int .i64 (k : Int)]).run P w =
      .ok (.slice (some ⟨w.drew.heap.size, 0, none⟩) (n + k) cap) (w.drew.alloc (.cells (os.toArray ++ Builtin.zeroCells z.cells k ++ Builtin.zeroCells z.cells (cap - (n + k))) el)) := by
    have hw : IntKind.wrap .i64 (k : Int) = k := wrap_i64_in ⟨by omega, by omega⟩
    have h1 : ¬ ((k : Int) < 0) := by omega
    have h2 : ¬ (281474976710656 < (k : Int) * (inf.bytes : Int)) := by
      rw [q3]; omega
    have h3 : ¬ (n + k ≤ c) := by omega
    have h4 : ¬ (9223372036854775807 < (n : Int) + (k : Int)) := by omega
    rw [← q2] at ho
    by_cases hk : k * inf.size = 0
    · simp [Builtin.append_, run_underlying g1, run_underlying hx, sizeOf, typeInfo, zeroValue, asInt, asIntOf, q1, hz2, hw, h1, h2, h3, h4, hnext, Question.forced, ho, newRow, hk, hk0 hk]
      refine ⟨rfl, ?_⟩
      congr 2
    · simp [Builtin.append_, run_underlying g1, run_underlying hx, sizeOf, typeInfo, zeroValue, asInt, asIntOf, q1, hz2, hw, h1, h2, h3, h4, hnext, Question.forced, ho, newRow, hk]
      refine ⟨rfl, ?_⟩
      congr 2
  have hsplit : (os.toArray ++ Builtin.zeroCells z.cells k ++ Builtin.zeroCells z.cells (cap - (n + k))).toList = (os ++ (Builtin.zeroCells z.cells k).toList) ++ (Builtin.zeroCells z.cells (cap - (n + k))).toList := by simp
  have hzr : All2 (RepS ρ) (zerosD j.zero k).flat (Builtin.zeroCells z.cells k).toList := by rw [hzc, zerosD_flat]; exact (hrz ρ).flatten_replicate k
  obtain ⟨h1, h2⟩ := (hI'.drew).alloc (i := nx) (e := ⟨.row j.ty, y, true⟩) (t := el) (C := os.toArray ++ Builtin.zeroCells z.cells k ++ Builtin.zeroCells z.cells (cap - (n + k))) (fr := (0, 0)) hnx hlt hok.flat hyt (hy _ hzr) hsplit (.inl rfl)
  refine ⟨_, _, _, hrun, h1, fun i hi => ?_, ?_, h2⟩
  · unfold Env.put at hi
    split at hi
    · exact .inr (by assumption)
    · exact .inl hi
  · refine ⟨_, if_pos rfl, _, _, _, _, rfl, rfl, rfl, hcap.1, hcap.2, (fun k hk => by cases hk), fun hc => ⟨by simp [offAt], ?_⟩⟩
    have hs1 : ∀ n, (Builtin.zeroCells z.cells n).size = n * j.ty.size := fun n => by
      rw [← Array.length_toList, hzc n, List.length_flatten]; simp [hzl]
    simp only [offAt, Nat.zero_add, Array.size_append, hs1, List.size_toArray, hol]
    rw [← Nat.add_mul, ← Nat.add_mul]
    exact Nat.mul_le_mul_right _ (by omega)

/-- .. and behind one that has -/
theorem append_zroom {ts tx : Nat} {ty : TypeId} {el : Nat} {j : TI} {n k c : Nat} {a : Addr}
    (g1 : P.underlying ts = some (.slice el)) (hj : ti Γ el = some j) (hx : P.underlying tx = some (.int .i64)) (hroom : n + k ≤ c) (hz : j.ty.size ≠ 0) (hkb : k * j.bytes ≤ 140737488355328) (h63 : n + k < 9223372036854775808) :
    ∃ zs : List Value, zs.length = k * j.ty.size ∧ (∀ ρ, All2 (RepS ρ) (zerosD j.zero k).flat zs) ∧ ∀ w', (storeCells (a.add (n * j.ty.size)) zs).run P w = .ok () w' →
      (Builtin.append_ #[ts, tx] ty #[.slice (some a) n c, .int .i64 k]).run P w = .ok (.slice (some a) (n + k) c) w' := by
  have hok := hΓ el j hj
  obtain ⟨z, hzv, hrz⟩ := run_zeroValue hΓ hj w
  obtain ⟨inf, z', q1, q2, q3, right⟩ := hok.info
  obtain ⟨z2, hz2⟩ : ∃ z2, inf.zero = some z2 := ⟨_, right.1⟩
  have hzz : z = z2 := by
    have := hzv
    simp [zeroValue, typeInfo, q1, hz2] at this
    exact this.symm
  subst hzz
  have hzl : z.cells.size = j.ty.size := by rw [← Array.length_toList, ← (hrz ρ).length, hasTy_length _ _ hok.flat hok.zty]
  have hzc : ∀ n, (Builtin.zeroCells z.cells n).toList = (List.replicate n z.cells.toList).flatten := by
    intro n
    simp only [Builtin.zeroCells, hzl]
    rw [← hzl, zeros_cells z.cells n (.inl (by rw [hzl]; exact hz))]
  refine ⟨(Builtin.zeroCells z.cells k).toList, by rw [hzc, List.length_flatten]; simp [hzl], fun ρ => by rw [hzc, zerosD_flat]; exact (hrz ρ).flatten_replicate k, fun w' hst => ?_⟩
  have hw : IntKind.wrap .i64 (k : Int) = k := wrap_i64_in ⟨by omega, by omega⟩
  have h1 : ¬ ((k : Int) < 0) := by omega
  have h2 : ¬ (281474976710656 < (k : Int) * (inf.bytes : Int)) := by
    rw [q3]; omega
  have hk0 : k * inf.size = 0 → Builtin.zeroCells z.cells k = #[] := fun h => by
    have : k = 0 := by
      rcases Nat.mul_eq_zero.1 h with h | h
      · exact h
      · exact absurd (q2 ▸ h) hz
    subst this
    apply Array.ext'
    rw [hzc]; rfl
  rw [← q2] at hst
  by_cases hk : k * inf.size = 0
  · rw [hk0 hk] at hst
    simp [Builtin.append_, run_underlying g1, run_underlying hx, sizeOf, typeInfo, zeroValue, asInt, asIntOf, q1, hz2, hw, h1, h2, hroom, hk]
    rw [hst]; rfl
  · simp [Builtin.append_, run_underlying g1, run_underlying hx, sizeOf, typeInfo, zeroValue, asInt, asIntOf, q1, hz2, hw, h1, h2, hroom, hk, hst]

theorem append_nil0 {ts tx : Nat} {ty : TypeId} {el : Nat} {j : TI} {vx : Value} {xs : List Value}
    (g1 : P.underlying ts = some (.slice el)) (hj : ti Γ el = some j) (hx : notInt Γ tx = true) (hlx : (Builtin.lenOf vx).run P w = .ok 0 w)
    (hxs : (Builtin.firstCells j.ty.size 0 vx).run P w = .ok xs.toArray w) :
    (Builtin.append_ #[ts, tx] ty #[.slice none 0 0, vx]).run P w = .ok (.slice none 0 0) w := by
  have hdx := notInt_spec hΓ hI hm hx
  obtain ⟨inf, z', q1, q2, q3, right⟩ := (hΓ el j hj).info
  rw [← q2] at hxs
  rcases hdx with ⟨e', hdx⟩ | hdx
  · simp [Builtin.append_, run_underlying g1, run_underlying hdx, sizeOf, typeInfo, q1, hlx, hxs]
  · simp [Builtin.append_, run_underlying g1, run_underlying hdx, sizeOf, typeInfo, q1, hlx, hxs]

/-- a row that is given up: it goes on where it is, or anew -/
theorem append_onto {ts tx : Nat} {ty : TypeId} {b off len k : Nat} {cap : Option Nat} {en : Ent} {T0 : Ty} {el : Nat} {j : TI} {y sd xd : D} {vs vx : Value} {ob1 : Prop} (hnx : ρ nx = none) (hlt : nx < 1000000)
    (hsd : elemsD mg j (.slice b [] off len cap) len = some (ob1, sd)) (o1 : ob1) (hg : mg b = some en) (hrw : en.rw = true) (hrow : en.ty = .row T0) (hf : j.ty.flatTy) (hj : ti Γ el = some j) (hy : catD sd xd = some y) (o7 : hasTy (.row j.ty) y)
    (hs : Rep ρ (.slice b [] off len cap) vs)
    (hgrow : ∀ a c, vs = .slice (some a) len c → c < len + k → ∃ r w' ρ', (Builtin.append_ #[ts, tx] ty #[vs, vx]).run P w = .ok r w' ∧ ρ.le ρ' ∧ (∀ i, ρ' i ≠ none → ρ i ≠ none ∨ i = nx) ∧ Rep ρ' (.slice nx [] 0 (len + k) none) r ∧
      Inv X ρ' ((nx, some ⟨.row j.ty, y, true⟩) :: (b, none) :: m) w')
    (hroom : ∀ a c, vs = .slice (some a) len c → len + k ≤ c → ∃ xs : List Value, xs.length = k * j.ty.size ∧ All2 (RepS ρ) xd.flat xs ∧ ∀ w', (storeCells (a.add (len * j.ty.size)) xs).run P w = .ok () w' →
      (Builtin.append_ #[ts, tx] ty #[.slice (some a) len c, vx]).run P w = .ok (.slice (some a) (len + k) c) w') :
    ∃ r w' ρ', (Builtin.append_ #[ts, tx] ty #[vs, vx]).run P w = .ok r w' ∧ ρ.le ρ' ∧ (∀ i, ρ' i ≠ none → ρ i ≠ none ∨ i = nx) ∧ Rep ρ' (.slice nx [] 0 (len + k) none) r ∧
      Inv X ρ' ((nx, some ⟨.row j.ty, y, true⟩) :: (b, none) :: m) w' := by
  have hs' := hs
  obtain ⟨L, h2, T1, t1, a, c, k1, k2, hv, k3, k4, k5, k6⟩ := hs'
  obtain ⟨L', h3, h4⟩ := hI.sat b en (hm _ _ hg)
  rw [h2] at h3; cases h3
  by_cases hc : c < len + k
  · obtain ⟨r, w', ρ', r1, r2, r3, r4, r5⟩ := hgrow a c hv hc
    exact ⟨r, w', ρ', r1, r2, r3, r4, r5⟩
  · -- in its place
    have hT0 : T0 = j.ty := by
      unfold elemsD at hsd
      simp only [hg, hrow, tyAt, elemTy] at hsd
      split at hsd <;> try contradiction
      exact Ty.eq_of_beq _ _ (by assumption)
    subst hT0
    rw [h4.ty, hrow] at k1
    simp only [tyAt, Option.some.injEq] at k1
    subst k1
    simp only [elemTy, Option.some.injEq] at k2
    subst k2
    obtain ⟨a1, os, a2, a3, a4⟩ := run_elems hΓ hI hm hj hsd o1 hs
    obtain ⟨xs, b4, b3, hap⟩ := hroom a c hv (by omega)
    obtain ⟨C, t, fr, pre, front, tail, m1, m2, m3, m4, m5, m6⟩ := h4.mem
    have hhas : hasTy (.row j.ty) en.d := by rw [← hrow]; exact h4.has
    subst hv
    -- the elements' cells are the last of what is known
    have hsd2 : getP en.d [.win off len] = some sd ∧ okP en.d [.win off len] := by
      unfold elemsD at hsd
      simp only [hg, hrow, tyAt, elemTy, List.nil_append] at hsd
      repeat' split at hsd
      all_goals try contradiction
      cases hsd
      exact ⟨by assumption, o1.2⟩
    obtain ⟨_, pr, po, q1, q2⟩ := getP_spec [.win off len] (.row j.ty) en.d sd (.arr len j.ty) hf hhas rfl hsd2.2 hsd2.1
    have q2 : pr.length = off * j.ty.size := by rw [q2]; simp [offAt]
    have hsdl : sd.flat.length = len * j.ty.size := hasTy_length (.arr len j.ty) sd hf a1
    rw [q1] at m5
    obtain ⟨f0, f3, hfe0, m5, _⟩ := All2.split_left m5
    have m2 : C.toList = pre ++ f0 ++ (f3 ++ tail) := by rw [m2, hfe0]; simp
    clear hfe0
    generalize f3 ++ tail = tail at m2
    generalize f0 = front at m2 m5
    have hfl : front.length = (off + len) * j.ty.size := by rw [← m5.length, List.length_append, q2, hsdl, Nat.add_mul]
    obtain ⟨f1, f2, hfe, hf1, hf2⟩ := All2.split_left m5
    have hf1l : f1.length = off * j.ty.size := by rw [← hf1.length, q2]
    have hCl := congrArg List.length m2
    simp only [List.length_append, Array.length_toList] at hCl
    have hk : k * j.ty.size ≤ tail.length := by
      rcases Nat.eq_zero_or_pos c with h0 | h0
      · have : k = 0 := by omega
        rw [this]; simp
      · obtain ⟨k7, k8⟩ := k6 h0
        have e1 : (off + len + k) * j.ty.size ≤ (off + c) * j.ty.size := Nat.mul_le_mul_right _ (by omega)
        rw [Nat.add_mul (off + len)] at e1
        simp only [offAt, Nat.add_zero] at k8
        omega
    have hC : C.toList = (pre ++ front) ++ tail.take (k * j.ty.size) ++ tail.drop (k * j.ty.size) := by rw [List.append_assoc (pre ++ front), List.take_append_drop, m2]
    have hxl : xs.length = (tail.take (k * j.ty.size)).length := by rw [b4, List.length_take, Nat.min_eq_left hk]
    have hone : ∀ v ∈ xs, v.oneCell' = true := by
      intro v hv
      obtain ⟨i, hi⟩ := List.getElem?_of_mem hv
      have hlt : i < xd.flat.length := by
        rw [b3.length]
        rcases Nat.lt_or_ge i xs.length with h' | h'
        · exact h'
        · simp [List.getElem?_eq_none h'] at hi
      obtain ⟨z, hz1, hz2⟩ := b3.get i (List.getElem?_eq_getElem hlt)
      rw [hi] at hz1
      cases hz1
      exact hz2.oneCell
    have hst := run_storeCells_put (P := P) L.blk t fr (pre ++ front) (L.base + front.length) xs 0 w C (tail.take (k * j.ty.size)) (tail.drop (k * j.ty.size)) m1 (m6 hrw) hC (by simp [m3]) hxl.symm hone
    have hst2 : (storeCells (a.add (len * j.ty.size)) xs).run P w = .ok () (World.putBlk w L.blk ((pre ++ front) ++ xs ++ tail.drop (k * j.ty.size)).toArray) := by
      rcases Nat.eq_zero_or_pos c with h0 | h0
      · have hk0 : k = 0 := by omega
        have hxs : xs = [] := List.length_eq_zero_iff.1 (by rw [b4, hk0]; simp)
        subst hxs
        have hCC : ((pre ++ front) ++ [] ++ tail.drop (k * j.ty.size)).toArray = C := by
          apply Array.ext'
          rw [m2, hk0]
          simp
        rw [hCC, put_self m1]
        rfl
      · obtain ⟨k7, k8⟩ := k6 h0
        rw [k7, add_none]
        have : L.base + offAt L.ty [] + off * j.ty.size + len * j.ty.size = L.base + front.length := by
          rw [hfl, Nat.add_mul]; simp [offAt]; omega
        rw [this]
        exact hst
    have hsz : ((pre ++ front) ++ xs ++ tail.drop (k * j.ty.size)).toArray.size = C.size := by
      rw [← Array.length_toList (xs := C), hC]
      simp only [List.size_toArray, List.length_append, hxl]
    refine ⟨_, _, ρ.put nx ⟨L.blk, L.base + off * j.ty.size, L.n, .row j.ty⟩, hap _ hst2, Env.le_put hnx, ?_, ?_, ?_⟩
    · intro i hi
      unfold Env.put at hi
      split at hi
      · exact .inr (by assumption)
      · exact .inl hi
    · have hnew : (ρ.put nx ⟨L.blk, L.base + off * j.ty.size, L.n, .row j.ty⟩) nx = some ⟨L.blk, L.base + off * j.ty.size, L.n, .row j.ty⟩ := by simp [Env.put]
      refine ⟨_, hnew, _, _, a, c, rfl, rfl, rfl, by omega, k4, (fun k hk => by cases hk), fun h0 => ?_⟩
      obtain ⟨k7, k8⟩ := k6 h0
      simp only [offAt, Nat.add_zero] at k7 k8
      refine ⟨by rw [k7]; simp [offAt], ?_⟩
      simp only [offAt, Nat.add_zero, Nat.zero_add]
      rw [Nat.add_mul] at k8
      omega
    · refine hI.renew (hm _ _ hg) hrw h2 hnx hlt rfl ⟨rfl, hf, o7, _, t, fr, pre ++ f1, f2 ++ xs, tail.drop (k * j.ty.size), putBlk_same m1, ?_, ?_, ?_, ?_, ?_⟩
      · rw [hfe]; simp
      · simp [m3, hf1l]
      · rw [hsz, m4]
      · show All2 _ y.flat _
        rw [catD_flat hy]
        exact (hf2.append b3).mono fun _ _ => RepS.mono (Env.le_put hnx)
      · intro _
        have := m6 hrw
        unfold unfrozen at this ⊢
        rw [hsz]
        exact this

theorem sound_append {alt ts tx : Nat} {ty : TypeId} {s x : D} {vs vx : Value} {e : Eff} (hnx : ρ nx = none) (he : appendE Γ nx mg alt ts tx s x = some e) (ho : e.ob) (hs : Rep ρ s vs) (hx : Rep ρ x vx) :
    Sound P (Builtin.append_ #[ts, tx] ty #[vs, vx]) id X ρ m w nx e := by
  unfold appendE at he
  split at he
  rotate_left
  · split at he <;> try contradiction
    rename_i hi64
    have hut : P.underlying tx = some (.int .i64) := by
      unfold isI64 at hi64
      split at hi64 <;> try contradiction
      rename_i i hi
      have hdd := (hΓ tx i hi).desc
      unfold DescOk at hdd
      split at hi64 <;> try contradiction
      rename_i hd
      rw [hd] at hdd
      exact hdd.1
    split at he <;> try contradiction
    · split at he <;> try contradiction
      rename_i k
      split at he <;> try contradiction
      rename_i _ el j hj
      obtain ⟨g1, hj, hnz⟩ := elemOfT_spec hΓ hI hj
      obtain ⟨o1, o2, o3, o4⟩ := newE_ob hΓ hI he ho
      have hs : vs = .slice none 0 0 := hs
      obtain ⟨rfl, _⟩ := hx
      subst hs
      unfold newE at he
      split at he <;> try contradiction
      rename_i hlt
      cases he
      obtain ⟨r, w', ρ', r1, r2, r3, r4, r5⟩ := append_made hΓ hI hm (ty := ty) g1 hj hut o1 hnz o2 o3 o4 hnx (by simp [Nat.blt] at hlt; omega)
      exact ⟨r, w', ρ', r1, r2, fun i hi => by rcases r3 i hi with h | h; exact .inl h; exact .inr ⟨by omega, by simp; omega⟩, r4, r5⟩
    · rename_i b off len cap
      split at he <;> try contradiction
      rename_i k
      split at he <;> try contradiction
      rename_i _ el j hj
      obtain ⟨g1, hj, hnz⟩ := elemOfT_spec hΓ hI hj
      split at he <;> try contradiction
      rename_i ob1 sd hsd
      split at he <;> try contradiction
      rename_i y hy
      split at he <;> try contradiction
      rename_i en hg
      split at he <;> try contradiction
      rename_i hrw
      split at he <;> try contradiction
      rename_i T0 hrow
      split at he <;> try contradiction
      rename_i hlt
      cases he
      obtain ⟨o1, ⟨o3, o4, o5, o6⟩, o7⟩ := ho
      have hlt : nx < 1000000 := by simp [Nat.blt] at hlt; omega
      have hok := hΓ el j hj
      have hf := hok.flat
      obtain ⟨rfl, _⟩ := hx
      obtain ⟨n, rfl⟩ : ∃ n : Nat, k = n := ⟨k.toNat, by omega⟩
      simp only [Int.toNat_natCast] at hy o4 o5 o7 ⊢
      obtain ⟨r, w', ρ', r1, r2, r3, r4, r5⟩ := append_onto hΓ hI hm (ts := ts) (tx := tx) (ty := ty) (k := n) (vx := .int .i64 (n : Int)) (xd := zerosD j.zero n) hnx hlt hsd o1 hg hrw hrow hf hj hy o7 hs
        (fun a c hv hc => by
          have hId := hI.drew
          obtain ⟨a1, os, a2, a3, a4⟩ := run_elems hΓ hId hm hj hsd o1 hs
          subst hv
          exact append_zgrows hΓ hI hm ((b, none) :: m) (hI.drop b) g1 hj hut hc hnz a2 o4 o5 o6 hnx hlt a4 o7 (fun zs hz => by rw [catD_flat hy]; exact a3.append hz))
        (fun a c hv hc => by
          obtain ⟨zs, z1, z2, z3⟩ := append_zroom hΓ hI hm (ty := ty) (a := a) g1 hj hut hc hnz (Nat.le_trans (Nat.mul_le_mul_right _ (Nat.le_add_left n len)) o4) o5
          exact ⟨zs, z1, z2 ρ, z3⟩)
      exact ⟨r, w', ρ', r1, r2, fun i hi => by rcases r3 i hi with h | h; exact .inl h; exact .inr ⟨by omega, by simp; omega⟩, r4, r5⟩
  rename_i hnot
  split at he <;> try contradiction
  rename_i _ el j hj
  obtain ⟨g1, hj, hnz⟩ := elemOfT_spec hΓ hI hj
  split at he <;> try contradiction
  rename_i n hn
  split at he <;> try contradiction
  rename_i k hk
  split at he <;> try contradiction
  rename_i ob1 sd hsd
  split at he <;> try contradiction
  rename_i ob2 xd hxd
  obtain ⟨hlx, hk63⟩ := lenOf_spec (P := P) hΓ hI hm hk hx w
  have hf := (hΓ el j hj).flat
  have grow : ∀ (m' : Mem) (_ : Inv X ρ m' w) (c : Nat) (base : Option Addr) (y : D), catD sd xd = some y → vs = .slice base n c → c < n + k → ob1 → ob2 → (n + k) * j.bytes ≤ 140737488355328 → n + k < 9223372036854775808 → 0 < j.bytes → nx < 1000000 →
      ∃ r w' ρ', (Builtin.append_ #[ts, tx] ty #[vs, vx]).run P w = .ok r w' ∧ ρ.le ρ' ∧ (∀ i, ρ' i ≠ none → ρ i ≠ none ∨ i = nx) ∧ Rep ρ' (.slice nx [] 0 (n + k) none) r ∧
        Inv X ρ' ((nx, some ⟨.row j.ty, y, true⟩) :: m') w' := by
    intro m' hI' c base y hy hvs hc h1 h2 h3 h4 h5 h6
    have hId := hI.drew
    obtain ⟨a1, os, a2, a3, a4⟩ := run_elems hΓ hId hm hj hsd h1 hs
    obtain ⟨b1, xs, b2, b3, b4⟩ := run_elems hΓ hId hm hj hxd h2 hx
    subst hvs
    refine append_grows hΓ hI hm m' hI' g1 hj hnot hlx hc a2 b2 h3 h4 h5 hnx h6 (by rw [List.length_append, a4, b4, Nat.add_mul]) (hasTy_cat hy a1 b1) ?_
    rw [catD_flat hy]
    exact a3.append b3
  split at he
  · -- nothing comes
    split at he <;> try contradiction
    · rename_i b p off len cap
      cases he
      obtain ⟨⟨o1, o2⟩, o3⟩ := ho
      subst o3
      obtain ⟨b1, xs, b2, b3, b4⟩ := run_elems hΓ hI hm hj hxd o2 hx
      have hxs : xs = [] := List.length_eq_zero_iff.1 (by rw [b4]; simp)
      subst hxs
      have hs' := hs
      obtain ⟨L, h2, T1, t1, a, c, k1, k2, rfl, k3, k4, k5, k6⟩ := hs'
      exact Sound.pure hI (append_room hΓ hI hm (n := len) (k := 0) g1 hj hnot hlx (by omega) b2 rfl) hs
    · cases he
      obtain ⟨⟨o1, o2⟩, o3⟩ := ho
      subst o3
      obtain ⟨b1, xs, b2, b3, b4⟩ := run_elems hΓ hI hm hj hxd o2 hx
      have hs' : vs = .slice none 0 0 := hs
      subst hs'
      exact Sound.pure hI (append_nil0 hΓ hI hm g1 hj hnot hlx b2) rfl
  · -- a new row
    split at he <;> try contradiction
    rename_i y hy
    split at he <;> try contradiction
    · rename_i b p off len c
      have ho' := newE_ob hΓ hI he ho
      obtain ⟨⟨o1, o2⟩, ⟨o3, o4, o5, o6⟩, o7⟩ := ho'
      unfold newE at he
      split at he <;> try contradiction
      rename_i hlt
      cases he
      simp only [cntOf, Option.some.injEq] at hn
      subst hn
      have hs' := hs
      obtain ⟨L, h2, T1, t1, a, c', k1, k2, hv, k3, k4, k5, k6⟩ := hs'
      have := k5 c rfl
      subst this
      obtain ⟨r, w', ρ', r1, r2, r3, r4, r5⟩ := grow m hI c' (some a) y hy hv o3 o1 o2 o4 o5 o6 (by simp [Nat.blt] at hlt; omega)
      exact ⟨r, w', ρ', r1, r2, fun i hi => by rcases r3 i hi with h | h; exact .inl h; exact .inr ⟨by omega, by simp; omega⟩, r4, r5⟩
    · have ho' := newE_ob hΓ hI he ho
      obtain ⟨⟨o1, o2⟩, ⟨o3, o4, o5, o6⟩, o7⟩ := ho'
      unfold newE at he
      split at he <;> try contradiction
      rename_i hlt
      cases he
      simp only [cntOf, Option.some.injEq] at hn
      subst hn
      have hv : vs = .slice none 0 0 := hs
      obtain ⟨r, w', ρ', r1, r2, r3, r4, r5⟩ := grow m hI 0 none y hy hv (by omega) o1 o2 o4 o5 o6 (by simp [Nat.blt] at hlt; omega)
      exact ⟨r, w', ρ', r1, r2, fun i hi => by rcases r3 i hi with h | h; exact .inl h; exact .inr ⟨by omega, by simp; omega⟩, r4, r5⟩
  · -- the row is given up: it goes on where it is, or anew
    split at he <;> try contradiction
    rename_i y hy
    split at he <;> try contradiction
    rename_i b off len cap
    split at he <;> try contradiction
    rename_i en hg
    split at he <;> try contradiction
    rename_i hrw
    split at he <;> try contradiction
    rename_i T0 hrow
    split at he <;> try contradiction
    rename_i hlt
    cases he
    simp only [cntOf, Option.some.injEq] at hn
    subst hn
    obtain ⟨⟨o1, o2⟩, ⟨o4, o5, o6⟩, o7⟩ := ho
    have hlt : nx < 1000000 := by simp [Nat.blt] at hlt; omega
    obtain ⟨r, w', ρ', r1, r2, r3, r4, r5⟩ := append_onto hΓ hI hm (ts := ts) (tx := tx) (ty := ty) (k := k) (vx := vx) (xd := xd) hnx hlt hsd o1 hg hrw hrow hf hj hy o7 hs
      (fun a c hv hc => grow ((b, none) :: m) (hI.drop b) c (some a) y hy hv hc o1 o2 o4 o5 o6 hlt)
      (fun a c hv hc => by
        obtain ⟨b1, xs, b2, b3, b4⟩ := run_elems hΓ hI hm hj hxd o2 hx
        exact ⟨xs, b4, b3, fun w' hst => append_room hΓ hI hm g1 hj hnot hlx hc b2 hst⟩)
    exact ⟨r, w', ρ', r1, r2, fun i hi => by rcases r3 i hi with h | h; exact .inl h; exact .inr ⟨by omega, by simp; omega⟩, r4, r5⟩

theorem sound_conv {src dst : Nat} {x : D} {v : Value} {e : Eff} (hnx : ρ nx = none) (he : convE Γ nx mg src dst x = some e) (ho : e.ob) (hx : Rep ρ x v) : Sound P (convert src dst v) id X ρ m w nx e := by
  unfold convE at he
  split at he <;> try contradiction
  rename_i i hi
  split at he <;> try contradiction
  rename_i k hk
  have hdi := (hΓ src i hi).desc
  have hdk := (hΓ dst k hk).desc
  unfold DescOk at hdi hdk
  split at he <;> try contradiction
  · rename_i k1 k2 h1 h2
    rw [h1] at hdi
    rw [h2] at hdk
    split at he <;> try contradiction
    rename_i y hy
    cases he
    obtain ⟨jj, n, r, rfl, hr, hrep⟩ := sound_convI (P := P) (w := w) hy hx
    refine Sound.pure hI (r := r) ?_ hrep
    simp [convert, underlying, hdi.1, hdk.1, hr]
  · rename_i h1 h2
    rw [h1] at hdi
    rw [h2] at hdk
    split at he <;> try contradiction
    rename_i l
    cases he
    have hx' := hx
    obtain ⟨s, rfl, hs, hlen⟩ := hx'
    refine Sound.pure hI (r := .string s) ?_ hx
    simp [convert, underlying, hdi.1, hdk.1]
  · rename_i el0 el h1 h2
    rw [h1] at hdi
    rw [h2] at hdk
    split at he <;> try contradiction
    rename_i hbeq
    split at he <;> try contradiction
    rename_i j hj
    split at he <;> try contradiction
    rename_i hjd
    split at he <;> try contradiction
    rename_i b p off len cap
    split at he <;> try contradiction
    rename_i en hg
    split at he <;> try contradiction
    rename_i hrw
    cases he
    have hdj := (hΓ el j hj).desc
    unfold DescOk at hdj
    rw [hjd] at hdj
    obtain rfl := Nat.eq_of_beq_eq_true hbeq
    have ho : 0 < len := ho
    have hx' := hx
    obtain ⟨L, h2', T1, t1, a, c, k1, k2, rfl, k3, k4, k5, k6⟩ := hx'
    obtain ⟨k7, _⟩ := k6 (by omega)
    obtain ⟨L', h3, h4⟩ := hI.sat b en (hm _ _ hg)
    rw [h2'] at h3; cases h3
    obtain ⟨C, t, fr, pre, front, tail, m1, m2, m3, m4, m5, m6⟩ := h4.mem
    refine ⟨_, _, ρ, ?_, Env.le_refl ρ, fun _ h => .inl h, hx, hI.frz (hm _ _ hg) hrw h2' m1⟩
    have hsh : w.shape? L.blk = some (t, C.size) := by simp [World.shape?, m1]
    simp [convert, run_underlying hdk.1, run_underlying hdj.1, markStringish, k7, hsh]
  · rename_i el h1 h2
    rw [h1] at hdi
    rw [h2] at hdk
    split at he <;> try contradiction
    rename_i j hj
    split at he <;> try contradiction
    rename_i hjd
    split at he <;> try contradiction
    rename_i l
    have hdj := (hΓ el j hj).desc
    unfold DescOk at hdj
    rw [hjd] at hdj
    obtain ⟨s, rfl, hs, hlen⟩ := hx
    have hsz : s.size = l.length := by
      have := congrArg List.length hs
      rw [bytesV, List.length_map, Array.length_toList] at this
      exact this
    let cap := (Question.appendCap s.size 0 el).cut (w.tape w.drawn (.appendCap s.size 0 el))
    have hcap : s.size ≤ cap ∧ cap < 9223372036854775808 := by
      show s.size ≤ s.size + w.tape w.drawn (.appendCap s.size 0 el) % (2 ^ 63 - s.size) ∧ s.size + w.tape w.drawn (.appendCap s.size 0 el) % (2 ^ 63 - s.size) < 9223372036854775808
      have : w.tape w.drawn (.appendCap s.size 0 el) % (2 ^ 63 - s.size) < 2 ^ 63 - s.size := Nat.mod_lt _ (by omega)
      omega
    let C : Array Value := (s.data.map fun b => .int .u8 b.toNat) ++ Array.replicate (cap - s.size) (.int .u8 0)
    have hCs : C.size = cap := by
      show ((s.data.map fun b : UInt8 => (Value.int .u8 b.toNat)) ++ Array.replicate (cap - s.size) (Value.int .u8 0)).size = cap
      have : s.data.size = s.size := rfl
      rw [Array.size_append, Array.size_map, Array.size_replicate]
      omega
    refine sound_new hΓ hI (C := C) (t := el) (front := l.map fun b => .int .u8 b.toNat) (tail := List.replicate (cap - s.size) (.int .u8 0)) (r := .slice (some ⟨w.drew.heap.size, 0, none⟩) s.size cap) (fr := (C.size, C.size + 1)) hnx he trivial trivial ?_ ?_ hI.drew (.inr (Nat.le_refl _)) ?_ ?_
    · show All2 (RepS ρ) (l.map D.u8) (l.map fun b => (.int .u8 b.toNat : Value))
      rw [All2.map_left, All2.map_right]
      exact All2.refl_of (R := fun a b => RepS ρ (D.u8 a) (Value.int IntKind.u8 (BitVec.toNat b))) (fun a => rfl) _
    · show (_ : Array Value).toList = _
      rw [Array.toList_append, Array.toList_map, hs, Array.toList_replicate]
      unfold bytesV
      rw [List.map_map]
      rfl
    · have hfz := freeze_last w.drew C el
      have hshape : (w.drew.alloc (.cells C el)).shape? w.drew.heap.size = some (el, C.size) := by
        unfold World.shape?
        rw [push_new]
      have hconv : (convert src dst (.string s)).run P w = (Conv.stringToBytes el s).run P w := by
        simp [convert, underlying, hdi.1, hdk.1, hdj.1]
      rw [hconv]
      simp only [Conv.stringToBytes, Sem.run_bind, run_choose, Question.forced, Bool.false_eq_true, if_false, Result.andThen_ok, World.drew_eq, newRow, run_newObj, World.alloc_eq, Sem.run_pure, markStringish, run_shape]
      have : (w.drew.alloc (.cells C el)).shape? w.drew.heap.size = some (el, C.size) := hshape
      rw [show (w.drew.alloc (Obj.cells (Array.map (fun b => Value.int IntKind.u8 b.toNat) s.data ++ Array.replicate (Question.cut (Question.appendCap s.size 0 el) (w.tape w.drawn (Question.appendCap s.size 0 el)) - s.size) (Value.int IntKind.u8 0)) el)) = w.drew.alloc (.cells C el) from rfl]
      rw [this]
      simp only [run_freeze, Result.andThen_ok]
      rw [hfz]
    · intro ρ' _ h'
      refine ⟨_, h', _, _, ⟨w.drew.heap.size, 0, none⟩, cap, rfl, rfl, by rw [hsz]; rfl, by omega, hcap.2, (fun k hk => by cases hk), fun hc => ⟨by simp [offAt], by simp [offAt, Ty.size]; omega⟩⟩
  · rename_i el h1 h2
    rw [h1] at hdi
    rw [h2] at hdk
    split at he <;> try contradiction
    rename_i j hj
    split at he <;> try contradiction
    rename_i hjd
    split at he <;> try contradiction
    rename_i n hn
    split at he <;> try contradiction
    rename_i ob l hel
    have hdj := (hΓ el j hj).desc
    unfold DescOk at hdj
    rw [hjd] at hdj
    have key : x ≠ .str [] → (∀ q, x ≠ .str q) → e = ⟨ob ∧ l.length = n, .str l, [], 0⟩ → Sound P (convert src dst v) id X ρ m w nx e := by
      intro _ hns hee
      subst hee
      obtain ⟨o1, o2⟩ := ho
      obtain ⟨a1, cs, a2, a3, a4⟩ := run_elems hΓ hI hm hj hel o1 hx
      have hcell : j.ty = .cell := hdj.2
      rw [hcell] at a2 a4
      simp only [D.flat] at a3
      rw [All2.map_left] at a3
      have hcs : cs = l.map fun b => (.int .u8 b.toNat : Value) := (All2.eq (fun b : BitVec 8 => (Value.int .u8 b.toNat))).1 a3
      obtain ⟨hlen, hk63⟩ := lenOf_spec (P := P) hΓ hI hm hn hx w
      have hst : ∀ (l : List Byte) (s : ByteArray), ((l.map fun b => ((b.toNat : Nat) : Int)).foldl (fun r n => r.push (UInt8.ofNat n.toNat)) s).data.toList = s.data.toList ++ bytesV l := by
        intro l
        induction l with
        | nil => intro s; simp [bytesV]
        | cons b l ih =>
          intro s
          rw [List.map_cons, List.foldl_cons, ih]
          have : UInt8.ofNat (((b.toNat : Nat) : Int)).toNat = UInt8.ofBitVec b := by
            rw [Int.toNat_natCast]
            apply UInt8.toNat_inj.1
            have := b.isLt
            simp
          rw [this]
          simp [bytesV, ByteArray.push]
      have hcs2 : cs = (l.map fun b => ((b.toNat : Nat) : Int)).map (Value.int .u8) := by rw [hcs, List.map_map]; rfl
      have hrv : (convert src dst v).run P w = (Conv.bytesToString v).run P w ∧ (∃ s : ByteArray, (Conv.bytesToString v).run P w = .ok (.string s) w ∧ s.data.toList = bytesV l) := by
        cases x <;> simp only [cntOf, Option.some.injEq] at hn <;> try contradiction
        · have hx : v = .slice none 0 0 := hx
          subst hx hn
          refine ⟨run_convert_bytes_string w src dst el none 0 0 hdi.1 hdj.1 hdk.1, ⟨.empty, rfl, ?_⟩⟩
          have : l = [] := List.length_eq_zero_iff.1 o2
          subst this
          rfl
        · obtain ⟨L, h2, T1, t1, a, c, k1, k2, rfl, k3, k4, k5, k6⟩ := hx
          subst hn
          refine ⟨run_convert_bytes_string w src dst el (some a) _ c hdi.1 hdj.1 hdk.1, ⟨_, run_bytesToString w a _ c (l.map fun b => ((b.toNat : Nat) : Int)) ?_, ?_⟩⟩
          · rw [← hcs2]
            simpa [Builtin.firstCells, Ty.size] using a2
          · rw [hst]; rfl
      obtain ⟨hc1, s, hc2, hc3⟩ := hrv
      exact Sound.pure hI (r := .string s) (by rw [hc1, hc2]) ⟨s, rfl, hc3, by omega⟩
    split at he <;> try contradiction
    rename_i hns
    cases he
    exact key (hns []) hns rfl
end
end Go.Proofs.YtodkhgofmgaafaaDoor.Av

namespace Go.Proofs.YtodkhgofmgaafaaDoor.Av
open Go
set_option linter.all false
set_option maxRecDepth 3000

abbrev TM := List (Nat × D)

def lk : TM → Nat → Option D
  | [], _ => none
  | (i, d) :: r, t => match Nat.beq i t with
    | true => some d
    | false => lk r t

theorem lk_cons {i t : Nat} {d : D} {r : TM} : lk ((i, d) :: r) t = if i = t then some d else lk r t := by
  simp only [lk]
  by_cases h : i = t
  · subst h; simp
  · have : Nat.beq i t = false := by
      cases hb : Nat.beq i t with
      | false => rfl
      | true => exact absurd (Nat.eq_of_beq_eq_true hb) h
    simp [h, this]

def toByte (b : UInt8) : Byte := b.toBitVec

/-- the constants of a program's text -/
def ofConst : Value → Option D
  | .bool b => some (.bool b)
  | .int .u8 n => match decide (0 ≤ n ∧ n < 256) with
    | true => some (.u8 (BitVec.ofNat 8 n.toNat))
    | false => none
  | .int .u16 n => match decide (0 ≤ n ∧ n < 65536) with
    | true => some (.u16 (BitVec.ofNat 16 n.toNat))
    | false => none
  | .int .u32 n => match decide (0 ≤ n ∧ n < 4294967296) with
    | true => some (.u32 (BitVec.ofNat 32 n.toNat))
    | false => none
  | .int .u64 n => match decide (0 ≤ n ∧ n < 18446744073709551616) with
    | true => some (.u64 (BitVec.ofNat 64 n.toNat))
    | false => none
  | .int .i64 n => match decide (-9223372036854775808 ≤ n ∧ n < 9223372036854775808) with
    | true => some (.i64 n)
    | false => none
  | .string s => match decide (s.data.toList.length < 9223372036854775808) with
    | true => some (.str (s.data.toList.map toByte))
    | false => none
  | .pointer none => some .nilptr
  | .slice none 0 0 => some .nilslice
  | .nilFunc => some .nilfn
  | _ => none

theorem ofConst_spec {v : Value} {d : D} (h : ofConst v = some d) (ρ : Env) : Rep ρ d v := by
  unfold ofConst at h
  split at h
  all_goals try contradiction
  case h_1 => cases h; rfl
  case h_2 n =>
    split at h <;> try contradiction
    rename_i hn; have hn := of_decide_eq_true hn
    cases h
    show Value.int _ _ = .int _ _
    congr 1
    simp; omega
  case h_3 n =>
    split at h <;> try contradiction
    rename_i hn; have hn := of_decide_eq_true hn
    cases h
    show Value.int _ _ = .int _ _
    congr 1
    simp; omega
  case h_4 n =>
    split at h <;> try contradiction
    rename_i hn; have hn := of_decide_eq_true hn
    cases h
    show Value.int _ _ = .int _ _
    congr 1
    simp; omega
  case h_5 n =>
    split at h <;> try contradiction
    rename_i hn; have hn := of_decide_eq_true hn
    cases h
    show Value.int _ _ = .int _ _
    congr 1
    simp; omega
  case h_6 n =>
    split at h <;> try contradiction
    rename_i hn; have hn := of_decide_eq_true hn
    cases h
    exact ⟨rfl, hn⟩
  case h_7 s =>
    split at h <;> try contradiction
    rename_i hn; have hn := of_decide_eq_true hn
    cases h
    refine ⟨s, rfl, ?_, by simpa using hn⟩
    unfold bytesV toByte
    rw [List.map_map]
    exact (List.map_id _).symm.trans (List.map_congr_left fun b _ => by cases b; rfl)
  all_goals (cases h; rfl)

def opd (tm : TM) (mg : MG) (x : Operand) : Option D :=
  match x with
  | .tmp t => lk tm t
  | .const v => ofConst v
  | .func f => some (.fn f [] [])
  | .global g => match mg (gid g) with
    | some _ => some (.ptr (gid g) [])
    | none => none

def evalL (E : Operand → Option D) : List Operand → Option (List D)
  | [] => some []
  | x :: xs => match E x with
    | some d => match evalL E xs with
      | some ds => some (d :: ds)
      | none => none
    | none => none

def evalP (E : Operand → Option D) : List (Nat × Operand) → Option (List (Nat × D))
  | [] => some []
  | (k, x) :: xs => match E x with
    | some d => match evalP E xs with
      | some ds => some ((k, d) :: ds)
      | none => none
    | none => none

def evalO (E : Operand → Option D) : Option Operand → Option (Option D)
  | none => some none
  | some x => match E x with
    | some d => some (some d)
    | none => none

def ofPair (r : Option (Prop × D)) : Option Eff :=
  match r with
  | some (ob, v) => some ⟨ob, v, [], 0⟩
  | none => none

def builtinE (Γ : Tab) (nx : Nat) (mg : MG) (alt : Nat) (b : Builtin) (ats : List Nat) (args : List D) : Option Eff :=
  match b, ats, args with
  | .len, [t], [x] => lenE Γ t x
  | .copy, [td, _], [x, y] => copyE Γ mg td x y
  | .append, [ts, tx], [x, y] => appendE Γ nx mg alt ts tx x y
  | .max, _, [x, y] => minmaxE true x y
  | .min, _, [x, y] => minmaxE false x y
  | .cap, [t], [x] => capE Γ t x
  | _, _, _ => none

def opE (Γ : Tab) (nx : Nat) (mg : MG) (E : Operand → Option D) (alt : Nat) (op : Op) : Option Eff :=
  match op with
  | .move x => match E x with
    | some d => pureE True d
    | none => none
  | .assign x => match E x with
    | some d => pureE True d
    | none => none
  | .pick c a b => match pickD (E c) (E a) (E b) with
    | some d => pureE True d
    | none => none
  | .alloc t => allocE Γ nx t
  | .box t x => match E x with
    | some d => boxE Γ nx t d
    | none => none
  | .build t ps => match evalP E ps.toList with
    | some l => buildE Γ t l
    | none => none
  | .buildSlice t n ps => match evalP E ps.toList with
    | some l => buildSliceE Γ nx t n l
    | none => none
  | .load t a => match E a with
    | some d => loadE Γ mg t d
    | none => none
  | .store t a v => match E a with
    | some d => match E v with
      | some y => storeE Γ mg t d y
      | none => none
    | none => none
  | .nilCheck x => match E x with
    | some (.ptr b p) => pureE True (.ptr b p)
    | some (.fn f bs cs) => pureE True (.fn f bs cs)
    | _ => none
  | .binOp op t x y _ => match E x with
    | some a => match E y with
      | some b => ofPair (binD Γ t op a b)
      | none => none
    | none => none
  | .unOp op _ x => match E x with
    | some a => ofPair (unD op a)
    | none => none
  | .convert s d x => match E x with
    | some a => convE Γ nx mg s d a
    | none => none
  | .sliceToArrayPointer t x => match E x with
    | some a => toArrE Γ mg t a
    | none => none
  | .makeFunc fn first caps => match fn with
    | .func f => match evalL E first.toList with
      | some l0 => match allBasic l0 with
        | true => match evalL E caps.toList with
          | some l => match allBasic l with
            | true => pureE True (.fn f l0 l)
            | false => none
          | none => none
        | false => none
      | none => none
    | _ => none
  | .makeSlice t l c => match E l with
    | some a => match E c with
      | some b => makeSliceE Γ nx t a b
      | none => none
    | none => none
  | .slice t x lo hi mx => match E x with
    | some a => match evalO E lo with
      | some lo => match evalO E hi with
        | some hi => match evalO E mx with
          | some mx => sliceE Γ mg t a lo hi mx
          | none => none
        | none => none
      | none => none
    | none => none
  | .fieldAddr s x f => match E x with
    | some a => fieldAddrE Γ mg s a f
    | none => none
  | .field s x f => match E x with
    | some a => fieldE Γ s a f
    | none => none
  | .indexAddr t x i => match E x with
    | some a => match E i with
      | some b => indexAddrE Γ mg t a b
      | none => none
    | none => none
  | .index t x i => match E x with
    | some a => match E i with
      | some b => match strOk Γ t a with
        | true => indexE Γ t a b
        | false => none
      | none => none
    | none => none
  | .extract x i => match E x with
    | some (.tup l) => match nth l i with
      | some d => match d.isTup with
        | false => pureE True d
        | true => none
      | none => none
    | _ => none
  | .call c => match c.callee with
    | .builtin b => match evalL E c.args.toList with
      | some l => builtinE Γ nx mg alt b c.argTypes.toList l
      | none => none
    | _ => none
  | _ => none
where
  strOk (Γ : Tab) (t : Nat) (x : D) : Bool :=
    match x with
    | .str _ => match ti Γ t with
      | some i => match i.desc with
        | .str => true
        | _ => false
      | none => false
    | _ => true

/-- an operation's run, as the walk takes it -/
def OpSound (P : Program) (s : Sem Next) (X : Ctx) (ρ : Env) (m : Mem) (w : World) (nx : Nat) (e : Eff) : Prop :=
  ∃ v w' ρ', (s.run P w = .ok (.value v) w' ∨ (v = undef ∧ s.run P w = .ok .skip w')) ∧ ρ.le ρ' ∧ (∀ i, ρ' i ≠ none → ρ i ≠ none ∨ (nx ≤ i ∧ i < nx + e.nw)) ∧ Rep ρ' e.v v ∧ Inv X ρ' (e.up ++ m) w'

theorem OpSound.of {P : Program} {s : Sem Value} {X : Ctx} {ρ : Env} {m : Mem} {w : World} {nx : Nat} {e : Eff} (h : Sound P s id X ρ m w nx e) : OpSound P (do pure (.value (← s))) X ρ m w nx e := by
  obtain ⟨r, w', ρ', h1, h2, h3, h4, h5⟩ := h
  exact ⟨r, w', ρ', .inl (by rw [Sem.run_bind, h1]; rfl), h2, h3, h4, h5⟩

theorem OpSound.ofUnit {P : Program} {s : Sem Unit} {X : Ctx} {ρ : Env} {m : Mem} {w : World} {nx : Nat} {e : Eff} (h : Sound P s (fun _ => undef) X ρ m w nx e) : OpSound P (do s; pure .skip) X ρ m w nx e := by
  obtain ⟨r, w', ρ', h1, h2, h3, h4, h5⟩ := h
  exact ⟨undef, w', ρ', .inr ⟨rfl, by rw [Sem.run_bind, h1]; rfl⟩, h2, h3, h4, h5⟩

theorem OpSound.pure {P : Program} {s : Sem Next} {X : Ctx} {ρ : Env} {m : Mem} {w : World} {nx : Nat} {v : D} {r : Value} (hI : Inv X ρ m w) (hr : s.run P w = .ok (.value r) w) (hv : Rep ρ v r) :
    OpSound P s X ρ m w nx ⟨True, v, [], 0⟩ :=
  ⟨r, w, ρ, .inl hr, Env.le_refl ρ, fun _ h => .inl h, hv, hI⟩

section
set_option linter.unusedSectionVars false
variable {P : Program} {Γ : Tab} (hΓ : TabOk P Γ) {X : Ctx} {ρ : Env} {m : Mem} {w : World} (hI : Inv X ρ m w) {mg : MG} (hm : ∀ b e, mg b = some e → get m b = some e) {nx : Nat} (hnx : ρ nx = none)
  {E : Operand → Option D} {a : Act} (hE : ∀ x d, E x = some d → Rep ρ d (a.eval x))
include hE

omit hE in
theorem rep_list {E : Operand → Option D} (hE : ∀ x d, E x = some d → Rep ρ d (a.eval x)) : ∀ {xs : List Operand} {ds : List D}, evalL E xs = some ds → All2 (Rep ρ) ds (xs.map a.eval)
  | [], ds, h => by simp only [evalL, Option.some.injEq] at h; subst h; trivial
  | x :: xs, ds, h => by
    simp only [evalL] at h
    split at h <;> try contradiction
    rename_i d hd
    split at h <;> try contradiction
    rename_i l hl
    cases h
    exact ⟨hE x d hd, rep_list hE hl⟩

omit hE in
theorem rep_parts {E : Operand → Option D} (hE : ∀ x d, E x = some d → Rep ρ d (a.eval x)) : ∀ {xs : List (Nat × Operand)} {ds : List (Nat × D)}, evalP E xs = some ds →
    All2 (fun (p : Nat × D) (q : Nat × Value) => p.1 = q.1 ∧ Rep ρ p.2 q.2) ds (xs.map fun (i, x) => (i, a.eval x))
  | [], ds, h => by simp only [evalP, Option.some.injEq] at h; subst h; trivial
  | (k, x) :: xs, ds, h => by
    simp only [evalP] at h
    split at h <;> try contradiction
    rename_i d hd
    split at h <;> try contradiction
    rename_i l hl
    cases h
    exact ⟨⟨rfl, hE x d hd⟩, rep_parts hE hl⟩

omit hE in
theorem rep_opt {E : Operand → Option D} (hE : ∀ x d, E x = some d → Rep ρ d (a.eval x)) {x : Option Operand} {d : Option D} (h : evalO E x = some d) : RepO ρ d (x.map a.eval) := by
  cases x with
  | none => simp only [evalO, Option.some.injEq] at h; subst h; trivial
  | some x =>
    simp only [evalO] at h
    split at h <;> try contradiction
    rename_i d' hd
    cases h
    exact hE x d' hd

omit hE in
theorem allBasic_rep {ρ : Env} : ∀ {l : List D} {vs : List Value}, allBasic l = true → All2 (Rep ρ) l vs → All2 (RepB ρ) l vs
  | [], [], _, _ => trivial
  | d :: ds, v :: vs, h, H => by
    simp only [allBasic] at h
    split at h <;> try contradiction
    rename_i hb
    exact ⟨repV_basic hb H.1, allBasic_rep h H.2⟩
  | [], _ :: _, _, H => H.elim
  | _ :: _, [], _, H => H.elim

include hΓ hI hm hnx

set_option maxHeartbeats 2000000 in
theorem op_sound {alt : Nat} {o : Oper} {e : Eff} (he : opE Γ nx mg E alt o.op = some e) (ho : e.ob) : OpSound P (execOp a.eval o) X ρ m w nx e := by
  obtain ⟨dst, op, type, pos, after, guard⟩ := o
  dsimp only at he
  unfold opE at he
  split at he
  case h_1 x =>
    split at he <;> try contradiction
    rename_i d hd
    cases he
    exact OpSound.pure hI rfl (hE x d hd)
  case h_2 x =>
    split at he <;> try contradiction
    rename_i d hd
    cases he
    exact OpSound.pure hI rfl (hE x d hd)
  case h_3 c x y =>
    split at he <;> try contradiction
    rename_i d hd
    cases he
    unfold pickD at hd
    split at hd <;> try contradiction
    · rename_i hc
      have h1 : a.eval c = .bool true := hE c _ hc
      refine OpSound.pure hI (r := a.eval x) ?_ (hE x d hd)
      simp [execOp, h1, asBool]
    · rename_i hc
      have h1 : a.eval c = .bool false := hE c _ hc
      refine OpSound.pure hI (r := a.eval y) ?_ (hE y d hd)
      simp [execOp, h1, asBool]
  case h_4 t => exact OpSound.of (sound_alloc hΓ hI hnx he)
  case h_5 t x =>
    split at he <;> try contradiction
    rename_i d hd
    exact OpSound.of (sound_box hΓ hI hnx he ho (hE x d hd))
  case h_6 t ps =>
    split at he <;> try contradiction
    rename_i l hl
    have := sound_build hΓ hI (nx := nx) he ho (rep_parts hE hl)
    refine OpSound.of ?_
    have hh : (ps.map fun (i, x) => (i, a.eval x)) = (ps.toList.map fun (i, x) => (i, a.eval x)).toArray := Array.ext' (by rw [Array.toList_map])
    show Sound P (Instr.build t (ps.map fun (i, x) => (i, a.eval x))) id X ρ m w nx e
    rw [hh]; exact this
  case h_7 t n ps =>
    split at he <;> try contradiction
    rename_i l hl
    have := sound_buildSlice hΓ hI hnx he ho (rep_parts hE hl)
    refine OpSound.of ?_
    have hh : (ps.map fun (i, x) => (i, a.eval x)) = (ps.toList.map fun (i, x) => (i, a.eval x)).toArray := Array.ext' (by rw [Array.toList_map])
    show Sound P (Instr.buildSlice t n (ps.map fun (i, x) => (i, a.eval x))) id X ρ m w nx e
    rw [hh]; exact this
  case h_8 t x =>
    split at he <;> try contradiction
    rename_i d hd
    exact OpSound.of (sound_load hΓ hI hm he ho (hE x d hd))
  case h_9 t x y =>
    split at he <;> try contradiction
    rename_i d hd
    split at he <;> try contradiction
    rename_i y' hy
    exact OpSound.ofUnit (sound_store hΓ hI hm he ho (hE x d hd) (hE y y' hy))
  case h_10 x =>
    split at he <;> try contradiction
    · rename_i b p hd
      cases he
      obtain ⟨L, h1, h2⟩ := hE x _ hd
      refine OpSound.pure hI (r := a.eval x) ?_ ⟨L, h1, h2⟩
      simp [execOp, h2]
    · rename_i f bs cs hd
      cases he
      have h1 := hE x _ hd
      obtain ⟨us, vs, h2, h3⟩ := h1
      refine OpSound.pure hI (r := a.eval x) ?_ ⟨us, vs, h2, h3⟩
      simp [execOp, h2]
  case h_11 op t x y _ =>
    split at he <;> try contradiction
    rename_i dx hx
    split at he <;> try contradiction
    rename_i dy hy
    unfold ofPair at he
    split at he <;> try contradiction
    rename_i ob v hb
    cases he
    obtain ⟨r, h1, h2⟩ := sound_bin hΓ (w := w) (o1 := x) (o2 := y) hb ho (hE x dx hx) (hE y dy hy)
    exact OpSound.of (Sound.pure hI h1 h2)
  case h_12 op _ x =>
    split at he <;> try contradiction
    rename_i dx hx
    unfold ofPair at he
    split at he <;> try contradiction
    rename_i ob v hb
    cases he
    obtain ⟨r, h1, h2⟩ := sound_un (P := P) (w := w) hb ho (hE x dx hx)
    exact OpSound.of (Sound.pure hI h1 h2)
  case h_13 s d x =>
    split at he <;> try contradiction
    rename_i dx hx
    exact OpSound.of (sound_conv hΓ hI hm hnx he ho (hE x dx hx))
  case h_14 t x =>
    split at he <;> try contradiction
    rename_i dx hx
    exact OpSound.of (sound_toArr hΓ hI hm he ho (hE x dx hx))
  case h_15 fn first caps =>
    split at he <;> try contradiction
    rename_i f
    split at he <;> try contradiction
    rename_i l0 hl0
    split at he <;> try contradiction
    rename_i hb0
    split at he <;> try contradiction
    rename_i l hl
    split at he <;> try contradiction
    rename_i hb
    cases he
    refine OpSound.pure hI (r := .func (.func f) (first.map a.eval) (caps.map a.eval)) (by simp [execOp, Instr.makeFunc]) ?_
    refine ⟨(first.toList.map a.eval), (caps.toList.map a.eval), ?_, allBasic_rep hb0 (rep_list hE hl0), allBasic_rep hb (rep_list hE hl)⟩
    have hm : ∀ xs : Array Operand, xs.map a.eval = (xs.toList.map a.eval).toArray := fun xs => Array.ext' (by simp)
    rw [hm first, hm caps]
  case h_16 t l c =>
    split at he <;> try contradiction
    rename_i dx hx
    split at he <;> try contradiction
    rename_i dy hy
    exact OpSound.of (sound_makeSlice hΓ hI hnx he ho (hE l dx hx) (hE c dy hy))
  case h_17 t x lo hi mx =>
    split at he <;> try contradiction
    rename_i dx hx
    split at he <;> try contradiction
    rename_i dlo hlo
    split at he <;> try contradiction
    rename_i dhi hhi
    split at he <;> try contradiction
    rename_i dmx hmx
    exact OpSound.of (sound_slice hΓ hI hm he ho (hE x dx hx) (rep_opt hE hlo) (rep_opt hE hhi) (rep_opt hE hmx))
  case h_18 s x f =>
    split at he <;> try contradiction
    rename_i dx hx
    exact OpSound.of (sound_fieldAddr hΓ hI hm he (hE x dx hx))
  case h_19 s x f =>
    split at he <;> try contradiction
    rename_i dx hx
    exact OpSound.of (sound_field hΓ hI he ho (hE x dx hx))
  case h_20 t x i =>
    split at he <;> try contradiction
    rename_i dx hx
    split at he <;> try contradiction
    rename_i dy hy
    exact OpSound.of (sound_indexAddr hΓ hI hm he ho (hE x dx hx) (hE i dy hy))
  case h_21 t x i =>
    split at he <;> try contradiction
    rename_i dx hx
    split at he <;> try contradiction
    rename_i dy hy
    split at he <;> try contradiction
    rename_i hs
    refine OpSound.of (sound_index hΓ hI he ho (hE x dx hx) (hE i dy hy) ?_)
    intro l hl
    subst hl
    unfold opE.strOk at hs
    simp only at hs
    split at hs <;> try contradiction
    rename_i i' hi'
    split at hs <;> try contradiction
    rename_i hd
    have := (hΓ t i' hi').desc
    unfold DescOk at this
    rw [hd] at this
    exact this.1
  case h_22 x i =>
    split at he <;> try contradiction
    rename_i l hx
    split at he <;> try contradiction
    rename_i d hd
    split at he <;> try contradiction
    rename_i ht
    cases he
    obtain ⟨vs, h1, h2⟩ := hE x _ hx
    rw [nth_eq] at hd
    obtain ⟨v, h3, h4⟩ := h2.get i hd
    refine OpSound.of (Sound.pure hI (r := v) ?_ (by rw [rep_eq ht]; exact h4))
    rw [h1]
    simp [Instr.extract, h3]
  case h_23 c =>
    split at he <;> try contradiction
    rename_i b hb
    split at he <;> try contradiction
    rename_i l hl
    have hargs := rep_list hE hl
    have hexec : ∀ {s : Sem Value}, (∀ cs : Array Bool, builtin b c.argTypes type cs (c.args.map a.eval) = (do pure (.value (← s)))) → OpSound P (do pure (.value (← s))) X ρ m w nx e →
        OpSound P (execOp a.eval ⟨dst, .call c, type, pos, after, guard⟩) X ρ m w nx e := by
      intro s hs H
      have : (execOp a.eval ⟨dst, .call c, type, pos, after, guard⟩).run P w = (do pure (.value (← s)) : Sem Next).run P w := by
        simp only [execOp, resolve, hb, Sem.run_bind, Sem.run_pure, Result.andThen_ok, invoke]
        rw [hs]
        simp only [Sem.run_bind, Sem.run_pure]
      obtain ⟨v, w', ρ', h1, h2⟩ := H
      rw [← this] at h1
      exact ⟨v, w', ρ', h1, h2⟩
    have harr : ∀ {α : Type} {xs : Array α} {ys : List α}, xs.toList = ys → xs = ys.toArray := fun h => Array.ext' h
    generalize hat : c.argTypes.toList = ats at he
    have one : ∀ {x}, l = [x] → ∃ v, c.args.map a.eval = #[v] ∧ Rep ρ x v := by
      intro x hx
      rw [hx] at hargs
      cases hv : c.args.toList.map a.eval with
      | nil => rw [hv] at hargs; exact hargs.elim
      | cons v vs =>
        rw [hv] at hargs
        cases vs with
        | nil => exact ⟨v, harr (by rw [Array.toList_map]; exact hv), hargs.1⟩
        | cons _ _ => exact hargs.2.elim
    have two : ∀ {x y}, l = [x, y] → ∃ v u, c.args.map a.eval = #[v, u] ∧ Rep ρ x v ∧ Rep ρ y u := by
      intro x y hx
      rw [hx] at hargs
      cases hv : c.args.toList.map a.eval with
      | nil => rw [hv] at hargs; exact hargs.elim
      | cons v vs =>
        rw [hv] at hargs
        cases vs with
        | nil => exact hargs.2.elim
        | cons u us =>
          cases us with
          | nil => exact ⟨v, u, harr (by rw [Array.toList_map]; exact hv), hargs.1, hargs.2.1⟩
          | cons _ _ => exact hargs.2.2.elim
    unfold builtinE at he
    split at he <;> try contradiction
    case h_1 t x =>
      obtain ⟨v, hv, hr⟩ := one rfl
      refine hexec (s := Builtin.len_ #[t] type #[v]) (fun cs => by rw [hv, harr hat]; rfl) (OpSound.of (sound_len hΓ hI he hr))
    case h_2 td ts x y =>
      obtain ⟨v, u, hv, hr, hr2⟩ := two rfl
      refine hexec (s := Builtin.copy_ #[td, ts] type #[v, u]) (fun cs => by rw [hv, harr hat]; rfl) (OpSound.of (sound_copy hΓ hI hm he ho hr hr2))
    case h_3 ts tx x y =>
      obtain ⟨v, u, hv, hr, hr2⟩ := two rfl
      refine hexec (s := Builtin.append_ #[ts, tx] type #[v, u]) (fun cs => by rw [hv, harr hat]; rfl) (OpSound.of (sound_append hΓ hI hm hnx he ho hr hr2))
    case h_4 x y =>
      obtain ⟨v, u, hv, hr, hr2⟩ := two rfl
      exact hexec (s := Builtin.max_ c.argTypes type #[v, u]) (fun cs => by rw [hv]; rfl) (OpSound.of (sound_minmax (at_ := c.argTypes) (ty := type) (mx := true) hI he hr hr2))
    case h_5 x y =>
      obtain ⟨v, u, hv, hr, hr2⟩ := two rfl
      exact hexec (s := Builtin.min_ c.argTypes type #[v, u]) (fun cs => by rw [hv]; rfl) (OpSound.of (sound_minmax (at_ := c.argTypes) (ty := type) (mx := false) hI he hr hr2))
    case h_6 t x =>
      obtain ⟨v, hv, hr⟩ := one rfl
      refine hexec (s := Builtin.cap_ #[t] type #[v]) (fun cs => by rw [hv, harr hat]; rfl) (OpSound.of (sound_cap hΓ hI he hr))
  all_goals contradiction
end
end Go.Proofs.YtodkhgofmgaafaaDoor.Av
