import Derived.Test.YtllcgppffncafaaGreatDoorM1
import Derived.Laws.BytesString
import Derived.Laws.Append
import Derived.Orders
namespace Go.Proofs.YtllcgppffncafaaGreatDoor.Av
open Go
set_option linter.all false
set_option maxRecDepth 3000
def aA5 (Γ : Tab) (T : Ty) (x : D) (s : Step) (t : Nat) (ob : Prop) : Option Eff :=
 match ti Γ t with
 |some i => match aM T [s] with
  |some T' => match T'.beq i.ty with
   |true => match bZ x [s] with
    |some y => some ⟨(ob ∧ okP x [s]) ∧ aD T x, y, [], 0⟩
    |none => none
   |false => none
  |none => none
 |none => none
def zW (Γ : Tab) (s : Nat) (x : D) (f : Nat) : Option Eff :=
 match ti Γ s with
 |some i => match i.desc with
  |.st ts => match ts[f]? with
   |some t => aA5 Γ i.ty x (.fld f) t True
   |none => none
  |_ => none
 |none => none
def zO (Γ : Tab) (t : Nat) (x ix : D) : Option Eff :=
 match toInt? ix with
 |some n => match x with
  |.str l => some ⟨0 ≤ n ∧ n < l.length, .u8 (l.getD n.toNat 0), [], 0⟩
  |x => match ti Γ t with
   |some i => match i.desc with
    |.arr len e => aA5 Γ i.ty x (.idx n.toNat) e (0 ≤ n ∧ n < len)
    |_ => none
   |none => none
 |none => none
def iS (Γ : Tab) (mg : MG) (t : Nat) (x ix : D) : Option Eff :=
 match toInt? ix with
 |some n => match ti Γ t with
  |some i => match x with
   |.ptr b p => match mg b with
    |some e => match i.desc with
     |.arr len _ => match aM e.ty p with
      |some T => match T.beq i.ty with
       |true => cL (0 ≤ n ∧ n < len) (.ptr b (p ++ [.idx n.toNat]))
       |false => none
      |none => none
     |_ => none
    |none => none
   |.slice b p off len _ => match mg b with
    |some e => match i.desc with
     |.slice el => match ti Γ el with
      |some j => match aM e.ty p with
       |some T => match b7 T with
        |some t' => match t'.beq j.ty with
         |true => cL (0 ≤ n ∧ n < len) (.ptr b (p ++ [.idx (off + n.toNat)]))
         |false => none
        |none => none
       |none => none
      |none => none
     |_ => none
    |none => none
   |_ => none
  |none => none
 |none => none
def p9 (x : Option D) : Option (Option Int) :=
 match x with
 |none => some none
 |some d => match toInt? d with
  |some n => some (some n)
  |none => none
def uD (hi mx : Option Int) : Bool :=
 match mx with
 |none => false
 |some _ => match hi with
  |none => true
  |some _ => false
def yK (Γ : Tab) (mg : MG) (t : Nat) (x : D) (lo hi mx : Option D) : Option Eff :=
 match p9 lo with
 |some lo => match p9 hi with
  |some hi => match p9 mx with
   |some mx => match x with
    |.ptr b p => match mg b with
     |some e => match ti Γ t with
      |some i => match i.desc with
       |.arr n el => match ti Γ el with
        |some j => match aM e.ty p with
         |some T => match T.beq i.ty with
          |true => match b7 i.ty with
           |some t' => match t'.beq j.ty with
            |true => match bZ e.d p with
             |some _ => match uD hi mx with
              |false => cL ((0 ≤ lo.getD 0 ∧ lo.getD 0 ≤ hi.getD n ∧ hi.getD n ≤ mx.getD n ∧ mx.getD n ≤ n) ∧ n < 9223372036854775808 ∧ okP e.d p)
                (.slice b p (lo.getD 0).toNat ((hi.getD n).toNat - (lo.getD 0).toNat) (some ((mx.getD n).toNat - (lo.getD 0).toNat)))
              |true => none
             |none => none
            |false => none
           |none => none
          |false => none
         |none => none
        |none => none
       |_ => none
      |none => none
     |none => none
    |.slice b p off len cap => match mg b with
     |some e => match ti Γ t with
      |some i => match i.desc with
       |.slice el => match ti Γ el with
        |some j => match aM e.ty p with
         |some T => match b7 T with
          |some t' => match t'.beq j.ty with
           |true => match uD hi mx with
            |false => match mx with
             |some m => cL (0 ≤ lo.getD 0 ∧ lo.getD 0 ≤ hi.getD len ∧ hi.getD len ≤ m ∧ m ≤ len)
               (.slice b p (off + (lo.getD 0).toNat) ((hi.getD len).toNat - (lo.getD 0).toNat) (some (m.toNat - (lo.getD 0).toNat)))
             |none => cL (0 ≤ lo.getD 0 ∧ lo.getD 0 ≤ hi.getD len ∧ hi.getD len ≤ len)
               (.slice b p (off + (lo.getD 0).toNat) ((hi.getD len).toNat - (lo.getD 0).toNat) (cap.map (· - (lo.getD 0).toNat)))
            |true => none
           |false => none
          |none => none
         |none => none
        |none => none
       |_ => none
      |none => none
     |none => none
    |.nilslice => match ti Γ t with
     |some i => match i.desc with
      |.slice el => match ti Γ el with
       |some _ => match uD hi mx with
        |false => cL (lo.getD 0 = 0 ∧ hi.getD 0 = 0 ∧ mx.getD 0 = 0) .nilslice
        |true => none
       |none => none
      |_ => none
     |none => none
    |.str l => match mx with
     |none => match ti Γ t with
      |some i => match i.desc with
       |.str =>
        cL (0 ≤ lo.getD 0 ∧ lo.getD 0 ≤ hi.getD l.length ∧ hi.getD l.length ≤ l.length) (.str ((l.drop (lo.getD 0).toNat).take ((hi.getD l.length).toNat - (lo.getD 0).toNat)))
       |_ => none
      |none => none
     |some _ => none
    |_ => none
   |none => none
  |none => none
 |none => none
def yG (Γ : Tab) (mg : MG) (t : Nat) (x : D) : Option Eff :=
 match x with
 |.slice b p off len _ => match mg b with
  |some e => match ti Γ t with
   |some i => match i.desc with
    |.arr n _ => match Nat.beq n 0 with
     |false => match aM e.ty p with
      |some T => match b7 T with
       |some t' => match (Ty.arr n t').beq i.ty with
        |true => cL (n ≤ len) (.ptr b (p ++ [.win off n]))
        |false => none
       |none => none
      |none => none
     |true => none
    |_ => none
   |none => none
  |none => none
 |_ => none
def D.basic : D → Bool
 |.undef | .fn _ _ _ | .u8s _ | .u32s _ | .u64s _ | .node _ | .tup _ => false
 |_ => true
def kM : List D → Bool
 |[] => true
 |d :: ds => match d.basic with
  |true => kM ds
  |false => false
def pickD (c a b : Option D) : Option D :=
 match c with
 |some (.bool true) => a
 |some (.bool false) => b
 |_ => none
theorem aA1 {ρ : Env} {d : D} {v : Value} (h : d.basic = true) (H : Rep ρ d v) : RepB ρ d v := by
 cases d <;> first | exact H | (simp [D.basic] at h)
section
set_option linter.unusedSectionVars false
variable {P : Program} {Γ : Tab} (hΓ : b8 P Γ) {X : Ctx} {ρ : Env} {m : Mem} {w : World} (hI : Inv X ρ m w) {mg : MG} (hm : ∀ b e, mg b = some e → get m b = some e) {nx : Nat}
include hΓ
theorem yQ {T T' : Ty} {x y : D} {v : Value} {s : Step} {t : Nat} {i : TI} (hi : ti Γ t = some i) (hg : T.flatTy) (hx : aD T x) (hT : aM T [s] = some T') (hb : T'.beq i.ty = true)
  (ho : okP x [s]) (hy : bZ x [s] = some y) (hv : Rep ρ x v) (w : World) : ∃ r, (part t v.cells (aE T [s])).run P w = .ok r w ∧ Rep ρ y r := by
 have := Ty.eq_of_beq _ _ hb; subst this
 have hgg : T.good := by cases T <;> first | exact hg | exact hg.elim
 obtain ⟨h1, pre, post, h2, h3⟩ := aV [s] T x y i.ty hgg hx hT ho hy
 have hc := j6 hx hv
 rw [h2] at hc
 obtain ⟨b12, b3, e1, ha, hb'⟩ := All2.split_left hc
 obtain ⟨b1, b2, e2, hc', hd⟩ := All2.split_left ha
 have hl : b1.length = aE T [s] := by rw [← hc'.length, h3]
 have hf := (hΓ t i hi).flat
 have hagg := uR h1 hf
 unfold part
 rw [Sem.run_bind, tP hΓ hi w, Result.andThen_ok]
 cases hca : y.isAgg with
 |false =>
  rw [hca] at hagg
  rw [← hagg]
  have hcell : y.isCell = true := by
   cases hT' : i.ty <;> rw [hT'] at hagg h1 <;> first | exact h1 | (simp [Ty.agg] at hagg)
  rw [D.flat_cell hcell] at hd
  cases b2 with
  |nil => exact hd.elim
  |cons z zs =>
   have hz : v.cells[aE T [s]]? = some z := by
    rw [← Array.getElem?_toList, e1, e2, ← hl]
    simp
   refine ⟨z, ?_, nN hcell hd.1⟩
   simp only [Bool.false_eq_true, if_false, hz]
   rfl
 |true =>
  rw [hca] at hagg
  rw [← hagg]
  have hlen : b2.length = i.ty.size := by rw [← hd.length, aG _ _ hf h1]
  refine ⟨.agg b2.toArray, ?_, ?_⟩
  ·simp only [if_true, Sem.run_bind, bO hΓ hi w, Result.andThen_ok, Sem.run_pure]
   congr 2
   apply Array.ext'
   rw [Array.toList_extract, e1, e2, ← hl, ← hlen]
   simp [List.extract]
  ·rw [eE (by cases y <;> simp_all [D.isAgg, D.isTup])]
   unfold RepV
   rw [hca]
   exact ⟨b2, rfl, hd⟩
include hI
theorem t6 {T : Ty} {x : D} {s : Step} {t : Nat} {ob : Prop} {e : Eff} (h : aA5 Γ T x s t ob = some e) :
  ∃ i T' y, ti Γ t = some i ∧ aM T [s] = some T' ∧ T'.beq i.ty = true ∧ bZ x [s] = some y ∧ e = ⟨(ob ∧ okP x [s]) ∧ aD T x, y, [], 0⟩ := by
 unfold aA5 at h
 repeat' split at h
 all_goals try contradiction
 cases h
 exact ⟨_, _, _, by assumption, by assumption, by assumption, by assumption, rfl⟩
theorem zM {T : Ty} {x : D} {s : Step} {T' : Ty} (h : aD T x) (hT : aM T [s] = some T') : x.isAgg = true := by
 cases T with
 |cell => exact absurd hT aN
 |arr n t => cases x <;> first | rfl | exact h.elim
 |st fs => cases x <;> first | rfl | exact h.elim
 |row t => cases x <;> first | rfl | exact h.elim
theorem vW {x : D} {v : Value} (h : x.isAgg = true) (hv : Rep ρ x v) : ∃ cs, v = .agg cs ∧ v.cells = cs := by
 rw [eE (by cases x <;> simp_all [D.isAgg, D.isTup])] at hv
 unfold RepV at hv
 rw [h] at hv
 obtain ⟨cs, rfl, _⟩ := hv
 exact ⟨_, rfl, rfl⟩
theorem wP {s : Nat} {x : D} {v : Value} {f : Nat} {e : Eff} (he : zW Γ s x f = some e) (ho : e.ob) (hx : Rep ρ x v) : Sound P (Instr.field s v f) id X ρ m w nx e := by
 unfold zW at he
 repeat' split at he
 all_goals try contradiction
 rename_i i hi _ ts hd _ t ht
 obtain ⟨j, T', y, h1, h2, h3, h4, rfl⟩ := t6 hΓ hI he
 obtain ⟨⟨_, ho⟩, hty⟩ := ho
 have hdd := (hΓ s i hi).desc
 unfold aX at hdd
 rw [hd] at hdd
 obtain ⟨fs, Ts, g1, g2, g3⟩ := hdd
 rw [g2] at h2 hty
 have hf : ∃ T, Ts[f]? = some T := by
  simp only [aM] at h2
  cases e : Ts[f]? with
  |none => simp [e] at h2
  |some T => exact ⟨T, rfl⟩
 obtain ⟨T, hf⟩ := hf
 obtain ⟨fd, k1, k2, k3, k4⟩ := iC g3 f hf
 have : fd.type = t := by rw [ht] at k4; cases k4; rfl
 subst this
 obtain ⟨r, h5, h6⟩ := yQ hΓ h1 (by rw [← g2]; exact (hΓ s i hi).flat) hty h2 h3 ho h4 hx w
 obtain ⟨cs, rfl, hcs⟩ := vW hΓ hI (zM hΓ hI hty h2) hx
 refine Sound.pure hI (r := r) ?_ h6
 have k1' : fs[f]? = some fd := by simpa using k1
 have hoff : aE (.st Ts) [.fld f] = fd.offset := by simp [aE, hf, k2]
 rw [hoff, hcs] at h5
 simp [Instr.field, underlying, g1, k1', asAgg, h5]
theorem wO {t : Nat} {x ix : D} {v iv : Value} {e : Eff} (he : zO Γ t x ix = some e) (ho : e.ob) (hx : Rep ρ x v) (hix : Rep ρ ix iv)
  (hstr : ∀ l, x = .str l → P.underlying t = some .string) : Sound P (Instr.index t v iv) id X ρ m w nx e := by
 unfold zO at he
 split at he <;> try contradiction
 rename_i n hn
 have hiv : ∃ k, iv = .int k n := by
  cases ix <;> simp only [toInt?, Option.some.injEq] at hn <;> try contradiction
  all_goals subst hn
  case i64 n => obtain ⟨rfl, _⟩ := hix; exact ⟨_, rfl⟩
  all_goals exact ⟨_, hix⟩
 obtain ⟨k, rfl⟩ := hiv
 split at he
 ·rename_i l
  cases he
  obtain ⟨s, rfl, hs, hlen⟩ := hx
  obtain ⟨h0, h1⟩ := ho
  have hu := hstr l rfl
  have hsz : s.size = l.length := by
   have := congrArg List.length hs
   rw [aZ, List.length_map, Array.length_toList] at this
   exact this
  have hlt : n.toNat < s.size := by omega
  refine Sound.pure hI (r := .int .u8 (l.getD n.toNat 0).toNat) ?_ rfl
  have hb : s[n.toNat]? = some ⟨l.getD n.toNat 0⟩ := by
   have h2 : s[n.toNat]? = s.data.toList[n.toNat]? := by
    rw [getElem?_pos s n.toNat hlt, Array.getElem?_toList, getElem?_pos s.data n.toNat hlt]
    rfl
   rw [h2, hs, aZ, List.getElem?_map]
   have : l[n.toNat]? = some (l.getD n.toNat 0) := by
    rw [List.getElem?_eq_getElem (by omega)]
    simp [List.getD, List.getElem?_eq_getElem (show n.toNat < l.length by omega)]
   rw [this]
   rfl
  simp only [Instr.index, asIntOf, underlying, Sem.run_bind, Sem.run_pure, Result.andThen_ok, run_program, hu, if_pos h0, hb]
  rfl
 ·repeat' split at he
  all_goals try contradiction
  rename_i i hi _ len el hd
  obtain ⟨j, T', y, h1, h2, h3, h4, rfl⟩ := t6 hΓ hI he
  obtain ⟨⟨⟨hn0, hn1⟩, ho⟩, hty⟩ := ho
  have hdd := (hΓ t i hi).desc
  unfold aX at hdd
  rw [hd] at hdd
  obtain ⟨g1, T, g2, g3⟩ := hdd
  rw [g2] at h2 hty
  obtain ⟨r, h5, h6⟩ := yQ hΓ h1 (by rw [← g2]; exact (hΓ t i hi).flat) hty h2 h3 ho h4 hx w
  obtain ⟨cs, rfl, hcs⟩ := vW hΓ hI (zM hΓ hI hty h2) hx
  refine Sound.pure hI (r := r) ?_ h6
  have hoff : aE (.arr len T) [.idx n.toNat] = n.toNat * T.size := by simp [aE]
  rw [hoff, hcs] at h5
  have hT' := Ty.eq_of_beq _ _ h3
  simp only [aM, Option.some.injEq] at h2
  subst h2
  have hsz := bO hΓ h1 w
  rw [← hT'] at hsz
  simp only [Instr.index, asIntOf, underlying, Sem.run_bind, Sem.run_pure, Result.andThen_ok, run_program, g1, if_pos (show 0 ≤ n ∧ n < (len : Int) from ⟨hn0, hn1⟩), hsz]
  exact h5
theorem int_of {ix : D} {iv : Value} {n : Int} (hn : toInt? ix = some n) (hix : Rep ρ ix iv) : ∃ k, iv = .int k n := by
 cases ix <;> simp only [toInt?, Option.some.injEq] at hn <;> try contradiction
 all_goals subst hn
 case i64 n => obtain ⟨rfl, _⟩ := hix; exact ⟨_, rfl⟩
 all_goals exact ⟨_, hix⟩
include hm
theorem nG {t : Nat} {x ix : D} {v iv : Value} {e : Eff} (he : iS Γ mg t x ix = some e) (ho : e.ob) (hx : Rep ρ x v) (hix : Rep ρ ix iv) : Sound P (Instr.indexAt t v iv) id X ρ m w nx e := by
 unfold iS at he
 split at he <;> try contradiction
 rename_i n hn
 obtain ⟨k, rfl⟩ := int_of hΓ hI hn hix
 split at he <;> try contradiction
 rename_i i hi
 have hdd := (hΓ t i hi).desc
 unfold aX at hdd
 split at he <;> try contradiction
 ·rename_i b p
  repeat' split at he
  all_goals try contradiction
  rename_i en hg _ len el hd _ T hT _ hb
  cases he
  rw [hd] at hdd
  obtain ⟨g1, T0, g2, g3⟩ := hdd
  obtain ⟨h0, h1⟩ := ho
  obtain ⟨L, h2, rfl⟩ := hx
  obtain ⟨L', h3, h4⟩ := hI.sat b en (hm _ _ hg)
  rw [h2] at h3; cases h3
  have := Ty.eq_of_beq _ _ hb; subst this
  rw [g2] at hT
  refine Sound.pure hI (r := .pointer (some ⟨L.blk, L.base + aE L.ty p + n.toNat * T0.size, none⟩)) ?_ ?_
  ·cases hinf : P.info? el with
   |none => simp [hinf] at g3
   |some inf =>
    simp only [hinf, Option.map_some, Option.some.injEq] at g3
    simp only [Instr.indexAt, asIntOf, underlying, Sem.run_bind, Sem.run_pure, Result.andThen_ok, run_program, g1, Instr.sureAddr]
    rw [Sem.run_ite, if_pos (show 0 ≤ n ∧ n < (len : Int) from ⟨h0, h1⟩)]
    simp [sizeOf, typeInfo, hinf, g3, dF]
  ·refine ⟨L, h2, ?_⟩
   rw [h4.ty, aU _ _ _ _ hT]
   simp [aE, Nat.add_assoc]
 ·rename_i b p off len cap
  repeat' split at he
  all_goals try contradiction
  rename_i en hg _ el hd _ j hj _ T hT _ t' ht' _ hb
  cases he
  rw [hd] at hdd
  obtain ⟨g1, g2⟩ := hdd
  obtain ⟨h0, h1⟩ := ho
  obtain ⟨L, h2, T1, t1, a, c, k1, k2, rfl, k3, k4, k5, k6⟩ := hx
  obtain ⟨L', h3, h4⟩ := hI.sat b en (hm _ _ hg)
  rw [h2] at h3; cases h3
  rw [h4.ty, hT] at k1; cases k1
  rw [ht'] at k2; cases k2
  obtain ⟨k7, k8⟩ := k6 (by omega)
  have := Ty.eq_of_beq _ _ hb; subst this
  refine Sound.pure hI (r := .pointer (some ⟨L.blk, L.base + aE L.ty p + (off + n.toNat) * j.ty.size, none⟩)) ?_ ?_
  ·simp only [Instr.indexAt, asIntOf, underlying, Sem.run_bind, Sem.run_pure, Result.andThen_ok, run_program, g1]
   rw [Sem.run_ite, if_pos (show 0 ≤ n ∧ n < (len : Int) from ⟨h0, h1⟩)]
   simp only [Sem.run_bind, bO hΓ hj w, Result.andThen_ok, Sem.run_pure, k7, dF]
   congr 4
   rw [Nat.add_mul]; omega
  ·refine ⟨L, h2, ?_⟩
   rw [h4.ty, aU _ _ _ _ hT]
   cases T <;> simp only [b7, Option.some.injEq] at ht' <;> try contradiction
   ·subst ht'; simp [aE, Nat.add_assoc]
   ·subst ht'; simp [aE, Nat.add_assoc]
theorem wL {t : Nat} {x : D} {v : Value} {e : Eff} (he : yG Γ mg t x = some e) (ho : e.ob) (hx : Rep ρ x v) : Sound P (Instr.arrayAt t v) id X ρ m w nx e := by
 unfold yG at he
 split at he <;> try contradiction
 rename_i b p off len cap
 repeat' split at he
 all_goals try contradiction
 rename_i en hg _ i hi _ n el hd _ hz _ T hT _ t' ht' _ hb
 cases he
 have hdd := (hΓ t i hi).desc
 unfold aX at hdd
 rw [hd] at hdd
 obtain ⟨g1, T0, g2, g3⟩ := hdd
 obtain ⟨L, h2, T1, t1, a, c, k1, k2, rfl, k3, k4, k5, k6⟩ := hx
 obtain ⟨L', h3, h4⟩ := hI.sat b en (hm _ _ hg)
 rw [h2] at h3; cases h3
 rw [h4.ty, hT] at k1; cases k1
 rw [ht'] at k2; cases k2
 have hn : n ≠ 0 := by intro h0; rw [h0] at hz; cases hz
 have ho : n ≤ len := ho
 obtain ⟨k7, k8⟩ := k6 (by omega)
 refine Sound.pure hI (r := .pointer (some a)) ?_ ?_
 ·simp only [Instr.arrayAt, underlying, Sem.run_bind, Sem.run_pure, Result.andThen_ok, run_program, g1]
  rw [Sem.run_ite, if_neg (by omega)]
  rfl
 ·refine ⟨L, h2, ?_⟩
  rw [k7, h4.ty, aU _ _ _ _ hT]
  cases T <;> simp only [b7, Option.some.injEq] at ht' <;> try contradiction
  ·subst ht'; simp [aE, Nat.add_assoc]
  ·subst ht'; simp [aE, Nat.add_assoc]
omit hΓ hI hm in
theorem pD {P : Program} {w : World} {k : IntKind} {n : Int} {y : Nat} {c : BoundsCode} (h0 : 0 ≤ n) (h1 : n ≤ y) : (Instr.sliceBound (.int k n) y c).run P w = .ok n.toNat w := by
 simp [Instr.sliceBound, asIntOf, h0, h1]
def RepO (ρ : Env) (x : Option D) (v : Option Value) : Prop :=
 match x, v with
 |none, none => True
 |some d, some v => Rep ρ d v
 |_, _ => False
def sJ (o : Option Int) (v : Option Value) : Prop :=
 match o, v with
 |none, none => True
 |some n, some v => ∃ k, v = .int k n
 |_, _ => False
omit hΓ hI hm in
theorem sE {x : Option D} {v : Option Value} {o : Option Int} (h : p9 x = some o) (hx : RepO ρ x v) : sJ o v := by
 cases x with
 |none =>
  cases v with
  |none => simp only [p9, Option.some.injEq] at h; subst h; trivial
  |some _ => exact hx.elim
 |some d =>
  cases v with
  |none => exact hx.elim
  |some v =>
   simp only [p9] at h
   cases hd : toInt? d with
   |none => simp [hd] at h
   |some n =>
    simp only [hd, Option.some.injEq] at h
    subst h
    cases d <;> simp only [toInt?, Option.some.injEq] at hd <;> try contradiction
    all_goals subst hd
    case i64 n => obtain ⟨rfl, _⟩ := hx; exact ⟨_, rfl⟩
    all_goals exact ⟨_, hx⟩
omit hΓ hI hm in
theorem fP {P : Program} {w : World} {sl : Bool} {len cap : Nat} {lo hi mx : Option Int} {vl vh vm : Option Value} (hl : sJ lo vl) (hh : sJ hi vh) (hx : sJ mx vm)
  (hmh : mx = none ∨ hi ≠ none) (h0 : 0 ≤ lo.getD 0) (h1 : lo.getD 0 ≤ hi.getD len) (h2 : hi.getD len ≤ mx.getD cap) (h3 : mx.getD cap ≤ cap) :
  (Instr.sliceBounds sl len cap vl vh vm).run P w = .ok ((lo.getD 0).toNat, (hi.getD len).toNat, (mx.getD cap).toNat) w := by
 have hb : ∀ {k : IntKind} {n : Int} {y : Nat} {c : BoundsCode}, 0 ≤ n → n ≤ y → (Instr.sliceBound (.int k n) y c).run P w = .ok n.toNat w := fun a b => pD a b
 have hb2 : ∀ {n : Int}, 0 ≤ n → ((n.toNat : Nat) : Int) = n := fun h => Int.toNat_of_nonneg h
 cases lo <;> cases vl <;> try exact hl.elim
 all_goals cases hi <;> cases vh <;> try exact hh.elim
 all_goals cases mx <;> cases vm <;> try exact hx.elim
 all_goals simp only [Option.getD_none, Option.getD_some] at h0 h1 h2 h3 ⊢
 all_goals try (obtain ⟨kl, rfl⟩ := hl)
 all_goals try (obtain ⟨kh, rfl⟩ := hh)
 all_goals try (obtain ⟨kx, rfl⟩ := hx)
 all_goals try (rcases hmh with h | h <;> (first | cases h | exact absurd rfl h); done)
 all_goals unfold Instr.sliceBounds
 all_goals simp only [Sem.run_bind, Sem.run_pure, Result.andThen_ok]
 all_goals repeat (first | rw [hb (by omega) (by omega)] | simp only [Result.andThen_ok])
 all_goals simp
omit hΓ hI hm in
theorem gB {hi mx : Option Int} (h : uD hi mx = false) : mx = none ∨ hi ≠ none := by
 cases mx <;> cases hi <;> simp_all [uD]
omit hΓ hI hm in
theorem SatE.fits {e : Ent} {L : Loc} (H : SatE ρ e L w) {p : cK} {T : Ty} {x : D} (ht : aM e.ty p = some T) (ho : okP e.d p) (hx : bZ e.d p = some x) (hf : T.flatTy) :
  L.base + aE L.ty p + T.size ≤ L.n := by
 obtain ⟨C, t, fr, pre, front, tail, h1, h2, h3, h4, h5, h6⟩ := H.mem
 obtain ⟨hT, pr, po, h7, h8⟩ := aV p e.ty e.d x T H.good H.has ht ho hx
 have h9 := h5.length
 rw [h7] at h9
 have h10 := aG _ _ hf hT
 have h11 := congrArg List.length h2
 simp only [List.length_append, Array.length_toList] at h9 h11
 rw [H.ty]
 omega
theorem wN {t : Nat} {x : D} {v : Value} {lo hi mx : Option D} {vl vh vm : Option Value} {e : Eff} (he : yK Γ mg t x lo hi mx = some e) (ho : e.ob) (hx : Rep ρ x v)
  (hl : RepO ρ lo vl) (hh : RepO ρ hi vh)
  (hmx : RepO ρ mx vm) : Sound P (Instr.sliceAt t v vl vh vm) id X ρ m w nx e := by
 unfold yK at he
 split at he <;> try contradiction
 rename_i lo' hlo
 split at he <;> try contradiction
 rename_i hi' hhi
 split at he <;> try contradiction
 rename_i mx' hmx'
 have bl := sE hlo hl
 have bh := sE hhi hh
 have bm := sE hmx' hmx
 split at he <;> try contradiction
 ·rename_i b p
  repeat' split at he
  all_goals try contradiction
  rename_i en hg _ i hi _ n el hd _ j hj _ T hT _ hb _ t' ht' _ hb2 _ x hgx _ hnh
  cases he
  have hdd := (hΓ t i hi).desc
  unfold aX at hdd
  rw [hd] at hdd
  obtain ⟨g1, T0, g2, g3⟩ := hdd
  obtain ⟨⟨o1, o2, o3, o4⟩, o5, o6⟩ := ho
  obtain ⟨L, h2, rfl⟩ := hx
  obtain ⟨L', h3, h4⟩ := hI.sat b en (hm _ _ hg)
  rw [h2] at h3; cases h3
  have := Ty.eq_of_beq _ _ hb; subst this
  have := Ty.eq_of_beq _ _ hb2; subst this
  have hfit := h4.fits hT o6 hgx (hΓ t i hi).flat
  rw [g2] at hT ht' hfit
  simp only [b7, Option.some.injEq] at ht'
  subst ht'
  refine Sound.pure hI (r := .slice (some (if (mx'.getD n).toNat = (lo'.getD 0).toNat then ⟨L.blk, L.base + aE L.ty p, none⟩ else ⟨L.blk, L.base + aE L.ty p + (lo'.getD 0).toNat * j.ty.size, none⟩))
   ((hi'.getD n).toNat - (lo'.getD 0).toNat) ((mx'.getD n).toNat - (lo'.getD 0).toNat)) ?_ ?_
  ·simp only [Instr.sliceAt, underlying, Sem.run_bind, Sem.run_pure, Result.andThen_ok, run_program, g1, Instr.sureAddr, fP bl bh bm (gB hnh) o1 o2 o3 o4, bO hΓ hj w, dF]
  ·refine ⟨L, h2, _, _, _, _, by rw [h4.ty]; exact hT, rfl, rfl, by omega, by omega, fun k hk => by cases hk; rfl, fun hc => ⟨?_, ?_⟩⟩
   ·rw [if_neg (by omega)]
   ·have : (lo'.getD 0).toNat + ((mx'.getD n).toNat - (lo'.getD 0).toNat) ≤ n := by omega
    have := Nat.mul_le_mul_right j.ty.size this
    simp only [Ty.size] at hfit
    omega
 ·rename_i b p off len cap
  split at he <;> try contradiction
  rename_i en hg
  split at he <;> try contradiction
  rename_i i hi
  split at he <;> try contradiction
  rename_i el hd
  split at he <;> try contradiction
  rename_i j hj
  split at he <;> try contradiction
  rename_i T hT
  split at he <;> try contradiction
  rename_i t' ht'
  split at he <;> try contradiction
  rename_i hb
  split at he <;> try contradiction
  rename_i hnh
  have hdd := (hΓ t i hi).desc
  unfold aX at hdd
  rw [hd] at hdd
  obtain ⟨g1, g2⟩ := hdd
  obtain ⟨L, h2, T1, t1, a, c, k1, k2, rfl, k3, k4, k5, k6⟩ := hx
  obtain ⟨L', h3, h4⟩ := hI.sat b en (hm _ _ hg)
  rw [h2] at h3; cases h3
  rw [h4.ty, hT] at k1; cases k1
  rw [ht'] at k2; cases k2
  have := Ty.eq_of_beq _ _ hb; subst this
  split at he
  ·rename_i mm
   cases he
   obtain ⟨o1, o2, o3, o4⟩ := ho
   refine Sound.pure hI (r := .slice (if mm.toNat = (lo'.getD 0).toNat then some a else some (a.add ((lo'.getD 0).toNat * j.ty.size))) ((hi'.getD len).toNat - (lo'.getD 0).toNat) (mm.toNat - (lo'.getD 0).toNat)) ?_ ?_
   ·simp only [Instr.sliceAt, Instr.slice, underlying, Sem.run_bind, Sem.run_pure, Result.andThen_ok, run_program, g1, fP (cap := c) bl bh bm (gB hnh) o1 o2 o3 (by show mm ≤ c; omega), bO hΓ hj w]
    rfl
   ·refine ⟨L, h2, _, _, if mm.toNat = (lo'.getD 0).toNat then a else (a.add ((lo'.getD 0).toNat * j.ty.size)), mm.toNat - (lo'.getD 0).toNat, by rw [h4.ty]; exact hT, ht', by split <;> rfl, by omega, by omega, fun k hk => by cases hk; rfl, fun hc => ?_⟩
    obtain ⟨k7, k8⟩ := k6 (by omega)
    rw [if_neg (by omega), k7, dF]
    have : off + (lo'.getD 0).toNat + (mm.toNat - (lo'.getD 0).toNat) ≤ off + c := by omega
    have := Nat.mul_le_mul_right j.ty.size this
    refine ⟨?_, by omega⟩
    rw [Nat.add_mul]
    simp [Nat.add_assoc]
  ·cases he
   obtain ⟨o1, o2, o3⟩ := ho
   refine Sound.pure hI (r := .slice (if c = (lo'.getD 0).toNat then some a else some (a.add ((lo'.getD 0).toNat * j.ty.size))) ((hi'.getD len).toNat - (lo'.getD 0).toNat) (c - (lo'.getD 0).toNat)) ?_ ?_
   ·simp only [Instr.sliceAt, Instr.slice, underlying, Sem.run_bind, Sem.run_pure, Result.andThen_ok, run_program, g1, fP (cap := c) bl bh bm (gB hnh) o1 o2 (by show _ ≤ (c : Int); omega) (by show (c : Int) ≤ c; omega), bO hΓ hj w]
    simp
   ·refine ⟨L, h2, _, _, if c = (lo'.getD 0).toNat then a else (a.add ((lo'.getD 0).toNat * j.ty.size)), c - (lo'.getD 0).toNat, by rw [h4.ty]; exact hT, ht', by split <;> rfl, by omega, by omega, ?_, fun hc => ?_⟩
    ·intro k hk
     cases cap with
     |none => cases hk
     |some k0 => simp only [Option.map_some, Option.some.injEq] at hk; rw [k5 k0 rfl, hk]
    ·obtain ⟨k7, k8⟩ := k6 (by omega)
     rw [if_neg (by omega), k7, dF]
     have : off + (lo'.getD 0).toNat + (c - (lo'.getD 0).toNat) ≤ off + c := by omega
     have := Nat.mul_le_mul_right j.ty.size this
     refine ⟨?_, by omega⟩
     rw [Nat.add_mul]
     simp [Nat.add_assoc]
 ·repeat' split at he
  all_goals try contradiction
  rename_i i hi _ el hd _ j hj _ hnh
  cases he
  have hdd := (hΓ t i hi).desc
  unfold aX at hdd
  rw [hd] at hdd
  obtain ⟨g1, g2⟩ := hdd
  obtain ⟨o1, o2, o3⟩ := ho
  have hx : v = .slice none 0 0 := hx
  subst hx
  refine Sound.pure hI (r := .slice none 0 0) ?_ rfl
  simp only [Instr.sliceAt, Instr.slice, underlying, Sem.run_bind, Sem.run_pure, Result.andThen_ok, run_program, g1,
   fP (len := 0) (cap := 0) bl bh bm (gB hnh) (by omega) (by simp only [Int.natCast_zero]; omega) (by simp only [Int.natCast_zero]; omega) (by simp only [Int.natCast_zero]; omega), bO hΓ hj w]
  simp [o1, o2, o3]
 ·rename_i l
  repeat' split at he
  all_goals try contradiction
  rename_i i hi _ hd
  cases he
  have hdd := (hΓ t i hi).desc
  unfold aX at hdd
  rw [hd] at hdd
  obtain ⟨g1, g2⟩ := hdd
  obtain ⟨o1, o2, o3⟩ := ho
  obtain ⟨s, rfl, hs, hlen⟩ := hx
  have hsz : s.size = l.length := by
   have := congrArg List.length hs
   rw [aZ, List.length_map, Array.length_toList] at this
   exact this
  have hvm : vm = none := by cases vm with | none => rfl | some _ => exact bm.elim
  subst hvm
  refine Sound.pure hI (r := .string (s.extract (lo'.getD 0).toNat (hi'.getD l.length).toNat)) ?_ ?_
  ·rw [← hsz] at o2 o3 ⊢
   simp only [Instr.sliceAt, Instr.slice, underlying, Sem.run_bind, Sem.run_pure, Result.andThen_ok, run_program, g1, Option.isSome_none, Bool.false_eq_true, if_false,
    fP (len := s.size) (cap := s.size) bl bh bm (.inl rfl) o1 o2 o3 (by show (s.size : Int) ≤ s.size; omega)]
  ·refine ⟨_, rfl, ?_, by simp; omega⟩
   have : (s.extract (lo'.getD 0).toNat (hi'.getD l.length).toNat).data = s.data.extract (lo'.getD 0).toNat (hi'.getD l.length).toNat := by
    simp [ByteArray.data_extract]
   rw [this, Array.toList_extract, hs]
   unfold aZ
   simp [List.extract, List.map_take, List.map_drop]
end
def cN (z : D) (n : Nat) : D :=
 match z with
 |.u8 x => .u8s (List.replicate n x)
 |.u32 x => .u32s (List.replicate n x)
 |.u64 x => .u64s (List.replicate n x)
 |z => .node (List.replicate n z)
def fT (Γ : Tab) (nx t : Nat) (len cap : D) : Option Eff :=
 match len with
 |.i64 l => match cap with
  |.i64 c => match ti Γ t with
   |some i => match i.desc with
    |.slice el => match ti Γ el with
     |some j => match cN j.zero l.toNat with
      |.u8s z => l9 nx (.row j.ty) (.u8s z) (.slice nx [] 0 l.toNat none) (0 ≤ l ∧ l ≤ c ∧ c * j.bytes ≤ 281474976710656 ∧ c < 9223372036854775808)
      |.u32s z => l9 nx (.row j.ty) (.u32s z) (.slice nx [] 0 l.toNat none) (0 ≤ l ∧ l ≤ c ∧ c * j.bytes ≤ 281474976710656 ∧ c < 9223372036854775808)
      |.u64s z => l9 nx (.row j.ty) (.u64s z) (.slice nx [] 0 l.toNat none) (0 ≤ l ∧ l ≤ c ∧ c * j.bytes ≤ 281474976710656 ∧ c < 9223372036854775808)
      |.node z => l9 nx (.row j.ty) (.node z) (.slice nx [] 0 l.toNat none) (0 ≤ l ∧ l ≤ c ∧ c * j.bytes ≤ 281474976710656 ∧ c < 9223372036854775808)
      |_ => none
     |none => none
    |_ => none
   |none => none
  |_ => none
 |_ => none
theorem pH (z : D) (n : Nat) : (D.node (List.replicate n z)).flat = (List.replicate n z.flat).flatten := by
 simp only [D.flat]
 induction n with
 |zero => rfl
 |succ n ih => simp [List.replicate_succ, D.flats, ih]
theorem eR (z : D) (n : Nat) : (cN z n).flat = (List.replicate n z.flat).flatten := by
 cases z <;> simp only [cN] <;> first
  |exact pH _ n
  |(simp only [D.flat]; induction n with
    |zero => rfl
    |succ n ih => simp [List.replicate_succ, ih])
theorem jR {z : D} {n : Nat} {T : Ty} (h : aD T z) : aD (.row T) (cN z n) := by
 have hn : ∀ z, aD T z → aD (.row T) (.node (List.replicate n z)) := fun z h => aJ.2 fun d hd => by rw [List.eq_of_mem_replicate hd]; exact h
 cases z <;> simp only [cN] <;> first
  |exact hn _ h
  |(cases T <;> first | trivial | exact h.elim)
theorem eQ (zc : Array Value) (n : Nat) (hz : zc.size ≠ 0 ∨ n = 0) : ((Array.range (n * zc.size)).map (zc[· % zc.size]!)).toList = (List.replicate n zc.toList).flatten := by
 apply List.ext_getElem?
 intro i
 simp only [Array.toList_map, Array.toList_range, List.getElem?_map]
 induction n generalizing i with
 |zero => simp
 |succ n ih =>
  have hz : zc.size ≠ 0 := by rcases hz with h | h; exact h; omega
  rw [List.replicate_succ, List.flatten_cons]
  by_cases hi : i < zc.size
  ·have : i < (n + 1) * zc.size := by rw [Nat.add_mul]; omega
   rw [List.getElem?_append_left (by simpa using hi)]
   rw [List.getElem?_range this]
   simp only [Option.map_some, Nat.mod_eq_of_lt hi, Array.getElem?_toList]
   rw [getElem!_pos zc i hi, getElem?_pos zc i hi]
  ·rw [List.getElem?_append_right (by simpa using hi)]
   simp only [Array.length_toList]
   rw [← ih (.inl hz) (i - zc.size)]
   by_cases h2 : i < (n + 1) * zc.size
   ·rw [List.getElem?_range h2, List.getElem?_range (by rw [Nat.add_mul] at h2; omega)]
    simp only [Option.map_some]
    rw [Nat.mod_eq_sub_mod (by omega)]
   ·rw [List.getElem?_eq_none (by simpa using h2), List.getElem?_eq_none (by rw [Nat.add_mul] at h2; simp; omega)]
theorem All2.flatten_replicate {α β : Type} {R : α → β → Prop} {as : List α} {bs : List β} (h : All2 R as bs) : ∀ n, All2 R (List.replicate n as).flatten (List.replicate n bs).flatten
 |0 => trivial
 |n + 1 => by rw [List.replicate_succ, List.replicate_succ, List.flatten_cons, List.flatten_cons]; exact h.append (flatten_replicate h n)
def u4 (T : Ty) (step : Nat → Step) : D → List (Nat × D) → Option (Prop × D)
 |d, [] => some (True, d)
 |d, (k, x) :: r => match aM T [step k] with
  |some T' => match bZ d [step k] with
   |some _ => match fC d [step k] x with
    |some d' => match u4 T step d' r with
     |some (ob, d'') => some ((okP d [step k] ∧ aD T' x) ∧ ob, d'')
     |none => none
    |none => none
   |none => none
  |none => none
def aAD (Γ : Tab) (t : Nat) (parts : List (Nat × D)) : Option Eff :=
 match ti Γ t with
 |some i => match i.ty with
  |.st _ => match u4 i.ty .fld i.zero parts with
   |some (ob, d) => cL ob d
   |none => none
  |.arr _ _ => match u4 i.ty .idx i.zero parts with
   |some (ob, d) => cL ob d
   |none => none
  |_ => none
 |none => none
def nW (s a b : Nat) : Bool :=
 match Nat.beq s 0 with
 |true => false
 |false => Nat.ble a b
theorem pE {s a b : Nat} (h : nW s a b = true) : s ≠ 0 ∧ a ≤ b := by
 unfold nW at h
 split at h <;> try contradiction
 rename_i hb
 exact ⟨(fun e => by rw [e] at hb; cases hb), Nat.le_of_ble_eq_true h⟩
def fA (Γ : Tab) (nx t len : Nat) (parts : List (Nat × D)) : Option Eff :=
 match ti Γ t with
 |some i => match i.desc with
  |.slice el => match ti Γ el with
   |some j => match nW j.ty.size (len * j.ty.size) 16777216 with
    |true => match u4 (.row j.ty) .idx (cN j.zero len) parts with
     |some (ob, d) => l9 nx (.row j.ty) d (.slice nx [] 0 len (some len)) ob
     |none => none
    |false => none
   |none => none
  |_ => none
 |none => none
theorem uW (off : Nat) : ∀ (vs : List Value) (k : Nat) (cs : Array Value), off + k + vs.length ≤ cs.size →
  ((vs.zipIdx k).foldl (fun cs (x : Value × Nat) => cs.setIfInBounds (off + x.2) x.1) cs).toList = cs.toList.take (off + k) ++ vs ++ cs.toList.drop (off + k + vs.length)
 |[], k, cs, _ => by simp
 |v :: vs, k, cs, h => by
  simp only [List.length_cons] at h
  have ih := uW off vs (k + 1) (cs.setIfInBounds (off + k) v) (by simp; omega)
  simp only [List.zipIdx_cons, List.foldl_cons]
  rw [ih]
  have hlt : off + k < cs.toList.length := by simp; omega
  simp only [Array.toList_setIfInBounds, List.length_cons]
  rw [kA _ _ _ hlt]
  have e1 : (List.take (off + k) cs.toList ++ v :: List.drop (off + k + 1) cs.toList).take (off + (k + 1)) = List.take (off + k) cs.toList ++ [v] := by
   rw [List.take_append]
   simp only [List.length_take, Nat.min_eq_left (Nat.le_of_lt hlt)]
   rw [List.take_of_length_le (by simp; omega)]
   rw [show off + (k + 1) - (off + k) = 1 by omega]
   simp
  have e2 : (List.take (off + k) cs.toList ++ v :: List.drop (off + k + 1) cs.toList).drop (off + (k + 1) + vs.length) = cs.toList.drop (off + k + (vs.length + 1)) := by
   rw [List.drop_append]
   simp only [List.length_take, Nat.min_eq_left (Nat.le_of_lt hlt)]
   rw [List.drop_of_length_le (by simp; omega)]
   rw [show off + (k + 1) + vs.length - (off + k) = vs.length + 1 by omega]
   simp [List.drop_drop]
   congr 1
   omega
  rw [e1, e2]
  simp
theorem kJ {ρ : Env} (T : Ty) (hg : T.good) (step : Nat → Step) (place : Nat → Option (Nat × Nat))
  (hp : ∀ k T', aM T [step k] = some T' → T'.flatTy ∧ place k = some (aE T [step k], T'.size)) :
  ∀ (parts : List (Nat × D)) (vs : List (Nat × Value)) (d d' : D) (cs : Array Value) (ob : Prop), u4 T step d parts = some (ob, d') → ob → aD T d → All2 (RepS ρ) d.flat cs.toList →
   All2 (fun (a : Nat × D) (b : Nat × Value) => a.1 = b.1 ∧ Rep ρ a.2 b.2) parts vs →
   ∃ cs', Instr.fill place cs vs = some cs' ∧ aD T d' ∧ All2 (RepS ρ) d'.flat cs'.toList ∧ cs'.size = cs.size
 |[], [], d, d', cs, ob, h, _, ht, hr, _ => by
  simp only [u4, Option.some.injEq, Prod.mk.injEq] at h
  obtain ⟨_, rfl⟩ := h
  exact ⟨cs, rfl, ht, hr, rfl⟩
 |(k, x) :: r, (k', v) :: vs, d, d', cs, ob, h, ho, ht, hr, hv => by
  obtain ⟨⟨hk, hxv⟩, hrest⟩ := hv
  simp only at hk hxv
  subst hk
  simp only [u4] at h
  cases e1 : aM T [step k] with
  |none => simp [e1] at h
  |some T' =>
   cases e2 : bZ d [step k] with
   |none => simp [e1, e2] at h
   |some y =>
    cases e3 : fC d [step k] x with
    |none => simp [e1, e2, e3] at h
    |some d1 =>
     cases e4 : u4 T step d1 r with
     |none => simp [e1, e2, e3, e4] at h
     |some res =>
      obtain ⟨ob', d2⟩ := res
      simp only [e1, e2, e3, e4, Option.some.injEq, Prod.mk.injEq] at h
      obtain ⟨h1, rfl⟩ := h
      subst h1
      obtain ⟨⟨hok, hxt⟩, ho⟩ := ho
      obtain ⟨hf, hpl⟩ := hp k T' e1
      obtain ⟨g1, pre, post, ⟨g2, g3⟩, g4⟩ := bN [step k] T d y x d1 T' hg ht e1 hok e2 e3 hxt
      obtain ⟨hyT, _⟩ := aV [step k] T d y T' hg ht e1 hok e2
      have hxl := aG _ _ hf hxt
      have hyl := aG _ _ hf hyT
      have hxc := j6 hxt hxv
      have hxs : v.cells.size = T'.size := by rw [← Array.length_toList, ← hxc.length, hxl]
      rw [g2] at hr
      obtain ⟨b12, b3, q1, ha, hb⟩ := All2.split_left hr
      obtain ⟨b1, b2, q2, hc, hd⟩ := All2.split_left ha
      have hl1 : b1.length = aE T [step k] := by rw [← hc.length, g3]
      have hl2 : b2.length = T'.size := by rw [← hd.length, hyl]
      have hcs : cs.toList = b1 ++ b2 ++ b3 := by rw [q1, q2]
      have hsz : aE T [step k] + T'.size ≤ cs.size := by
       rw [← Array.length_toList, hcs]; simp; omega
      have hfold := uW (aE T [step k]) v.cells.toList 0 cs (by simp [hxs]; omega)
      have hcs1 : (v.cells.zipIdx.foldl (fun cs (x : Value × Nat) => cs.setIfInBounds (aE T [step k] + x.2) x.1) cs).toList = b1 ++ v.cells.toList ++ b3 := by
       rw [← Array.foldl_toList, Array.toList_zipIdx, hfold, hcs]
       simp only [Nat.add_zero, Array.length_toList, hxs]
       congr 1
       ·congr 1
        rw [← hl1, List.append_assoc, List.take_left]
       ·rw [← hl1, ← hl2, ← List.length_append, List.drop_left]
      obtain ⟨cs', f1, f2, f3, f4⟩ := kJ T hg step place hp r vs d1 d2 _ ob' e4 ho g1 (by rw [hcs1, g4]; exact (hc.append hxc).append hb) hrest
      refine ⟨cs', ?_, f2, f3, ?_⟩
      rotate_left
      ·rw [f4, ← Array.length_toList, hcs1, ← Array.length_toList (xs := cs), hcs]
       simp [hl2, hxs]
      simp only [Instr.fill, hpl]
      rw [if_neg (by simp [hxs]; omega)]
      exact f1
 |[], _ :: _, _, _, _, _, _, _, _, _, hv => hv.elim
 |_ :: _, [], _, _, _, _, _, _, _, _, hv => hv.elim
theorem nD {T T' : Ty} {s : Step} (hf : T.good) (h : aM T [s] = some T') : T'.flatTy := by
 cases T <;> cases s <;> simp only [aM] at h <;> try contradiction
 ·simp at h; subst h; exact hf
 ·simp at h; subst h; exact hf
 ·rename_i fs i
  cases e : fs[i]? with
  |none => simp [e] at h
  |some t => simp [e] at h; subst h; exact e8 hf i e
 ·simp at h; subst h; exact hf
 ·simp at h; subst h; exact hf
theorem pY {P : Program} {w : World} : ∀ {fl : List Field} {ts : List Nat} {Ts : List Ty} {o : Nat} (_ : eJ P fl ts Ts o),
  ∃ ps : List (Nat × Nat), (fl.mapM fun f => do pure (f.offset, ← sizeOf f.type) : Sem (List (Nat × Nat))).run P w = .ok ps w ∧ ∀ k T, Ts[k]? = some T → ps[k]? = some (o + Ty.sizes (Ts.take k), T.size)
 |[], [], [], o, _ => ⟨[], rfl, fun k T h => by simp at h⟩
 |f :: fl, t :: ts, T :: Ts, o, h => by
  obtain ⟨ps, h1, h2⟩ := pY (w := w) h.2.2.2
  refine ⟨(o, T.size) :: ps, ?_, ?_⟩
  ·have h3 := h.2.2.1
   cases hinf : P.info? t with
   |none => simp [hinf] at h3
   |some inf =>
    simp only [hinf, Option.map_some, Option.some.injEq] at h3
    rw [List.mapM_cons]
    simp only [Sem.run_bind, sizeOf, typeInfo, run_program, Result.andThen_ok, h.1, hinf, Sem.run_pure, h.2.1, h3] at h1 ⊢
    rw [h1]
    rfl
  ·intro k T' hk
   cases k with
   |zero => simp at hk; subst hk; simp [Ty.sizes]
   |succ k => simp at hk ⊢; rw [h2 k T' hk]; simp [Ty.sizes]; omega
 |[], _ :: _, _, _, h => h.elim
 |[], [], _ :: _, _, h => h.elim
 |_ :: _, [], _, _, h => h.elim
 |_ :: _, _ :: _, [], _, h => h.elim
section
set_option linter.unusedSectionVars false
variable {P : Program} {Γ : Tab} (hΓ : b8 P Γ) {X : Ctx} {ρ : Env} {m : Mem} {w : World} (hI : Inv X ρ m w) {mg : MG} (hm : ∀ b e, mg b = some e → get m b = some e) {nx : Nat}
include hΓ hI
theorem tiGood {t : Nat} {i : TI} (h : ti Γ t = some i) : i.ty.good := by
 have := (hΓ t i h).flat
 cases hT : i.ty <;> rw [hT] at this <;> first | exact this | exact this.elim
theorem wR {t : Nat} {parts : List (Nat × D)} {vs : List (Nat × Value)} {e : Eff} (he : aAD Γ t parts = some e) (ho : e.ob)
  (hv : All2 (fun (a : Nat × D) (b : Nat × Value) => a.1 = b.1 ∧ Rep ρ a.2 b.2) parts vs) : Sound P (Instr.build t vs.toArray) id X ρ m w nx e := by
 unfold aAD at he
 split at he <;> try contradiction
 rename_i i hi
 have hok := hΓ t i hi
 have hgood := tiGood hΓ hI hi
 obtain ⟨z, hz, hrz⟩ := bK hΓ hi w
 split at he <;> try contradiction
 ·rename_i Ts hT
  split at he <;> try contradiction
  rename_i ob d hfill
  cases he
  obtain ⟨fl, ts, g1, g2, g3⟩ := aCi hΓ hi hT
  obtain ⟨ps, p1, p2⟩ := pY (w := w) g3
  obtain ⟨cs', f1, f2, f3, f4⟩ := kJ (ρ := ρ) i.ty hgood .fld (fun k : Nat => ps[k]?) (fun k T' hk => by
   refine ⟨nD hgood hk, ?_⟩
   rw [hT] at hk ⊢
   simp only [aM] at hk
   cases e : Ts[k]? with
   |none => simp [e] at hk
   |some T =>
    simp only [e, Option.some.injEq] at hk; subst hk
    rw [p2 k T e]
    simp [aE, e]) parts vs i.zero d z.cells ob hfill ho hok.zty (hrz ρ) hv
  have hag : d.isAgg = true := by
   rw [hT] at f2
   cases d <;> first | rfl | exact f2.elim
  refine Sound.pure hI (r := .agg cs') ?_ ?_
  ·have hpl : (fl.mapM fun f => do pure (f.offset, ← sizeOf f.type) : Sem (Array (Nat × Nat))).run P w = .ok ps.toArray w := by
    rw [Array.mapM_eq_mapM_toList]
    simp only [Sem.run_map, p1, Result.andThen_ok]
   simp only [Instr.build, underlying, Sem.run_bind, Sem.run_pure, Result.andThen_ok, run_program, g1, hz]
   rw [hpl]
   simp only [Result.andThen_ok]
   have : (fun k : Nat => ps.toArray[k]?) = fun k : Nat => ps[k]? := by funext k; simp
   rw [this, f1]
   rfl
  ·show Rep ρ d (Value.agg cs')
   rw [eE (by cases d <;> simp_all [D.isAgg, D.isTup])]
   unfold RepV
   rw [hag]
   exact ⟨cs'.toList, rfl, f3⟩
 ·rename_i n T0 hT
  split at he <;> try contradiction
  rename_i ob d hfill
  cases he
  obtain ⟨el, g1, g2, g3⟩ := aEJ hΓ hi hT
  obtain ⟨cs', f1, f2, f3, f4⟩ := kJ (ρ := ρ) i.ty hgood .idx (fun k => some (k * T0.size, T0.size)) (fun k T' hk => by
   refine ⟨nD hgood hk, ?_⟩
   rw [hT] at hk ⊢
   simp only [aM, Option.some.injEq] at hk
   subst hk
   simp [aE]) parts vs i.zero d z.cells ob hfill ho hok.zty (hrz ρ) hv
  have hag : d.isAgg = true := by
   rw [hT] at f2
   cases d <;> first | rfl | exact f2.elim
  refine Sound.pure hI (r := .agg cs') ?_ ?_
  ·cases hinf : P.info? el with
   |none => simp [hinf] at g3
   |some inf =>
    simp only [hinf, Option.map_some, Option.some.injEq] at g3
    simp only [Instr.build, underlying, Sem.run_bind, Sem.run_pure, Result.andThen_ok, run_program, g1, hz, sizeOf, typeInfo, hinf, g3, f1]
  ·show Rep ρ d (Value.agg cs')
   rw [eE (by cases d <;> simp_all [D.isAgg, D.isTup])]
   unfold RepV
   rw [hag]
   exact ⟨cs'.toList, rfl, f3⟩
theorem lZ {t len : Nat} {parts : List (Nat × D)} {vs : List (Nat × Value)} {e : Eff} (hnx : ρ nx = none) (he : fA Γ nx t len parts = some e) (ho : e.ob)
  (hv : All2 (fun (a : Nat × D) (b : Nat × Value) => a.1 = b.1 ∧ Rep ρ a.2 b.2) parts vs) : Sound P (Instr.buildSlice t len vs.toArray) id X ρ m w nx e := by
 unfold fA at he
 split at he <;> try contradiction
 rename_i i hi
 split at he <;> try contradiction
 rename_i el hd
 split at he <;> try contradiction
 rename_i j hj
 split at he <;> try contradiction
 rename_i hlim
 split at he <;> try contradiction
 rename_i ob d hfill
 have hob : ob := by
  unfold l9 at he
  split at he <;> try contradiction
  cases he; exact ho
 have hdd := (hΓ t i hi).desc
 unfold aX at hdd
 rw [hd] at hdd
 obtain ⟨g1, g2⟩ := hdd
 have hok := hΓ el j hj
 obtain ⟨hnz, hlim⟩ := pE hlim
 obtain ⟨z, hz, hrz⟩ := bK hΓ hj w
 have hzl : z.cells.size = j.ty.size := by rw [← Array.length_toList, ← (hrz ρ).length, aG _ _ hok.flat hok.zty]
 have hgood : (Ty.row j.ty).good := hok.flat
 have hcells : All2 (RepS ρ) (cN j.zero len).flat ((Array.range (len * j.ty.size)).map (z.cells[· % z.cells.size]!)).toList := by
  rw [← hzl, eQ z.cells len (.inl (by omega)), eR]
  exact (hrz ρ).flatten_replicate len
 obtain ⟨cs', f1, f2, f3, f4⟩ := kJ (ρ := ρ) (.row j.ty) hgood .idx (fun k => some (k * j.ty.size, j.ty.size)) (fun k T' hk => by
  refine ⟨nD hgood hk, ?_⟩
  simp only [aM, Option.some.injEq] at hk
  subst hk
  simp [aE]) parts vs _ d _ ob hfill hob (jR hok.zty) hcells hv
 have hcs' : cs'.size = len * j.ty.size := by rw [f4]; simp
 have hle : len ≤ len * j.ty.size := Nat.le_mul_of_pos_right len (by omega)
 refine gQ hΓ hI (C := cs') (t := el) (front := cs'.toList) (tail := []) (r := .slice (some ⟨w.heap.size, 0, none⟩) len len) hnx he hgood f2 f3 (by simp) hI (fr := (0, 0)) (.inl rfl) ?_ ?_
 ·simp only [Instr.buildSlice, underlying, Sem.run_bind, Sem.run_pure, Result.andThen_ok, run_program, g1, bO hΓ hj w]
  rw [Sem.run_ite, if_neg (by simp; omega)]
  simp only [Sem.run_bind, Sem.run_ite]
  by_cases h0 : len * j.ty.size = 0
  ·rw [if_pos h0]
   simp only [Sem.run_pure, Result.andThen_ok]
   have : ((Array.range (len * j.ty.size)).map fun x => (#[] : Array Value)[x % (#[] : Array Value).size]!) = (Array.range (len * j.ty.size)).map (z.cells[· % z.cells.size]!) := by
    rw [h0]; simp
   rw [this, f1]
   rfl
  ·rw [if_neg h0]
   simp only [hz, Sem.run_pure, Result.andThen_ok]
   rw [f1]
   rfl
 ·intro ρ' _ h'
  refine ⟨_, h', _, _, _, _, rfl, rfl, rfl, Nat.le_refl _, by omega, fun k hk => by cases hk; rfl, fun hc => ⟨by simp [aE], by simp [aE]; omega⟩⟩
theorem rN {T : Ty} {d v : D} {ob : Prop} {e : Eff} (h : l9 nx T d v ob = some e) (ho : e.ob) : ob := by
 unfold l9 at h
 split at h <;> try contradiction
 cases h; exact ho
theorem nF {t : Nat} {len cap : D} {vl vc : Value} {e : Eff} (hnx : ρ nx = none) (he : fT Γ nx t len cap = some e) (ho : e.ob) (hl : Rep ρ len vl) (hc : Rep ρ cap vc) :
  Sound P (Instr.makeSlice t vl vc) id X ρ m w nx e := by
 unfold fT at he
 split at he <;> try contradiction
 rename_i l
 split at he <;> try contradiction
 rename_i c
 split at he <;> try contradiction
 rename_i i hi
 split at he <;> try contradiction
 rename_i el hd
 split at he <;> try contradiction
 rename_i j hj
 have key : ∀ z, cN j.zero l.toNat = z → l9 nx (.row j.ty) z (.slice nx [] 0 l.toNat none) (0 ≤ l ∧ l ≤ c ∧ c * j.bytes ≤ 281474976710656 ∧ c < 9223372036854775808) = some e → Sound P (Instr.makeSlice t vl vc) id X ρ m w nx e := by
  intro zd hzd he
  obtain ⟨o1, o2, o3, o4⟩ := rN hΓ hI he ho
  have hdd := (hΓ t i hi).desc
  unfold aX at hdd
  rw [hd] at hdd
  obtain ⟨g1, g2⟩ := hdd
  have hok := hΓ el j hj
  obtain ⟨z, hz, hrz⟩ := bK hΓ hj w
  obtain ⟨inf, z', q1, q2, q3, _⟩ := hok.info
  have hzl : z.cells.size = j.ty.size := by rw [← Array.length_toList, ← (hrz ρ).length, aG _ _ hok.flat hok.zty]
  have hgood : (Ty.row j.ty).good := hok.flat
  obtain ⟨rfl, hlr⟩ := hl
  obtain ⟨rfl, hcr⟩ := hc
  -- all cells
  have hall : ∀ n, All2 (RepS ρ) (cN j.zero n).flat (List.replicate n z.cells.toList).flatten := fun n => by rw [eR]; exact (hrz ρ).flatten_replicate n
  have hsplit : (List.replicate c.toNat z.cells.toList).flatten = (List.replicate l.toNat z.cells.toList).flatten ++ (List.replicate (c.toNat - l.toNat) z.cells.toList).flatten := by
   rw [← List.flatten_append, List.replicate_append_replicate]
   congr 2
   omega
  have hlen : (List.replicate c.toNat z.cells.toList).flatten.length = c.toNat * j.ty.size := by
   rw [List.length_flatten]; simp [hzl]
  refine gQ hΓ hI (C := (List.replicate c.toNat z.cells.toList).flatten.toArray) (t := el) (front := (List.replicate l.toNat z.cells.toList).flatten) (tail := (List.replicate (c.toNat - l.toNat) z.cells.toList).flatten)
   (r := .slice (some ⟨w.heap.size, 0, none⟩) l.toNat c.toNat) hnx he hgood (by rw [← hzd]; exact jR hok.zty) (by rw [← hzd]; exact hall _) (by exact hsplit) hI (fr := (0, 0)) (.inl rfl) ?_ ?_
  ·have hb : (typeInfo el).run P w = .ok inf w := by simp [typeInfo, q1]
   have hwl : IntKind.wrap .i64 l = l := aP hlr
   have hwc : IntKind.wrap .i64 c = c := aP hcr
   have h1 : (c < 0 || (inf.bytes : Int) * c > 2 ^ 48) = false := by
    rw [q3]
    simp only [Bool.or_eq_false_iff, decide_eq_false_iff_not]
    refine ⟨by omega, ?_⟩
    rw [Int.mul_comm]
    simp only [Int.reducePow]
    omega
   simp only [Instr.makeSlice, underlying, Sem.run_bind, Sem.run_pure, Result.andThen_ok, run_program, g1, asInt, asIntOf, hb, hwl, hwc, h1]
   have h2 : (false || decide (l < 0) || decide (l > c)) = false := by simp; omega
   rw [Sem.run_ite, if_neg (by rw [h2]; simp)]
   simp only [Sem.run_bind, run_askRoom, Result.andThen_ok, bO hΓ hj w, Sem.run_ite, Sem.run_pure]
   have harr : ∀ zc : Array Value, (c.toNat * j.ty.size = 0 ∨ zc = z.cells) → (Array.range (c.toNat * j.ty.size)).map (fun x => zc[x % zc.size]!) = (List.replicate c.toNat z.cells.toList).flatten.toArray := by
    intro zc hzc
    apply Array.ext'
    by_cases h0 : c.toNat * j.ty.size = 0
    ·have : (List.replicate c.toNat z.cells.toList).flatten = [] := List.length_eq_zero_iff.1 (by rw [hlen, h0])
     rw [h0, this]
     simp
    ·have hzc := hzc.resolve_left h0
     subst hzc
     rw [← hzl, eQ z.cells c.toNat (.inl (by intro h; rw [← hzl, h] at h0; simp at h0))]
   by_cases h0 : c.toNat * j.ty.size = 0
   ·rw [if_pos h0, harr #[] (.inl h0)]
    rfl
   ·rw [if_neg h0, hz]
    simp only [Result.andThen_ok]
    rw [harr z.cells (.inr rfl)]
    rfl
  ·intro ρ' _ h'
   refine ⟨_, h', _, _, _, _, rfl, rfl, rfl, by omega, by omega, (fun k hk => by cases hk), fun hc => ⟨by simp [aE], ?_⟩⟩
   simp only [aE, Nat.zero_add, List.size_toArray, hlen]
   omega
 split at he <;> try contradiction
 all_goals (rename_i z hz; exact key _ hz he)
end
def lenD : D → Nat
 |.u8s l => l.length
 |.u32s l => l.length
 |.u64s l => l.length
 |.node l => l.length
 |_ => 0
def aEP : D → D → Option D
 |.u8s a, .u8s b => some (.u8s (a ++ b))
 |.u32s a, .u32s b => some (.u32s (a ++ b))
 |.u64s a, .u64s b => some (.u64s (a ++ b))
 |.node a, .node b => some (.node (a ++ b))
 |_, _ => none
def gM (mg : MG) (j : TI) (x : D) (n : Nat) : Option (Prop × D) :=
 match x with
 |.slice b p off len _ => match mg b with
  |some e => match aM e.ty p with
   |some T => match b7 T with
    |some t' => match t'.beq j.ty with
     |true => match bZ e.d (p ++ [.win off n]) with
      |some y => some (n ≤ len ∧ okP e.d (p ++ [.win off n]), y)
      |none => none
     |false => none
    |none => none
   |none => none
  |none => none
 |.nilslice => some (n = 0, cN j.zero 0)
 |.str l => match j.desc with
  |.int .u8 => some (n ≤ l.length, .u8s (l.take n))
  |_ => none
 |_ => none
def oO : D → Option Nat
 |.slice _ _ _ len _ => some len
 |.nilslice => some 0
 |.str l => some l.length
 |_ => none
def qC (Γ : Tab) (t : Nat) : Bool :=
 match ti Γ t with
 |some i => match i.desc with
  |.slice _ => true
  |.str => true
  |_ => false
 |none => false
def isI64 (Γ : Tab) (t : Nat) : Bool :=
 match ti Γ t with
 |some i => match i.desc with
  |.int .i64 => true
  |_ => false
 |none => false
def jL (Γ : Tab) (t : Nat) : Option (Nat × TI) :=
 match ti Γ t with
 |some i => match i.desc with
  |.slice el => match ti Γ el with
   |some j => match Nat.beq j.ty.size 0 with
    |false => some (el, j)
    |true => none
   |none => none
  |_ => none
 |none => none
def aCj (Γ : Tab) (mg : MG) (td : Nat) (dst src : D) : Option Eff :=
 match jL Γ td with
 |some (_, j) => match oO src with
  |some k => match dst with
   |.slice b p off len _ => match mg b with
    |some e => match e.rw with
     |true => match aM e.ty p with
      |some T => match b7 T with
       |some t' => match t'.beq j.ty with
        |true => match gM mg j src (Nat.min k len) with
         |some (ob, y) => match bZ e.d (p ++ [.win off (Nat.min k len)]) with
          |some _ => match fC e.d (p ++ [.win off (Nat.min k len)]) y with
           |some d' => some ⟨ob ∧ okP e.d (p ++ [.win off (Nat.min k len)]) ∧ aD (.arr (Nat.min k len) j.ty) y, .i64 (Nat.min k len), [(b, some ⟨e.ty, d', true⟩)], 0⟩
           |none => none
          |none => none
         |none => none
        |false => none
       |none => none
      |none => none
     |false => none
    |none => none
   |.nilslice => match gM mg j src 0 with
    |some (ob, _) => cL ob (.i64 0)
    |none => none
   |_ => none
  |none => none
 |none => none
def iE (Γ : Tab) (nx : Nat) (mg : MG) (alt ts tx : Nat) (s x : D) : Option Eff :=
 match qC Γ tx with
 |true => match jL Γ ts with
  |some (_, j) => match oO s with
   |some n => match oO x with
    |some k => match gM mg j s n with
     |some (ob1, sd) => match gM mg j x k with
      |some (ob2, xd) => match alt with
       |2 => match s with
        |.slice _ _ _ _ _ => cL ((ob1 ∧ ob2) ∧ k = 0) s
        |.nilslice => cL ((ob1 ∧ ob2) ∧ k = 0) s
        |_ => none
       |1 => match aEP sd xd with
        |some y => match s with
         |.slice _ _ _ len (some c) => l9 nx (.row j.ty) y (.slice nx [] 0 (n + k) none) ((ob1 ∧ ob2) ∧ (c < len + k ∧ (n + k) * j.bytes ≤ 140737488355328 ∧ n + k < 9223372036854775808 ∧ 0 < j.bytes) ∧ aD (.row j.ty) y)
         |.nilslice => l9 nx (.row j.ty) y (.slice nx [] 0 (n + k) none) ((ob1 ∧ ob2) ∧ (0 < k ∧ (n + k) * j.bytes ≤ 140737488355328 ∧ n + k < 9223372036854775808 ∧ 0 < j.bytes) ∧ aD (.row j.ty) y)
         |_ => none
        |none => none
       |_ => match aEP sd xd with
        |some y => match s with
         |.slice b [] off len _ => match mg b with
          |some e => match e.rw with
           |true => match e.ty with
            |.row _ => match Nat.blt nx 1000000 with
             |true => some ⟨(ob1 ∧ ob2) ∧ ((n + k) * j.bytes ≤ 140737488355328 ∧ n + k < 9223372036854775808 ∧ 0 < j.bytes) ∧ aD (.row j.ty) y,
               .slice nx [] 0 (n + k) none, [(nx, some ⟨.row j.ty, y, true⟩), (b, none)], 1⟩
             |false => none
            |_ => none
           |false => none
          |none => none
         |_ => none
        |none => none
      |none => none
     |none => none
    |none => none
   |none => none
  |none => none
 |false => match isI64 Γ tx with
  |true => match s with
   |.nilslice => match x with
    |.i64 k => match jL Γ ts with
     |some (_, j) => l9 nx (.row j.ty) (cN j.zero k.toNat) (.slice nx [] 0 k.toNat none) (0 < k ∧ k * j.bytes ≤ 140737488355328 ∧ k < 9223372036854775808 ∧ 0 < j.bytes)
     |none => none
    |_ => none
   |.slice b [] off len _ => match x with
    |.i64 k => match jL Γ ts with
     |some (_, j) => match gM mg j s len with
      |some (ob1, sd) => match aEP sd (cN j.zero k.toNat) with
       |some y => match mg b with
        |some e => match e.rw with
         |true => match e.ty with
          |.row _ => match Nat.blt nx 1000000 with
           |true => some ⟨ob1 ∧ (0 ≤ k ∧ (len + k.toNat) * j.bytes ≤ 140737488355328 ∧ len + k.toNat < 9223372036854775808 ∧ 0 < j.bytes) ∧ aD (.row j.ty) y,
             .slice nx [] 0 (len + k.toNat) none, [(nx, some ⟨.row j.ty, y, true⟩), (b, none)], 1⟩
           |false => none
          |_ => none
         |false => none
        |none => none
       |none => none
      |none => none
     |none => none
    |_ => none
   |_ => none
  |false => none
def capE (Γ : Tab) (t : Nat) (x : D) : Option Eff :=
 match ti Γ t with
 |some i => match i.desc with
  |.slice _ => match x with
   |.slice _ _ _ _ (some c) => cL True (.i64 c)
   |.nilslice => cL True (.i64 0)
   |_ => none
  |_ => none
 |none => none
def lenE (Γ : Tab) (t : Nat) (x : D) : Option Eff :=
 match ti Γ t with
 |some i => match i.desc with
  |.arr n _ => match Nat.blt n 9223372036854775808 with
   |true => cL True (.i64 n)
   |false => none
  |.str => match x with
   |.str l => cL True (.i64 l.length)
   |_ => none
  |.slice _ => match x with
   |.slice _ _ _ len _ => cL True (.i64 len)
   |.nilslice => cL True (.i64 0)
   |_ => none
  |_ => none
 |none => none
def kZ (mx : Bool) (x y : D) : Option Eff :=
 match x, y with
 |.i64 a, .i64 b => match mx with
  |true => cL True (.i64 (max a b))
  |false => cL True (.i64 (min a b))
 |_, _ => none
def vD (Γ : Tab) (nx : Nat) (mg : MG) (src dst : Nat) (x : D) : Option Eff :=
 match ti Γ src with
 |some i => match ti Γ dst with
  |some k => match i.desc, k.desc with
   |.int _, .int kk => match aGF kk x with
    |some v => cL True v
    |none => none
   |.str, .str => match x with
    |.str l => cL True (.str l)
    |_ => none
   |.slice _, .slice el => match Nat.beq src dst with
    |true => match ti Γ el with
     |some j => match j.desc with
      |.int .u8 => match x with
       |.slice b p off len cap => match mg b with
        |some en => match en.rw with
         |true => some ⟨0 < len, .slice b p off len cap, [(b, some en)], 0⟩
         |false => none
        |none => none
       |_ => none
      |_ => none
     |none => none
    |false => none
   |.str, .slice el => match ti Γ el with
    |some j => match j.desc with
     |.int .u8 => match x with
      |.str l => l9 nx (.row .cell) (.u8s l) (.slice nx [] 0 l.length none) True
      |_ => none
     |_ => none
    |none => none
   |.slice el, .str => match ti Γ el with
    |some j => match j.desc with
     |.int .u8 => match oO x with
      |some n => match gM mg j x n with
       |some (ob, .u8s l) => match x with
        |.str _ => none
        |_ => cL (ob ∧ l.length = n) (.str l)
       |_ => none
      |none => none
     |_ => none
    |none => none
   |_, _ => none
  |none => none
 |none => none
section
set_option linter.unusedSectionVars false
variable {P : Program} {Γ : Tab} (hΓ : b8 P Γ) {X : Ctx} {ρ : Env} {m : Mem} {w : World} (hI : Inv X ρ m w) {mg : MG} (hm : ∀ b e, mg b = some e → get m b = some e) {nx : Nat}
include hΓ hI
theorem aB4 {t : Nat} {x : D} {v : Value} {ty : TypeId} {e : Eff} (he : lenE Γ t x = some e) (hx : Rep ρ x v) : Sound P (Builtin.len_ #[t] ty #[v]) id X ρ m w nx e := by
 unfold lenE at he
 split at he <;> try contradiction
 rename_i i hi
 have hdd := (hΓ t i hi).desc
 unfold aX at hdd
 split at he <;> try contradiction
 ·rename_i n el hd
  rw [hd] at hdd
  split at he <;> try contradiction
  rename_i hb
  cases he
  refine Sound.pure hI (r := .int .i64 n) ?_ ⟨rfl, by omega, by simp [Nat.blt] at hb; omega⟩
  simp [Builtin.len_, underlying, hdd.1, goInt]
 ·rename_i hd
  rw [hd] at hdd
  split at he <;> try contradiction
  rename_i l
  cases he
  obtain ⟨s, rfl, hs, hl⟩ := hx
  have hsz : s.size = l.length := by
   have := congrArg List.length hs
   rw [aZ, List.length_map, Array.length_toList] at this
   exact this
  refine Sound.pure hI (r := .int .i64 l.length) ?_ ⟨rfl, by omega, by omega⟩
  simp [Builtin.len_, underlying, hdd.1, goInt, hsz]
 ·rename_i el hd
  rw [hd] at hdd
  split at he <;> try contradiction
  ·rename_i b p off len cap
   cases he
   obtain ⟨L, h2, T1, t1, a, c, k1, k2, rfl, k3, k4, k5, k6⟩ := hx
   refine Sound.pure hI (r := .int .i64 len) ?_ ⟨rfl, by omega, by omega⟩
   simp [Builtin.len_, underlying, hdd.1, goInt]
  ·cases he
   have hx : v = .slice none 0 0 := hx
   subst hx
   refine Sound.pure hI (r := .int .i64 0) ?_ ⟨rfl, by omega, by omega⟩
   simp [Builtin.len_, underlying, hdd.1, goInt]
theorem aB6 {t : Nat} {x : D} {v : Value} {ty : TypeId} {e : Eff} (he : capE Γ t x = some e) (hx : Rep ρ x v) : Sound P (Builtin.cap_ #[t] ty #[v]) id X ρ m w nx e := by
 unfold capE at he
 split at he <;> try contradiction
 rename_i i hi
 have hdd := (hΓ t i hi).desc
 unfold aX at hdd
 split at he <;> try contradiction
 rename_i el hd
 rw [hd] at hdd
 split at he <;> try contradiction
 ·rename_i b p off len c
  cases he
  obtain ⟨L, h2, T1, t1, a, c', k1, k2, rfl, k3, k4, k5, k6⟩ := hx
  obtain rfl := k5 c rfl
  refine Sound.pure hI (r := .int .i64 c') ?_ ⟨rfl, by omega, by omega⟩
  simp [Builtin.cap_, underlying, hdd.1, goInt]
 ·cases he
  have hx : v = .slice none 0 0 := hx
  subst hx
  refine Sound.pure hI (r := .int .i64 0) ?_ ⟨rfl, by omega, by omega⟩
  simp [Builtin.cap_, underlying, hdd.1, goInt]
omit hΓ in
theorem lM {mx : Bool} {x y : D} {vx vy : Value} {e : Eff} {at_ : Array TypeId} {ty : TypeId} (he : kZ mx x y = some e) (hx : Rep ρ x vx) (hy : Rep ρ y vy) :
  Sound P (if mx then Builtin.max_ at_ ty #[vx, vy] else Builtin.min_ at_ ty #[vx, vy]) id X ρ m w nx e := by
 unfold kZ at he
 split at he <;> try contradiction
 rename_i a b
 obtain ⟨rfl, ha⟩ := hx
 obtain ⟨rfl, hb⟩ := hy
 split at he
 ·cases he
  refine Sound.pure hI (r := .int .i64 (max a b)) ?_ ⟨rfl, by omega, by omega⟩
  simp only [if_true, Builtin.max_, List.foldlM_cons, List.foldlM_nil, Builtin.max2, Sem.run_bind, Sem.run_pure, Result.andThen_ok]
  congr 2
  split <;> omega
 ·cases he
  refine Sound.pure hI (r := .int .i64 (min a b)) ?_ ⟨rfl, by omega, by omega⟩
  simp only [Bool.false_eq_true, if_false, Builtin.min_, List.foldlM_cons, List.foldlM_nil, Builtin.min2, Sem.run_bind, Sem.run_pure, Result.andThen_ok]
  congr 2
  split <;> omega
theorem fH {t : Nat} {el : Nat} {j : TI} (h : jL Γ t = some (el, j)) : P.underlying t = some (.slice el) ∧ ti Γ el = some j ∧ j.ty.size ≠ 0 := by
 unfold jL at h
 split at h <;> try contradiction
 rename_i i hi
 have hdd := (hΓ t i hi).desc
 unfold aX at hdd
 split at h <;> try contradiction
 rename_i el' hd
 rw [hd] at hdd
 split at h <;> try contradiction
 rename_i j' hj
 split at h <;> try contradiction
 rename_i hb
 cases h
 exact ⟨hdd.1, hj, fun e => by rw [e] at hb; cases hb⟩
include hm
theorem cO {j : TI} {el : Nat} (hj : ti Γ el = some j) {x : D} {n : Nat} {ob : Prop} {y : D} {v : Value} (h : gM mg j x n = some (ob, y)) (ho : ob) (hx : Rep ρ x v) :
  aD (.arr n j.ty) y ∧ ∃ cs : List Value, (Builtin.firstCells j.ty.size n v).run P w = .ok cs.toArray w ∧ All2 (RepS ρ) y.flat cs ∧ cs.length = n * j.ty.size := by
 have hf := (hΓ el j hj).flat
 have fin : ∀ y, aD (.arr n j.ty) y → ∀ cs : List Value, All2 (RepS ρ) y.flat cs → cs.length = n * j.ty.size := by
  intro y hy cs hc
  have := aG (.arr n j.ty) y hf hy
  rw [← hc.length, this]
  rfl
 unfold gM at h
 split at h <;> try contradiction
 ·rename_i b p off len cap
  repeat' split at h
  all_goals try contradiction
  rename_i en hg _ T hT _ t' ht' _ hb _ y' hy
  cases h
  obtain ⟨ho1, ho2⟩ := ho
  obtain ⟨L, h2, T1, t1, a, c, k1, k2, rfl, k3, k4, k5, k6⟩ := hx
  obtain ⟨L', h3, h4⟩ := hI.sat b en (hm _ _ hg)
  rw [h2] at h3; cases h3
  rw [h4.ty, hT] at k1; cases k1
  rw [ht'] at k2; cases k2
  have := Ty.eq_of_beq _ _ hb; subst this
  have hT2 : aM en.ty (p ++ [.win off n]) = some (.arr n j.ty) := by
   rw [cT _ _ _ _ hT]
   cases T <;> simp only [b7, Option.some.injEq] at ht' <;> try contradiction
   all_goals (subst ht'; rfl)
  obtain ⟨h5, vs, h6, h7⟩ := h4.read hT2 ho2 hy
  refine ⟨h5, vs, ?_, h6, fin y h5 vs h6⟩
  have hl := fin y h5 vs h6
  simp only [Builtin.firstCells, ← hl]
  rcases Nat.eq_zero_or_pos c with h0 | h0
  ·have hn : n = 0 := by omega
   have : vs = [] := List.length_eq_zero_iff.1 (by rw [hl, hn]; simp)
   rw [this]
   rfl
  ·obtain ⟨k7, k8⟩ := k6 h0
   refine run_loadCells_list w a vs fun jj v hv => ?_
   rw [k7, dF]
   have := h7 jj v hv
   rw [h4.ty, aU _ _ _ _ hT] at this
   have he : aE T [.win off n] = off * j.ty.size := by
    cases T <;> simp only [b7, Option.some.injEq] at ht' <;> try contradiction
    all_goals (subst ht'; simp [aE])
   rw [he] at this
   rw [h4.ty, Nat.add_assoc L.base]
   exact this
 ·cases h
  have hx : v = .slice none 0 0 := hx
  subst hx
  subst ho
  have hz := jR (n := 0) (hΓ el j hj).zty
  have hy : aD (.arr 0 j.ty) (cN j.zero 0) := by
   cases hzz : j.zero <;> rw [hzz] at hz <;> simp only [cN] at hz ⊢ <;> first
    |exact ⟨rfl, trivial⟩
    |(cases hjt : j.ty <;> rw [hjt] at hz <;> first | rfl | exact hz.elim)
  refine ⟨hy, [], rfl, ?_, by simp⟩
  have := aG (.arr 0 j.ty) _ hf hy
  simp only [Ty.size, Nat.zero_mul] at this
  rw [List.length_eq_zero_iff.1 this]
  trivial
 ·rename_i l
  split at h <;> try contradiction
  rename_i hd
  cases h
  have hdd := (hΓ el j hj).desc
  unfold aX at hdd
  rw [hd] at hdd
  obtain ⟨s, rfl, hs, hlen⟩ := hx
  have hdt : j.ty = .cell := hdd.2
  rw [hdt]
  have hnl : n ≤ l.length := ho
  have hcs : ((s.extract 0 n).data.map fun b => (.int .u8 b.toNat : Value)) = ((l.take n).map fun b => (.int .u8 b.toNat : Value)).toArray := by
   apply Array.ext'
   rw [Array.toList_map, ByteArray.data_extract, Array.toList_extract, hs]
   unfold aZ
   simp [List.extract, ← List.map_take, List.map_map]
  refine ⟨by show (l.take n).length = n; rw [List.length_take]; omega, (l.take n).map fun b => .int .u8 b.toNat, ?_, ?_, ?_⟩
  ·simp only [Builtin.firstCells, Sem.run_pure]
   rw [hcs]
  ·simp only [D.flat]
   rw [All2.map_left, All2.map_right]
   exact All2.refl_of (R := fun a b => RepS ρ (D.u8 a) (Value.int IntKind.u8 (BitVec.toNat b))) (fun a => rfl) _
  ·simp only [List.length_map, List.length_take, Ty.size]
   omega
theorem lB {x : D} {v : Value} {k : Nat} (h : oO x = some k) (hx : Rep ρ x v) (w : World) : (Builtin.lenOf v).run P w = .ok k w ∧ k < 9223372036854775808 := by
 cases x <;> simp only [oO, Option.some.injEq] at h <;> try contradiction
 ·rename_i l
  obtain ⟨s, rfl, hs, hlen⟩ := hx
  have hsz : s.size = l.length := by
   have := congrArg List.length hs
   rw [aZ, List.length_map, Array.length_toList] at this
   exact this
  subst h
  exact ⟨by simp [Builtin.lenOf, hsz], hlen⟩
 ·subst h
  have hx : v = .slice none 0 0 := hx
  subst hx
  exact ⟨rfl, by omega⟩
 ·subst h
  obtain ⟨L, h2, T1, t1, a, c, k1, k2, rfl, k3, k4, k5, k6⟩ := hx
  exact ⟨rfl, by omega⟩
theorem aAU {td ts : Nat} {ty : TypeId} {dst src : D} {vd vs : Value} {e : Eff} (he : aCj Γ mg td dst src = some e) (ho : e.ob) (hd : Rep ρ dst vd) (hs : Rep ρ src vs) :
  Sound P (Builtin.copy_ #[td, ts] ty #[vd, vs]) id X ρ m w nx e := by
 unfold aCj at he
 split at he <;> try contradiction
 rename_i _ el j hj
 obtain ⟨g1, hj, hnz⟩ := fH hΓ hI hj
 split at he <;> try contradiction
 rename_i k hk
 obtain ⟨hlen, hk63⟩ := lB (P := P) hΓ hI hm hk hs w
 split at he <;> try contradiction
 ·rename_i b p off len cap
  split at he <;> try contradiction
  rename_i en hg
  split at he <;> try contradiction
  rename_i hrw
  split at he <;> try contradiction
  rename_i T hT
  split at he <;> try contradiction
  rename_i t' ht'
  split at he <;> try contradiction
  rename_i hb
  split at he <;> try contradiction
  rename_i ob y hy
  split at he <;> try contradiction
  rename_i z hz
  split at he <;> try contradiction
  rename_i d' hset
  cases he
  obtain ⟨ho1, ho2, ho3⟩ := ho
  have := Ty.eq_of_beq _ _ hb; subst this
  obtain ⟨h5, cs, h6, h7, h8⟩ := cO hΓ hI hm hj hy ho1 hs
  obtain ⟨L, h2, T1, t1, a, c, k1, k2, rfl, k3, k4, k5, k6⟩ := hd
  obtain ⟨L', h3, h4⟩ := hI.sat b en (hm _ _ hg)
  rw [h2] at h3; cases h3
  rw [h4.ty, hT] at k1; cases k1
  rw [ht'] at k2; cases k2
  have hf := (hΓ el j hj).flat
  have hT2 : aM en.ty (p ++ [.win off (Nat.min k len)]) = some (.arr (Nat.min k len) j.ty) := by
   rw [cT _ _ _ _ hT]
   cases T <;> simp only [b7, Option.some.injEq] at ht' <;> try contradiction
   all_goals (subst ht'; rfl)
  have hzT := (h4.read hT2 ho2 hz).1
  have hl : z.flat.length = y.flat.length := by rw [aG (.arr _ j.ty) _ hf hzT, aG (.arr _ j.ty) _ hf ho3]
  obtain ⟨C', g3, g4⟩ := h4.write (P := P) hT2 ho2 hz hset ho3 hl h7 hrw
  have hen : ({ en with d := d' } : Ent) = ⟨en.ty, d', true⟩ := by cases en; simp_all
  rw [hen] at g4
  have hmin : Nat.min k len ≤ len := Nat.min_le_right _ _
  have hrep : Rep ρ (.i64 (Nat.min k len)) (.int .i64 (Nat.min k len)) := ⟨rfl, by omega, by omega⟩
  have hoff : L.base + aE L.ty (p ++ [.win off (Nat.min k len)]) = L.base + aE L.ty p + off * j.ty.size := by
   rw [h4.ty, aU _ _ _ _ hT]
   cases T <;> simp only [b7, Option.some.injEq] at ht' <;> try contradiction
   all_goals (subst ht'; simp [aE]; omega)
  have hrun : ∀ w', (storeCells a cs).run P w = .ok () w' → (Builtin.copy_ #[td, ts] ty #[Value.slice (some a) len c, vs]).run P w = .ok (.int .i64 (Nat.min k len)) w' := by
   intro w' hw'
   simp [Builtin.copy_, underlying, g1, hlen, bO hΓ hj w, h6, hw', goInt]
  rcases Nat.eq_zero_or_pos c with h0 | h0
  ·have hmin0 : Nat.min k len = 0 := by omega
   have hcs : cs = [] := List.length_eq_zero_iff.1 (by rw [h8, hmin0]; simp)
   subst hcs
   refine ⟨.int .i64 (Nat.min k len), w, ρ, hrun w rfl, Env.le_refl ρ, fun _ h => .inl h, hrep, ?_⟩
   have hput : World.putBlk w L.blk C' = w := by
    have : (storeCells ⟨L.blk, L.base + aE L.ty (p ++ [.win off (Nat.min k len)]), none⟩ []).run P w = .ok () w := rfl
    rw [this] at g3
    injection g3 with _ g5
    exact g5.symm
   have := hI.put (hm _ _ hg) hrw h2 (C := C') rfl g4
   rw [hput] at this
   exact this
  ·obtain ⟨k7, k8⟩ := k6 h0
   rw [hoff, ← k7] at g3
   exact ⟨.int .i64 (Nat.min k len), _, ρ, hrun _ g3, Env.le_refl ρ, fun _ h => .inl h, hrep, hI.put (hm _ _ hg) hrw h2 rfl g4⟩
 ·split at he <;> try contradiction
  rename_i ob y hy
  cases he
  obtain ⟨h5, cs, h6, h7, h8⟩ := cO hΓ hI hm hj hy ho hs
  have hd : vd = .slice none 0 0 := hd
  subst hd
  refine Sound.pure hI (r := .int .i64 0) ?_ ⟨rfl, by omega, by omega⟩
  simp [Builtin.copy_, underlying, g1, hlen, bO hΓ hj w, h6, goInt]
end
theorem Inv.drop {X : Ctx} {ρ : Env} {m : Mem} {w : World} (H : Inv X ρ m w) (b : Nat) : Inv X ρ ((b, none) :: m) w := by
 have key : ∀ i e, get ((b, none) :: m) i = some e → get m i = some e ∧ i ≠ b := by
  intro i e h
  rw [aK] at h
  split at h
  ·cases h
  ·exact ⟨h, fun e => by subst e; contradiction⟩
 exact ⟨H.glob, fun i e h => H.sat i e (key i e h).1, fun i j ei ej Li Lj hi hj => H.inj i j ei ej Li Lj (key i ei hi).1 (key j ej hj).1, fun i e L h => H.own i e L (key i e h).1, H.ext, H.size, H.os, H.out, H.tape, fun b0 L0 h0 => let ⟨h1, h2, h3⟩ := H.fz b0 L0 h0; ⟨h1, h2, fun i e Li hi => h3 i e Li (key i e hi).1⟩⟩
theorem Inv.renew {X : Ctx} {ρ : Env} {m : Mem} {w : World} (H : Inv X ρ m w) {b nx : Nat} {e e' : Ent} {L L' : Loc} {C : Array Value} (hg : get m b = some e) (hw : e.rw = true) (hL : ρ b = some L)
  (hnx : ρ nx = none) (hlt : nx < 1000000) (hblk : L'.blk = L.blk) (hs : SatE (ρ.put nx L') e' L' (World.putBlk w L.blk C)) :
  Inv X (ρ.put nx L') ((nx, some e') :: (b, none) :: m) (World.putBlk w L.blk C) := by
 have hle := Env.le_put (L := L') hnx
 have hnew : (ρ.put nx L') nx = some L' := by simp [Env.put]
 have key : ∀ i ei, get ((nx, some e') :: (b, none) :: m) i = some ei → (i = nx ∧ ei = e') ∨ (i ≠ nx ∧ i ≠ b ∧ get m i = some ei) := by
  intro i ei h
  rw [aK] at h
  split at h
  ·cases h; exact .inl ⟨by subst_vars; rfl, rfl⟩
  ·rename_i h1
   rw [aK] at h
   split at h
   ·cases h
   ·rename_i h2; exact .inr ⟨fun e => h1 e.symm, fun e => h2 e.symm, h⟩
 have hold : ∀ i ei, get m i = some ei → i ≠ b → ∃ Li, ρ i = some Li ∧ SatE ρ ei Li w ∧ Li.blk ≠ L.blk := by
  intro i ei h hib
  obtain ⟨Li, h1, h2⟩ := H.sat i ei h
  exact ⟨Li, h1, h2, fun eq => H.inj b i e ei L Li hg h (Ne.symm hib) hw hL h1 eq.symm⟩
 refine ⟨fun g L0 hg1 hg0 => ?_, fun i ei hi => ?_, fun i j ei ej Li Lj hi hj hne hr h1 h2 => ?_, fun i ei Li hi hr h1 => ?_, fun c hc hn => ?_, ?_, H.os, H.out, H.tape, fun b0 L0 h0 => ?_⟩
 ·unfold Env.put at hg0
  split at hg0
  ·rename_i hgi; unfold gid at hgi; omega
  ·exact H.glob g L0 hg1 hg0
 ·rcases key i ei hi with ⟨rfl, rfl⟩ | ⟨h1, h2, h3⟩
  ·exact ⟨L', hnew, hs⟩
  ·obtain ⟨Li, h4, h5, h6⟩ := hold i ei h3 h2
   exact ⟨Li, hle _ _ h4, (h5.mono hle).same (c9 (Ne.symm h6))⟩
 ·rcases key i ei hi with ⟨rfl, rfl⟩ | ⟨a1, a2, a3⟩
  ·rcases key j ej hj with ⟨rfl, rfl⟩ | ⟨b1, b2, b3⟩
   ·contradiction
   ·rw [hnew] at h1; cases h1
    obtain ⟨Lj', h4, h5, h6⟩ := hold j ej b3 b2
    have := hle _ _ h4
    rw [h2] at this; cases this
    rw [hblk]; exact Ne.symm h6
  ·obtain ⟨Li', h4, h5, h6⟩ := hold i ei a3 a2
   have e1 := hle _ _ h4
   rw [h1] at e1; cases e1
   rcases key j ej hj with ⟨rfl, rfl⟩ | ⟨b1, b2, b3⟩
   ·rw [hnew] at h2; cases h2
    rw [hblk]; exact h6
   ·obtain ⟨Lj', h7, h8, h9⟩ := hold j ej b3 b2
    have e2 := hle _ _ h7
    rw [h2] at e2; cases e2
    exact H.inj i j ei ej _ _ a3 b3 hne hr h4 h7
 ·rcases key i ei hi with ⟨rfl, rfl⟩ | ⟨a1, a2, a3⟩
  ·rw [hnew] at h1; cases h1
   rw [hblk]; exact H.own b e L hg hw hL
  ·obtain ⟨Li', h4, h5, h6⟩ := hold i ei a3 a2
   have e1 := hle _ _ h4
   rw [h1] at e1; cases e1
   exact H.own i ei _ a3 hr h4
 ·by_cases h : L.blk = c
  ·rcases H.own b e L hg hw hL with h' | h'
   ·exact absurd (h ▸ h') hn
   ·omega
  ·rw [c9 h]; exact H.ext c hc hn
 ·rw [nP]; exact H.size
 ·have h0 : ρ (fzn b0) = some L0 := by
   unfold Env.put at h0
   rw [if_neg (by unfold fzn; omega)] at h0; exact h0
  obtain ⟨h1, h2, h3⟩ := H.fz b0 L0 h0
  have hne : L.blk ≠ b0 := h3 b e L hg hw hL
  refine ⟨h1, h2.same (c9 (by show L.blk ≠ L0.blk; rw [h1]; exact hne)), fun i ei Li hi hr hLi => ?_⟩
  rcases key i ei hi with ⟨rfl, rfl⟩ | ⟨a1, a2, a3⟩
  ·rw [hnew] at hLi; cases hLi
   rw [hblk]; exact hne
  ·obtain ⟨Li', h4, h5, h6⟩ := hold i ei a3 a2
   have e1 := hle _ _ h4
   rw [hLi] at e1; cases e1
   exact h3 i ei _ a3 hr h4
theorem uS (n : Nat) : ∀ (r c : Nat), 256 ≤ c → c ≤ 2 * n → Builtin.growBy n r c ≤ 2 * n
 |0, c, _, h => h
 |r + 1, c, h0, h => by
  simp only [Builtin.growBy]
  split
  ·exact h
  ·exact uS n r _ (by omega) (by omega)
theorem kW {n c : Nat} (h : c < n) : Builtin.nextslicecap n c ≤ 2 * n := by
 unfold Builtin.nextslicecap
 split
 ·omega
 ·split
  ·omega
  ·exact uS n 4 c (by omega) (by omega)
theorem oR {a b y : D} (h : aEP a b = some y) : y.flat = a.flat ++ b.flat := by
 unfold aEP at h
 split at h <;> try contradiction
 all_goals
  cases h
  simp [D.flat, D.flats_append]
theorem xK (w : World) (C : Array Value) (el : TypeId) : (w.alloc (.cells C el)).freeze ⟨w.heap.size, C.size, none⟩ 1 = w.alloc (.cells C el (C.size, C.size + 1)) := by
 show (⟨_, _, _, _, _⟩ : World) = ⟨_, _, _, _, _⟩
 congr 1
 apply Array.ext_getElem?
 intro q
 show ((w.heap.push (.cells C el)).modify w.heap.size _)[q]? = (w.heap.push (.cells C el (C.size, C.size + 1)))[q]?
 rw [Array.getElem?_modify, Array.getElem?_push, Array.getElem?_push]
 by_cases hq : q = w.heap.size
 ·subst hq; simp
 ·rw [if_neg (fun e => hq e.symm), if_neg hq, if_neg hq]
theorem aC8 {a b y : D} {T : Ty} {n k : Nat} (h : aEP a b = some y) (ha : aD (.arr n T) a) (hb : aD (.arr k T) b) : aD (.row T) y := by
 unfold aEP at h
 split at h <;> try contradiction
 all_goals cases h
 all_goals first
  |(cases T <;> first | trivial | exact ha.elim)
  |exact aJ.2 fun d hd => by
    rcases List.mem_append.1 hd with hd | hd
    ·exact aJ.1 ha.2 d hd
    ·exact aJ.1 hb.2 d hd
section
set_option linter.unusedSectionVars false
variable {P : Program} {Γ : Tab} (hΓ : b8 P Γ) {X : Ctx} {ρ : Env} {m : Mem} {w : World} (hI : Inv X ρ m w) {mg : MG} (hm : ∀ b e, mg b = some e → get m b = some e) {nx : Nat}
include hΓ hI hm
theorem jA {t : Nat} (h : qC Γ t = true) : (∃ e, P.underlying t = some (.slice e)) ∨ P.underlying t = some .string := by
 unfold qC at h
 split at h <;> try contradiction
 rename_i i hi
 have hdd := (hΓ t i hi).desc
 unfold aX at hdd
 split at h <;> try contradiction
 ·rename_i el hd
  rw [hd] at hdd
  exact .inl ⟨_, hdd.1⟩
 ·rename_i hd
  rw [hd] at hdd
  exact .inr hdd.1
theorem vR {ts tx : Nat} {ty : TypeId} {el : Nat} {j : TI} {n k c : Nat} {base : Option Addr} {vx : Value} {os xs : List Value} {y : D} (m' : Mem) (hI' : Inv X ρ m' w)
  (g1 : P.underlying ts = some (.slice el)) (hj : ti Γ el = some j) (hx : qC Γ tx = true) (hlx : (Builtin.lenOf vx).run P w = .ok k w) (hgrow : c < n + k)
  (ho : (Builtin.firstCells j.ty.size n (.slice base n c)).run P w.drew = .ok os.toArray w.drew) (hxs : (Builtin.firstCells j.ty.size k vx).run P w.drew = .ok xs.toArray w.drew)
  (hsz : (n + k) * j.bytes ≤ 140737488355328) (h63 : n + k < 9223372036854775808) (_ : 0 < j.bytes) (hnx : ρ nx = none) (hlt : nx < 1000000)
  (hlen : (os ++ xs).length = (n + k) * j.ty.size)
  (hyt : aD (.row j.ty) y) (hy : All2 (RepS ρ) y.flat (os ++ xs)) :
  ∃ r w' ρ', (Builtin.append_ #[ts, tx] ty #[.slice base n c, vx]).run P w = .ok r w' ∧ ρ.le ρ' ∧ (∀ i, ρ' i ≠ none → ρ i ≠ none ∨ i = nx) ∧ Rep ρ' (.slice nx [] 0 (n + k) none) r ∧
   Inv X ρ' ((nx, some ⟨.row j.ty, y, true⟩) :: m') w' := by
 have hdx := jA hΓ hI hm hx
 have hok := hΓ el j hj
 obtain ⟨z, hz, hrz⟩ := bK hΓ hj w.drew
 obtain ⟨inf, z', q1, q2, q3, right⟩ := hok.info
 have hbt : ∀ w, (typeInfo el).run P w = .ok inf w := fun w => by simp [typeInfo, q1]
 -- the cells
 let cap := (Question.appendCap (n + k) c el).cut (w.tape w.drawn (.appendCap (n + k) c el))
 have hcap : n + k ≤ cap ∧ cap < 9223372036854775808 := by
  show n + k ≤ n + k + w.tape w.drawn (.appendCap (n + k) c el) % (2 ^ 63 - (n + k)) ∧ n + k + w.tape w.drawn (.appendCap (n + k) c el) % (2 ^ 63 - (n + k)) < 9223372036854775808
  have : w.tape w.drawn (.appendCap (n + k) c el) % (2 ^ 63 - (n + k)) < 2 ^ 63 - (n + k) := Nat.mod_lt _ (by omega)
  omega
 have hnext : ¬ (Builtin.nextslicecap (n + k) c * inf.bytes > 2 ^ 48) := by
  have h1 := kW hgrow
  rw [q3]
  have := Nat.mul_le_mul_right j.bytes h1
  rw [Nat.mul_assoc] at this
  omega
 have hrun : (Builtin.append_ #[ts, tx] ty #[.slice base n c, vx]).run P w =
   .ok (.slice (some ⟨w.drew.heap.size, 0, none⟩) (n + k) cap) (w.drew.alloc (.cells (os.toArray ++ xs.toArray ++ Builtin.zeroCells z.cells (cap - (n + k))) el)) := by
  have h1 : ¬ (n + k ≤ c) := by omega
  have h2 : ¬ (9223372036854775807 < ((n : Int) + (k : Int))) := by omega
  have h3 : ¬ (281474976710656 < Builtin.nextslicecap (n + k) c * inf.bytes) := by simpa using hnext
  rw [← q2] at ho hxs
  obtain ⟨z2, hz2⟩ : ∃ z2, inf.zero = some z2 := ⟨_, right.1⟩
  have hzz : z = z2 := by
   have := hz
   simp [zeroValue, typeInfo, q1, hz2] at this
   exact this.symm
  subst hzz
  rcases hdx with ⟨e', hdx⟩ | hdx
  ·simp [Builtin.append_, run_underlying g1, run_underlying hdx, sizeOf, typeInfo, zeroValue, q1, hz2, hlx, h1, h2, h3, Question.forced, ho, hxs, newRow]
   refine ⟨rfl, ?_⟩
   congr 2
   apply Array.ext'
   simp [cap]
  ·simp [Builtin.append_, run_underlying g1, run_underlying hdx, sizeOf, typeInfo, zeroValue, q1, hz2, hlx, h1, h2, h3, Question.forced, ho, hxs, newRow]
   refine ⟨rfl, ?_⟩
   congr 2
   apply Array.ext'
   simp [cap]
 have hsplit : (os.toArray ++ xs.toArray ++ Builtin.zeroCells z.cells (cap - (n + k))).toList = (os ++ xs) ++ (Builtin.zeroCells z.cells (cap - (n + k))).toList := by simp
 obtain ⟨h1, h2⟩ := (hI'.drew).alloc (i := nx) (e := ⟨.row j.ty, y, true⟩) (t := el) (C := os.toArray ++ xs.toArray ++ Builtin.zeroCells z.cells (cap - (n + k))) (fr := (0, 0)) hnx hlt hok.flat hyt hy hsplit (.inl rfl)
 refine ⟨_, _, _, hrun, h1, ?_, ?_, h2⟩
 ·intro i hi
  unfold Env.put at hi
  split at hi
  ·exact .inr (by assumption)
  ·exact .inl hi
 ·have hnew : (ρ.put nx ⟨w.drew.heap.size, 0, (os.toArray ++ xs.toArray ++ Builtin.zeroCells z.cells (cap - (n + k))).size, .row j.ty⟩) nx = some ⟨w.drew.heap.size, 0, (os.toArray ++ xs.toArray ++ Builtin.zeroCells z.cells (cap - (n + k))).size, .row j.ty⟩ := by simp [Env.put]
  refine ⟨_, hnew, _, _, _, _, rfl, rfl, rfl, hcap.1, hcap.2, (fun k hk => by cases hk), fun hc => ⟨by simp [aE], ?_⟩⟩
  have hzl : z.cells.size = j.ty.size := by rw [← Array.length_toList, ← (hrz ρ).length, aG _ _ hok.flat hok.zty]
  have hzz : (Builtin.zeroCells z.cells (cap - (n + k))).size = (cap - (n + k)) * j.ty.size := by simp [Builtin.zeroCells, hzl]
  simp only [aE, Nat.zero_add, Array.size_append, List.size_toArray, hzz]
  rw [List.length_append] at hlen
  have : cap * j.ty.size = (n + k) * j.ty.size + (cap - (n + k)) * j.ty.size := by rw [← Nat.add_mul]; congr 1; omega
  omega
theorem oV {ts tx : Nat} {ty : TypeId} {el : Nat} {j : TI} {n k c : Nat} {a : Addr} {vx : Value} {xs : List Value} {w' : World}
  (g1 : P.underlying ts = some (.slice el)) (hj : ti Γ el = some j) (hx : qC Γ tx = true) (hlx : (Builtin.lenOf vx).run P w = .ok k w) (hroom : n + k ≤ c)
  (hxs : (Builtin.firstCells j.ty.size k vx).run P w = .ok xs.toArray w) (hst : (storeCells (a.add (n * j.ty.size)) xs).run P w = .ok () w') :
  (Builtin.append_ #[ts, tx] ty #[.slice (some a) n c, vx]).run P w = .ok (.slice (some a) (n + k) c) w' := by
 have hdx := jA hΓ hI hm hx
 obtain ⟨inf, z', q1, q2, q3, right⟩ := (hΓ el j hj).info
 rw [← q2] at hxs hst
 rcases hdx with ⟨e', hdx⟩ | hdx
 ·simp [Builtin.append_, run_underlying g1, run_underlying hdx, sizeOf, typeInfo, q1, hlx, hroom, hxs, hst]
 ·simp [Builtin.append_, run_underlying g1, run_underlying hdx, sizeOf, typeInfo, q1, hlx, hroom, hxs, hst]
theorem xX {ts tx : Nat} {ty : TypeId} {el : Nat} {j : TI} {k : Int} (g1 : P.underlying ts = some (.slice el)) (hj : ti Γ el = some j) (hx : P.underlying tx = some (.int .i64)) (hk : 0 < k) (hz : j.ty.size ≠ 0)
  (hsz : k * j.bytes ≤ 140737488355328) (h63 : k < 9223372036854775808) (_ : 0 < j.bytes) (hnx : ρ nx = none) (hlt : nx < 1000000) :
  ∃ r w' ρ', (Builtin.append_ #[ts, tx] ty #[.slice none 0 0, .int .i64 k]).run P w = .ok r w' ∧ ρ.le ρ' ∧ (∀ i, ρ' i ≠ none → ρ i ≠ none ∨ i = nx) ∧ Rep ρ' (.slice nx [] 0 k.toNat none) r ∧
   Inv X ρ' ((nx, some ⟨.row j.ty, cN j.zero k.toNat, true⟩) :: m) w' := by
 have hok := hΓ el j hj
 obtain ⟨z, hzv, hrz⟩ := bK hΓ hj w.drew
 obtain ⟨inf, z', q1, q2, q3, right⟩ := hok.info
 obtain ⟨n, rfl⟩ : ∃ n : Nat, k = n := ⟨k.toNat, by omega⟩
 have hn0 : 0 < n := by omega
 have hszn : n * j.bytes ≤ 140737488355328 := by omega
 let cap := (Question.appendCap n 0 el).cut (w.tape w.drawn (.appendCap n 0 el))
 have hcap : n ≤ cap ∧ cap < 9223372036854775808 := by
  show n ≤ n + w.tape w.drawn (.appendCap n 0 el) % (2 ^ 63 - n) ∧ n + w.tape w.drawn (.appendCap n 0 el) % (2 ^ 63 - n) < 9223372036854775808
  have : w.tape w.drawn (.appendCap n 0 el) % (2 ^ 63 - n) < 2 ^ 63 - n := Nat.mod_lt _ (by omega)
  omega
 have hnext : ¬ (281474976710656 < Builtin.nextslicecap n 0 * inf.bytes) := by
  have h1 := kW hn0
  rw [q3]
  have := Nat.mul_le_mul_right j.bytes h1
  rw [Nat.mul_assoc] at this
  omega
 obtain ⟨z2, hz2⟩ : ∃ z2, inf.zero = some z2 := ⟨_, right.1⟩
 have hzz : z = z2 := by
  have := hzv
  simp [zeroValue, typeInfo, q1, hz2] at this
  exact this.symm
 subst hzz
 have hrun : (Builtin.append_ #[ts, tx] ty #[.slice none 0 0, .int .i64 (n : Int)]).run P w =
   .ok (.slice (some ⟨w.drew.heap.size, 0, none⟩) n cap) (w.drew.alloc (.cells (Builtin.zeroCells z.cells n ++ Builtin.zeroCells z.cells (cap - n)) el)) := by
  have hw : IntKind.wrap .i64 (n : Int) = n := aP ⟨by omega, by omega⟩
  have h1 : ¬ ((n : Int) < 0) := by omega
  have h2 : ¬ (281474976710656 < (n : Int) * (inf.bytes : Int)) := by
   rw [q3]; omega
  have h3 : ¬ (n = 0) := by omega
  have h4 : ¬ (9223372036854775807 < (n : Int)) := by omega
  have h5 : ¬ (inf.size = 0) := by rw [q2]; exact hz
  simp [Builtin.append_, run_underlying g1, run_underlying hx, sizeOf, typeInfo, zeroValue, asInt, asIntOf, q1, hz2, hw, h1, h2, h3, h4, h5, hnext, Question.forced, Builtin.firstCells, newRow, hn0]
  rw [if_neg (by intro h; rcases Nat.mul_eq_zero.1 h with h | h; exact h3 h; exact h5 h)]
 have hzl : z.cells.size = j.ty.size := by rw [← Array.length_toList, ← (hrz ρ).length, aG _ _ hok.flat hok.zty]
 have hzc : ∀ n, (Builtin.zeroCells z.cells n).toList = (List.replicate n z.cells.toList).flatten := by
  intro n
  simp only [Builtin.zeroCells, hzl]
  rw [← hzl, eQ z.cells n (.inl (by rw [hzl]; exact hz))]
 have hsplit : (Builtin.zeroCells z.cells n ++ Builtin.zeroCells z.cells (cap - n)).toList = (Builtin.zeroCells z.cells n).toList ++ (Builtin.zeroCells z.cells (cap - n)).toList := by simp
 obtain ⟨h1, h2⟩ := (hI.drew).alloc (i := nx) (e := ⟨.row j.ty, cN j.zero n, true⟩) (t := el) (C := Builtin.zeroCells z.cells n ++ Builtin.zeroCells z.cells (cap - n)) (fr := (0, 0)) hnx hlt hok.flat (jR hok.zty)
  (by rw [hzc n]; show All2 _ (cN j.zero n).flat _; rw [eR]; exact (hrz ρ).flatten_replicate n) hsplit (.inl rfl)
 refine ⟨_, _, _, hrun, h1, fun i hi => ?_, ?_, h2⟩
 ·unfold Env.put at hi
  split at hi
  ·exact .inr (by assumption)
  ·exact .inl hi
 ·refine ⟨_, if_pos rfl, _, _, _, _, rfl, rfl, rfl, hcap.1, hcap.2, (fun k hk => by cases hk), fun hc => ⟨by simp [aE], ?_⟩⟩
  have hs1 : ∀ n, (Builtin.zeroCells z.cells n).size = n * j.ty.size := fun n => by
   rw [← Array.length_toList, hzc n, List.length_flatten]; simp [hzl]
  simp only [aE, Nat.zero_add, Array.size_append, hs1]
  rw [← Nat.add_mul]
  exact Nat.mul_le_mul_right _ (by omega)
theorem sF {ts tx : Nat} {ty : TypeId} {el : Nat} {j : TI} {n k c : Nat} {base : Option Addr} {os : List Value} {y : D} (m' : Mem) (hI' : Inv X ρ m' w)
  (g1 : P.underlying ts = some (.slice el)) (hj : ti Γ el = some j) (hx : P.underlying tx = some (.int .i64)) (hgrow : c < n + k) (hz : j.ty.size ≠ 0)
  (ho : (Builtin.firstCells j.ty.size n (.slice base n c)).run P w.drew = .ok os.toArray w.drew)
  (hsz : (n + k) * j.bytes ≤ 140737488355328) (h63 : n + k < 9223372036854775808) (h0 : 0 < j.bytes) (hnx : ρ nx = none) (hlt : nx < 1000000) (hol : os.length = n * j.ty.size)
  (hyt : aD (.row j.ty) y) (hy : ∀ zs, All2 (RepS ρ) (cN j.zero k).flat zs → All2 (RepS ρ) y.flat (os ++ zs)) :
  ∃ r w' ρ', (Builtin.append_ #[ts, tx] ty #[.slice base n c, .int .i64 k]).run P w = .ok r w' ∧ ρ.le ρ' ∧ (∀ i, ρ' i ≠ none → ρ i ≠ none ∨ i = nx) ∧ Rep ρ' (.slice nx [] 0 (n + k) none) r ∧
   Inv X ρ' ((nx, some ⟨.row j.ty, y, true⟩) :: m') w' := by
 have hok := hΓ el j hj
 obtain ⟨z, hzv, hrz⟩ := bK hΓ hj w.drew
 obtain ⟨inf, z', q1, q2, q3, right⟩ := hok.info
 let cap := (Question.appendCap (n + k) c el).cut (w.tape w.drawn (.appendCap (n + k) c el))
 have hcap : n + k ≤ cap ∧ cap < 9223372036854775808 := by
  show n + k ≤ n + k + w.tape w.drawn (.appendCap (n + k) c el) % (2 ^ 63 - (n + k)) ∧ n + k + w.tape w.drawn (.appendCap (n + k) c el) % (2 ^ 63 - (n + k)) < 9223372036854775808
  have : w.tape w.drawn (.appendCap (n + k) c el) % (2 ^ 63 - (n + k)) < 2 ^ 63 - (n + k) := Nat.mod_lt _ (by omega)
  omega
 have hnext : ¬ (281474976710656 < Builtin.nextslicecap (n + k) c * inf.bytes) := by
  have h1 := kW hgrow
  rw [q3]
  have := Nat.mul_le_mul_right j.bytes h1
  rw [Nat.mul_assoc] at this
  omega
 obtain ⟨z2, hz2⟩ : ∃ z2, inf.zero = some z2 := ⟨_, right.1⟩
 have hzz : z = z2 := by
  have := hzv
  simp [zeroValue, typeInfo, q1, hz2] at this
  exact this.symm
 subst hzz
 have hkb : k * j.bytes ≤ 140737488355328 := Nat.le_trans (Nat.mul_le_mul_right _ (Nat.le_add_left k n)) hsz
 have hzl : z.cells.size = j.ty.size := by rw [← Array.length_toList, ← (hrz ρ).length, aG _ _ hok.flat hok.zty]
 have hzc : ∀ n, (Builtin.zeroCells z.cells n).toList = (List.replicate n z.cells.toList).flatten := by
  intro n
  simp only [Builtin.zeroCells, hzl]
  rw [← hzl, eQ z.cells n (.inl (by rw [hzl]; exact hz))]
 have hk0 : k * inf.size = 0 → Builtin.zeroCells z.cells k = #[] := fun h => by
  have : k = 0 := by
   rcases Nat.mul_eq_zero.1 h with h | h
   ·exact h
   ·exact absurd (q2 ▸ h) hz
  subst this
  apply Array.ext'
  rw [hzc]; rfl
 have hrun : (Builtin.append_ #[ts, tx] ty #[.slice base n c, .int .i64 (k : Int)]).run P w =
   .ok (.slice (some ⟨w.drew.heap.size, 0, none⟩) (n + k) cap) (w.drew.alloc (.cells (os.toArray ++ Builtin.zeroCells z.cells k ++ Builtin.zeroCells z.cells (cap - (n + k))) el)) := by
  have hw : IntKind.wrap .i64 (k : Int) = k := aP ⟨by omega, by omega⟩
  have h1 : ¬ ((k : Int) < 0) := by omega
  have h2 : ¬ (281474976710656 < (k : Int) * (inf.bytes : Int)) := by
   rw [q3]; omega
  have h3 : ¬ (n + k ≤ c) := by omega
  have h4 : ¬ (9223372036854775807 < (n : Int) + (k : Int)) := by omega
  rw [← q2] at ho
  by_cases hk : k * inf.size = 0
  ·simp [Builtin.append_, run_underlying g1, run_underlying hx, sizeOf, typeInfo, zeroValue, asInt, asIntOf, q1, hz2, hw, h1, h2, h3, h4, hnext, Question.forced, ho, newRow, hk, hk0 hk]
   refine ⟨rfl, ?_⟩
   congr 2
  ·simp [Builtin.append_, run_underlying g1, run_underlying hx, sizeOf, typeInfo, zeroValue, asInt, asIntOf, q1, hz2, hw, h1, h2, h3, h4, hnext, Question.forced, ho, newRow, hk]
   refine ⟨rfl, ?_⟩
   congr 2
 have hsplit : (os.toArray ++ Builtin.zeroCells z.cells k ++ Builtin.zeroCells z.cells (cap - (n + k))).toList = (os ++ (Builtin.zeroCells z.cells k).toList) ++ (Builtin.zeroCells z.cells (cap - (n + k))).toList := by simp
 have hzr : All2 (RepS ρ) (cN j.zero k).flat (Builtin.zeroCells z.cells k).toList := by rw [hzc, eR]; exact (hrz ρ).flatten_replicate k
 obtain ⟨h1, h2⟩ := (hI'.drew).alloc (i := nx) (e := ⟨.row j.ty, y, true⟩) (t := el) (C := os.toArray ++ Builtin.zeroCells z.cells k ++ Builtin.zeroCells z.cells (cap - (n + k))) (fr := (0, 0)) hnx hlt hok.flat hyt (hy _ hzr) hsplit (.inl rfl)
 refine ⟨_, _, _, hrun, h1, fun i hi => ?_, ?_, h2⟩
 ·unfold Env.put at hi
  split at hi
  ·exact .inr (by assumption)
  ·exact .inl hi
 ·refine ⟨_, if_pos rfl, _, _, _, _, rfl, rfl, rfl, hcap.1, hcap.2, (fun k hk => by cases hk), fun hc => ⟨by simp [aE], ?_⟩⟩
  have hs1 : ∀ n, (Builtin.zeroCells z.cells n).size = n * j.ty.size := fun n => by
   rw [← Array.length_toList, hzc n, List.length_flatten]; simp [hzl]
  simp only [aE, Nat.zero_add, Array.size_append, hs1, List.size_toArray, hol]
  rw [← Nat.add_mul, ← Nat.add_mul]
  exact Nat.mul_le_mul_right _ (by omega)
theorem vQ {ts tx : Nat} {ty : TypeId} {el : Nat} {j : TI} {n k c : Nat} {a : Addr}
  (g1 : P.underlying ts = some (.slice el)) (hj : ti Γ el = some j) (hx : P.underlying tx = some (.int .i64)) (hroom : n + k ≤ c) (hz : j.ty.size ≠ 0) (hkb : k * j.bytes ≤ 140737488355328) (h63 : n + k < 9223372036854775808) :
  ∃ zs : List Value, zs.length = k * j.ty.size ∧ (∀ ρ, All2 (RepS ρ) (cN j.zero k).flat zs) ∧ ∀ w', (storeCells (a.add (n * j.ty.size)) zs).run P w = .ok () w' →
   (Builtin.append_ #[ts, tx] ty #[.slice (some a) n c, .int .i64 k]).run P w = .ok (.slice (some a) (n + k) c) w' := by
 have hok := hΓ el j hj
 obtain ⟨z, hzv, hrz⟩ := bK hΓ hj w
 obtain ⟨inf, z', q1, q2, q3, right⟩ := hok.info
 obtain ⟨z2, hz2⟩ : ∃ z2, inf.zero = some z2 := ⟨_, right.1⟩
 have hzz : z = z2 := by
  have := hzv
  simp [zeroValue, typeInfo, q1, hz2] at this
  exact this.symm
 subst hzz
 have hzl : z.cells.size = j.ty.size := by rw [← Array.length_toList, ← (hrz ρ).length, aG _ _ hok.flat hok.zty]
 have hzc : ∀ n, (Builtin.zeroCells z.cells n).toList = (List.replicate n z.cells.toList).flatten := by
  intro n
  simp only [Builtin.zeroCells, hzl]
  rw [← hzl, eQ z.cells n (.inl (by rw [hzl]; exact hz))]
 refine ⟨(Builtin.zeroCells z.cells k).toList, by rw [hzc, List.length_flatten]; simp [hzl], fun ρ => by rw [hzc, eR]; exact (hrz ρ).flatten_replicate k, fun w' hst => ?_⟩
 have hw : IntKind.wrap .i64 (k : Int) = k := aP ⟨by omega, by omega⟩
 have h1 : ¬ ((k : Int) < 0) := by omega
 have h2 : ¬ (281474976710656 < (k : Int) * (inf.bytes : Int)) := by
  rw [q3]; omega
 have hk0 : k * inf.size = 0 → Builtin.zeroCells z.cells k = #[] := fun h => by
  have : k = 0 := by
   rcases Nat.mul_eq_zero.1 h with h | h
   ·exact h
   ·exact absurd (q2 ▸ h) hz
  subst this
  apply Array.ext'
  rw [hzc]; rfl
 rw [← q2] at hst
 by_cases hk : k * inf.size = 0
 ·rw [hk0 hk] at hst
  simp [Builtin.append_, run_underlying g1, run_underlying hx, sizeOf, typeInfo, zeroValue, asInt, asIntOf, q1, hz2, hw, h1, h2, hroom, hk]
  rw [hst]; rfl
 ·simp [Builtin.append_, run_underlying g1, run_underlying hx, sizeOf, typeInfo, zeroValue, asInt, asIntOf, q1, hz2, hw, h1, h2, hroom, hk, hst]
theorem xW {ts tx : Nat} {ty : TypeId} {el : Nat} {j : TI} {vx : Value} {xs : List Value}
  (g1 : P.underlying ts = some (.slice el)) (hj : ti Γ el = some j) (hx : qC Γ tx = true) (hlx : (Builtin.lenOf vx).run P w = .ok 0 w)
  (hxs : (Builtin.firstCells j.ty.size 0 vx).run P w = .ok xs.toArray w) :
  (Builtin.append_ #[ts, tx] ty #[.slice none 0 0, vx]).run P w = .ok (.slice none 0 0) w := by
 have hdx := jA hΓ hI hm hx
 obtain ⟨inf, z', q1, q2, q3, right⟩ := (hΓ el j hj).info
 rw [← q2] at hxs
 rcases hdx with ⟨e', hdx⟩ | hdx
 ·simp [Builtin.append_, run_underlying g1, run_underlying hdx, sizeOf, typeInfo, q1, hlx, hxs]
 ·simp [Builtin.append_, run_underlying g1, run_underlying hdx, sizeOf, typeInfo, q1, hlx, hxs]
theorem oW {ts tx : Nat} {ty : TypeId} {b off len k : Nat} {cap : Option Nat} {en : Ent} {T0 : Ty} {el : Nat} {j : TI} {y sd xd : D} {vs vx : Value} {ob1 : Prop} (hnx : ρ nx = none) (hlt : nx < 1000000)
  (hsd : gM mg j (.slice b [] off len cap) len = some (ob1, sd)) (o1 : ob1) (hg : mg b = some en) (hrw : en.rw = true) (hrow : en.ty = .row T0) (hf : j.ty.flatTy) (hj : ti Γ el = some j) (hy : aEP sd xd = some y) (o7 : aD (.row j.ty) y)
  (hs : Rep ρ (.slice b [] off len cap) vs)
  (hgrow : ∀ a c, vs = .slice (some a) len c → c < len + k → ∃ r w' ρ', (Builtin.append_ #[ts, tx] ty #[vs, vx]).run P w = .ok r w' ∧ ρ.le ρ' ∧ (∀ i, ρ' i ≠ none → ρ i ≠ none ∨ i = nx) ∧ Rep ρ' (.slice nx [] 0 (len + k) none) r ∧
   Inv X ρ' ((nx, some ⟨.row j.ty, y, true⟩) :: (b, none) :: m) w')
  (hroom : ∀ a c, vs = .slice (some a) len c → len + k ≤ c → ∃ xs : List Value, xs.length = k * j.ty.size ∧ All2 (RepS ρ) xd.flat xs ∧ ∀ w', (storeCells (a.add (len * j.ty.size)) xs).run P w = .ok () w' →
   (Builtin.append_ #[ts, tx] ty #[.slice (some a) len c, vx]).run P w = .ok (.slice (some a) (len + k) c) w') :
  ∃ r w' ρ', (Builtin.append_ #[ts, tx] ty #[vs, vx]).run P w = .ok r w' ∧ ρ.le ρ' ∧ (∀ i, ρ' i ≠ none → ρ i ≠ none ∨ i = nx) ∧ Rep ρ' (.slice nx [] 0 (len + k) none) r ∧
   Inv X ρ' ((nx, some ⟨.row j.ty, y, true⟩) :: (b, none) :: m) w' := by
 have hs' := hs
 obtain ⟨L, h2, T1, t1, a, c, k1, k2, hv, k3, k4, k5, k6⟩ := hs'
 obtain ⟨L', h3, h4⟩ := hI.sat b en (hm _ _ hg)
 rw [h2] at h3; cases h3
 by_cases hc : c < len + k
 ·obtain ⟨r, w', ρ', r1, r2, r3, r4, r5⟩ := hgrow a c hv hc
  exact ⟨r, w', ρ', r1, r2, r3, r4, r5⟩
 ·-- in its place
  have hT0 : T0 = j.ty := by
   unfold gM at hsd
   simp only [hg, hrow, aM, b7] at hsd
   split at hsd <;> try contradiction
   exact Ty.eq_of_beq _ _ (by assumption)
  subst hT0
  rw [h4.ty, hrow] at k1
  simp only [aM, Option.some.injEq] at k1
  subst k1
  simp only [b7, Option.some.injEq] at k2
  subst k2
  obtain ⟨a1, os, a2, a3, a4⟩ := cO hΓ hI hm hj hsd o1 hs
  obtain ⟨xs, b4, b3, hap⟩ := hroom a c hv (by omega)
  obtain ⟨C, t, fr, pre, front, tail, m1, m2, m3, m4, m5, m6⟩ := h4.mem
  have hhas : aD (.row j.ty) en.d := by rw [← hrow]; exact h4.has
  subst hv
  -- the elements' cells are the last of what is known
  have hsd2 : bZ en.d [.win off len] = some sd ∧ okP en.d [.win off len] := by
   unfold gM at hsd
   simp only [hg, hrow, aM, b7, List.nil_append] at hsd
   repeat' split at hsd
   all_goals try contradiction
   cases hsd
   exact ⟨by assumption, o1.2⟩
  obtain ⟨_, pr, po, q1, q2⟩ := aV [.win off len] (.row j.ty) en.d sd (.arr len j.ty) hf hhas rfl hsd2.2 hsd2.1
  have q2 : pr.length = off * j.ty.size := by rw [q2]; simp [aE]
  have hsdl : sd.flat.length = len * j.ty.size := aG (.arr len j.ty) sd hf a1
  rw [q1] at m5
  obtain ⟨f0, f3, hfe0, m5, _⟩ := All2.split_left m5
  have m2 : C.toList = pre ++ f0 ++ (f3 ++ tail) := by rw [m2, hfe0]; simp
  clear hfe0
  generalize f3 ++ tail = tail at m2
  generalize f0 = front at m2 m5
  have hfl : front.length = (off + len) * j.ty.size := by rw [← m5.length, List.length_append, q2, hsdl, Nat.add_mul]
  obtain ⟨f1, f2, hfe, hf1, hf2⟩ := All2.split_left m5
  have hf1l : f1.length = off * j.ty.size := by rw [← hf1.length, q2]
  have hCl := congrArg List.length m2
  simp only [List.length_append, Array.length_toList] at hCl
  have hk : k * j.ty.size ≤ tail.length := by
   rcases Nat.eq_zero_or_pos c with h0 | h0
   ·have : k = 0 := by omega
    rw [this]; simp
   ·obtain ⟨k7, k8⟩ := k6 h0
    have e1 : (off + len + k) * j.ty.size ≤ (off + c) * j.ty.size := Nat.mul_le_mul_right _ (by omega)
    rw [Nat.add_mul (off + len)] at e1
    simp only [aE, Nat.add_zero] at k8
    omega
  have hC : C.toList = (pre ++ front) ++ tail.take (k * j.ty.size) ++ tail.drop (k * j.ty.size) := by rw [List.append_assoc (pre ++ front), List.take_append_drop, m2]
  have hxl : xs.length = (tail.take (k * j.ty.size)).length := by rw [b4, List.length_take, Nat.min_eq_left hk]
  have hone : ∀ v ∈ xs, v.oneCell' = true := by
   intro v hv
   obtain ⟨i, hi⟩ := List.getElem?_of_mem hv
   have hlt : i < xd.flat.length := by
    rw [b3.length]
    rcases Nat.lt_or_ge i xs.length with h' | h'
    ·exact h'
    ·simp [List.getElem?_eq_none h'] at hi
   obtain ⟨z, hz1, hz2⟩ := b3.get i (List.getElem?_eq_getElem hlt)
   rw [hi] at hz1
   cases hz1
   exact hz2.oneCell
  have hst := dB (P := P) L.blk t fr (pre ++ front) (L.base + front.length) xs 0 w C (tail.take (k * j.ty.size)) (tail.drop (k * j.ty.size)) m1 (m6 hrw) hC (by simp [m3]) hxl.symm hone
  have hst2 : (storeCells (a.add (len * j.ty.size)) xs).run P w = .ok () (World.putBlk w L.blk ((pre ++ front) ++ xs ++ tail.drop (k * j.ty.size)).toArray) := by
   rcases Nat.eq_zero_or_pos c with h0 | h0
   ·have hk0 : k = 0 := by omega
    have hxs : xs = [] := List.length_eq_zero_iff.1 (by rw [b4, hk0]; simp)
    subst hxs
    have hCC : ((pre ++ front) ++ [] ++ tail.drop (k * j.ty.size)).toArray = C := by
     apply Array.ext'
     rw [m2, hk0]
     simp
    rw [hCC, zA m1]
    rfl
   ·obtain ⟨k7, k8⟩ := k6 h0
    rw [k7, dF]
    have : L.base + aE L.ty [] + off * j.ty.size + len * j.ty.size = L.base + front.length := by
     rw [hfl, Nat.add_mul]; simp [aE]; omega
    rw [this]
    exact hst
  have hsz : ((pre ++ front) ++ xs ++ tail.drop (k * j.ty.size)).toArray.size = C.size := by
   rw [← Array.length_toList (xs := C), hC]
   simp only [List.size_toArray, List.length_append, hxl]
  refine ⟨_, _, ρ.put nx ⟨L.blk, L.base + off * j.ty.size, L.n, .row j.ty⟩, hap _ hst2, Env.le_put hnx, ?_, ?_, ?_⟩
  ·intro i hi
   unfold Env.put at hi
   split at hi
   ·exact .inr (by assumption)
   ·exact .inl hi
  ·have hnew : (ρ.put nx ⟨L.blk, L.base + off * j.ty.size, L.n, .row j.ty⟩) nx = some ⟨L.blk, L.base + off * j.ty.size, L.n, .row j.ty⟩ := by simp [Env.put]
   refine ⟨_, hnew, _, _, a, c, rfl, rfl, rfl, by omega, k4, (fun k hk => by cases hk), fun h0 => ?_⟩
   obtain ⟨k7, k8⟩ := k6 h0
   simp only [aE, Nat.add_zero] at k7 k8
   refine ⟨by rw [k7]; simp [aE], ?_⟩
   simp only [aE, Nat.add_zero, Nat.zero_add]
   rw [Nat.add_mul] at k8
   omega
  ·refine hI.renew (hm _ _ hg) hrw h2 hnx hlt rfl ⟨rfl, hf, o7, _, t, fr, pre ++ f1, f2 ++ xs, tail.drop (k * j.ty.size), i6 m1, ?_, ?_, ?_, ?_, ?_⟩
   ·rw [hfe]; simp
   ·simp [m3, hf1l]
   ·rw [hsz, m4]
   ·show All2 _ y.flat _
    rw [oR hy]
    exact (hf2.append b3).mono fun _ _ => RepS.mono (Env.le_put hnx)
   ·intro _
    have := m6 hrw
    unfold dW at this ⊢
    rw [hsz]
    exact this
theorem tG {alt ts tx : Nat} {ty : TypeId} {s x : D} {vs vx : Value} {e : Eff} (hnx : ρ nx = none) (he : iE Γ nx mg alt ts tx s x = some e) (ho : e.ob) (hs : Rep ρ s vs) (hx : Rep ρ x vx) :
  Sound P (Builtin.append_ #[ts, tx] ty #[vs, vx]) id X ρ m w nx e := by
 unfold iE at he
 split at he
 rotate_left
 ·split at he <;> try contradiction
  rename_i hi64
  have hut : P.underlying tx = some (.int .i64) := by
   unfold isI64 at hi64
   split at hi64 <;> try contradiction
   rename_i i hi
   have hdd := (hΓ tx i hi).desc
   unfold aX at hdd
   split at hi64 <;> try contradiction
   rename_i hd
   rw [hd] at hdd
   exact hdd.1
  split at he <;> try contradiction
  ·split at he <;> try contradiction
   rename_i k
   split at he <;> try contradiction
   rename_i _ el j hj
   obtain ⟨g1, hj, hnz⟩ := fH hΓ hI hj
   obtain ⟨o1, o2, o3, o4⟩ := rN hΓ hI he ho
   have hs : vs = .slice none 0 0 := hs
   obtain ⟨rfl, _⟩ := hx
   subst hs
   unfold l9 at he
   split at he <;> try contradiction
   rename_i hlt
   cases he
   obtain ⟨r, w', ρ', r1, r2, r3, r4, r5⟩ := xX hΓ hI hm (ty := ty) g1 hj hut o1 hnz o2 o3 o4 hnx (by simp [Nat.blt] at hlt; omega)
   exact ⟨r, w', ρ', r1, r2, fun i hi => by rcases r3 i hi with h | h; exact .inl h; exact .inr ⟨by omega, by simp; omega⟩, r4, r5⟩
  ·rename_i b off len cap
   split at he <;> try contradiction
   rename_i k
   split at he <;> try contradiction
   rename_i _ el j hj
   obtain ⟨g1, hj, hnz⟩ := fH hΓ hI hj
   split at he <;> try contradiction
   rename_i ob1 sd hsd
   split at he <;> try contradiction
   rename_i y hy
   split at he <;> try contradiction
   rename_i en hg
   split at he <;> try contradiction
   rename_i hrw
   split at he <;> try contradiction
   rename_i T0 hrow
   split at he <;> try contradiction
   rename_i hlt
   cases he
   obtain ⟨o1, ⟨o3, o4, o5, o6⟩, o7⟩ := ho
   have hlt : nx < 1000000 := by simp [Nat.blt] at hlt; omega
   have hok := hΓ el j hj
   have hf := hok.flat
   obtain ⟨rfl, _⟩ := hx
   obtain ⟨n, rfl⟩ : ∃ n : Nat, k = n := ⟨k.toNat, by omega⟩
   simp only [Int.toNat_natCast] at hy o4 o5 o7 ⊢
   obtain ⟨r, w', ρ', r1, r2, r3, r4, r5⟩ := oW hΓ hI hm (ts := ts) (tx := tx) (ty := ty) (k := n) (vx := .int .i64 (n : Int)) (xd := cN j.zero n) hnx hlt hsd o1 hg hrw hrow hf hj hy o7 hs
    (fun a c hv hc => by
     have hId := hI.drew
     obtain ⟨a1, os, a2, a3, a4⟩ := cO hΓ hId hm hj hsd o1 hs
     subst hv
     exact sF hΓ hI hm ((b, none) :: m) (hI.drop b) g1 hj hut hc hnz a2 o4 o5 o6 hnx hlt a4 o7 (fun zs hz => by rw [oR hy]; exact a3.append hz))
    (fun a c hv hc => by
     obtain ⟨zs, z1, z2, z3⟩ := vQ hΓ hI hm (ty := ty) (a := a) g1 hj hut hc hnz (Nat.le_trans (Nat.mul_le_mul_right _ (Nat.le_add_left n len)) o4) o5
     exact ⟨zs, z1, z2 ρ, z3⟩)
   exact ⟨r, w', ρ', r1, r2, fun i hi => by rcases r3 i hi with h | h; exact .inl h; exact .inr ⟨by omega, by simp; omega⟩, r4, r5⟩
 rename_i hnot
 split at he <;> try contradiction
 rename_i _ el j hj
 obtain ⟨g1, hj, hnz⟩ := fH hΓ hI hj
 split at he <;> try contradiction
 rename_i n hn
 split at he <;> try contradiction
 rename_i k hk
 split at he <;> try contradiction
 rename_i ob1 sd hsd
 split at he <;> try contradiction
 rename_i ob2 xd hxd
 obtain ⟨hlx, hk63⟩ := lB (P := P) hΓ hI hm hk hx w
 have hf := (hΓ el j hj).flat
 have grow : ∀ (m' : Mem) (_ : Inv X ρ m' w) (c : Nat) (base : Option Addr) (y : D), aEP sd xd = some y → vs = .slice base n c → c < n + k → ob1 → ob2 → (n + k) * j.bytes ≤ 140737488355328 → n + k < 9223372036854775808 → 0 < j.bytes → nx < 1000000 →
   ∃ r w' ρ', (Builtin.append_ #[ts, tx] ty #[vs, vx]).run P w = .ok r w' ∧ ρ.le ρ' ∧ (∀ i, ρ' i ≠ none → ρ i ≠ none ∨ i = nx) ∧ Rep ρ' (.slice nx [] 0 (n + k) none) r ∧
    Inv X ρ' ((nx, some ⟨.row j.ty, y, true⟩) :: m') w' := by
  intro m' hI' c base y hy hvs hc h1 h2 h3 h4 h5 h6
  have hId := hI.drew
  obtain ⟨a1, os, a2, a3, a4⟩ := cO hΓ hId hm hj hsd h1 hs
  obtain ⟨b1, xs, b2, b3, b4⟩ := cO hΓ hId hm hj hxd h2 hx
  subst hvs
  refine vR hΓ hI hm m' hI' g1 hj hnot hlx hc a2 b2 h3 h4 h5 hnx h6 (by rw [List.length_append, a4, b4, Nat.add_mul]) (aC8 hy a1 b1) ?_
  rw [oR hy]
  exact a3.append b3
 split at he
 ·-- nothing comes
  split at he <;> try contradiction
  ·rename_i b p off len cap
   cases he
   obtain ⟨⟨o1, o2⟩, o3⟩ := ho
   subst o3
   obtain ⟨b1, xs, b2, b3, b4⟩ := cO hΓ hI hm hj hxd o2 hx
   have hxs : xs = [] := List.length_eq_zero_iff.1 (by rw [b4]; simp)
   subst hxs
   have hs' := hs
   obtain ⟨L, h2, T1, t1, a, c, k1, k2, rfl, k3, k4, k5, k6⟩ := hs'
   exact Sound.pure hI (oV hΓ hI hm (n := len) (k := 0) g1 hj hnot hlx (by omega) b2 rfl) hs
  ·cases he
   obtain ⟨⟨o1, o2⟩, o3⟩ := ho
   subst o3
   obtain ⟨b1, xs, b2, b3, b4⟩ := cO hΓ hI hm hj hxd o2 hx
   have hs' : vs = .slice none 0 0 := hs
   subst hs'
   exact Sound.pure hI (xW hΓ hI hm g1 hj hnot hlx b2) rfl
 ·-- a new row
  split at he <;> try contradiction
  rename_i y hy
  split at he <;> try contradiction
  ·rename_i b p off len c
   have ho' := rN hΓ hI he ho
   obtain ⟨⟨o1, o2⟩, ⟨o3, o4, o5, o6⟩, o7⟩ := ho'
   unfold l9 at he
   split at he <;> try contradiction
   rename_i hlt
   cases he
   simp only [oO, Option.some.injEq] at hn
   subst hn
   have hs' := hs
   obtain ⟨L, h2, T1, t1, a, c', k1, k2, hv, k3, k4, k5, k6⟩ := hs'
   have := k5 c rfl
   subst this
   obtain ⟨r, w', ρ', r1, r2, r3, r4, r5⟩ := grow m hI c' (some a) y hy hv o3 o1 o2 o4 o5 o6 (by simp [Nat.blt] at hlt; omega)
   exact ⟨r, w', ρ', r1, r2, fun i hi => by rcases r3 i hi with h | h; exact .inl h; exact .inr ⟨by omega, by simp; omega⟩, r4, r5⟩
  ·have ho' := rN hΓ hI he ho
   obtain ⟨⟨o1, o2⟩, ⟨o3, o4, o5, o6⟩, o7⟩ := ho'
   unfold l9 at he
   split at he <;> try contradiction
   rename_i hlt
   cases he
   simp only [oO, Option.some.injEq] at hn
   subst hn
   have hv : vs = .slice none 0 0 := hs
   obtain ⟨r, w', ρ', r1, r2, r3, r4, r5⟩ := grow m hI 0 none y hy hv (by omega) o1 o2 o4 o5 o6 (by simp [Nat.blt] at hlt; omega)
   exact ⟨r, w', ρ', r1, r2, fun i hi => by rcases r3 i hi with h | h; exact .inl h; exact .inr ⟨by omega, by simp; omega⟩, r4, r5⟩
 ·-- the row is given up: it goes on where it is, or anew
  split at he <;> try contradiction
  rename_i y hy
  split at he <;> try contradiction
  rename_i b off len cap
  split at he <;> try contradiction
  rename_i en hg
  split at he <;> try contradiction
  rename_i hrw
  split at he <;> try contradiction
  rename_i T0 hrow
  split at he <;> try contradiction
  rename_i hlt
  cases he
  simp only [oO, Option.some.injEq] at hn
  subst hn
  obtain ⟨⟨o1, o2⟩, ⟨o4, o5, o6⟩, o7⟩ := ho
  have hlt : nx < 1000000 := by simp [Nat.blt] at hlt; omega
  obtain ⟨r, w', ρ', r1, r2, r3, r4, r5⟩ := oW hΓ hI hm (ts := ts) (tx := tx) (ty := ty) (k := k) (vx := vx) (xd := xd) hnx hlt hsd o1 hg hrw hrow hf hj hy o7 hs
   (fun a c hv hc => grow ((b, none) :: m) (hI.drop b) c (some a) y hy hv hc o1 o2 o4 o5 o6 hlt)
   (fun a c hv hc => by
    obtain ⟨b1, xs, b2, b3, b4⟩ := cO hΓ hI hm hj hxd o2 hx
    exact ⟨xs, b4, b3, fun w' hst => oV hΓ hI hm g1 hj hnot hlx hc b2 hst⟩)
  exact ⟨r, w', ρ', r1, r2, fun i hi => by rcases r3 i hi with h | h; exact .inl h; exact .inr ⟨by omega, by simp; omega⟩, r4, r5⟩
theorem aAV {src dst : Nat} {x : D} {v : Value} {e : Eff} (hnx : ρ nx = none) (he : vD Γ nx mg src dst x = some e) (ho : e.ob) (hx : Rep ρ x v) : Sound P (convert src dst v) id X ρ m w nx e := by
 unfold vD at he
 split at he <;> try contradiction
 rename_i i hi
 split at he <;> try contradiction
 rename_i k hk
 have hdi := (hΓ src i hi).desc
 have hdk := (hΓ dst k hk).desc
 unfold aX at hdi hdk
 split at he <;> try contradiction
 ·rename_i k1 k2 h1 h2
  rw [h1] at hdi
  rw [h2] at hdk
  split at he <;> try contradiction
  rename_i y hy
  cases he
  obtain ⟨jj, n, r, rfl, hr, hrep⟩ := wQ (P := P) (w := w) hy hx
  refine Sound.pure hI (r := r) ?_ hrep
  simp [convert, underlying, hdi.1, hdk.1, hr]
 ·rename_i h1 h2
  rw [h1] at hdi
  rw [h2] at hdk
  split at he <;> try contradiction
  rename_i l
  cases he
  have hx' := hx
  obtain ⟨s, rfl, hs, hlen⟩ := hx'
  refine Sound.pure hI (r := .string s) ?_ hx
  simp [convert, underlying, hdi.1, hdk.1]
 ·rename_i el0 el h1 h2
  rw [h1] at hdi
  rw [h2] at hdk
  split at he <;> try contradiction
  rename_i hbeq
  split at he <;> try contradiction
  rename_i j hj
  split at he <;> try contradiction
  rename_i hjd
  split at he <;> try contradiction
  rename_i b p off len cap
  split at he <;> try contradiction
  rename_i en hg
  split at he <;> try contradiction
  rename_i hrw
  cases he
  have hdj := (hΓ el j hj).desc
  unfold aX at hdj
  rw [hjd] at hdj
  obtain rfl := Nat.eq_of_beq_eq_true hbeq
  have ho : 0 < len := ho
  have hx' := hx
  obtain ⟨L, h2', T1, t1, a, c, k1, k2, rfl, k3, k4, k5, k6⟩ := hx'
  obtain ⟨k7, _⟩ := k6 (by omega)
  obtain ⟨L', h3, h4⟩ := hI.sat b en (hm _ _ hg)
  rw [h2'] at h3; cases h3
  obtain ⟨C, t, fr, pre, front, tail, m1, m2, m3, m4, m5, m6⟩ := h4.mem
  refine ⟨_, _, ρ, ?_, Env.le_refl ρ, fun _ h => .inl h, hx, hI.frz (hm _ _ hg) hrw h2' m1⟩
  have hsh : w.shape? L.blk = some (t, C.size) := by simp [World.shape?, m1]
  simp [convert, run_underlying hdk.1, run_underlying hdj.1, markStringish, k7, hsh]
 ·rename_i el h1 h2
  rw [h1] at hdi
  rw [h2] at hdk
  split at he <;> try contradiction
  rename_i j hj
  split at he <;> try contradiction
  rename_i hjd
  split at he <;> try contradiction
  rename_i l
  have hdj := (hΓ el j hj).desc
  unfold aX at hdj
  rw [hjd] at hdj
  obtain ⟨s, rfl, hs, hlen⟩ := hx
  have hsz : s.size = l.length := by
   have := congrArg List.length hs
   rw [aZ, List.length_map, Array.length_toList] at this
   exact this
  let cap := (Question.appendCap s.size 0 el).cut (w.tape w.drawn (.appendCap s.size 0 el))
  have hcap : s.size ≤ cap ∧ cap < 9223372036854775808 := by
   show s.size ≤ s.size + w.tape w.drawn (.appendCap s.size 0 el) % (2 ^ 63 - s.size) ∧ s.size + w.tape w.drawn (.appendCap s.size 0 el) % (2 ^ 63 - s.size) < 9223372036854775808
   have : w.tape w.drawn (.appendCap s.size 0 el) % (2 ^ 63 - s.size) < 2 ^ 63 - s.size := Nat.mod_lt _ (by omega)
   omega
  let C : Array Value := (s.data.map fun b => .int .u8 b.toNat) ++ Array.replicate (cap - s.size) (.int .u8 0)
  have hCs : C.size = cap := by
   show ((s.data.map fun b : UInt8 => (Value.int .u8 b.toNat)) ++ Array.replicate (cap - s.size) (Value.int .u8 0)).size = cap
   have : s.data.size = s.size := rfl
   rw [Array.size_append, Array.size_map, Array.size_replicate]
   omega
  refine gQ hΓ hI (C := C) (t := el) (front := l.map fun b => .int .u8 b.toNat) (tail := List.replicate (cap - s.size) (.int .u8 0)) (r := .slice (some ⟨w.drew.heap.size, 0, none⟩) s.size cap) (fr := (C.size, C.size + 1)) hnx he trivial trivial ?_ ?_ hI.drew (.inr (Nat.le_refl _)) ?_ ?_
  ·show All2 (RepS ρ) (l.map D.u8) (l.map fun b => (.int .u8 b.toNat : Value))
   rw [All2.map_left, All2.map_right]
   exact All2.refl_of (R := fun a b => RepS ρ (D.u8 a) (Value.int IntKind.u8 (BitVec.toNat b))) (fun a => rfl) _
  ·show (_ : Array Value).toList = _
   rw [Array.toList_append, Array.toList_map, hs, Array.toList_replicate]
   unfold aZ
   rw [List.map_map]
   rfl
  ·have hfz := xK w.drew C el
   have hshape : (w.drew.alloc (.cells C el)).shape? w.drew.heap.size = some (el, C.size) := by
    unfold World.shape?
    rw [zD]
   have hconv : (convert src dst (.string s)).run P w = (Conv.stringToBytes el s).run P w := by
    simp [convert, underlying, hdi.1, hdk.1, hdj.1]
   rw [hconv]
   simp only [Conv.stringToBytes, Sem.run_bind, run_choose, Question.forced, Bool.false_eq_true, if_false, Result.andThen_ok, World.drew_eq, newRow, run_newObj, World.alloc_eq, Sem.run_pure, markStringish, run_shape]
   have : (w.drew.alloc (.cells C el)).shape? w.drew.heap.size = some (el, C.size) := hshape
   rw [show (w.drew.alloc (Obj.cells (Array.map (fun b => Value.int IntKind.u8 b.toNat) s.data ++ Array.replicate (Question.cut (Question.appendCap s.size 0 el) (w.tape w.drawn (Question.appendCap s.size 0 el)) - s.size) (Value.int IntKind.u8 0)) el)) = w.drew.alloc (.cells C el) from rfl]
   rw [this]
   simp only [run_freeze, Result.andThen_ok]
   rw [hfz]
  ·intro ρ' _ h'
   refine ⟨_, h', _, _, ⟨w.drew.heap.size, 0, none⟩, cap, rfl, rfl, by rw [hsz]; rfl, by omega, hcap.2, (fun k hk => by cases hk), fun hc => ⟨by simp [aE], by simp [aE, Ty.size]; omega⟩⟩
 ·rename_i el h1 h2
  rw [h1] at hdi
  rw [h2] at hdk
  split at he <;> try contradiction
  rename_i j hj
  split at he <;> try contradiction
  rename_i hjd
  split at he <;> try contradiction
  rename_i n hn
  split at he <;> try contradiction
  rename_i ob l hel
  have hdj := (hΓ el j hj).desc
  unfold aX at hdj
  rw [hjd] at hdj
  have key : x ≠ .str [] → (∀ q, x ≠ .str q) → e = ⟨ob ∧ l.length = n, .str l, [], 0⟩ → Sound P (convert src dst v) id X ρ m w nx e := by
   intro _ hns hee
   subst hee
   obtain ⟨o1, o2⟩ := ho
   obtain ⟨a1, cs, a2, a3, a4⟩ := cO hΓ hI hm hj hel o1 hx
   have hcell : j.ty = .cell := hdj.2
   rw [hcell] at a2 a4
   simp only [D.flat] at a3
   rw [All2.map_left] at a3
   have hcs : cs = l.map fun b => (.int .u8 b.toNat : Value) := (All2.eq (fun b : BitVec 8 => (Value.int .u8 b.toNat))).1 a3
   obtain ⟨hlen, hk63⟩ := lB (P := P) hΓ hI hm hn hx w
   have hst : ∀ (l : List xZ) (s : ByteArray), ((l.map fun b => ((b.toNat : Nat) : Int)).foldl (fun r n => r.push (UInt8.ofNat n.toNat)) s).data.toList = s.data.toList ++ aZ l := by
    intro l
    induction l with
    |nil => intro s; simp [aZ]
    |cons b l ih =>
     intro s
     rw [List.map_cons, List.foldl_cons, ih]
     have : UInt8.ofNat (((b.toNat : Nat) : Int)).toNat = UInt8.ofBitVec b := by
      rw [Int.toNat_natCast]
      apply UInt8.toNat_inj.1
      have := b.isLt
      simp
     rw [this]
     simp [aZ, ByteArray.push]
   have hcs2 : cs = (l.map fun b => ((b.toNat : Nat) : Int)).map (Value.int .u8) := by rw [hcs, List.map_map]; rfl
   have hrv : (convert src dst v).run P w = (Conv.bytesToString v).run P w ∧ (∃ s : ByteArray, (Conv.bytesToString v).run P w = .ok (.string s) w ∧ s.data.toList = aZ l) := by
    cases x <;> simp only [oO, Option.some.injEq] at hn <;> try contradiction
    ·have hx : v = .slice none 0 0 := hx
     subst hx hn
     refine ⟨run_convert_bytes_string w src dst el none 0 0 hdi.1 hdj.1 hdk.1, ⟨.empty, rfl, ?_⟩⟩
     have : l = [] := List.length_eq_zero_iff.1 o2
     subst this
     rfl
    ·obtain ⟨L, h2, T1, t1, a, c, k1, k2, rfl, k3, k4, k5, k6⟩ := hx
     subst hn
     refine ⟨run_convert_bytes_string w src dst el (some a) _ c hdi.1 hdj.1 hdk.1, ⟨_, run_bytesToString w a _ c (l.map fun b => ((b.toNat : Nat) : Int)) ?_, ?_⟩⟩
     ·rw [← hcs2]
      simpa [Builtin.firstCells, Ty.size] using a2
     ·rw [hst]; rfl
   obtain ⟨hc1, s, hc2, hc3⟩ := hrv
   exact Sound.pure hI (r := .string s) (by rw [hc1, hc2]) ⟨s, rfl, hc3, by omega⟩
  split at he <;> try contradiction
  rename_i hns
  cases he
  exact key (hns []) hns rfl
end
abbrev TM := List (Nat × D)
def lk : TM → Nat → Option D
 |[], _ => none
 |(i, d) :: r, t => match Nat.beq i t with
  |true => some d
  |false => lk r t
theorem fL {i t : Nat} {d : D} {r : TM} : lk ((i, d) :: r) t = if i = t then some d else lk r t := by
 simp only [lk]
 by_cases h : i = t
 ·subst h; simp
 ·have : Nat.beq i t = false := by
   cases hb : Nat.beq i t with
   |false => rfl
   |true => exact absurd (Nat.eq_of_beq_eq_true hb) h
  simp [h, this]
def aE1 (b : UInt8) : xZ := b.toBitVec
def xB : Value → Option D
 |.bool b => some (.bool b)
 |.int .u8 n => match decide (0 ≤ n ∧ n < 256) with
  |true => some (.u8 (BitVec.ofNat 8 n.toNat))
  |false => none
 |.int .u16 n => match decide (0 ≤ n ∧ n < 65536) with
  |true => some (.u16 (BitVec.ofNat 16 n.toNat))
  |false => none
 |.int .u32 n => match decide (0 ≤ n ∧ n < 4294967296) with
  |true => some (.u32 (BitVec.ofNat 32 n.toNat))
  |false => none
 |.int .u64 n => match decide (0 ≤ n ∧ n < 18446744073709551616) with
  |true => some (.u64 (BitVec.ofNat 64 n.toNat))
  |false => none
 |.int .i64 n => match decide (-9223372036854775808 ≤ n ∧ n < 9223372036854775808) with
  |true => some (.i64 n)
  |false => none
 |.string s => match decide (s.data.toList.length < 9223372036854775808) with
  |true => some (.str (s.data.toList.map aE1))
  |false => none
 |.pointer none => some .nilptr
 |.slice none 0 0 => some .nilslice
 |.nilFunc => some .nilfn
 |_ => none
theorem uA {v : Value} {d : D} (h : xB v = some d) (ρ : Env) : Rep ρ d v := by
 unfold xB at h
 split at h
 all_goals try contradiction
 case h_1 => cases h; rfl
 case h_2 n =>
  split at h <;> try contradiction
  rename_i hn; have hn := of_decide_eq_true hn
  cases h
  show Value.int _ _ = .int _ _
  congr 1
  simp; omega
 case h_3 n =>
  split at h <;> try contradiction
  rename_i hn; have hn := of_decide_eq_true hn
  cases h
  show Value.int _ _ = .int _ _
  congr 1
  simp; omega
 case h_4 n =>
  split at h <;> try contradiction
  rename_i hn; have hn := of_decide_eq_true hn
  cases h
  show Value.int _ _ = .int _ _
  congr 1
  simp; omega
 case h_5 n =>
  split at h <;> try contradiction
  rename_i hn; have hn := of_decide_eq_true hn
  cases h
  show Value.int _ _ = .int _ _
  congr 1
  simp; omega
 case h_6 n =>
  split at h <;> try contradiction
  rename_i hn; have hn := of_decide_eq_true hn
  cases h
  exact ⟨rfl, hn⟩
 case h_7 s =>
  split at h <;> try contradiction
  rename_i hn; have hn := of_decide_eq_true hn
  cases h
  refine ⟨s, rfl, ?_, by simpa using hn⟩
  unfold aZ aE1
  rw [List.map_map]
  exact (List.map_id _).symm.trans (List.map_congr_left fun b _ => by cases b; rfl)
 all_goals (cases h; rfl)
def opd (tm : TM) (mg : MG) (x : Operand) : Option D :=
 match x with
 |.tmp t => lk tm t
 |.const v => xB v
 |.func f => some (.fn f [] [])
 |.global g => match Nat.blt g 1000000 with
  |true => match mg (gid g) with
   |some _ => some (.ptr (gid g) [])
   |none => none
  |false => none
def jK (E : Operand → Option D) : List Operand → Option (List D)
 |[] => some []
 |x :: xs => match E x with
  |some d => match jK E xs with
   |some ds => some (d :: ds)
   |none => none
  |none => none
def r8 (E : Operand → Option D) : List (Nat × Operand) → Option (List (Nat × D))
 |[] => some []
 |(k, x) :: xs => match E x with
  |some d => match r8 E xs with
   |some ds => some ((k, d) :: ds)
   |none => none
  |none => none
def jJ (E : Operand → Option D) : Option Operand → Option (Option D)
 |none => some none
 |some x => match E x with
  |some d => some (some d)
  |none => none
def t9 (r : Option (Prop × D)) : Option Eff :=
 match r with
 |some (ob, v) => some ⟨ob, v, [], 0⟩
 |none => none
def kK (Γ : Tab) (nx : Nat) (mg : MG) (alt : Nat) (b : Builtin) (ats : List Nat) (args : List D) : Option Eff :=
 match b, ats, args with
 |.len, [t], [x] => lenE Γ t x
 |.copy, [td, _], [x, y] => aCj Γ mg td x y
 |.append, [ts, tx], [x, y] => iE Γ nx mg alt ts tx x y
 |.max, _, [x, y] => kZ true x y
 |.min, _, [x, y] => kZ false x y
 |.cap, [t], [x] => capE Γ t x
 |_, _, _ => none
def opE (Γ : Tab) (nx : Nat) (mg : MG) (E : Operand → Option D) (alt : Nat) (op : Op) : Option Eff :=
 match op with
 |.move x => match E x with
  |some d => cL True d
  |none => none
 |.assign x => match E x with
  |some d => cL True d
  |none => none
 |.pick c a b => match pickD (E c) (E a) (E b) with
  |some d => cL True d
  |none => none
 |.alloc t => vU Γ nx t
 |.box t x => match E x with
  |some d => boxE Γ nx t d
  |none => none
 |.build t ps => match r8 E ps.toList with
  |some l => aAD Γ t l
  |none => none
 |.buildSlice t n ps => match r8 E ps.toList with
  |some l => fA Γ nx t n l
  |none => none
 |.load t a => match E a with
  |some d => aAi Γ mg t d
  |none => none
 |.store t a v => match E a with
  |some d => match E v with
   |some y => tE Γ mg t d y
   |none => none
  |none => none
 |.nilCheck x => match E x with
  |some (.ptr b p) => cL True (.ptr b p)
  |some (.fn f bs cs) => cL True (.fn f bs cs)
  |_ => none
 |.binOp op t x y _ => match E x with
  |some a => match E y with
   |some b => t9 (binD Γ t op a b)
   |none => none
  |none => none
 |.unOp op _ x => match E x with
  |some a => t9 (unD op a)
  |none => none
 |.convert s d x => match E x with
  |some a => vD Γ nx mg s d a
  |none => none
 |.sliceToArrayPointer t x => match E x with
  |some a => yG Γ mg t a
  |none => none
 |.makeFunc fn first caps => match fn with
  |.func f => match jK E first.toList with
   |some l0 => match kM l0 with
    |true => match jK E caps.toList with
     |some l => match kM l with
      |true => cL True (.fn f l0 l)
      |false => none
     |none => none
    |false => none
   |none => none
  |_ => none
 |.makeSlice t l c => match E l with
  |some a => match E c with
   |some b => fT Γ nx t a b
   |none => none
  |none => none
 |.slice t x lo hi mx => match E x with
  |some a => match jJ E lo with
   |some lo => match jJ E hi with
    |some hi => match jJ E mx with
     |some mx => yK Γ mg t a lo hi mx
     |none => none
    |none => none
   |none => none
  |none => none
 |.fieldAddr s x f => match E x with
  |some a => fW Γ mg s a f
  |none => none
 |.field s x f => match E x with
  |some a => zW Γ s a f
  |none => none
 |.indexAddr t x i => match E x with
  |some a => match E i with
   |some b => iS Γ mg t a b
   |none => none
  |none => none
 |.index t x i => match E x with
  |some a => match E i with
   |some b => match strOk Γ t a with
    |true => zO Γ t a b
    |false => none
   |none => none
  |none => none
 |.extract x i => match E x with
  |some (.tup l) => match nth l i with
   |some d => match d.isTup with
    |false => cL True d
    |true => none
   |none => none
  |_ => none
 |.call c => match c.callee with
  |.builtin b => match jK E c.args.toList with
   |some l => kK Γ nx mg alt b c.argTypes.toList l
   |none => none
  |_ => none
 |_ => none
where
 strOk (Γ : Tab) (t : Nat) (x : D) : Bool :=
  match x with
  |.str _ => match ti Γ t with
   |some i => match i.desc with
    |.str => true
    |_ => false
   |none => false
  |_ => true
def OpSound (P : Program) (s : Sem Next) (X : Ctx) (ρ : Env) (m : Mem) (w : World) (nx : Nat) (e : Eff) : Prop :=
 ∃ v w' ρ', (s.run P w = .ok (.value v) w' ∨ (v = undef ∧ s.run P w = .ok .skip w')) ∧ ρ.le ρ' ∧ (∀ i, ρ' i ≠ none → ρ i ≠ none ∨ (nx ≤ i ∧ i < nx + e.nw)) ∧ Rep ρ' e.v v ∧ Inv X ρ' (e.up ++ m) w'
theorem OpSound.of {P : Program} {s : Sem Value} {X : Ctx} {ρ : Env} {m : Mem} {w : World} {nx : Nat} {e : Eff} (h : Sound P s id X ρ m w nx e) : OpSound P (do pure (.value (← s))) X ρ m w nx e := by
 obtain ⟨r, w', ρ', h1, h2, h3, h4, h5⟩ := h
 exact ⟨r, w', ρ', .inl (by rw [Sem.run_bind, h1]; rfl), h2, h3, h4, h5⟩
theorem OpSound.ofUnit {P : Program} {s : Sem Unit} {X : Ctx} {ρ : Env} {m : Mem} {w : World} {nx : Nat} {e : Eff} (h : Sound P s (fun _ => undef) X ρ m w nx e) : OpSound P (do s; pure .skip) X ρ m w nx e := by
 obtain ⟨r, w', ρ', h1, h2, h3, h4, h5⟩ := h
 exact ⟨undef, w', ρ', .inr ⟨rfl, by rw [Sem.run_bind, h1]; rfl⟩, h2, h3, h4, h5⟩
theorem OpSound.pure {P : Program} {s : Sem Next} {X : Ctx} {ρ : Env} {m : Mem} {w : World} {nx : Nat} {v : D} {r : Value} (hI : Inv X ρ m w) (hr : s.run P w = .ok (.value r) w) (hv : Rep ρ v r) :
  OpSound P s X ρ m w nx ⟨True, v, [], 0⟩ :=
 ⟨r, w, ρ, .inl hr, Env.le_refl ρ, fun _ h => .inl h, hv, hI⟩
section
set_option linter.unusedSectionVars false
variable {P : Program} {Γ : Tab} (hΓ : b8 P Γ) {X : Ctx} {ρ : Env} {m : Mem} {w : World} (hI : Inv X ρ m w) {mg : MG} (hm : ∀ b e, mg b = some e → get m b = some e) {nx : Nat} (hnx : ρ nx = none)
 {E : Operand → Option D} {a : Act} (hE : ∀ x d, E x = some d → Rep ρ d (a.eval x))
include hE
omit hE in
theorem mG {E : Operand → Option D} (hE : ∀ x d, E x = some d → Rep ρ d (a.eval x)) : ∀ {xs : List Operand} {ds : List D}, jK E xs = some ds → All2 (Rep ρ) ds (xs.map a.eval)
 |[], ds, h => by simp only [jK, Option.some.injEq] at h; subst h; trivial
 |x :: xs, ds, h => by
  simp only [jK] at h
  split at h <;> try contradiction
  rename_i d hd
  split at h <;> try contradiction
  rename_i l hl
  cases h
  exact ⟨hE x d hd, mG hE hl⟩
omit hE in
theorem nM {E : Operand → Option D} (hE : ∀ x d, E x = some d → Rep ρ d (a.eval x)) : ∀ {xs : List (Nat × Operand)} {ds : List (Nat × D)}, r8 E xs = some ds →
  All2 (fun (p : Nat × D) (q : Nat × Value) => p.1 = q.1 ∧ Rep ρ p.2 q.2) ds (xs.map fun (i, x) => (i, a.eval x))
 |[], ds, h => by simp only [r8, Option.some.injEq] at h; subst h; trivial
 |(k, x) :: xs, ds, h => by
  simp only [r8] at h
  split at h <;> try contradiction
  rename_i d hd
  split at h <;> try contradiction
  rename_i l hl
  cases h
  exact ⟨⟨rfl, hE x d hd⟩, nM hE hl⟩
omit hE in
theorem w2 {E : Operand → Option D} (hE : ∀ x d, E x = some d → Rep ρ d (a.eval x)) {x : Option Operand} {d : Option D} (h : jJ E x = some d) : RepO ρ d (x.map a.eval) := by
 cases x with
 |none => simp only [jJ, Option.some.injEq] at h; subst h; trivial
 |some x =>
  simp only [jJ] at h
  split at h <;> try contradiction
  rename_i d' hd
  cases h
  exact hE x d' hd
omit hE in
theorem iF {ρ : Env} : ∀ {l : List D} {vs : List Value}, kM l = true → All2 (Rep ρ) l vs → All2 (RepB ρ) l vs
 |[], [], _, _ => trivial
 |d :: ds, v :: vs, h, H => by
  simp only [kM] at h
  split at h <;> try contradiction
  rename_i hb
  exact ⟨aA1 hb H.1, iF h H.2⟩
 |[], _ :: _, _, H => H.elim
 |_ :: _, [], _, H => H.elim
include hΓ hI hm hnx
set_option maxHeartbeats 2000000 in
theorem zG {alt : Nat} {o : Oper} {e : Eff} (he : opE Γ nx mg E alt o.op = some e) (ho : e.ob) : OpSound P (execOp a.eval o) X ρ m w nx e := by
 obtain ⟨dst, op, type, pos, after, guard⟩ := o
 dsimp only at he
 unfold opE at he
 split at he
 case h_1 x =>
  split at he <;> try contradiction
  rename_i d hd
  cases he
  exact OpSound.pure hI rfl (hE x d hd)
 case h_2 x =>
  split at he <;> try contradiction
  rename_i d hd
  cases he
  exact OpSound.pure hI rfl (hE x d hd)
 case h_3 c x y =>
  split at he <;> try contradiction
  rename_i d hd
  cases he
  unfold pickD at hd
  split at hd <;> try contradiction
  ·rename_i hc
   have h1 : a.eval c = .bool true := hE c _ hc
   refine OpSound.pure hI (r := a.eval x) ?_ (hE x d hd)
   simp [execOp, h1, asBool]
  ·rename_i hc
   have h1 : a.eval c = .bool false := hE c _ hc
   refine OpSound.pure hI (r := a.eval y) ?_ (hE y d hd)
   simp [execOp, h1, asBool]
 case h_4 t => exact OpSound.of (wS hΓ hI hnx he)
 case h_5 t x =>
  split at he <;> try contradiction
  rename_i d hd
  exact OpSound.of (aB7 hΓ hI hnx he ho (hE x d hd))
 case h_6 t ps =>
  split at he <;> try contradiction
  rename_i l hl
  have := wR hΓ hI (nx := nx) he ho (nM hE hl)
  refine OpSound.of ?_
  have hh : (ps.map fun (i, x) => (i, a.eval x)) = (ps.toList.map fun (i, x) => (i, a.eval x)).toArray := Array.ext' (by rw [Array.toList_map])
  show Sound P (Instr.build t (ps.map fun (i, x) => (i, a.eval x))) id X ρ m w nx e
  rw [hh]; exact this
 case h_7 t n ps =>
  split at he <;> try contradiction
  rename_i l hl
  have := lZ hΓ hI hnx he ho (nM hE hl)
  refine OpSound.of ?_
  have hh : (ps.map fun (i, x) => (i, a.eval x)) = (ps.toList.map fun (i, x) => (i, a.eval x)).toArray := Array.ext' (by rw [Array.toList_map])
  show Sound P (Instr.buildSlice t n (ps.map fun (i, x) => (i, a.eval x))) id X ρ m w nx e
  rw [hh]; exact this
 case h_8 t x =>
  split at he <;> try contradiction
  rename_i d hd
  exact OpSound.of (aAT hΓ hI hm he ho (hE x d hd))
 case h_9 t x y =>
  split at he <;> try contradiction
  rename_i d hd
  split at he <;> try contradiction
  rename_i y' hy
  exact OpSound.ofUnit (wM hΓ hI hm he ho (hE x d hd) (hE y y' hy))
 case h_10 x =>
  split at he <;> try contradiction
  ·rename_i b p hd
   cases he
   obtain ⟨L, h1, h2⟩ := hE x _ hd
   refine OpSound.pure hI (r := a.eval x) ?_ ⟨L, h1, h2⟩
   simp [execOp, h2]
  ·rename_i f bs cs hd
   cases he
   have h1 := hE x _ hd
   obtain ⟨us, vs, h2, h3⟩ := h1
   refine OpSound.pure hI (r := a.eval x) ?_ ⟨us, vs, h2, h3⟩
   simp [execOp, h2]
 case h_11 op t x y _ =>
  split at he <;> try contradiction
  rename_i dx hx
  split at he <;> try contradiction
  rename_i dy hy
  unfold t9 at he
  split at he <;> try contradiction
  rename_i ob v hb
  cases he
  obtain ⟨r, h1, h2⟩ := aB8 hΓ (w := w) (o1 := x) (o2 := y) hb ho (hE x dx hx) (hE y dy hy)
  exact OpSound.of (Sound.pure hI h1 h2)
 case h_12 op _ x =>
  split at he <;> try contradiction
  rename_i dx hx
  unfold t9 at he
  split at he <;> try contradiction
  rename_i ob v hb
  cases he
  obtain ⟨r, h1, h2⟩ := aDP (P := P) (w := w) hb ho (hE x dx hx)
  exact OpSound.of (Sound.pure hI h1 h2)
 case h_13 s d x =>
  split at he <;> try contradiction
  rename_i dx hx
  exact OpSound.of (aAV hΓ hI hm hnx he ho (hE x dx hx))
 case h_14 t x =>
  split at he <;> try contradiction
  rename_i dx hx
  exact OpSound.of (wL hΓ hI hm he ho (hE x dx hx))
 case h_15 fn first caps =>
  split at he <;> try contradiction
  rename_i f
  split at he <;> try contradiction
  rename_i l0 hl0
  split at he <;> try contradiction
  rename_i hb0
  split at he <;> try contradiction
  rename_i l hl
  split at he <;> try contradiction
  rename_i hb
  cases he
  refine OpSound.pure hI (r := .func (.func f) (first.map a.eval) (caps.map a.eval)) (by simp [execOp, Instr.makeFunc]) ?_
  refine ⟨(first.toList.map a.eval), (caps.toList.map a.eval), ?_, iF hb0 (mG hE hl0), iF hb (mG hE hl)⟩
  have hm : ∀ xs : Array Operand, xs.map a.eval = (xs.toList.map a.eval).toArray := fun xs => Array.ext' (by simp)
  rw [hm first, hm caps]
 case h_16 t l c =>
  split at he <;> try contradiction
  rename_i dx hx
  split at he <;> try contradiction
  rename_i dy hy
  exact OpSound.of (nF hΓ hI hnx he ho (hE l dx hx) (hE c dy hy))
 case h_17 t x lo hi mx =>
  split at he <;> try contradiction
  rename_i dx hx
  split at he <;> try contradiction
  rename_i dlo hlo
  split at he <;> try contradiction
  rename_i dhi hhi
  split at he <;> try contradiction
  rename_i dmx hmx
  exact OpSound.of (wN hΓ hI hm he ho (hE x dx hx) (w2 hE hlo) (w2 hE hhi) (w2 hE hmx))
 case h_18 s x f =>
  split at he <;> try contradiction
  rename_i dx hx
  exact OpSound.of (nH hΓ hI hm he (hE x dx hx))
 case h_19 s x f =>
  split at he <;> try contradiction
  rename_i dx hx
  exact OpSound.of (wP hΓ hI he ho (hE x dx hx))
 case h_20 t x i =>
  split at he <;> try contradiction
  rename_i dx hx
  split at he <;> try contradiction
  rename_i dy hy
  exact OpSound.of (nG hΓ hI hm he ho (hE x dx hx) (hE i dy hy))
 case h_21 t x i =>
  split at he <;> try contradiction
  rename_i dx hx
  split at he <;> try contradiction
  rename_i dy hy
  split at he <;> try contradiction
  rename_i hs
  refine OpSound.of (wO hΓ hI he ho (hE x dx hx) (hE i dy hy) ?_)
  intro l hl
  subst hl
  unfold opE.strOk at hs
  simp only at hs
  split at hs <;> try contradiction
  rename_i i' hi'
  split at hs <;> try contradiction
  rename_i hd
  have := (hΓ t i' hi').desc
  unfold aX at this
  rw [hd] at this
  exact this.1
 case h_22 x i =>
  split at he <;> try contradiction
  rename_i l hx
  split at he <;> try contradiction
  rename_i d hd
  split at he <;> try contradiction
  rename_i ht
  cases he
  obtain ⟨vs, h1, h2⟩ := hE x _ hx
  rw [gK] at hd
  obtain ⟨v, h3, h4⟩ := h2.get i hd
  refine OpSound.of (Sound.pure hI (r := v) ?_ (by rw [eE ht]; exact h4))
  rw [h1]
  simp [Instr.extract, h3]
 case h_23 c =>
  split at he <;> try contradiction
  rename_i b hb
  split at he <;> try contradiction
  rename_i l hl
  have hargs := mG hE hl
  have hexec : ∀ {s : Sem Value}, (∀ cs : Array Bool, builtin b c.argTypes type cs (c.args.map a.eval) = (do pure (.value (← s)))) → OpSound P (do pure (.value (← s))) X ρ m w nx e →
    OpSound P (execOp a.eval ⟨dst, .call c, type, pos, after, guard⟩) X ρ m w nx e := by
   intro s hs H
   have : (execOp a.eval ⟨dst, .call c, type, pos, after, guard⟩).run P w = (do pure (.value (← s)) : Sem Next).run P w := by
    simp only [execOp, resolve, hb, Sem.run_bind, Sem.run_pure, Result.andThen_ok, invoke]
    rw [hs]
    simp only [Sem.run_bind, Sem.run_pure]
   obtain ⟨v, w', ρ', h1, h2⟩ := H
   rw [← this] at h1
   exact ⟨v, w', ρ', h1, h2⟩
  have harr : ∀ {α : Type} {xs : Array α} {ys : List α}, xs.toList = ys → xs = ys.toArray := fun h => Array.ext' h
  generalize hat : c.argTypes.toList = ats at he
  have one : ∀ {x}, l = [x] → ∃ v, c.args.map a.eval = #[v] ∧ Rep ρ x v := by
   intro x hx
   rw [hx] at hargs
   cases hv : c.args.toList.map a.eval with
   |nil => rw [hv] at hargs; exact hargs.elim
   |cons v vs =>
    rw [hv] at hargs
    cases vs with
    |nil => exact ⟨v, harr (by rw [Array.toList_map]; exact hv), hargs.1⟩
    |cons _ _ => exact hargs.2.elim
  have two : ∀ {x y}, l = [x, y] → ∃ v u, c.args.map a.eval = #[v, u] ∧ Rep ρ x v ∧ Rep ρ y u := by
   intro x y hx
   rw [hx] at hargs
   cases hv : c.args.toList.map a.eval with
   |nil => rw [hv] at hargs; exact hargs.elim
   |cons v vs =>
    rw [hv] at hargs
    cases vs with
    |nil => exact hargs.2.elim
    |cons u us =>
     cases us with
     |nil => exact ⟨v, u, harr (by rw [Array.toList_map]; exact hv), hargs.1, hargs.2.1⟩
     |cons _ _ => exact hargs.2.2.elim
  unfold kK at he
  split at he <;> try contradiction
  case h_1 t x =>
   obtain ⟨v, hv, hr⟩ := one rfl
   refine hexec (s := Builtin.len_ #[t] type #[v]) (fun cs => by rw [hv, harr hat]; rfl) (OpSound.of (aB4 hΓ hI he hr))
  case h_2 td ts x y =>
   obtain ⟨v, u, hv, hr, hr2⟩ := two rfl
   refine hexec (s := Builtin.copy_ #[td, ts] type #[v, u]) (fun cs => by rw [hv, harr hat]; rfl) (OpSound.of (aAU hΓ hI hm he ho hr hr2))
  case h_3 ts tx x y =>
   obtain ⟨v, u, hv, hr, hr2⟩ := two rfl
   refine hexec (s := Builtin.append_ #[ts, tx] type #[v, u]) (fun cs => by rw [hv, harr hat]; rfl) (OpSound.of (tG hΓ hI hm hnx he ho hr hr2))
  case h_4 x y =>
   obtain ⟨v, u, hv, hr, hr2⟩ := two rfl
   exact hexec (s := Builtin.max_ c.argTypes type #[v, u]) (fun cs => by rw [hv]; rfl) (OpSound.of (lM (at_ := c.argTypes) (ty := type) (mx := true) hI he hr hr2))
  case h_5 x y =>
   obtain ⟨v, u, hv, hr, hr2⟩ := two rfl
   exact hexec (s := Builtin.min_ c.argTypes type #[v, u]) (fun cs => by rw [hv]; rfl) (OpSound.of (lM (at_ := c.argTypes) (ty := type) (mx := false) hI he hr hr2))
  case h_6 t x =>
   obtain ⟨v, hv, hr⟩ := one rfl
   refine hexec (s := Builtin.cap_ #[t] type #[v]) (fun cs => by rw [hv, harr hat]; rfl) (OpSound.of (aB6 hΓ hI he hr))
 all_goals contradiction
end
mutual
def D.ren (s : Nat → Nat) : D → D
 |.ptr b p => .ptr (s b) p
 |.slice b p off len cap => .slice (s b) p off len cap
 |.fn f bs cs => .fn f (D.rens s bs) (D.rens s cs)
 |.node l => .node (D.rens s l)
 |.tup l => .tup (D.rens s l)
 |d => d
def D.rens (s : Nat → Nat) : List D → List D
 |[] => []
 |d :: ds => d.ren s :: D.rens s ds
end
theorem fD (s : Nat → Nat) : ∀ l : List D, D.rens s l = l.map (D.ren s)
 |[] => rfl
 |d :: ds => by simp only [D.rens, List.map_cons, fD s ds]
theorem aA2 (s : Nat → Nat) (d : D) : (d.ren s).isCell = d.isCell := by cases d <;> rfl
theorem aBq (s : Nat → Nat) (d : D) : (d.ren s).isAgg = d.isAgg := by cases d <;> rfl
theorem aBp (s : Nat → Nat) (d : D) : (d.ren s).isTup = d.isTup := by cases d <;> rfl
theorem aD4 (s : Nat → Nat) (d : D) : (d.ren s).isFn = d.isFn := by cases d <;> rfl
mutual
theorem eI (s : Nat → Nat) : ∀ d : D, (d.ren s).flat = d.flat.map (D.ren s)
 |.node l => by simp only [D.ren, D.flat]; exact uX s l
 |.u8s l => by simp [D.ren, D.flat]
 |.u32s l => by simp [D.ren, D.flat]
 |.u64s l => by simp [D.ren, D.flat]
 |.tup l => by simp [D.ren, D.flat]
 |.undef | .bool _ | .u8 _ | .u16 _ | .u32 _ | .u64 _ | .i64 _ | .str _ | .nilptr | .ptr _ _ | .nilslice | .slice _ _ _ _ _ | .fn _ _ _ | .nilfn | .fz _ _ => by simp [D.ren, D.flat]
theorem uX (s : Nat → Nat) : ∀ l : List D, D.flats (D.rens s l) = (D.flats l).map (D.ren s)
 |[] => rfl
 |d :: ds => by simp only [D.rens, D.flats, List.map_append, eI s d, uX s ds]
end
theorem yX {ρ : Env} {s : Nat → Nat} (hs : ∀ i, 2000000 ≤ i → s i = i) {d : D} {v : Value} : RepB ρ (d.ren s) v ↔ RepB (fun i => ρ (s i)) d v := by
 cases d <;> first | exact Iff.rfl | skip
 show (∃ b L o, ρ (fzn b) = some L ∧ _) ↔ (∃ b L o, ρ (s (fzn b)) = some L ∧ _)
 have hs' : ∀ b, s (fzn b) = fzn b := fun b => hs _ (by unfold fzn; omega)
 simp only [hs']
theorem All2.map_iff {α β : Type} {R S : α → β → Prop} {f : α → α} (h : ∀ a b, R (f a) b ↔ S a b) : ∀ {as : List α} {bs : List β}, All2 R (as.map f) bs ↔ All2 S as bs
 |[], [] => Iff.rfl
 |a :: as, b :: bs => by simp only [List.map_cons, All2, h, All2.map_iff h (as := as) (bs := bs)]
 |[], _ :: _ => Iff.rfl
 |_ :: _, [] => Iff.rfl
theorem eF {ρ : Env} {s : Nat → Nat} (hs : ∀ i, 2000000 ≤ i → s i = i) {d : D} {v : Value} : RepS ρ (d.ren s) v ↔ RepS (fun i => ρ (s i)) d v := by
 cases hd : d.isFn with
 |false => rw [i4 (by rw [aD4, hd]), i4 hd]; exact yX hs
 |true =>
  cases d <;> simp [D.isFn] at hd
  rename_i f bs cs
  show (∃ us vs : List Value, _ ∧ All2 (RepB ρ) (D.rens s bs) us ∧ All2 (RepB ρ) (D.rens s cs) vs) ↔ (∃ us vs : List Value, _ ∧ All2 (RepB fun i => ρ (s i)) bs us ∧ All2 (RepB fun i => ρ (s i)) cs vs)
  rw [fD, fD]
  simp only [All2.map_iff (R := RepB ρ) (S := RepB fun i => ρ (s i)) (fun a b => yX hs)]
theorem yU {ρ : Env} {s : Nat → Nat} (hs : ∀ i, 2000000 ≤ i → s i = i) {d : D} {v : Value} : RepV ρ (d.ren s) v ↔ RepV (fun i => ρ (s i)) d v := by
 unfold RepV
 rw [aBq, eI]
 split
 ·simp only [All2.map_iff (R := RepS ρ) (S := RepS fun i => ρ (s i)) (fun a b => eF hs)]
 ·exact eF hs
theorem gT {ρ : Env} {s : Nat → Nat} (hs : ∀ i, 2000000 ≤ i → s i = i) {d : D} {v : Value} : Rep ρ (d.ren s) v ↔ Rep (fun i => ρ (s i)) d v := by
 cases hd : d.isTup with
 |false => rw [eE (by rw [aBp, hd]), eE hd]; exact yU hs
 |true =>
  cases d <;> simp [D.isTup] at hd
  ·exact Iff.rfl
  ·rename_i l
   show (∃ vs : List Value, _ ∧ All2 (RepV ρ) (D.rens s l) vs) ↔ (∃ vs : List Value, _ ∧ All2 (RepV fun i => ρ (s i)) l vs)
   rw [fD]
   simp only [All2.map_iff (R := RepV ρ) (S := RepV fun i => ρ (s i)) (fun a b => yU hs)]
theorem kO {P Q : D → Prop} {f : D → D} (h : ∀ d, P (f d) ↔ Q d) : ∀ {l : List D}, iY P (l.map f) ↔ iY Q l
 |[] => Iff.rfl
 |d :: ds => by simp only [List.map_cons, iY, h, kO h (l := ds)]
mutual
theorem dE (s : Nat → Nat) : ∀ (T : Ty) (d : D), aD T (d.ren s) ↔ aD T d
 |.cell, d => by show (d.ren s).isCell = true ↔ d.isCell = true; rw [aA2]
 |.arr n t, d => by
  cases d <;> first | exact Iff.rfl | skip
  rename_i l
  show (D.rens s l).length = n ∧ iY (aD t) (D.rens s l) ↔ l.length = n ∧ iY (aD t) l
  rw [fD, List.length_map, kO (fun d => dE s t d)]
 |.row t, d => by
  cases d <;> first | exact Iff.rfl | skip
  rename_i l
  show iY (aD t) (D.rens s l) ↔ iY (aD t) l
  rw [fD, kO (fun d => dE s t d)]
 |.st fs, d => by
  cases d <;> first | exact Iff.rfl | skip
  rename_i l
  exact qJ s fs l
theorem qJ (s : Nat → Nat) : ∀ (fs : List Ty) (l : List D), dD fs (D.rens s l) ↔ dD fs l
 |[], [] => Iff.rfl
 |[], _ :: _ => Iff.rfl
 |t :: ts, [] => Iff.rfl
 |t :: ts, d :: ds => by
  show aD t (d.ren s) ∧ dD ts (D.rens s ds) ↔ aD t d ∧ dD ts ds
  rw [dE s t d, qJ s ts ds]
end
structure Out where
 ret : D
 wr : List (Nat × Option D) := []
 nw : List (Ty × D) := []
def jB (n : Nat) : List (Ty × D) → Mem
 |[] => []
 |(t, d) :: r => (n, some ⟨t, d, true⟩) :: jB (n + 1) r
def wrM (m0 : Mem) : List (Nat × Option D) → Mem
 |[] => []
 |(i, none) :: r => (i, none) :: wrM m0 r
 |(i, some d) :: r => match get m0 i with
  |some e => (i, some ⟨e.ty, d, true⟩) :: wrM m0 r
  |none => wrM m0 r
def Out.mem (np : Nat) (m0 : Mem) (o : Out) : Mem := jB np o.nw ++ (wrM m0 o.wr ++ m0)
def Fix (np i : Nat) : Prop := i < np ∨ (1000000 ≤ i ∧ i < 2000000)
def Use (np i : Nat) : Prop := i < np ∨ 1000000 ≤ i
theorem Fix.use {np i : Nat} (h : Fix np i) : Use np i := h.elim .inl fun h => .inr h.1
theorem fix_or {np i : Nat} (h : Use np i) : Fix np i ∨ 2000000 ≤ i := by unfold Use at h; unfold Fix; omega
structure Keep (X : Ctx) (np : Nat) (ρ0 ρ' : Env) : Prop where
 fix : ∀ i, Fix np i → ρ' i = ρ0 i
 mono : ∀ i L, 2000000 ≤ i → ρ0 i = some L → ρ' i = some L
 new : ∀ b, ρ' (fzn b) ≠ none → ρ0 (fzn b) ≠ none ∨ X.mine b
theorem Keep.refl (X : Ctx) (np : Nat) (ρ : Env) : Keep X np ρ ρ := ⟨fun _ _ => rfl, fun _ _ _ h => h, fun _ h => .inl h⟩
theorem Keep.le {X : Ctx} {np : Nat} {ρ ρ' : Env} (h : Keep X np ρ ρ') (hd : ∀ i, ρ i ≠ none → Use np i) : ρ.le ρ' := fun i L hi =>
 (fix_or (hd i (by rw [hi]; simp))).elim (fun hf => (h.fix i hf).trans hi) fun hf => h.mono i L hf hi
theorem Keep.trans {X : Ctx} {np nx : Nat} {ρ0 ρ ρ' : Env} (h : Keep X np ρ0 ρ) (h' : Keep X nx ρ ρ') (hle : np ≤ nx) : Keep X np ρ0 ρ' :=
 ⟨fun i hi => (h'.fix i (hi.elim (fun h => .inl (Nat.lt_of_lt_of_le h hle)) .inr)).trans (h.fix i hi), fun i L hi h0 => h'.mono i L hi (h.mono i L hi h0), fun b hb => (h'.new b hb).elim (h.new b) .inr⟩
def Dom (X : Ctx) (nx nw : Nat) (ρ ρ' : Env) : Prop := ∀ i, ρ' i ≠ none → ρ i ≠ none ∨ (nx ≤ i ∧ i < nx + nw) ∨ ∃ b, i = fzn b ∧ X.mine b
theorem Keep.step {X : Ctx} {np nx nw : Nat} {ρ0 ρ ρ' : Env} (h : Keep X np ρ0 ρ) (hle : ρ.le ρ') (hd : Dom X nx nw ρ ρ') (hnp : np ≤ nx) (hnx : nx + nw ≤ 999999) : Keep X np ρ0 ρ' := by
 refine ⟨fun i hi => ?_, fun i L hi h0 => hle i L (h.mono i L hi h0), fun b hb => ?_⟩
 ·rw [← h.fix i hi]
  cases hri : ρ i with
  |some L => exact hle i L hri
  |none =>
   cases hri' : ρ' i with
   |none => rfl
   |some L' =>
    exfalso
    rcases hd i (by rw [hri']; simp) with h1 | h1 | ⟨b, rfl, _⟩
    ·exact h1 hri
    ·unfold Fix at hi; omega
    ·unfold Fix fzn at hi; omega
 ·rcases hd _ hb with h1 | h1 | ⟨b', h1, h2⟩
  ·exact h.new b h1
  ·unfold fzn at h1; omega
  ·have : b = b' := by unfold fzn at h1; omega
   subst this; exact .inr h2
theorem Dom.used {X : Ctx} {nx nw : Nat} {ρ ρ' : Env} (hd : Dom X nx nw ρ ρ') (h : ∀ i, ρ i ≠ none → i < nx ∨ 1000000 ≤ i) : ∀ i, ρ' i ≠ none → i < nx + nw ∨ 1000000 ≤ i := by
 intro i hi
 rcases hd i hi with h1 | h1 | ⟨b, rfl, _⟩
 ·rcases h i h1 with h2 | h2
  ·left; omega
  ·exact .inr h2
 ·left; omega
 ·right; unfold fzn; omega
def eT (ρ0 : Env) (m0 : Mem) (b : Nat) : Prop := ∃ i e L, get m0 i = some e ∧ e.rw = true ∧ ρ0 i = some L ∧ L.blk = b
def mZ (P : Program) (f : Nat) : Prop := ∃ fn, P.funcs[f]? = some fn ∧ fn.body.isNone = false ∧ (fn.name == "runtime.NumGoroutine") = false
def AC (P : Program) (f : Nat) (args : List D) (np : Nat) (m0 : Mem) (o : Out) : Prop :=
 mZ P f ∧ ∀ (ρ0 : Env) (w0 : World) (vals : List Value), All2 (Rep ρ0) args vals → Inv ⟨w0, eT ρ0 m0⟩ ρ0 m0 w0 → (∀ i, ρ0 i ≠ none → Use np i) →
  Calls P f vals.toArray w0 fun e w' => ∃ v ρ', e = .returned v ∧ Keep ⟨w0, eT ρ0 m0⟩ np ρ0 ρ' ∧ (∀ i, ρ' i ≠ none → Use (np + o.nw.length) i) ∧ Rep ρ' o.ret v ∧ Inv ⟨w0, eT ρ0 m0⟩ ρ' (o.mem np m0) w'
theorem kG : ∀ (l : List (Ty × D)) (n j : Nat), get (jB n l) j = if n ≤ j then (l[j - n]?).map (fun x => ⟨x.1, x.2, true⟩) else none
 |[], n, j => by simp [jB, get]
 |(t, d) :: r, n, j => by
  simp only [jB, aK, kG r (n + 1) j]
  by_cases h : n = j
  ·subst h; simp
  ·rw [if_neg h]
   by_cases h2 : n ≤ j
   ·rw [if_pos (by omega), if_pos h2]
    rw [show j - n = (j - (n + 1)) + 1 by omega]
    rfl
   ·rw [if_neg (by omega), if_neg h2]
theorem eM : ∀ (l : List (Ty × D)) (n j : Nat), j ∈ (jB n l).map (·.1) ↔ n ≤ j ∧ j < n + l.length
 |[], n, j => by simp [jB]
 |(t, d) :: r, n, j => by
  simp only [jB, List.map_cons, List.mem_cons, eM r (n + 1) j, List.length_cons]
  omega
def lkw : List (Nat × Option D) → Nat → Option (Option D)
 |[], _ => none
 |(i, d) :: r, j => if i = j then some d else lkw r j
theorem oC (m0 : Mem) : ∀ (l : List (Nat × Option D)) (j : Nat), get (wrM m0 l ++ m0) j = match lkw l j with
  |some none => none
  |some (some d) => (get m0 j).map fun e => ⟨e.ty, d, true⟩
  |none => get m0 j
 |[], j => rfl
 |(i, none) :: r, j => by
  simp only [wrM, List.cons_append, aK, lkw]
  by_cases h : i = j
  ·simp [h]
  ·simp only [if_neg h]; exact oC m0 r j
 |(i, some d) :: r, j => by
  simp only [wrM, lkw]
  by_cases h : i = j
  ·subst h
   cases he : get m0 i with
   |none =>
    simp only [if_true]
    rw [oC m0 r i]
    cases lkw r i with
    |none => simp [he]
    |some x => cases x <;> simp [he]
   |some e => simp [aK]
  ·simp only [if_neg h]
   cases he : get m0 i with
   |none => exact oC m0 r j
   |some e =>
    simp only [List.cons_append, aK, if_neg h]
    exact oC m0 r j
theorem eZ (np : Nat) (m0 : Mem) (o : Out) (j : Nat) : get (o.mem np m0) j = if np ≤ j ∧ j < np + o.nw.length then (o.nw[j - np]?).map (fun x => ⟨x.1, x.2, true⟩) else match lkw o.wr j with
  |some none => none
  |some (some d) => (get m0 j).map fun e => ⟨e.ty, d, true⟩
  |none => get m0 j := by
 unfold Out.mem
 rw [eO]
 by_cases h : np ≤ j ∧ j < np + o.nw.length
 ·rw [if_pos ((eM _ _ _).2 h), if_pos h, kG, if_pos h.1]
 ·rw [if_neg (fun hh => h ((eM _ _ _).1 hh)), if_neg h, oC]
def sig (np nx nw : Nat) (σ : List Nat) (i : Nat) : Nat :=
 match Nat.blt i np with
 |true => σ.getD i 999999
 |false => match Nat.ble 1000000 i with
  |true => i
  |false => match Nat.blt (i - np) nw with
   |true => nx + (i - np)
   |false => 999999
def bQ (s : Nat → Nat) (m : Mem) : Mem → Prop
 |[] => True
 |(i, some e) :: r => (∃ e', get m (s i) = some e' ∧ e'.ty = e.ty ∧ e'.d = e.d.ren s ∧ (e.rw = true → e'.rw = true)) ∧ bQ s m r
 |(_, none) :: r => bQ s m r
def fixB (np i : Nat) : Bool :=
 match Nat.blt i np with
 |true => true
 |false => match Nat.ble 1000000 i with
  |true => Nat.blt i 2000000
  |false => false
def kL (s : Nat → Nat) (i : Nat) (rw : Bool) : Mem → Bool
 |[] => true
 |(j, some e) :: r => match Nat.beq i j with
  |true => kL s i rw r
  |false => match rw with
   |true => match Nat.beq (s i) (s j) with
    |true => false
    |false => kL s i rw r
   |false => match e.rw with
    |true => match Nat.beq (s i) (s j) with
     |true => false
     |false => kL s i rw r
    |false => kL s i rw r
 |(_, none) :: r => kL s i rw r
def bS (np : Nat) (s : Nat → Nat) (all : Mem) : Mem → Bool
 |[] => true
 |(i, some e) :: r => match fixB np i with
  |true => match kL s i e.rw all with
   |true => bS np s all r
   |false => false
  |false => false
 |(_, none) :: r => bS np s all r
def wrB (m0 : Mem) : List (Nat × Option D) → Bool
 |[] => true
 |(i, _) :: r => match get m0 i with
  |some e => match e.rw with
   |true => wrB m0 r
   |false => false
  |none => false
def wrS (s : Nat → Nat) (m0 : Mem) : List (Nat × Option D) → Mem
 |[] => []
 |(i, none) :: r => (s i, none) :: wrS s m0 r
 |(i, some d) :: r => match get m0 i with
  |some e => (s i, some ⟨e.ty, d.ren s, true⟩) :: wrS s m0 r
  |none => wrS s m0 r
def pF (s : Nat → Nat) : List (Ty × D) → List (Ty × D)
 |[] => []
 |(t, d) :: r => (t, d.ren s) :: pF s r
def upM (s : Nat → Nat) (nx : Nat) (m0 : Mem) (o : Out) : Mem := jB nx (pF s o.nw) ++ wrS s m0 o.wr
def iX (s : Nat → Nat) : Mem → List Nat
 |[] => []
 |(i, _) :: r => s i :: iX s r
theorem cD (a b : Nat) : Nat.blt a b = decide (a < b) := by
 unfold Nat.blt
 rw [Bool.eq_iff_iff, decide_eq_true_eq]
 exact ⟨fun h => Nat.le_of_ble_eq_true h, fun h => Nat.ble_eq_true_of_le h⟩
theorem cC {m : Mem} {i : Nat} {e : Ent} (h : get m i = some e) : (i, some e) ∈ m := by
 induction m with
 |nil => simp [get] at h
 |cons x m ih =>
  obtain ⟨j, e'⟩ := x
  rw [aK] at h
  split at h
  ·subst_vars; simp
  ·exact List.mem_cons_of_mem _ (ih h)
theorem dQ {s : Nat → Nat} {m : Mem} : ∀ {m0 : Mem} (_ : bQ s m m0) {i : Nat} {e : Ent} (_ : (i, some e) ∈ m0), ∃ e', get m (s i) = some e' ∧ e'.ty = e.ty ∧ e'.d = e.d.ren s ∧ (e.rw = true → e'.rw = true)
 |(j, some e') :: r, h, i, e, hm => by
  rcases List.mem_cons.1 hm with h' | h'
  ·cases h'; exact h.1
  ·exact dQ h.2 h'
 |(j, none) :: r, h, i, e, hm => by
  rcases List.mem_cons.1 hm with h' | h'
  ·cases h'
  ·exact dQ (m0 := r) h h'
theorem cZ {s : Nat → Nat} {i : Nat} {rw : Bool} : ∀ {m0 : Mem} (_ : kL s i rw m0 = true) {j : Nat} {e : Ent} (_ : (j, some e) ∈ m0) (_ : i ≠ j) (_ : rw = true ∨ e.rw = true), s i ≠ s j
 |(k, some e') :: r, h, j, e, hm, hne, hr => by
  simp only [kL] at h
  rcases List.mem_cons.1 hm with h' | h'
  ·cases h'
   have hb : Nat.beq i k = false := by
    cases hb : Nat.beq i k with
    |false => rfl
    |true => exact absurd (Nat.eq_of_beq_eq_true hb) hne
   rw [hb] at h
   intro heq
   have hs : Nat.beq (s i) (s k) = true := by rw [heq]; exact Nat.beq_refl _
   rw [hs] at h
   rcases hr with hr | hr
   ·rw [hr] at h; simp at h
   ·rw [hr] at h; cases rw <;> simp at h
  ·refine cZ (m0 := r) ?_ h' hne hr
   repeat' split at h
   all_goals first | exact h | contradiction
 |(k, none) :: r, h, j, e, hm, hne, hr => by
  rcases List.mem_cons.1 hm with h' | h'
  ·cases h'
  ·exact cZ (m0 := r) h h' hne hr
theorem bL {np : Nat} {s : Nat → Nat} {all : Mem} : ∀ {m0 : Mem} (_ : bS np s all m0 = true) {i : Nat} {e : Ent} (_ : (i, some e) ∈ m0), Fix np i ∧ kL s i e.rw all = true
 |(k, some e') :: r, h, i, e, hm => by
  simp only [bS] at h
  repeat' split at h
  all_goals try contradiction
  rename_i h1 _ h2
  rcases List.mem_cons.1 hm with h' | h'
  ·cases h'
   refine ⟨?_, h2⟩
   unfold fixB at h1
   split at h1
   ·rename_i hb; left; rw [cD] at hb; simpa using hb
   ·split at h1 <;> try contradiction
    rename_i h3
    right; rw [cD] at h1; exact ⟨by simpa using h3, by simpa using h1⟩
  ·exact bL (m0 := r) h h'
 |(k, none) :: r, h, i, e, hm => by
  rcases List.mem_cons.1 hm with h' | h'
  ·cases h'
  ·exact bL (m0 := r) h h'
theorem jS {m0 : Mem} : ∀ {l : List (Nat × Option D)} (_ : wrB m0 l = true) {i : Nat} {d : Option D} (_ : (i, d) ∈ l), ∃ e, get m0 i = some e ∧ e.rw = true
 |(k, d') :: r, h, i, d, hm => by
  simp only [wrB] at h
  repeat' split at h
  all_goals try contradiction
  rcases List.mem_cons.1 hm with h' | h'
  ·cases h'; exact ⟨_, by assumption, by assumption⟩
  ·exact jS (l := r) h h'
theorem xF : ∀ {l : List (Nat × Option D)} {i : Nat} {d : Option D} (_ : lkw l i = some d), (i, d) ∈ l
 |(k, d') :: r, i, d, h => by
  simp only [lkw] at h
  split at h
  ·subst_vars; cases h; simp
  ·exact List.mem_cons_of_mem _ (xF h)
theorem fE (s : Nat → Nat) : ∀ l, (pF s l).length = l.length
 |[] => rfl
 |(t, d) :: r => by simp [pF, fE s r]
theorem n3 (s : Nat → Nat) : ∀ (l : List (Ty × D)) (k : Nat), (pF s l)[k]? = (l[k]?).map fun x => (x.1, x.2.ren s)
 |[], k => by simp [pF]
 |(t, d) :: r, 0 => by simp [pF]
 |(t, d) :: r, k + 1 => by simp [pF, n3 s r k]
theorem xJ {s : Nat → Nat} {m0 m : Mem} : ∀ {l : List (Nat × Option D)} (_ : wrB m0 l = true) (j : Nat),
  (∃ i d, (i, d) ∈ l ∧ lkw l i = some d ∧ s i = j ∧ get (wrS s m0 l ++ m) j = (match d with | none => none | some d => (get m0 i).map fun e => ⟨e.ty, d.ren s, true⟩)) ∨
   ((∀ i d, (i, d) ∈ l → s i ≠ j) ∧ get (wrS s m0 l ++ m) j = get m j)
 |[], _, j => .inr ⟨fun i d h => by simp at h, rfl⟩
 |(i, d) :: r, h, j => by
  obtain ⟨e, he, hr⟩ := jS h (i := i) (d := d) (by simp)
  have hrest : wrB m0 r = true := by
   simp only [wrB, he, hr] at h; exact h
  by_cases hj : s i = j
  ·refine .inl ⟨i, d, by simp, by simp [lkw], hj, ?_⟩
   cases d with
   |none => simp [wrS, aK, hj]
   |some d => simp [wrS, he, aK, hj]
  ·have hget : get (wrS s m0 ((i, d) :: r) ++ m) j = get (wrS s m0 r ++ m) j := by
    cases d with
    |none => simp only [wrS, List.cons_append, aK, if_neg hj]
    |some d => simp only [wrS, he, List.cons_append, aK, if_neg hj]
   rcases xJ (m := m) hrest j with ⟨i', d', h1, h2, h3, h4⟩ | ⟨h1, h2⟩
   ·by_cases hii : i = i'
    ·subst hii; exact absurd h3 hj
    ·exact .inl ⟨i', d', by simp [h1], by simp [lkw, hii, h2], h3, by rw [hget]; exact h4⟩
   ·refine .inr ⟨fun i' d' hm => ?_, by rw [hget]; exact h2⟩
    rcases List.mem_cons.1 hm with h' | h'
    ·cases h'; exact hj
    ·exact h1 i' d' h'
section
variable {P : Program} {X : Ctx} {ρ : Env} {m : Mem} {w : World} {nx : Nat}
theorem qV (hI : Inv X ρ m w) {f : Nat} {np : Nat} {m0 : Mem} {args0 : List D} {o : Out} {σ : List Nat} (hac : AC P f args0 np m0 o)
  (hres : ρ 999999 = none) (hnx : ∀ i, nx ≤ i → i < nx + o.nw.length → ρ i = none) (hlim : nx + o.nw.length ≤ 999999) (hnp : np + o.nw.length ≤ 999999)
  (hmatch : bQ (sig np nx o.nw.length σ) m m0) (hnames : bS np (sig np nx o.nw.length σ) m0 m0 = true) (hwr : wrB m0 o.wr = true)
  {vals : List Value} (hargs : All2 (Rep ρ) (D.rens (sig np nx o.nw.length σ) args0) vals) :
  Calls P f vals.toArray w fun e w' => ∃ v ρ', e = .returned v ∧ ρ.le ρ' ∧ Dom X nx o.nw.length ρ ρ' ∧ Rep ρ' (o.ret.ren (sig np nx o.nw.length σ)) v ∧
   Inv X ρ' (upM (sig np nx o.nw.length σ) nx m0 o ++ m) w' := by
 generalize hs : sig np nx o.nw.length σ = s at *
 -- what the names stand for
 have s_gid : ∀ i, 1000000 ≤ i → ¬ i < np → s i = i := by
  intro i h1 h2
  rw [← hs]
  unfold sig
  have e1 : Nat.blt i np = false := by rw [cD]; simp; omega
  have e2 : Nat.ble 1000000 i = true := by simpa using h1
  rw [e1, e2]
 have s_new : ∀ i, np ≤ i → i < np + o.nw.length → s i = nx + (i - np) := by
  intro i h1 h2
  rw [← hs]
  unfold sig
  have e1 : Nat.blt i np = false := by rw [cD]; simp; omega
  have e2 : Nat.ble 1000000 i = false := by
   cases hb : Nat.ble 1000000 i with
   |false => rfl
   |true => have := Nat.le_of_ble_eq_true hb; omega
  have e3 : Nat.blt (i - np) o.nw.length = true := by rw [cD]; simp; omega
  rw [e1, e2, e3]
 have hsz : ∀ i, 2000000 ≤ i → s i = i := fun i h => s_gid i (by omega) (by omega)
 let ρ0 : Env := fun i => if i < np ∨ 1000000 ≤ i then ρ (s i) else none
 have hρ0 : ∀ i, Use np i → ρ0 i = ρ (s i) := fun i h => if_pos h
 have hρs : ∀ i, ρ (s i) ≠ none → Use np i := by
  intro i h
  by_cases h1 : i < np
  ·exact .inl h1
  ·by_cases h2 : 1000000 ≤ i
   ·exact .inr h2
   ·exfalso
    by_cases h3 : i < np + o.nw.length
    ·rw [s_new i (by omega) h3] at h
     exact h (hnx _ (by omega) (by omega))
    ·have : s i = 999999 := by
      rw [← hs]
      unfold sig
      have e1 : Nat.blt i np = false := by rw [cD]; simp; omega
      have e2 : Nat.ble 1000000 i = false := by
       cases hb : Nat.ble 1000000 i with
       |false => rfl
       |true => have := Nat.le_of_ble_eq_true hb; omega
      have e3 : Nat.blt (i - np) o.nw.length = false := by rw [cD]; simp; omega
      rw [e1, e2, e3]
     rw [this] at h
     exact h hres
 have hle0 : Env.le (fun i => ρ (s i)) ρ0 := by
  intro i L h
  have h : ρ (s i) = some L := h
  have hf := hρs i (by rw [h]; simp)
  rw [hρ0 i hf]; exact h
 have hget0 : ∀ i e, get m0 i = some e → Fix np i ∧ ∃ e', get m (s i) = some e' ∧ e'.ty = e.ty ∧ e'.d = e.d.ren s ∧ (e.rw = true → e'.rw = true) := fun i e h =>
  ⟨(bL hnames (cC h)).1, dQ hmatch (cC h)⟩
 have hapart : ∀ i j ei ej, get m0 i = some ei → get m0 j = some ej → i ≠ j → (ei.rw = true ∨ ej.rw = true) → s i ≠ s j := fun i j ei ej hi hj hne hr =>
  cZ (bL hnames (cC hi)).2 (cC hj) hne hr
 -- the callee's view
 have hI0 : Inv ⟨w, eT ρ0 m0⟩ ρ0 m0 w := by
  refine ⟨fun g L hg1 h => ?_, fun i e h => ?_, fun i j ei ej Li Lj hi hj hne hr h1 h2 => ?_, fun i e L h hr h1 => .inl ⟨i, e, L, h, hr, h1, rfl⟩, fun _ _ _ => rfl, Nat.le_refl _, rfl, rfl, rfl, fun b L h => ?_⟩
  ·by_cases hg : gid g < np
   ·unfold gid at hg; omega
   ·have hf : Use np (gid g) := .inr (by unfold gid; omega)
    rw [hρ0 _ hf, s_gid _ (by unfold gid; omega) hg] at h
    exact hI.glob g L hg1 h
  ·obtain ⟨hf, e', h1, h2, h3, h4⟩ := hget0 i e h
   obtain ⟨L, h5, h6⟩ := hI.sat (s i) e' h1
   refine ⟨L, by rw [hρ0 i hf.use]; exact h5, ?_⟩
   obtain ⟨q1, q2, q3, C, t, fr, pre, front, tail, q4, q5, q6, q7, q8, q9⟩ := h6
   refine ⟨by rw [q1, h2], by rw [← h2]; exact q2, ?_, C, t, fr, pre, front, tail, q4, q5, q6, q7, ?_, fun hr => q9 (h4 hr)⟩
   ·rw [h2, h3, dE] at q3; exact q3
   ·rw [h3, eI] at q8
    exact ((All2.map_iff (fun a b => eF hsz)).1 q8).mono fun _ _ => RepS.mono hle0
  ·obtain ⟨hfi, ei', g1, g2, g3, g4⟩ := hget0 i ei hi
   obtain ⟨hfj, ej', k1, k2, k3, k4⟩ := hget0 j ej hj
   rw [hρ0 i hfi.use] at h1
   rw [hρ0 j hfj.use] at h2
   exact hI.inj (s i) (s j) ei' ej' Li Lj g1 k1 (hapart i j ei ej hi hj hne (.inl hr)) (g4 hr) h1 h2
  ·rw [hρ0 _ (.inr (by unfold fzn; omega)), hsz _ (by unfold fzn; omega)] at h
   obtain ⟨h1, h2, h3⟩ := hI.fz b L h
   refine ⟨h1, h2, fun i e Li hi hr hLi => ?_⟩
   obtain ⟨hf, e', g1, g2, g3, g4⟩ := hget0 i e hi
   rw [hρ0 i hf.use] at hLi
   exact h3 (s i) e' Li g1 (g4 hr) hLi
 have hargs0 : All2 (Rep ρ0) args0 vals := by
  rw [fD] at hargs
  exact ((All2.map_iff (fun a b => gT hsz)).1 hargs).mono fun _ _ => Rep.mono hle0
 have hdom0 : ∀ i, ρ0 i ≠ none → Use np i := by
  intro i h
  by_cases hf : Use np i
  ·exact hf
  ·exact absurd (if_neg hf) h
 refine (hac.2 ρ0 w vals hargs0 hI0 hdom0).mono ?_
 rintro e w' ⟨v, ρ1, rfl, hfix, hdom, hret, hI1⟩
 -- the caller's names behind the call
 let ρ2 : Env := fun j => if nx ≤ j ∧ j < nx + o.nw.length then ρ1 (np + (j - nx)) else if 2000000 ≤ j then ρ1 j else ρ j
 have hρ2old : ∀ j, ρ j ≠ none → ρ2 j = ρ j := by
  intro j h
  have e1 : ρ2 j = if 2000000 ≤ j then ρ1 j else ρ j := if_neg fun hh => h (hnx j hh.1 hh.2)
  rw [e1]
  split
  ·rename_i hj
   cases hL : ρ j with
   |none => exact absurd hL h
   |some L => exact hfix.mono j L hj (by rw [hρ0 j (.inr (by omega)), hsz j hj]; exact hL)
  ·rfl
 have hρ2fz : ∀ j, 2000000 ≤ j → ρ2 j = ρ1 j := by
  intro j hj
  have e1 : ρ2 j = if 2000000 ≤ j then ρ1 j else ρ j := if_neg (by omega)
  rw [e1, if_pos hj]
 have hρ2no : ∀ j, ¬ (nx ≤ j ∧ j < nx + o.nw.length) → j < 2000000 → ρ2 j = ρ j := by
  intro j h1 h2
  have e1 : ρ2 j = if 2000000 ≤ j then ρ1 j else ρ j := if_neg h1
  rw [e1, if_neg (by omega)]
 have hρ2new : ∀ k, k < o.nw.length → ρ2 (nx + k) = ρ1 (np + k) := by
  intro k hk
  have : ρ2 (nx + k) = ρ1 (np + (nx + k - nx)) := if_pos ⟨by omega, by omega⟩
  rw [this, Nat.add_sub_cancel_left]
 have hle2 : ρ.le ρ2 := fun j L h => by rw [hρ2old j (by rw [h]; simp)]; exact h
 have hle1 : ρ1.le (fun i => ρ2 (s i)) := by
  intro i L h
  have hd := hdom i (by rw [h]; simp)
  by_cases hz : 2000000 ≤ i
  ·show ρ2 (s i) = some L
   rw [hsz i hz, hρ2fz i hz]; exact h
  by_cases hf : Fix np i
  ·rw [hfix.fix i hf, hρ0 i hf.use] at h
   show ρ2 (s i) = some L
   rw [hρ2old _ (by rw [h]; simp)]; exact h
  ·have h1 : np ≤ i := by unfold Fix at hf; omega
   have h2 : i < np + o.nw.length := by unfold Fix at hf; unfold Use at hd; omega
   show ρ2 (s i) = some L
   rw [s_new i h1 h2, hρ2new _ (by omega), show np + (i - np) = i by omega]; exact h
 have hrep : ∀ {d : D} {v : Value}, Rep ρ1 d v → Rep ρ2 (d.ren s) v := fun h => (gT hsz).2 (h.mono hle1)
 have hrepS : ∀ {l : List D} {vs : List Value}, All2 (RepS ρ1) l vs → All2 (RepS ρ2) (l.map (D.ren s)) vs := fun h => (All2.map_iff (fun a b => eF hsz)).2 (h.mono fun _ _ => RepS.mono hle1)
 have hsat : ∀ {e : Ent} {L : Loc}, SatE ρ1 e L w' → SatE ρ2 ⟨e.ty, e.d.ren s, e.rw⟩ L w' := by
  intro e L h
  obtain ⟨q1, q2, q3, C, t, fr, pre, front, tail, q4, q5, q6, q7, q8, q9⟩ := h
  exact ⟨q1, q2, (dE s _ _).2 q3, C, t, fr, pre, front, tail, q4, q5, q6, q7, by rw [eI]; exact hrepS q8, q9⟩
 -- what each of the caller's blocks is now
 have hkeys : ∀ j, j ∈ (jB nx (pF s o.nw)).map (·.1) ↔ nx ≤ j ∧ j < nx + o.nw.length := by
  intro j; rw [eM, fE]
 have hup : ∀ j e, get (upM s nx m0 o ++ m) j = some e →
   (∃ k x, k < o.nw.length ∧ j = nx + k ∧ o.nw[k]? = some x ∧ e = ⟨x.1, x.2.ren s, true⟩) ∨
   (∃ i e0 d, get m0 i = some e0 ∧ e0.rw = true ∧ lkw o.wr i = some (some d) ∧ s i = j ∧ e = ⟨e0.ty, d.ren s, true⟩) ∨
   (get m j = some e ∧ ∀ i d, (i, d) ∈ o.wr → s i ≠ j) := by
  intro j e h
  unfold upM at h
  rw [List.append_assoc, eO] at h
  by_cases hn : nx ≤ j ∧ j < nx + o.nw.length
  ·rw [if_pos ((hkeys j).2 hn), kG, if_pos hn.1, n3] at h
   cases hx : o.nw[j - nx]? with
   |none => simp [hx] at h
   |some x =>
    simp only [hx, Option.map_some, Option.some.injEq] at h
    exact .inl ⟨j - nx, x, by omega, by omega, hx, h.symm⟩
  ·rw [if_neg (fun hh => hn ((hkeys j).1 hh))] at h
   rcases xJ (s := s) (m := m) hwr j with ⟨i, d, h1, h2, h3, h4⟩ | ⟨h1, h2⟩
   ·rw [h4] at h
    cases d with
    |none => simp at h
    |some d =>
     obtain ⟨e0, he0, hr0⟩ := jS hwr h1
     simp only [he0, Option.map_some, Option.some.injEq] at h
     exact .inr (.inl ⟨i, e0, d, he0, hr0, h2, h3, h.symm⟩)
   ·rw [h2] at h
    exact .inr (.inr ⟨h, h1⟩)
 -- the caller's block that a written one stands for
 have hcaller : ∀ i e0, get m0 i = some e0 → e0.rw = true → ∃ e' L, get m (s i) = some e' ∧ e'.rw = true ∧ ρ (s i) = some L ∧ L.blk < w.heap.size ∧ ρ0 i = some L ∧ (X.wp L.blk ∨ X.w0.heap.size ≤ L.blk) := by
  intro i e0 h hr
  obtain ⟨hf, e', h1, h2, h3, h4⟩ := hget0 i e0 h
  obtain ⟨L, h5, h6⟩ := hI.sat (s i) e' h1
  exact ⟨e', L, h1, h4 hr, h5, h6.lt, by rw [hρ0 i hf.use]; exact h5, hI.own (s i) e' L h1 (h4 hr) h5⟩
 have hnewget : ∀ k x, o.nw[k]? = some x → get (o.mem np m0) (np + k) = some ⟨x.1, x.2, true⟩ := by
  intro k x hx
  have hk : k < o.nw.length := by
   rcases Nat.lt_or_ge k o.nw.length with h | h
   ·exact h
   ·simp [List.getElem?_eq_none h] at hx
  rw [eZ, if_pos ⟨by omega, by omega⟩, Nat.add_sub_cancel_left, hx]
  rfl
 have hoget : ∀ i, Fix np i → get (o.mem np m0) i = match lkw o.wr i with | some none => none | some (some d) => (get m0 i).map fun e => ⟨e.ty, d, true⟩ | none => get m0 i := by
  intro i hf
  rw [eZ, if_neg (by unfold Fix at hf; omega)]
 -- where a block lies that the call has made, or been given
 have hnewloc : ∀ k x L, o.nw[k]? = some x → ρ1 (np + k) = some L → eT ρ0 m0 L.blk ∨ w.heap.size ≤ L.blk := fun k x L hx hL => hI1.own (np + k) _ L (hnewget k x hx) rfl hL
 have hkk : ∀ {k : Nat} {x : Ty × D}, o.nw[k]? = some x → k < o.nw.length := by
  intro k x hx
  rcases Nat.lt_or_ge k o.nw.length with h | h
  ·exact h
  ·simp [List.getElem?_eq_none h] at hx
 -- a block of the caller's that is there still: its place is as it was; and no other one's
 have hold : ∀ j e, get (upM s nx m0 o ++ m) j = some e → ¬ (nx ≤ j ∧ j < nx + o.nw.length) → ∃ e' L, get m j = some e' ∧ (e.rw = true → e'.rw = true) ∧ ρ j = some L ∧ ρ2 j = some L ∧ L.blk < w.heap.size ∧
   SatE ρ2 e L w' ∧ (∀ k x L', o.nw[k]? = some x → ρ1 (np + k) = some L' → L'.blk ≠ L.blk) ∧ (e.rw = true → ∀ b, ρ1 (fzn b) ≠ none → L.blk ≠ b) := by
  intro j e h hn
  -- of a block that stands for a written one of the callee's, and is not given up
  have hvia : ∀ i e0 d, get m0 i = some e0 → e0.rw = true → get (o.mem np m0) i = some ⟨e0.ty, d, true⟩ → s i = j → e = ⟨e0.ty, d.ren s, true⟩ →
    ∃ e' L, get m j = some e' ∧ (e.rw = true → e'.rw = true) ∧ ρ j = some L ∧ ρ2 j = some L ∧ L.blk < w.heap.size ∧ SatE ρ2 e L w' ∧ (∀ k x L', o.nw[k]? = some x → ρ1 (np + k) = some L' → L'.blk ≠ L.blk) ∧ (e.rw = true → ∀ b, ρ1 (fzn b) ≠ none → L.blk ≠ b) := by
   intro i e0 d h1 h2 h3 h4 h5
   obtain ⟨e', L, g1, g2, g3, g4, g5, g6⟩ := hcaller i e0 h1 h2
   have hf := (hget0 i e0 h1).1
   rw [h4] at g1 g3
   obtain ⟨L1, k1, k2⟩ := hI1.sat i _ h3
   have e1 : ρ1 i = some L := by rw [hfix.fix i hf]; exact g5
   rw [e1] at k1; cases k1
   refine ⟨e', L, g1, fun _ => g2, g3, by rw [hρ2old j (by rw [g3]; simp)]; exact g3, g4, by rw [h5]; exact hsat k2, fun k x L' hx hL' => ?_, fun _ b hb => ?_⟩
   rotate_left
   ·cases hb1 : ρ1 (fzn b) with
    |none => exact absurd hb1 hb
    |some Lb => exact (hI1.fz b Lb hb1).2.2 i _ L h3 rfl e1
   have := hkk hx
   exact hI1.inj (np + k) i _ _ L' L (hnewget k x hx) h3 (by unfold Fix at hf; omega) rfl hL' e1
  rcases hup j e h with ⟨k, x, hk, hj, hx, he⟩ | ⟨i, e0, d, h1, h2, h3, h4, h5⟩ | ⟨h1, h2⟩
  ·exact absurd ⟨by omega, by omega⟩ hn
  ·refine hvia i e0 d h1 h2 ?_ h4 h5
   rw [hoget i (hget0 i e0 h1).1, h3]
   simp [h1]
  ·by_cases hw0 : ∃ i e0, get m0 i = some e0 ∧ e0.rw = true ∧ s i = j
   ·obtain ⟨i, e0, g1, g2, g3⟩ := hw0
    obtain ⟨hf, e', k1, k2, k3, k4⟩ := hget0 i e0 g1
    rw [g3, h1] at k1; cases k1
    have hlk : lkw o.wr i = none := by
     cases hl : lkw o.wr i with
     |none => rfl
     |some d => exact absurd g3 (h2 i d (xF hl))
    refine hvia i e0 e0.d g1 g2 ?_ g3 ?_
    ·rw [hoget i hf, hlk]
     simp only [g1]
     cases e0; simp only at g2; rw [g2]
    ·have hr := k4 g2
     cases e; simp only at k2 k3 hr; rw [k2, k3, hr]
   ·obtain ⟨L, g1, g2⟩ := hI.sat j e h1
    have hnw : ¬ eT ρ0 m0 L.blk := by
     rintro ⟨i, e0, L0, k1, k2, k3, k4⟩
     obtain ⟨e', L', q1, q2, q3, q4, q5, q6⟩ := hcaller i e0 k1 k2
     rw [k3] at q5; cases q5
     by_cases hij : s i = j
     ·exact hw0 ⟨i, e0, k1, k2, hij⟩
     ·exact hI.inj (s i) j e' e _ L q1 h1 hij q2 q3 g1 k4
    refine ⟨e, L, h1, id, g1, by rw [hρ2old j (by rw [g1]; simp)]; exact g1, g2.lt, (g2.mono hle2).same (hI1.ext L.blk g2.lt hnw), fun k x L' hx hL' heq => ?_, fun hrw b hb hbb => ?_⟩
    ·rcases hnewloc k x L' hx hL' with h | h
     ·rw [heq] at h; exact hnw h
     ·have := g2.lt; omega
    ·rcases hfix.new b hb with h4 | h4 | h4
     ·rw [hρ0 _ (.inr (by unfold fzn; omega)), hsz _ (by unfold fzn; omega)] at h4
      cases h5 : ρ (fzn b) with
      |none => exact h4 h5
      |some Lb => exact (hI.fz b Lb h5).2.2 j e L h1 hrw g1 hbb
     ·rw [hbb] at hnw; exact hnw h4
     ·have := g2.lt; have h4 : w.heap.size ≤ b := h4; omega
 have hnew : ∀ j e, get (upM s nx m0 o ++ m) j = some e → (nx ≤ j ∧ j < nx + o.nw.length) → ∃ k x L, j = nx + k ∧ o.nw[k]? = some x ∧ ρ1 (np + k) = some L ∧ ρ2 j = some L ∧ SatE ρ2 e L w' := by
  intro j e h hn
  rcases hup j e h with ⟨k, x, hk, hj, hx, he⟩ | ⟨i, e0, d, h1, h2, h3, h4, h5⟩ | ⟨h1, h2⟩
  ·obtain ⟨L, g1, g2⟩ := hI1.sat (np + k) _ (hnewget k x hx)
   exact ⟨k, x, L, hj, hx, g1, by rw [hj, hρ2new k hk]; exact g1, by rw [he]; exact hsat g2⟩
  ·obtain ⟨e', L, g1, g2, g3, _⟩ := hcaller i e0 h1 h2
   rw [h4] at g3
   rw [hnx j hn.1 hn.2] at g3; cases g3
  ·obtain ⟨L, g1, g2⟩ := hI.sat j e h1
   rw [hnx j hn.1 hn.2] at g1; cases g1
 refine ⟨v, ρ2, rfl, hle2, fun j h => ?_, hrep hret, ⟨fun g L hg1 h => ?_, fun j e h => ?_, fun j k ej ek Lj Lk hj hk hne hr h1 h2 => ?_, fun j e L h hr h1 => ?_, fun b hb hn => ?_, ?_, ?_, ?_, ?_, fun b L h => ?_⟩⟩
 ·by_cases hn : nx ≤ j ∧ j < nx + o.nw.length
  ·exact .inr (.inl hn)
  ·by_cases hz : 2000000 ≤ j
   ·rw [hρ2fz j hz] at h
    obtain ⟨b, rfl⟩ : ∃ b, j = fzn b := ⟨j - 2000000, by unfold fzn; omega⟩
    rcases hfix.new b h with h4 | h4 | h4
    ·left; rw [hρ0 _ (.inr (by unfold fzn; omega)), hsz _ hz] at h4; exact h4
    ·right; right
     obtain ⟨i, e0, L0, q1, q2, q3, q4⟩ := h4
     obtain ⟨e', L', k1, k2, k3, k4, k5, k6⟩ := hcaller i e0 q1 q2
     rw [q3] at k5; cases k5
     exact ⟨b, rfl, by rw [← q4]; exact k6⟩
    ·exact .inr (.inr ⟨b, rfl, .inr (Nat.le_trans hI.size h4)⟩)
   ·left
    rw [hρ2no j hn (by omega)] at h; exact h
 ·rw [hρ2no _ (by unfold gid; omega) (by unfold gid; omega)] at h
  exact hI.glob g L hg1 h
 ·by_cases hn : nx ≤ j ∧ j < nx + o.nw.length
  ·obtain ⟨k, x, L, _, _, _, g1, g2⟩ := hnew j e h hn
   exact ⟨L, g1, g2⟩
  ·obtain ⟨e', L, _, _, _, g1, _, g2, _⟩ := hold j e h hn
   exact ⟨L, g1, g2⟩
 ·by_cases hnj : nx ≤ j ∧ j < nx + o.nw.length
  ·obtain ⟨kj, xj, L1, a1, a2, a3, a4, _⟩ := hnew j ej hj hnj
   rw [h1] at a4; cases a4
   by_cases hnk : nx ≤ k ∧ k < nx + o.nw.length
   ·obtain ⟨kk, xk, L2, b1, b2, b3, b4, _⟩ := hnew k ek hk hnk
    rw [h2] at b4; cases b4
    exact hI1.inj (np + kj) (np + kk) _ _ _ _ (hnewget kj xj a2) (hnewget kk xk b2) (by omega) rfl a3 b3
   ·obtain ⟨e', L2, _, _, _, b1, _, _, b2, _⟩ := hold k ek hk hnk
    rw [h2] at b1; cases b1
    exact b2 kj xj _ a2 a3
  ·obtain ⟨e', L1, a1, a2, a3, a4, _, _, a5, _⟩ := hold j ej hj hnj
   rw [h1] at a4; cases a4
   by_cases hnk : nx ≤ k ∧ k < nx + o.nw.length
   ·obtain ⟨kk, xk, L2, b1, b2, b3, b4, _⟩ := hnew k ek hk hnk
    rw [h2] at b4; cases b4
    exact Ne.symm (a5 kk xk _ b2 b3)
   ·obtain ⟨e2, L2, b1, b2, b3, b4, _⟩ := hold k ek hk hnk
    rw [h2] at b4; cases b4
    exact hI.inj j k e' e2 _ _ a1 b1 hne (a2 hr) a3 b3
 ·by_cases hn : nx ≤ j ∧ j < nx + o.nw.length
  ·obtain ⟨k, x, L', _, g1, g2, g3, _⟩ := hnew j e h hn
   rw [h1] at g3; cases g3
   rcases hnewloc k x _ g1 g2 with ⟨i, e0, L0, q1, q2, q3, q4⟩ | h'
   ·obtain ⟨e', L', k1, k2, k3, k4, k5, k6⟩ := hcaller i e0 q1 q2
    rw [q3] at k5; cases k5
    rw [← q4]; exact k6
   ·exact .inr (Nat.le_trans hI.size h')
  ·obtain ⟨e', L', g1, g2, g3, g4, _⟩ := hold j e h hn
   rw [h1] at g4; cases g4
   exact hI.own j e' _ g1 (g2 hr) g3
 ·have hbl : b < w.heap.size := Nat.lt_of_lt_of_le hb hI.size
  have hnw : ¬ eT ρ0 m0 b := by
   rintro ⟨i, e0, L0, q1, q2, q3, q4⟩
   obtain ⟨e', L', k1, k2, k3, k4, k5, k6⟩ := hcaller i e0 q1 q2
   rw [q3] at k5; cases k5
   rw [q4] at k6
   rcases k6 with h | h
   ·exact hn h
   ·omega
  rw [hI1.ext b hbl hnw]
  exact hI.ext b hb hn
 ·exact Nat.le_trans hI.size hI1.size
 ·rw [hI1.os]; exact hI.os
 ·rw [hI1.out]; exact hI.out
 ·rw [hI1.tape]; exact hI.tape
 ·rw [hρ2fz _ (by unfold fzn; omega)] at h
  obtain ⟨h1, h2, h3⟩ := hI1.fz b L h
  refine ⟨h1, h2, fun j ej Lj hj hr hLj => ?_⟩
  by_cases hn : nx ≤ j ∧ j < nx + o.nw.length
  ·obtain ⟨k, x, L', _, g1, g2, g3, _⟩ := hnew j ej hj hn
   rw [hLj] at g3; cases g3
   exact h3 (np + k) _ _ (hnewget k x g1) rfl g2
  ·obtain ⟨e', L', g1, g2, g3, g4, _, _, _, g5⟩ := hold j ej hj hn
   rw [hLj] at g4; cases g4
   exact g5 hr b (by rw [h]; simp)
end
theorem gF {E E' : Operand → Option D} : ∀ {l : List Operand} (_ : ∀ x ∈ l, E x = E' x), jK E l = jK E' l
 |[], _ => rfl
 |x :: xs, h => by
  simp only [jK, h x (by simp), gF (l := xs) (fun y hy => h y (by simp [hy]))]
theorem jH {E E' : Operand → Option D} : ∀ {l : List (Nat × Operand)} (_ : ∀ x ∈ l, E x.2 = E' x.2), r8 E l = r8 E' l
 |[], _ => rfl
 |(k, x) :: xs, h => by
  simp only [r8, h (k, x) (by simp), jH (l := xs) (fun y hy => h y (by simp [hy]))]
theorem jI {E E' : Operand → Option D} {x : Option Operand} (h : ∀ y, x = some y → E y = E' y) : jJ E x = jJ E' x := by
 cases x with
 |none => rfl
 |some y => simp only [jJ, h y rfl]
theorem aCF {Γ : Tab} {nx : Nat} {mg : MG} {E E' : Operand → Option D} {alt : Nat} {op : Op} (h : ∀ x ∈ op.operands.toList, E x = E' x) : opE Γ nx mg E alt op = opE Γ nx mg E' alt op := by
 cases op <;> simp only [Op.operands, List.mem_cons, List.not_mem_nil, or_false, forall_eq_or_imp, forall_eq] at h <;> try (simp only [opE]; done)
 all_goals first
  |(simp only [opE, h]; done)
  |(simp only [opE, h.1, h.2]; done)
  |(simp only [opE, h.1, h.2.1, h.2.2]; done)
  |skip
 case build t ps =>
  simp only [opE]
  rw [jH (fun x hx => h x.2 (List.mem_map_of_mem hx))]
 case buildSlice t n ps =>
  simp only [opE]
  rw [jH (fun x hx => h x.2 (List.mem_map_of_mem hx))]
 case makeFunc fn first caps =>
  simp only [opE]
  rw [gF (l := first.toList) (fun x hx => h x (by simp; left; simpa using hx)), gF (l := caps.toList) (fun x hx => h x (by simp; right; simpa using hx))]
 case slice t x lo hi mx =>
  have h1 : E x = E' x := h x (by simp)
  have h2 : jJ E lo = jJ E' lo := jI fun y hy => h y (by subst hy; simp)
  have h3 : jJ E hi = jJ E' hi := jI fun y hy => h y (by subst hy; simp)
  have h4 : jJ E mx = jJ E' mx := jI fun y hy => h y (by subst hy; simp)
  simp only [opE, h1, h2, h3, h4]
 case call c =>
  simp only [opE]
  cases hc : c.callee with
  |builtin b =>
   simp only
   rw [gF (l := c.args.toList) (fun x hx => h x (by simp [Call.operands, hc]; simpa using hx))]
  |value f => rfl
  |invoke r n => rfl
def KeysOk (mg : MG) (nx : Nat) (e : Eff) : Prop := ∀ k ∈ e.up.map (·.1), mg k ≠ none ∨ (nx ≤ k ∧ k < nx + e.nw)
theorem KeysOk.pure {mg : MG} {nx : Nat} {ob : Prop} {v : D} : KeysOk mg nx ⟨ob, v, [], 0⟩ := fun k h => by simp at h
theorem eV {mg : MG} {nx : Nat} {T : Ty} {d v : D} {ob : Prop} {e : Eff} (h : l9 nx T d v ob = some e) : KeysOk mg nx e := by
 unfold l9 at h
 split at h <;> try contradiction
 cases h
 intro k hk
 simp at hk
 subst hk
 exact .inr ⟨Nat.le_refl _, by simp⟩
theorem bC {mg : MG} {nx : Nat} {v : D} {ob : Prop} {e : Eff} (h : cL ob v = some e) : KeysOk mg nx e := by
 cases h; exact KeysOk.pure
theorem aDf {Γ : Tab} {nx : Nat} {mg : MG} {E : Operand → Option D} {alt : Nat} {op : Op} {e : Eff} (h : opE Γ nx mg E alt op = some e) : KeysOk mg nx e := by
 unfold opE at h
 split at h
 case h_8 =>
  split at h <;> try contradiction
  obtain ⟨b, p, en, i, T, x, _, _, _, _, _, _, rfl⟩ := n5 h
  exact KeysOk.pure
 case h_9 =>
  split at h <;> try contradiction
  split at h <;> try contradiction
  obtain ⟨b, p, en, i, T, x, d', _, hg, _, _, _, _, _, _, rfl⟩ := pQ h
  intro k hk
  simp at hk; subst hk
  exact .inl (by rw [hg]; simp)
 case h_23 =>
  repeat' split at h
  all_goals try contradiction
  unfold kK at h
  split at h <;> try contradiction
  ·unfold lenE at h
   repeat' split at h
   all_goals first | contradiction | exact bC h
  ·unfold aCj at h
   repeat' split at h
   all_goals first
    |contradiction
    |exact bC h
    |(cases h
      intro k hk
      simp at hk; subst hk
      exact .inl (by simp [*]))
  ·unfold iE at h
   repeat' split at h
   all_goals first
    |contradiction
    |exact bC h
    |exact eV h
    |(cases h
      intro k hk
      simp at hk
      rcases hk with rfl | rfl
      ·exact .inr ⟨Nat.le_refl _, by simp⟩
      ·exact .inl (by simp [*]))
  ·unfold kZ at h
   repeat' split at h
   all_goals first | contradiction | exact bC h
  ·unfold kZ at h
   repeat' split at h
   all_goals first | contradiction | exact bC h
  ·unfold capE at h
   repeat' split at h
   all_goals first | contradiction | exact bC h
 all_goals (repeat' split at h)
 all_goals first
  |contradiction
  |exact bC h
  |exact eV h
  |(unfold vU at h; repeat' split at h
    all_goals first | contradiction | exact eV h)
  |(unfold boxE at h; repeat' split at h
    all_goals first | contradiction | exact eV h)
  |(unfold aAD at h; repeat' split at h
    all_goals first | contradiction | exact bC h)
  |(unfold fA at h; repeat' split at h
    all_goals first | contradiction | exact eV h)
  |(unfold t9 at h; repeat' split at h
    all_goals first | contradiction | (cases h; exact KeysOk.pure))
  |(unfold vD at h; repeat' split at h
    all_goals first | contradiction | exact bC h | exact eV h | (cases h; intro k hk; simp at hk; subst hk; exact .inl (by simp [*])))
  |(unfold yG at h; repeat' split at h
    all_goals first | contradiction | exact bC h)
  |(unfold fT at h; repeat' split at h
    all_goals first | contradiction | exact eV h)
  |(unfold yK at h; repeat' split at h
    all_goals first | contradiction | exact bC h)
  |(unfold fW at h; repeat' split at h
    all_goals first | contradiction | exact bC h)
  |(unfold zW aA5 at h; repeat' split at h
    all_goals first | contradiction | (cases h; exact KeysOk.pure))
  |(unfold iS at h; repeat' split at h
    all_goals first | contradiction | exact bC h)
  |(unfold zO aA5 at h; repeat' split at h
    all_goals first | contradiction | (cases h; exact KeysOk.pure))
theorem kX {nx : Nat} {T : Ty} {d v : D} {ob : Prop} {e : Eff} (h : l9 nx T d v ob = some e) (h0 : e.nw = 0) : False := by
 unfold l9 at h
 split at h <;> try contradiction
 cases h
 cases h0
theorem aBJ {Γ : Tab} {nx nx' : Nat} {mg : MG} {alt ts tx : Nat} {s x : D} {e : Eff} (h : iE Γ nx mg alt ts tx s x = some e) (h0 : e.nw = 0) : iE Γ nx' mg alt ts tx s x = some e := by
 unfold iE at h
 repeat' split at h
 all_goals first
  |contradiction
  |exact (kX h h0).elim
  |(cases h; exact absurd h0 Nat.one_ne_zero)
  |(simp only [iE, *])
theorem aEL {Γ : Tab} {nx nx' : Nat} {mg : MG} {s d : Nat} {x : D} {e : Eff} (h : vD Γ nx mg s d x = some e) (h0 : e.nw = 0) : vD Γ nx' mg s d x = some e := by
 unfold vD at h
 repeat' split at h
 all_goals first
  |contradiction
  |exact (kX h h0).elim
  |(simp only [vD, *])
theorem opE_nx {Γ : Tab} {nx nx' : Nat} {mg : MG} {E : Operand → Option D} {alt : Nat} {op : Op} {e : Eff} (h : opE Γ nx mg E alt op = some e) (h0 : e.nw = 0) : opE Γ nx' mg E alt op = some e := by
 cases op
 case alloc t =>
  simp only [opE, vU] at h
  split at h <;> first | contradiction | exact (kX h h0).elim
 case box t x =>
  simp only [opE, boxE] at h
  repeat' split at h
  all_goals first | contradiction | exact (kX h h0).elim
 case buildSlice t n ps =>
  simp only [opE, fA] at h
  repeat' split at h
  all_goals first | contradiction | exact (kX h h0).elim
 case makeSlice t l c =>
  simp only [opE, fT] at h
  repeat' split at h
  all_goals first | contradiction | exact (kX h h0).elim
 case convert s d x =>
  simp only [opE] at h ⊢
  split at h <;> try contradiction
  rename_i a ha
  exact aEL h h0
 case call c =>
  simp only [opE] at h ⊢
  cases hc : c.callee with
  |builtin b =>
   simp only [hc] at h ⊢
   split at h <;> try contradiction
   rename_i l hl
   unfold kK at h ⊢
   split at h <;> first | contradiction | exact aBJ h h0 | exact h
  |value f => simp only [hc] at h; cases h
  |invoke r n => simp only [hc] at h; cases h
 all_goals exact h
end Go.Proofs.YtllcgppffncafaaGreatDoor.Av
