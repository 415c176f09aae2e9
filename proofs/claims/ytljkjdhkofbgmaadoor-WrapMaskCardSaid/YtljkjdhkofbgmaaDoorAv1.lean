import Derived.Test.YtljkjdhkofbgmaaDoorAv0
import Derived.Laws.Cells
import Derived.Laws.World
import Derived.Laws.Sem
namespace Go.Proofs.YtljkjdhkofbgmaaDoor.Av
open Go
set_option linter.all false
set_option maxRecDepth 3000

structure Loc where
  blk : Nat
  base : Nat
  n : Nat
  ty : Ty

abbrev Env := Nat → Option Loc

def Env.le (ρ ρ' : Env) : Prop := ∀ i L, ρ i = some L → ρ' i = some L

def elemTy : Ty → Option Ty
  | .arr _ t => some t
  | .row t => some t
  | _ => none

def bytesV (l : List Byte) : List UInt8 := l.map UInt8.ofBitVec

/-- the value of a slice that begins there -/
def SliceAt (L : Loc) (p : Path) (off len : Nat) (cap : Option Nat) (v : Value) : Prop :=
  ∃ T t a c, tyAt L.ty p = some T ∧ elemTy T = some t ∧ v = .slice (some a) len c ∧ len ≤ c ∧ c < 9223372036854775808 ∧ (∀ k, cap = some k → c = k) ∧
    (0 < c → a = ⟨L.blk, L.base + offAt L.ty p + off * t.size, none⟩ ∧ L.base + offAt L.ty p + (off + c) * t.size ≤ L.n)

def RepB (ρ : Env) (d : D) (v : Value) : Prop :=
  match d with
  | .bool b => v = .bool b
  | .u8 x => v = .int .u8 x.toNat
  | .u16 x => v = .int .u16 x.toNat
  | .u32 x => v = .int .u32 x.toNat
  | .u64 x => v = .int .u64 x.toNat
  | .i64 n => v = .int .i64 n ∧ -9223372036854775808 ≤ n ∧ n < 9223372036854775808
  | .str l => ∃ s : ByteArray, v = .string s ∧ s.data.toList = bytesV l ∧ l.length < 9223372036854775808
  | .nilptr => v = .pointer none
  | .ptr b p => ∃ L, ρ b = some L ∧ v = .pointer (some ⟨L.blk, L.base + offAt L.ty p, none⟩)
  | .nilslice => v = .slice none 0 0
  | .slice b p off len cap => ∃ L, ρ b = some L ∧ SliceAt L p off len cap v
  | .nilfn => v = .nilFunc
  | _ => False

def RepS (ρ : Env) (d : D) (v : Value) : Prop :=
  match d with
  | .fn f bd caps => ∃ bs cs : List Value, v = .func (.func f) bs.toArray cs.toArray ∧ All2 (RepB ρ) bd bs ∧ All2 (RepB ρ) caps cs
  | d => RepB ρ d v

def RepV (ρ : Env) (d : D) (v : Value) : Prop :=
  match d.isAgg with
  | true => ∃ cs : List Value, v = .agg cs.toArray ∧ All2 (RepS ρ) d.flat cs
  | false => RepS ρ d v

def Rep (ρ : Env) (d : D) (v : Value) : Prop :=
  match d with
  | .undef => True
  | .tup l => ∃ vs : List Value, v = .tuple vs.toArray ∧ All2 (RepV ρ) l vs
  | d => RepV ρ d v

theorem RepB.mono {ρ ρ' : Env} (h : ρ.le ρ') {d : D} {v : Value} (H : RepB ρ d v) : RepB ρ' d v := by
  cases d <;> simp only [RepB] at H ⊢ <;> first
    | exact H
    | (obtain ⟨L, h1, h2⟩ := H; exact ⟨L, h _ _ h1, h2⟩)

def D.isFn : D → Bool
  | .fn _ _ _ => true
  | _ => false

theorem repS_eq {ρ : Env} {d : D} {v : Value} (h : d.isFn = false) : RepS ρ d v = RepB ρ d v := by
  cases d <;> first | rfl | simp [D.isFn] at h

theorem RepS.mono {ρ ρ' : Env} (h : ρ.le ρ') {d : D} {v : Value} (H : RepS ρ d v) : RepS ρ' d v := by
  cases hd : d.isFn with
  | false => rw [repS_eq hd] at H ⊢; exact H.mono h
  | true =>
    cases d <;> simp [D.isFn] at hd
    obtain ⟨bs, cs, h1, h2, h3⟩ := H; exact ⟨bs, cs, h1, h2.mono fun _ _ => RepB.mono h, h3.mono fun _ _ => RepB.mono h⟩

theorem RepV.mono {ρ ρ' : Env} (h : ρ.le ρ') {d : D} {v : Value} (H : RepV ρ d v) : RepV ρ' d v := by
  unfold RepV at H ⊢
  split
  · rename_i ha
    rw [ha] at H
    obtain ⟨cs, h1, h2⟩ := H; exact ⟨cs, h1, h2.mono fun _ _ => RepS.mono h⟩
  · rename_i ha
    rw [ha] at H
    exact RepS.mono h H

def D.isTup : D → Bool
  | .tup _ => true
  | .undef => true
  | _ => false

theorem rep_eq {ρ : Env} {d : D} {v : Value} (h : d.isTup = false) : Rep ρ d v = RepV ρ d v := by
  cases d <;> first | rfl | simp [D.isTup] at h

theorem Rep.mono {ρ ρ' : Env} (h : ρ.le ρ') {d : D} {v : Value} (H : Rep ρ d v) : Rep ρ' d v := by
  cases hd : d.isTup with
  | false => rw [rep_eq hd] at H ⊢; exact H.mono h
  | true =>
    cases d <;> simp [D.isTup] at hd
    · trivial
    · obtain ⟨cs, h1, h2⟩ := H; exact ⟨cs, h1, h2.mono fun _ _ => RepV.mono h⟩

theorem RepB.oneCell {ρ : Env} {d : D} {v : Value} (H : RepB ρ d v) : v.oneCell' = true := by
  cases d <;> simp only [RepB] at H <;> first
    | (subst H; rfl)
    | exact H.elim
    | (obtain ⟨s, rfl, _⟩ := H; rfl)
    | (obtain ⟨rfl, _⟩ := H; rfl)
    | (obtain ⟨L, _, rfl⟩ := H; rfl)
    | (obtain ⟨L, _, T, t, a, c, _, _, rfl, _⟩ := H; rfl)

theorem RepS.oneCell {ρ : Env} {d : D} {v : Value} (H : RepS ρ d v) : v.oneCell' = true := by
  cases hd : d.isFn with
  | false => rw [repS_eq hd] at H; exact H.oneCell
  | true =>
    cases d <;> simp [D.isFn] at hd
    obtain ⟨bs, cs, rfl, _⟩ := H; rfl

theorem rep_of_repS {ρ : Env} {d : D} {v : Value} (h : d.isCell = true) (H : RepS ρ d v) : Rep ρ d v := by
  cases d <;> first | exact H | (simp [D.isCell] at h)

theorem repS_of_rep {ρ : Env} {d : D} {v : Value} (h : d.isCell = true) (H : Rep ρ d v) : RepS ρ d v := by
  cases d <;> first | exact H | (simp [D.isCell] at h)

/-- the cells of a value -/
theorem rep_cells {ρ : Env} {d : D} {v : Value} {T : Ty} (ht : hasTy T d) (H : Rep ρ d v) : All2 (RepS ρ) d.flat v.cells.toList := by
  by_cases hc : d.isCell = true
  · have h := repS_of_rep hc H
    rw [D.flat_cell hc]
    have h1 := h.oneCell
    have : v.cells = #[v] := by cases v <;> simp_all [Value.oneCell', Value.cells]
    rw [this]
    exact ⟨h, trivial⟩
  · have ha : d.isAgg = true := by
      cases d <;> simp_all [D.isCell, D.isAgg] <;> cases T <;> simp_all [hasTy, D.isCell]
    have : Rep ρ d v = RepV ρ d v := by cases d <;> first | rfl | simp_all [D.isAgg]
    rw [this] at H
    unfold RepV at H
    rw [ha] at H
    obtain ⟨cs, rfl, h2⟩ := H
    simpa [Value.cells] using h2

structure Ent where
  ty : Ty
  d : D
  rw : Bool

abbrev Mem := List (Nat × Option Ent)

def get : Mem → Nat → Option Ent
  | [], _ => none
  | (i, e) :: r, j => match Nat.beq i j with
    | true => e
    | false => get r j

theorem get_cons {i j : Nat} {e : Option Ent} {r : Mem} : get ((i, e) :: r) j = if i = j then e else get r j := by
  simp only [get]
  by_cases h : i = j
  · subst h; simp
  · have : Nat.beq i j = false := by
      cases hb : Nat.beq i j with
      | false => rfl
      | true => exact absurd (Nat.eq_of_beq_eq_true hb) h
    simp [h, this]

theorem get_append {up m : Mem} {i : Nat} : get (up ++ m) i = if i ∈ up.map (·.1) then get up i else get m i := by
  induction up with
  | nil => simp
  | cons x up ih =>
    obtain ⟨j, e⟩ := x
    simp only [List.cons_append, get_cons, ih, List.map_cons, List.mem_cons]
    by_cases h : j = i
    · subst h; simp
    · have h' : ¬ i = j := fun e => h e.symm
      simp only [h, h', if_false, false_or]

def unfrozen (C : Array Value) (fr : Nat × Nat) : Prop := fr.2 = fr.1 ∨ C.size ≤ fr.1

structure SatE (ρ : Env) (e : Ent) (L : Loc) (w : World) : Prop where
  ty : L.ty = e.ty
  good : e.ty.good
  has : hasTy e.ty e.d
  mem : ∃ C t fr pre front tail, w.heap[L.blk]? = some (.cells C t fr) ∧ C.toList = pre ++ front ++ tail ∧ pre.length = L.base ∧ C.size = L.n ∧
    All2 (RepS ρ) e.d.flat front ∧ (e.rw = true → unfrozen C fr)

theorem SatE.mono {ρ ρ' : Env} (h : ρ.le ρ') {e : Ent} {L : Loc} {w : World} (H : SatE ρ e L w) : SatE ρ' e L w := by
  obtain ⟨h1, h2, h3, C, t, fr, pre, front, tail, a, b, c, d, e, f⟩ := H
  exact ⟨h1, h2, h3, C, t, fr, pre, front, tail, a, b, c, d, e.mono fun _ _ => RepS.mono h, f⟩

theorem SatE.same {ρ : Env} {e : Ent} {L : Loc} {w w' : World} (h : w'.heap[L.blk]? = w.heap[L.blk]?) (H : SatE ρ e L w) : SatE ρ e L w' := by
  obtain ⟨h1, h2, h3, C, t, fr, pre, front, tail, a, b⟩ := H
  exact ⟨h1, h2, h3, C, t, fr, pre, front, tail, h ▸ a, b⟩

theorem SatE.lt {ρ : Env} {e : Ent} {L : Loc} {w : World} (H : SatE ρ e L w) : L.blk < w.heap.size := by
  obtain ⟨C, t, fr, pre, front, tail, a, _⟩ := H.mem
  rcases Nat.lt_or_ge L.blk w.heap.size with h | h
  · exact h
  · simp [Array.getElem?_eq_none h] at a

theorem add_none (b o n : Nat) : (⟨b, o, none⟩ : Addr).add n = ⟨b, o + n, none⟩ := by
  unfold Addr.add
  split
  · subst_vars; rfl
  · rfl

theorem SatE.read {ρ : Env} {e : Ent} {L : Loc} {w : World} (H : SatE ρ e L w) {p : Path} {T : Ty} {x : D} (ht : tyAt e.ty p = some T) (ho : okP e.d p) (hx : getP e.d p = some x) :
    hasTy T x ∧ ∃ vs, All2 (RepS ρ) x.flat vs ∧ ∀ j v, vs[j]? = some v → w.cell? ⟨L.blk, L.base + offAt L.ty p + j, none⟩ = some v := by
  obtain ⟨C, t, fr, pre, front, tail, h1, h2, h3, h4, h5, h6⟩ := H.mem
  obtain ⟨hT, pr, po, h7, h8⟩ := getP_spec p e.ty e.d x T H.good H.has ht ho hx
  rw [h7] at h5
  obtain ⟨b12, b3, e1, ha, hb⟩ := All2.split_left h5
  obtain ⟨b1, b2, e2, hc, hd⟩ := All2.split_left ha
  refine ⟨hT, b2, hd, fun j v hj => ?_⟩
  have hl : b1.length = offAt e.ty p := by rw [← hc.length, h8]
  simp only [World.cell?, h1]
  rw [H.ty]
  have hC : C[L.base + offAt e.ty p + j]? = C.toList[L.base + offAt e.ty p + j]? := by simp
  have hjl : j < b2.length := by
    rcases Nat.lt_or_ge j b2.length with h | h
    · exact h
    · simp [List.getElem?_eq_none h] at hj
  simp only [Option.isSome_none, Bool.false_eq_true, if_false]
  rw [hC, h2, e1, e2, ← h3, ← hl]
  rw [List.append_assoc, List.append_assoc, List.append_assoc, Nat.add_assoc, List.getElem?_append_right (by omega)]
  rw [Nat.add_sub_cancel_left, List.getElem?_append_right (by omega), Nat.add_sub_cancel_left, List.getElem?_append_left hjl]
  exact hj

def World.putBlk (w : World) (b : Nat) (C : Array Value) : World :=
  { w with heap := w.heap.modify b fun
      | .cells _ t fr => .cells C t fr
      | o => o }

theorem putBlk_same {w : World} {b : Nat} {C C' : Array Value} {t : TypeId} {fr : Nat × Nat} (h : w.heap[b]? = some (.cells C t fr)) :
    (World.putBlk w b C').heap[b]? = some (.cells C' t fr) := by
  simp [World.putBlk, Array.getElem?_modify, h]

theorem putBlk_other {w : World} {b b' : Nat} {C' : Array Value} (h : b ≠ b') : (World.putBlk w b C').heap[b']? = w.heap[b']? := by
  simp [World.putBlk, Array.getElem?_modify, h]

theorem putBlk_size {w : World} {b : Nat} {C' : Array Value} : (World.putBlk w b C').heap.size = w.heap.size := by
  simp [World.putBlk]

theorem setCell_put {w : World} {b o : Nat} {C : Array Value} {t : TypeId} {fr : Nat × Nat} {v : Value} (h : w.heap[b]? = some (.cells C t fr)) :
    w.setCell ⟨b, o, none⟩ v = World.putBlk w b (C.setIfInBounds o v) := by
  unfold World.setCell World.putBlk
  congr 1
  apply Array.ext_getElem?
  intro i
  simp only [Array.getElem?_modify]
  by_cases hi : b = i
  · subst hi; simp [h]
  · simp [hi]

theorem put_put {w : World} {b : Nat} {C C' : Array Value} : World.putBlk (World.putBlk w b C) b C' = World.putBlk w b C' := by
  unfold World.putBlk
  congr 1
  apply Array.ext_getElem?
  intro i
  simp only [Array.getElem?_modify]
  by_cases hi : b = i
  · subst hi
    cases h : w.heap[b]? with
    | none => simp
    | some o => cases o <;> simp
  · simp [hi]

theorem put_self {w : World} {b : Nat} {C : Array Value} {t : TypeId} {fr : Nat × Nat} (h : w.heap[b]? = some (.cells C t fr)) : World.putBlk w b C = w := by
  unfold World.putBlk
  have : (w.heap.modify b fun | .cells _ t fr => .cells C t fr | o => o) = w.heap := by
    apply Array.ext_getElem?
    intro i
    simp only [Array.getElem?_modify]
    by_cases hi : b = i
    · subst hi; simp [h]
    · simp [hi]
  rw [this]

theorem run_storeCells_put {P : Program} (b : Nat) (t : TypeId) (fr : Nat × Nat) (A : List Value) (o : Nat) : ∀ (ys : List Value) (i : Nat) (w : World) (C : Array Value) (B R : List Value),
    w.heap[b]? = some (.cells C t fr) → unfrozen C fr → C.toList = A ++ B ++ R → A.length = o + i → B.length = ys.length → (∀ v ∈ ys, v.oneCell' = true) →
    (storeCells ⟨b, o, none⟩ ys i).run P w = .ok () (World.putBlk w b (A ++ ys ++ R).toArray)
  | [], i, w, C, B, R, h, _, hC, hA, hB, _ => by
    have : B = [] := List.length_eq_zero_iff.1 hB
    subst this
    have hC' : C = (A ++ [] ++ R).toArray := by rw [← hC]
    unfold storeCells
    rw [← hC', put_self h]
    rfl
  | y :: ys, i, w, C, B, R, h, hf, hC, hA, hB, hy => by
    cases B with
    | nil => simp at hB
    | cons z B =>
      have hz : C[o + i]? = some z := by
        rw [← Array.getElem?_toList, hC, ← hA]
        simp
      have hc : w.cell? ⟨b, o + i, none⟩ = some z := by simp [World.cell?, h, hz]
      have hfz : w.frozen? ⟨b, o + i, none⟩ = false := by
        have hlt : o + i < C.size := by
          rcases Nat.lt_or_ge (o + i) C.size with h' | h'
          · exact h'
          · simp [Array.getElem?_eq_none h'] at hz
        simp only [World.frozen?, h]
        rcases hf with hf | hf
        · simp; omega
        · simp; omega
      unfold storeCells
      rw [Sem.run_bind, add_none, run_store P w _ y .plain (hy y (by simp)), hc]
      simp only [hfz, Bool.false_eq_true, if_false, Result.andThen_ok]
      rw [setCell_put h]
      have hC2 : (C.setIfInBounds (o + i) y).toList = (A ++ [y]) ++ B ++ R := by
        rw [Array.toList_setIfInBounds, hC, ← hA]
        simp
      have ih := run_storeCells_put (P := P) b t fr (A ++ [y]) o ys (i + 1) (World.putBlk w b (C.setIfInBounds (o + i) y)) (C.setIfInBounds (o + i) y) B R
        (putBlk_same h) (by unfold unfrozen at hf ⊢; simpa using hf) hC2 (by simp [hA]; omega) (by simpa using hB) (fun v hv => hy v (by simp [hv]))
      rw [put_put] at ih
      rw [ih]
      simp
termination_by ys => ys.length

theorem SatE.write {P : Program} {ρ : Env} {e : Ent} {L : Loc} {w : World} (H : SatE ρ e L w) {p : Path} {T : Ty} {x y d' : D} {ys : List Value} (ht : tyAt e.ty p = some T) (ho : okP e.d p)
    (hx : getP e.d p = some x) (hs : setP e.d p y = some d') (hy : hasTy T y) (hl : x.flat.length = y.flat.length) (hr : All2 (RepS ρ) y.flat ys) (hw : e.rw = true) :
    ∃ C', (storeCells ⟨L.blk, L.base + offAt L.ty p, none⟩ ys).run P w = .ok () (World.putBlk w L.blk C') ∧ SatE ρ { e with d := d' } L (World.putBlk w L.blk C') := by
  obtain ⟨C, t, fr, pre, front, tail, h1, h2, h3, h4, h5, h6⟩ := H.mem
  obtain ⟨hT, pr, po, ⟨h7, h8⟩, h9⟩ := setP_spec p e.ty e.d x y d' T H.good H.has ht ho hx hs hy
  rw [h7] at h5
  obtain ⟨b12, b3, e1, ha, hb⟩ := All2.split_left h5
  obtain ⟨b1, b2, e2, hc, hd⟩ := All2.split_left ha
  have hl1 : b1.length = offAt e.ty p := by rw [← hc.length, h8]
  have hl2 : b2.length = ys.length := by rw [← hd.length, hl, hr.length]
  have hC : C.toList = (pre ++ b1) ++ b2 ++ (b3 ++ tail) := by rw [h2, e1, e2]; simp
  refine ⟨_, run_storeCells_put L.blk t fr (pre ++ b1) (L.base + offAt L.ty p) ys 0 w C b2 (b3 ++ tail) h1 (h6 hw) hC (by simp [h3, hl1, H.ty]) hl2 ?_, ?_⟩
  · intro v hv
    obtain ⟨i, hi⟩ := List.getElem?_of_mem hv
    have hlt : i < y.flat.length := by
      rw [hr.length]
      rcases Nat.lt_or_ge i ys.length with h' | h'
      · exact h'
      · simp [List.getElem?_eq_none h'] at hi
    obtain ⟨b, hb1, hb2⟩ := hr.get i (List.getElem?_eq_getElem hlt)
    rw [hi] at hb1
    cases hb1
    exact hb2.oneCell
  · have hsz : ((pre ++ b1) ++ ys ++ (b3 ++ tail)).toArray.size = C.size := by
      rw [← Array.length_toList (xs := C), hC]
      simp [hl2]
    refine ⟨H.ty, H.good, hT, _, t, fr, pre, b1 ++ ys ++ b3, tail, putBlk_same h1, by simp, h3, by rw [hsz, h4], ?_, ?_⟩
    · show All2 (RepS ρ) d'.flat _
      rw [h9]
      exact (hc.append hr).append hb
    · intro _
      have := h6 hw
      unfold unfrozen at this ⊢
      rw [hsz]
      exact this

/-- what the call may have done to the world so far -/
structure Ctx where
  w0 : World
  wp : Nat → Prop

/-- the name of a package's variable -/
def gid (g : Nat) : Nat := 1000000 + g

structure Inv (X : Ctx) (ρ : Env) (m : Mem) (w : World) : Prop where
  glob : ∀ g L, ρ (gid g) = some L → L.blk = g ∧ L.base = 0
  sat : ∀ i e, get m i = some e → ∃ L, ρ i = some L ∧ SatE ρ e L w
  inj : ∀ i j ei ej Li Lj, get m i = some ei → get m j = some ej → i ≠ j → ei.rw = true → ρ i = some Li → ρ j = some Lj → Li.blk ≠ Lj.blk
  own : ∀ i e L, get m i = some e → e.rw = true → ρ i = some L → X.wp L.blk ∨ X.w0.heap.size ≤ L.blk
  ext : ∀ b, b < X.w0.heap.size → ¬ X.wp b → w.heap[b]? = X.w0.heap[b]?
  size : X.w0.heap.size ≤ w.heap.size
  os : w.os = X.w0.os
  out : w.output = X.w0.output
  tape : w.tape = X.w0.tape

theorem Inv.put {X : Ctx} {ρ : Env} {m : Mem} {w : World} (H : Inv X ρ m w) {b : Nat} {e e' : Ent} {L : Loc} {C : Array Value} (hg : get m b = some e) (hw : e.rw = true) (hL : ρ b = some L)
    (hw' : e'.rw = true) (hs : SatE ρ e' L (World.putBlk w L.blk C)) : Inv X ρ ((b, some e') :: m) (World.putBlk w L.blk C) where
  glob := H.glob
  sat i ei hi := by
    rw [get_cons] at hi
    split at hi
    · subst_vars; cases hi; exact ⟨L, hL, hs⟩
    · rename_i hne
      obtain ⟨Li, h1, h2⟩ := H.sat i ei hi
      exact ⟨Li, h1, h2.same (putBlk_other (H.inj b i e ei L Li hg hi hne hw hL h1))⟩
  inj i j ei ej Li Lj hi hj hne hr h1 h2 := by
    rw [get_cons] at hi hj
    have key : ∀ k ek, (if b = k then some e' else get m k) = some ek → ∃ ek', get m k = some ek' ∧ ek'.rw = ek.rw ∨ False := by
      intro k ek hk
      split at hk
      · subst_vars; cases hk; exact ⟨e, .inl ⟨hg, by rw [hw, hw']⟩⟩
      · exact ⟨ek, .inl ⟨hk, rfl⟩⟩
    obtain ⟨ei', h3 | h3⟩ := key i ei hi
    · obtain ⟨ej', h4 | h4⟩ := key j ej hj
      · exact H.inj i j ei' ej' Li Lj h3.1 h4.1 hne (by rw [h3.2, hr]) h1 h2
      · exact h4.elim
    · exact h3.elim
  own i ei Li hi hr h1 := by
    rw [get_cons] at hi
    split at hi
    · rename_i hb; subst hb; exact H.own b e Li hg hw h1
    · exact H.own i ei Li hi hr h1
  ext c hc hn := by
    by_cases h : L.blk = c
    · rcases H.own b e L hg hw hL with h' | h'
      · exact absurd (h ▸ h') hn
      · omega
    · rw [putBlk_other h]; exact H.ext c hc hn
  size := by rw [putBlk_size]; exact H.size
  os := H.os
  out := H.out
  tape := H.tape

theorem Inv.mono {X : Ctx} {ρ ρ' : Env} {m : Mem} {w : World} (H : Inv X ρ m w) (h : ρ.le ρ') (hgl : ∀ g L, ρ' (gid g) = some L → L.blk = g ∧ L.base = 0) : Inv X ρ' m w where
  glob := hgl
  sat i e hi := let ⟨L, h1, h2⟩ := H.sat i e hi; ⟨L, h _ _ h1, h2.mono h⟩
  inj i j ei ej Li Lj hi hj hne hr h1 h2 := by
    obtain ⟨L1, a, _⟩ := H.sat i ei hi
    obtain ⟨L2, b, _⟩ := H.sat j ej hj
    have e1 := h _ _ a
    have e2 := h _ _ b
    rw [h1] at e1; rw [h2] at e2
    cases e1; cases e2
    exact H.inj i j ei ej _ _ hi hj hne hr a b
  own i e L hi hr h1 := by
    obtain ⟨L1, a, _⟩ := H.sat i e hi
    have e1 := h _ _ a
    rw [h1] at e1
    cases e1
    exact H.own i e _ hi hr a
  ext := H.ext
  size := H.size
  os := H.os
  out := H.out
  tape := H.tape

theorem Inv.drew {X : Ctx} {ρ : Env} {m : Mem} {w : World} (H : Inv X ρ m w) : Inv X ρ m w.drew :=
  ⟨H.glob, fun i e hi => let ⟨L, h1, h2⟩ := H.sat i e hi; ⟨L, h1, SatE.same (w := w) rfl h2⟩, H.inj, H.own, H.ext, H.size, H.os, H.out, H.tape⟩

def Env.put (ρ : Env) (i : Nat) (L : Loc) : Env := fun j => if j = i then some L else ρ j

theorem Env.le_put {ρ : Env} {i : Nat} {L : Loc} (h : ρ i = none) : ρ.le (ρ.put i L) := by
  intro j L' hj
  unfold Env.put
  split
  · subst_vars; rw [h] at hj; cases hj
  · exact hj

theorem push_lt {w : World} {o : Obj} {b : Nat} (h : b < w.heap.size) : (w.alloc o).heap[b]? = w.heap[b]? := by
  show (w.heap.push o)[b]? = _
  rw [Array.getElem?_push, if_neg (Nat.ne_of_lt h)]

theorem push_new {w : World} {o : Obj} : (w.alloc o).heap[w.heap.size]? = some o := by
  show (w.heap.push o)[w.heap.size]? = _
  rw [Array.getElem?_push, if_pos rfl]

/-- a new block under a new name -/
theorem Inv.alloc {X : Ctx} {ρ : Env} {m : Mem} {w : World} (H : Inv X ρ m w) {i : Nat} {e : Ent} {C : Array Value} {t : TypeId} {front tail : List Value} (hi : ρ i = none) (hlt : i < 1000000)
    (hg : e.ty.good) (hh : hasTy e.ty e.d) (hr : All2 (RepS ρ) e.d.flat front) (hC : C.toList = front ++ tail) {fr : Nat × Nat} (hfr : unfrozen C fr) :
    ρ.le (ρ.put i ⟨w.heap.size, 0, C.size, e.ty⟩) ∧ Inv X (ρ.put i ⟨w.heap.size, 0, C.size, e.ty⟩) ((i, some e) :: m) (w.alloc (.cells C t fr)) := by
  have hle := Env.le_put (L := ⟨w.heap.size, 0, C.size, e.ty⟩) hi
  have hnew : (ρ.put i ⟨w.heap.size, 0, C.size, e.ty⟩) i = some ⟨w.heap.size, 0, C.size, e.ty⟩ := by simp [Env.put]
  have hold : ∀ j ej, get m j = some ej → j ≠ i := by
    intro j ej hj e
    subst e
    obtain ⟨L, h, _⟩ := H.sat j ej hj
    rw [hi] at h; cases h
  refine ⟨hle, fun g L hg => ?_, ?_, ?_, ?_, ?_, ?_, H.os, H.out, H.tape⟩
  · unfold Env.put at hg
    split at hg
    · rename_i hgi; unfold gid at hgi; omega
    · exact H.glob g L hg
  · intro j ej hj
    rw [get_cons] at hj
    split at hj
    · subst_vars; cases hj
      exact ⟨_, hnew, rfl, hg, hh, C, t, fr, [], front, tail, push_new, by simp [hC], rfl, rfl, hr.mono fun _ _ => RepS.mono hle, fun _ => hfr⟩
    · obtain ⟨L, h1, h2⟩ := H.sat j ej hj
      exact ⟨L, hle _ _ h1, (h2.mono hle).same (push_lt h2.lt)⟩
  · intro j k ej ek Lj Lk hj hk hne hrw h1 h2
    rw [get_cons] at hj hk
    split at hj
    · subst_vars
      rw [hnew] at h1; cases h1
      split at hk
      · contradiction
      · obtain ⟨L, h3, h4⟩ := H.sat k ek hk
        have := hle _ _ h3
        rw [h2] at this; cases this
        exact Nat.ne_of_gt h4.lt
    · obtain ⟨L, h3, h4⟩ := H.sat j ej hj
      have e1 := hle _ _ h3
      rw [h1] at e1; cases e1
      split at hk
      · subst_vars
        rw [hnew] at h2; cases h2
        exact Nat.ne_of_lt h4.lt
      · obtain ⟨L', h5, h6⟩ := H.sat k ek hk
        have e2 := hle _ _ h5
        rw [h2] at e2; cases e2
        exact H.inj j k ej ek _ _ hj hk hne hrw h3 h5
  · intro j ej L hj hrw h1
    rw [get_cons] at hj
    split at hj
    · subst_vars
      rw [hnew] at h1; cases h1
      exact .inr H.size
    · obtain ⟨L', h3, h4⟩ := H.sat j ej hj
      have e1 := hle _ _ h3
      rw [h1] at e1; cases e1
      exact H.own j ej _ hj hrw h3
  · intro b hb hn
    rw [push_lt (Nat.lt_of_lt_of_le hb H.size)]
    exact H.ext b hb hn
  · have := H.size; simp; omega

/-- a block's bytes are marked as a text's -/
theorem Inv.frz {X : Ctx} {ρ : Env} {m : Mem} {w : World} (H : Inv X ρ m w) {b : Nat} {e : Ent} {L : Loc} {C : Array Value} {t : TypeId} {fr : Nat × Nat} (hg : get m b = some e) (hw : e.rw = true) (hL : ρ b = some L)
    (hC : w.heap[L.blk]? = some (.cells C t fr)) : Inv X ρ ((b, some e) :: m) (w.freeze ⟨L.blk, C.size, none⟩ 1) := by
  have hsame : ∀ c, L.blk ≠ c → (w.freeze ⟨L.blk, C.size, none⟩ 1).heap[c]? = w.heap[c]? := by
    intro c hc
    show (w.heap.modify L.blk _)[c]? = _
    rw [Array.getElem?_modify, if_neg hc]
  have hnew : ∃ fr', (unfrozen C fr → unfrozen C fr') ∧ (w.freeze ⟨L.blk, C.size, none⟩ 1).heap[L.blk]? = some (.cells C t fr') := by
    obtain ⟨lo, hi⟩ := fr
    refine ⟨if lo == hi then (C.size, C.size + 1) else (min lo C.size, max hi (C.size + 1)), fun h => ?_, ?_⟩
    · unfold unfrozen at h ⊢
      split
      · exact .inr (Nat.le_refl _)
      · rename_i hne
        rcases h with h | h
        · exact absurd h.symm (by simpa using hne)
        · right; exact Nat.le_min.2 ⟨h, Nat.le_refl _⟩
    · show (w.heap.modify L.blk _)[L.blk]? = _
      rw [Array.getElem?_modify, if_pos rfl, hC]
      rfl
  obtain ⟨fr', hf, hn⟩ := hnew
  have hgg : ∀ i ei, get ((b, some e) :: m) i = some ei → get m i = some ei := by
    intro i ei h
    rw [get_cons] at h
    split at h
    · subst_vars; cases h; exact hg
    · exact h
  refine ⟨H.glob, fun i ei hi => ?_, fun i j ei ej Li Lj hi hj => H.inj i j ei ej Li Lj (hgg i ei hi) (hgg j ej hj), fun i ei Li hi => H.own i ei Li (hgg i ei hi), fun c hc hn' => ?_, ?_, H.os, H.out, H.tape⟩
  · obtain ⟨Li, h1, h2⟩ := H.sat i ei (hgg i ei hi)
    refine ⟨Li, h1, ?_⟩
    by_cases hb : b = i
    · subst hb
      rw [hL] at h1; cases h1
      obtain ⟨q1, q2, q3, C', t', fr0, pre, front, tail, q4, q5, q6, q7, q8, q9⟩ := h2
      rw [hC] at q4; cases q4
      exact ⟨q1, q2, q3, C, t, fr', pre, front, tail, hn, q5, q6, q7, q8, fun h => hf (q9 h)⟩
    · exact h2.same (hsame Li.blk (H.inj b i e ei L Li hg (hgg i ei hi) hb hw hL h1))
  · by_cases h : L.blk = c
    · rcases H.own b e L hg hw hL with h' | h'
      · exact absurd (h ▸ h') hn'
      · omega
    · rw [hsame c h]; exact H.ext c hc hn'
  · have : (w.freeze ⟨L.blk, C.size, none⟩ 1).heap.size = w.heap.size := by
      show (w.heap.modify L.blk _).size = _
      simp
    rw [this]; exact H.size
end Go.Proofs.YtljkjdhkofbgmaaDoor.Av
