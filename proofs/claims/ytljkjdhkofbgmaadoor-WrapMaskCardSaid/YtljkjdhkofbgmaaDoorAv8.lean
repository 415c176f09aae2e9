import Derived.Test.YtljkjdhkofbgmaaDoorAv7
import Derived.Laws.BytesString
import Derived.Laws.Append
namespace Go.Proofs.YtljkjdhkofbgmaaDoor.Av
open Go
set_option linter.all false
set_option maxRecDepth 3000

theorem freeze_last (w : World) (C : Array Value) (el : TypeId) : (w.alloc (.cells C el)).freeze ⟨w.heap.size, C.size, none⟩ 1 = w.alloc (.cells C el (C.size, C.size + 1)) := by
  show (⟨_, _, _, _, _⟩ : World) = ⟨_, _, _, _, _⟩
  congr 1
  apply Array.ext_getElem?
  intro q
  show ((w.heap.push (.cells C el)).modify w.heap.size _)[q]? = (w.heap.push (.cells C el (C.size, C.size + 1)))[q]?
  rw [Array.getElem?_modify, Array.getElem?_push, Array.getElem?_push]
  by_cases hq : q = w.heap.size
  · subst hq; simp
  · rw [if_neg (fun e => hq e.symm), if_neg hq, if_neg hq]

theorem hasTy_cat {a b y : D} {T : Ty} {n k : Nat} (h : catD a b = some y) (ha : hasTy (.arr n T) a) (hb : hasTy (.arr k T) b) : hasTy (.row T) y := by
  unfold catD at h
  split at h <;> try contradiction
  all_goals cases h
  all_goals first
    | (cases T <;> first | trivial | exact ha.elim)
    | exact AllD_mem.2 fun d hd => by
        rcases List.mem_append.1 hd with hd | hd
        · exact AllD_mem.1 ha.2 d hd
        · exact AllD_mem.1 hb.2 d hd

section
set_option linter.unusedSectionVars false
variable {P : Program} {Γ : Tab} (hΓ : TabOk P Γ) {X : Ctx} {ρ : Env} {m : Mem} {w : World} (hI : Inv X ρ m w) {mg : MG} (hm : ∀ b e, mg b = some e → get m b = some e) {nx : Nat}
include hΓ hI hm

theorem notInt_spec {t : Nat} (h : notInt Γ t = true) : (∃ e, P.underlying t = some (.slice e)) ∨ P.underlying t = some .string := by
  unfold notInt at h
  split at h <;> try contradiction
  rename_i i hi
  have hdd := (hΓ t i hi).desc
  unfold DescOk at hdd
  split at h <;> try contradiction
  · rename_i el hd
    rw [hd] at hdd
    exact .inl ⟨_, hdd.1⟩
  · rename_i hd
    rw [hd] at hdd
    exact .inr hdd.1

/-- the slice is made anew -/
theorem append_grows {ts tx : Nat} {ty : TypeId} {el : Nat} {j : TI} {n k c : Nat} {base : Option Addr} {vx : Value} {os xs : List Value} {y : D} (m' : Mem) (hI' : Inv X ρ m' w)
    (g1 : P.underlying ts = some (.slice el)) (hj : ti Γ el = some j) (hx : notInt Γ tx = true) (hlx : (Builtin.lenOf vx).run P w = .ok k w) (hgrow : c < n + k)
    (ho : (Builtin.firstCells j.ty.size n (.slice base n c)).run P w.drew = .ok os.toArray w.drew) (hxs : (Builtin.firstCells j.ty.size k vx).run P w.drew = .ok xs.toArray w.drew)
    (hsz : (n + k) * j.bytes ≤ 140737488355328) (h63 : n + k < 9223372036854775808) (_ : 0 < j.bytes) (hnx : ρ nx = none) (hlt : nx < 1000000)
    (hlen : (os ++ xs).length = (n + k) * j.ty.size)
    (hyt : hasTy (.row j.ty) y) (hy : All2 (RepS ρ) y.flat (os ++ xs)) :
    ∃ r w' ρ', (Builtin.append_ #[ts, tx] ty #[.slice base n c, vx]).run P w = .ok r w' ∧ ρ.le ρ' ∧ (∀ i, ρ' i ≠ none → ρ i ≠ none ∨ i = nx) ∧ Rep ρ' (.slice nx [] 0 (n + k) none) r ∧
      Inv X ρ' ((nx, some ⟨.row j.ty, y, true⟩) :: m') w' := by
  have hdx := notInt_spec hΓ hI hm hx
  have hok := hΓ el j hj
  obtain ⟨z, hz, hrz⟩ := run_zeroValue hΓ hj w.drew
  obtain ⟨inf, z', q1, q2, q3, right⟩ := hok.info
  have hbt : ∀ w, (typeInfo el).run P w = .ok inf w := fun w => by simp [typeInfo, q1]
  -- the cells
  let cap := (Question.appendCap (n + k) c el).cut (w.tape w.drawn (.appendCap (n + k) c el))
  have hcap : n + k ≤ cap ∧ cap < 9223372036854775808 := by
    show n + k ≤ n + k + w.tape w.drawn (.appendCap (n + k) c el) % (2 ^ 63 - (n + k)) ∧ n + k + w.tape w.drawn (.appendCap (n + k) c el) % (2 ^ 63 - (n + k)) < 9223372036854775808
    have : w.tape w.drawn (.appendCap (n + k) c el) % (2 ^ 63 - (n + k)) < 2 ^ 63 - (n + k) := Nat.mod_lt _ (by omega)
    omega
  have hnext : ¬ (Builtin.nextslicecap (n + k) c * inf.bytes > 2 ^ 48) := by
    have h1 := nextcap_le hgrow
    rw [q3]
    have := Nat.mul_le_mul_right j.bytes h1
    rw [Nat.mul_assoc] at this
    omega
  have hrun : (Builtin.append_ #[ts, tx] ty #[.slice base n c, vx]).run P w =
      .ok (.slice (some ⟨w.drew.heap.size, 0, none⟩) (n + k) cap) (w.drew.alloc (.cells (os.toArray ++ xs.toArray ++ Builtin.zeroCells z.cells (cap - (n + k))) el)) := by
    have h1 : ¬ (n + k ≤ c) := by omega
    have h2 : ¬ (9223372036854775807 < ((n : Int) + (k : Int))) := by omega
    have h3 : ¬ (281474976710656 < Builtin.nextslicecap (n + k) c * inf.bytes) := by simpa using hnext
    rw [← q2] at ho hxs
    obtain ⟨z2, hz2⟩ : ∃ z2, inf.zero = some z2 := ⟨_, right.1⟩
    have hzz : z = z2 := by
      have := hz
      simp [zeroValue, typeInfo, q1, hz2] at this
      exact this.symm
    subst hzz
    rcases hdx with ⟨e', hdx⟩ | hdx
    · simp [Builtin.append_, run_underlying g1, run_underlying hdx, sizeOf, typeInfo, zeroValue, q1, hz2, hlx, h1, h2, h3, Question.forced, ho, hxs, newRow]
      refine ⟨rfl, ?_⟩
      congr 2
      apply Array.ext'
      simp [cap]
    · simp [Builtin.append_, run_underlying g1, run_underlying hdx, sizeOf, typeInfo, zeroValue, q1, hz2, hlx, h1, h2, h3, Question.forced, ho, hxs, newRow]
      refine ⟨rfl, ?_⟩
      congr 2
      apply Array.ext'
      simp [cap]
  have hsplit : (os.toArray ++ xs.toArray ++ Builtin.zeroCells z.cells (cap - (n + k))).toList = (os ++ xs) ++ (Builtin.zeroCells z.cells (cap - (n + k))).toList := by simp
  obtain ⟨h1, h2⟩ := (hI'.drew).alloc (i := nx) (e := ⟨.row j.ty, y, true⟩) (t := el) (C := os.toArray ++ xs.toArray ++ Builtin.zeroCells z.cells (cap - (n + k))) (fr := (0, 0)) hnx hlt hok.flat hyt hy hsplit (.inl rfl)
  refine ⟨_, _, _, hrun, h1, ?_, ?_, h2⟩
  · intro i hi
    unfold Env.put at hi
    split at hi
    · exact .inr (by assumption)
    · exact .inl hi
  · have hnew : (ρ.put nx ⟨w.drew.heap.size, 0, (os.toArray ++ xs.toArray ++ Builtin.zeroCells z.cells (cap - (n + k))).size, .row j.ty⟩) nx = some ⟨w.drew.heap.size, 0, (os.toArray ++ xs.toArray ++ Builtin.zeroCells z.cells (cap - (n + k))).size, .row j.ty⟩ := by simp [Env.put]
    refine ⟨_, hnew, _, _, _, _, rfl, rfl, rfl, hcap.1, hcap.2, (fun k hk => by cases hk), fun hc => ⟨by simp [offAt], ?_⟩⟩
    have hzl : z.cells.size = j.ty.size := by rw [← Array.length_toList, ← (hrz ρ).length, hasTy_length _ _ hok.flat hok.zty]
    have hzz : (Builtin.zeroCells z.cells (cap - (n + k))).size = (cap - (n + k)) * j.ty.size := by simp [Builtin.zeroCells, hzl]
    simp only [offAt, Nat.zero_add, Array.size_append, List.size_toArray, hzz]
    rw [List.length_append] at hlen
    have : cap * j.ty.size = (n + k) * j.ty.size + (cap - (n + k)) * j.ty.size := by rw [← Nat.add_mul]; congr 1; omega
    omega

/-- there is room: the cells behind are written -/
theorem append_room {ts tx : Nat} {ty : TypeId} {el : Nat} {j : TI} {n k c : Nat} {a : Addr} {vx : Value} {xs : List Value} {w' : World}
    (g1 : P.underlying ts = some (.slice el)) (hj : ti Γ el = some j) (hx : notInt Γ tx = true) (hlx : (Builtin.lenOf vx).run P w = .ok k w) (hroom : n + k ≤ c)
    (hxs : (Builtin.firstCells j.ty.size k vx).run P w = .ok xs.toArray w) (hst : (storeCells (a.add (n * j.ty.size)) xs).run P w = .ok () w') :
    (Builtin.append_ #[ts, tx] ty #[.slice (some a) n c, vx]).run P w = .ok (.slice (some a) (n + k) c) w' := by
  have hdx := notInt_spec hΓ hI hm hx
  obtain ⟨inf, z', q1, q2, q3, right⟩ := (hΓ el j hj).info
  rw [← q2] at hxs hst
  rcases hdx with ⟨e', hdx⟩ | hdx
  · simp [Builtin.append_, run_underlying g1, run_underlying hdx, sizeOf, typeInfo, q1, hlx, hroom, hxs, hst]
  · simp [Builtin.append_, run_underlying g1, run_underlying hdx, sizeOf, typeInfo, q1, hlx, hroom, hxs, hst]

/-- noughts behind nothing -/
theorem append_made {ts tx : Nat} {ty : TypeId} {el : Nat} {j : TI} {k : Int} (g1 : P.underlying ts = some (.slice el)) (hj : ti Γ el = some j) (hx : P.underlying tx = some (.int .i64)) (hk : 0 < k) (hz : j.ty.size ≠ 0)
    (hsz : k * j.bytes ≤ 140737488355328) (h63 : k < 9223372036854775808) (_ : 0 < j.bytes) (hnx : ρ nx = none) (hlt : nx < 1000000) :
    ∃ r w' ρ', (Builtin.append_ #[ts, tx] ty #[.slice none 0 0, .int .i64 k]).run P w = .ok r w' ∧ ρ.le ρ' ∧ (∀ i, ρ' i ≠ none → ρ i ≠ none ∨ i = nx) ∧ Rep ρ' (.slice nx [] 0 k.toNat none) r ∧
      Inv X ρ' ((nx, some ⟨.row j.ty, zerosD j.zero k.toNat, true⟩) :: m) w' := by
  have hok := hΓ el j hj
  obtain ⟨z, hzv, hrz⟩ := run_zeroValue hΓ hj w.drew
  obtain ⟨inf, z', q1, q2, q3, right⟩ := hok.info
  obtain ⟨n, rfl⟩ : ∃ n : Nat, k = n := ⟨k.toNat, by omega⟩
  have hn0 : 0 < n := by omega
  have hszn : n * j.bytes ≤ 140737488355328 := by omega
  let cap := (Question.appendCap n 0 el).cut (w.tape w.drawn (.appendCap n 0 el))
  have hcap : n ≤ cap ∧ cap < 9223372036854775808 := by
    show n ≤ n + w.tape w.drawn (.appendCap n 0 el) % (2 ^ 63 - n) ∧ n + w.tape w.drawn (.appendCap n 0 el) % (2 ^ 63 - n) < 9223372036854775808
    have : w.tape w.drawn (.appendCap n 0 el) % (2 ^ 63 - n) < 2 ^ 63 - n := Nat.mod_lt _ (by omega)
    omega
  have hnext : ¬ (281474976710656 < Builtin.nextslicecap n 0 * inf.bytes) := by
    have h1 := nextcap_le hn0
    rw [q3]
    have := Nat.mul_le_mul_right j.bytes h1
    rw [Nat.mul_assoc] at this
    omega
  obtain ⟨z2, hz2⟩ : ∃ z2, inf.zero = some z2 := ⟨_, right.1⟩
  have hzz : z = z2 := by
    have := hzv
    simp [zeroValue, typeInfo, q1, hz2] at this
    exact this.symm
  subst hzz
  have hrun : (Builtin.append_ #[ts, tx] ty #[.slice none 0 0, .int .i64 (n : Int)]).run P w =
      .ok (.slice (some ⟨w.drew.heap.size, 0, none⟩) n cap) (w.drew.alloc (.cells (Builtin.zeroCells z.cells n ++ Builtin.zeroCells z.cells (cap - n)) el)) := by
    have hw : IntKind.wrap .i64 (n : Int) = n := wrap_i64_in ⟨by omega, by omega⟩
    have h1 : ¬ ((n : Int) < 0) := by omega
    have h2 : ¬ (281474976710656 < (n : Int) * (inf.bytes : Int)) := by
      rw [q3]; omega
    have h3 : ¬ (n = 0) := by omega
    have h4 : ¬ (9223372036854775807 < (n : Int)) := by omega
    have h5 : ¬ (inf.size = 0) := by rw [q2]; exact hz
    simp [Builtin.append_, run_underlying g1, run_underlying hx, sizeOf, typeInfo, zeroValue, asInt, asIntOf, q1, hz2, hw, h1, h2, h3, h4, h5, hnext, Question.forced, Builtin.firstCells, newRow, hn0]
    rw [if_neg (by intro h; rcases Nat.mul_eq_zero.1 h with h | h; exact h3 h; exact h5 h)]
  have hzl : z.cells.size = j.ty.size := by rw [← Array.length_toList, ← (hrz ρ).length, hasTy_length _ _ hok.flat hok.zty]
  have hzc : ∀ n, (Builtin.zeroCells z.cells n).toList = (List.replicate n z.cells.toList).flatten := by
    intro n
    simp only [Builtin.zeroCells, hzl]
    rw [← hzl, zeros_cells z.cells n (.inl (by rw [hzl]; exact hz))]
  have hsplit : (Builtin.zeroCells z.cells n ++ Builtin.zeroCells z.cells (cap - n)).toList = (Builtin.zeroCells z.cells n).toList ++ (Builtin.zeroCells z.cells (cap - n)).toList := by simp
  obtain ⟨h1, h2⟩ := (hI.drew).alloc (i := nx) (e := ⟨.row j.ty, zerosD j.zero n, true⟩) (t := el) (C := Builtin.zeroCells z.cells n ++ Builtin.zeroCells z.cells (cap - n)) (fr := (0, 0)) hnx hlt hok.flat (zerosD_ty hok.zty)
    (by rw [hzc n]; show All2 _ (zerosD j.zero n).flat _; rw [zerosD_flat]; exact (hrz ρ).flatten_replicate n) hsplit (.inl rfl)
  refine ⟨_, _, _, hrun, h1, fun i hi => ?_, ?_, h2⟩
  · unfold Env.put at hi
    split at hi
    · exact .inr (by assumption)
    · exact .inl hi
  · refine ⟨_, if_pos rfl, _, _, _, _, rfl, rfl, rfl, hcap.1, hcap.2, (fun k hk => by cases hk), fun hc => ⟨by simp [offAt], ?_⟩⟩
    have hs1 : ∀ n, (Builtin.zeroCells z.cells n).size = n * j.ty.size := fun n => by
      rw [← Array.length_toList, hzc n, List.length_flatten]; simp [hzl]
    simp only [offAt, Nat.zero_add, Array.size_append, hs1]
    rw [← Nat.add_mul]
    exact Nat.mul_le_mul_right _ (by omega)

theorem append_nil0 {ts tx : Nat} {ty : TypeId} {el : Nat} {j : TI} {vx : Value} {xs : List Value}
    (g1 : P.underlying ts = some (.slice el)) (hj : ti Γ el = some j) (hx : notInt Γ tx = true) (hlx : (Builtin.lenOf vx).run P w = .ok 0 w)
    (hxs : (Builtin.firstCells j.ty.size 0 vx).run P w = .ok xs.toArray w) :
    (Builtin.append_ #[ts, tx] ty #[.slice none 0 0, vx]).run P w = .ok (.slice none 0 0) w := by
  have hdx := notInt_spec hΓ hI hm hx
  obtain ⟨inf, z', q1, q2, q3, right⟩ := (hΓ el j hj).info
  rw [← q2] at hxs
  rcases hdx with ⟨e', hdx⟩ | hdx
  · simp [Builtin.append_, run_underlying g1, run_underlying hdx, sizeOf, typeInfo, q1, hlx, hxs]
  · simp [Builtin.append_, run_underlying g1, run_underlying hdx, sizeOf, typeInfo, q1, hlx, hxs]

omit hΓ hI hm in
theorem lenD_flat {T : Ty} {d : D} (hf : T.flatTy) (h : hasTy (.row T) d) : d.flat.length = lenD d * T.size := by
  cases d with
  | u8s l => cases T <;> first | (simp [D.flat, lenD, Ty.size]; done) | exact h.elim
  | u32s l => cases T <;> first | (simp [D.flat, lenD, Ty.size]; done) | exact h.elim
  | u64s l => cases T <;> first | (simp [D.flat, lenD, Ty.size]; done) | exact h.elim
  | node l => exact flats_all (fun d hd => hasTy_length T d hf hd) h
  | _ => exact h.elim

theorem sound_append {alt ts tx : Nat} {ty : TypeId} {s x : D} {vs vx : Value} {e : Eff} (hnx : ρ nx = none) (he : appendE Γ nx mg alt ts tx s x = some e) (ho : e.ob) (hs : Rep ρ s vs) (hx : Rep ρ x vx) :
    Sound P (Builtin.append_ #[ts, tx] ty #[vs, vx]) id X ρ m w nx e := by
  unfold appendE at he
  split at he
  rotate_left
  · split at he <;> try contradiction
    rename_i hi64
    split at he <;> try contradiction
    split at he <;> try contradiction
    rename_i k
    split at he <;> try contradiction
    rename_i _ el j hj
    obtain ⟨g1, hj, hnz⟩ := elemOfT_spec hΓ hI hj
    obtain ⟨o1, o2, o3, o4⟩ := newE_ob hΓ hI he ho
    have hut : P.underlying tx = some (.int .i64) := by
      unfold isI64 at hi64
      split at hi64 <;> try contradiction
      rename_i i hi
      have hdd := (hΓ tx i hi).desc
      unfold DescOk at hdd
      split at hi64 <;> try contradiction
      rename_i hd
      rw [hd] at hdd
      exact hdd.1
    have hs : vs = .slice none 0 0 := hs
    obtain ⟨rfl, _⟩ := hx
    subst hs
    unfold newE at he
    split at he <;> try contradiction
    rename_i hlt
    cases he
    obtain ⟨r, w', ρ', r1, r2, r3, r4, r5⟩ := append_made hΓ hI hm (ty := ty) g1 hj hut o1 hnz o2 o3 o4 hnx (by simp [Nat.blt] at hlt; omega)
    exact ⟨r, w', ρ', r1, r2, fun i hi => by rcases r3 i hi with h | h; exact .inl h; exact .inr ⟨by omega, by simp; omega⟩, r4, r5⟩
  rename_i hnot
  split at he <;> try contradiction
  rename_i _ el j hj
  obtain ⟨g1, hj, hnz⟩ := elemOfT_spec hΓ hI hj
  split at he <;> try contradiction
  rename_i n hn
  split at he <;> try contradiction
  rename_i k hk
  split at he <;> try contradiction
  rename_i ob1 sd hsd
  split at he <;> try contradiction
  rename_i ob2 xd hxd
  obtain ⟨hlx, hk63⟩ := lenOf_spec (P := P) hΓ hI hm hk hx w
  have hf := (hΓ el j hj).flat
  have grow : ∀ (m' : Mem) (_ : Inv X ρ m' w) (c : Nat) (base : Option Addr) (y : D), catD sd xd = some y → vs = .slice base n c → c < n + k → ob1 → ob2 → (n + k) * j.bytes ≤ 140737488355328 → n + k < 9223372036854775808 → 0 < j.bytes → nx < 1000000 →
      ∃ r w' ρ', (Builtin.append_ #[ts, tx] ty #[vs, vx]).run P w = .ok r w' ∧ ρ.le ρ' ∧ (∀ i, ρ' i ≠ none → ρ i ≠ none ∨ i = nx) ∧ Rep ρ' (.slice nx [] 0 (n + k) none) r ∧
        Inv X ρ' ((nx, some ⟨.row j.ty, y, true⟩) :: m') w' := by
    intro m' hI' c base y hy hvs hc h1 h2 h3 h4 h5 h6
    have hId := hI.drew
    obtain ⟨a1, os, a2, a3, a4⟩ := run_elems hΓ hId hm hj hsd h1 hs
    obtain ⟨b1, xs, b2, b3, b4⟩ := run_elems hΓ hId hm hj hxd h2 hx
    subst hvs
    refine append_grows hΓ hI hm m' hI' g1 hj hnot hlx hc a2 b2 h3 h4 h5 hnx h6 (by rw [List.length_append, a4, b4, Nat.add_mul]) (hasTy_cat hy a1 b1) ?_
    rw [catD_flat hy]
    exact a3.append b3
  split at he
  · -- nothing comes
    split at he <;> try contradiction
    · rename_i b p off len cap
      cases he
      obtain ⟨⟨o1, o2⟩, o3⟩ := ho
      subst o3
      obtain ⟨b1, xs, b2, b3, b4⟩ := run_elems hΓ hI hm hj hxd o2 hx
      have hxs : xs = [] := List.length_eq_zero_iff.1 (by rw [b4]; simp)
      subst hxs
      have hs' := hs
      obtain ⟨L, h2, T1, t1, a, c, k1, k2, rfl, k3, k4, k5, k6⟩ := hs'
      exact Sound.pure hI (append_room hΓ hI hm (n := len) (k := 0) g1 hj hnot hlx (by omega) b2 rfl) hs
    · cases he
      obtain ⟨⟨o1, o2⟩, o3⟩ := ho
      subst o3
      obtain ⟨b1, xs, b2, b3, b4⟩ := run_elems hΓ hI hm hj hxd o2 hx
      have hs' : vs = .slice none 0 0 := hs
      subst hs'
      exact Sound.pure hI (append_nil0 hΓ hI hm g1 hj hnot hlx b2) rfl
  · -- a new row
    split at he <;> try contradiction
    rename_i y hy
    split at he <;> try contradiction
    · rename_i b p off len c
      have ho' := newE_ob hΓ hI he ho
      obtain ⟨⟨o1, o2⟩, ⟨o3, o4, o5, o6⟩, o7⟩ := ho'
      unfold newE at he
      split at he <;> try contradiction
      rename_i hlt
      cases he
      simp only [cntOf, Option.some.injEq] at hn
      subst hn
      have hs' := hs
      obtain ⟨L, h2, T1, t1, a, c', k1, k2, hv, k3, k4, k5, k6⟩ := hs'
      have := k5 c rfl
      subst this
      obtain ⟨r, w', ρ', r1, r2, r3, r4, r5⟩ := grow m hI c' (some a) y hy hv o3 o1 o2 o4 o5 o6 (by simp [Nat.blt] at hlt; omega)
      exact ⟨r, w', ρ', r1, r2, fun i hi => by rcases r3 i hi with h | h; exact .inl h; exact .inr ⟨by omega, by simp; omega⟩, r4, r5⟩
    · have ho' := newE_ob hΓ hI he ho
      obtain ⟨⟨o1, o2⟩, ⟨o3, o4, o5, o6⟩, o7⟩ := ho'
      unfold newE at he
      split at he <;> try contradiction
      rename_i hlt
      cases he
      simp only [cntOf, Option.some.injEq] at hn
      subst hn
      have hv : vs = .slice none 0 0 := hs
      obtain ⟨r, w', ρ', r1, r2, r3, r4, r5⟩ := grow m hI 0 none y hy hv (by omega) o1 o2 o4 o5 o6 (by simp [Nat.blt] at hlt; omega)
      exact ⟨r, w', ρ', r1, r2, fun i hi => by rcases r3 i hi with h | h; exact .inl h; exact .inr ⟨by omega, by simp; omega⟩, r4, r5⟩
  · -- the row is given up: it goes on where it is, or anew
    split at he <;> try contradiction
    rename_i y hy
    split at he <;> try contradiction
    rename_i b off len cap
    split at he <;> try contradiction
    rename_i en hg
    split at he <;> try contradiction
    rename_i hrw
    split at he <;> try contradiction
    rename_i T0 hrow
    split at he <;> try contradiction
    rename_i hlt
    cases he
    simp only [cntOf, Option.some.injEq] at hn
    subst hn
    obtain ⟨⟨o1, o2⟩, ⟨o4, o5, o6⟩, o7⟩ := ho
    have hlt : nx < 1000000 := by simp [Nat.blt] at hlt; omega
    have hs' := hs
    obtain ⟨L, h2, T1, t1, a, c, k1, k2, hv, k3, k4, k5, k6⟩ := hs'
    obtain ⟨L', h3, h4⟩ := hI.sat b en (hm _ _ hg)
    rw [h2] at h3; cases h3
    by_cases hc : c < len + k
    · obtain ⟨r, w', ρ', r1, r2, r3, r4, r5⟩ := grow ((b, none) :: m) (hI.drop b) c (some a) y hy hv hc o1 o2 o4 o5 o6 hlt
      exact ⟨r, w', ρ', r1, r2, fun i hi => by rcases r3 i hi with h | h; exact .inl h; exact .inr ⟨by omega, by simp; omega⟩, r4, r5⟩
    · -- in its place
      have hT0 : T0 = j.ty := by
        unfold elemsD at hsd
        simp only [hg, hrow, tyAt, elemTy] at hsd
        split at hsd <;> try contradiction
        exact Ty.eq_of_beq _ _ (by assumption)
      subst hT0
      rw [h4.ty, hrow] at k1
      simp only [tyAt, Option.some.injEq] at k1
      subst k1
      simp only [elemTy, Option.some.injEq] at k2
      subst k2
      obtain ⟨a1, os, a2, a3, a4⟩ := run_elems hΓ hI hm hj hsd o1 hs
      obtain ⟨b1, xs, b2, b3, b4⟩ := run_elems hΓ hI hm hj hxd o2 hx
      obtain ⟨C, t, fr, pre, front, tail, m1, m2, m3, m4, m5, m6⟩ := h4.mem
      have hhas : hasTy (.row j.ty) en.d := by rw [← hrow]; exact h4.has
      subst hv
      -- the elements' cells are the last of what is known
      have hsd2 : getP en.d [.win off len] = some sd ∧ okP en.d [.win off len] := by
        unfold elemsD at hsd
        simp only [hg, hrow, tyAt, elemTy, List.nil_append] at hsd
        repeat' split at hsd
        all_goals try contradiction
        cases hsd
        exact ⟨by assumption, o1.2⟩
      obtain ⟨_, pr, po, q1, q2⟩ := getP_spec [.win off len] (.row j.ty) en.d sd (.arr len j.ty) hf hhas rfl hsd2.2 hsd2.1
      have q2 : pr.length = off * j.ty.size := by rw [q2]; simp [offAt]
      have hsdl : sd.flat.length = len * j.ty.size := hasTy_length (.arr len j.ty) sd hf a1
      rw [q1] at m5
      obtain ⟨f0, f3, hfe0, m5, _⟩ := All2.split_left m5
      have m2 : C.toList = pre ++ f0 ++ (f3 ++ tail) := by rw [m2, hfe0]; simp
      clear hfe0
      generalize f3 ++ tail = tail at m2
      generalize f0 = front at m2 m5
      have hfl : front.length = (off + len) * j.ty.size := by rw [← m5.length, List.length_append, q2, hsdl, Nat.add_mul]
      obtain ⟨f1, f2, hfe, hf1, hf2⟩ := All2.split_left m5
      have hf1l : f1.length = off * j.ty.size := by rw [← hf1.length, q2]
      have hCl := congrArg List.length m2
      simp only [List.length_append, Array.length_toList] at hCl
      have hk : k * j.ty.size ≤ tail.length := by
        rcases Nat.eq_zero_or_pos c with h0 | h0
        · have : k = 0 := by omega
          rw [this]; simp
        · obtain ⟨k7, k8⟩ := k6 h0
          have e1 : (off + len + k) * j.ty.size ≤ (off + c) * j.ty.size := Nat.mul_le_mul_right _ (by omega)
          rw [Nat.add_mul (off + len)] at e1
          simp only [offAt, Nat.add_zero] at k8
          omega
      have hC : C.toList = (pre ++ front) ++ tail.take (k * j.ty.size) ++ tail.drop (k * j.ty.size) := by rw [List.append_assoc (pre ++ front), List.take_append_drop, m2]
      have hxl : xs.length = (tail.take (k * j.ty.size)).length := by rw [b4, List.length_take, Nat.min_eq_left hk]
      have hone : ∀ v ∈ xs, v.oneCell' = true := by
        intro v hv
        obtain ⟨i, hi⟩ := List.getElem?_of_mem hv
        have hlt : i < xd.flat.length := by
          rw [b3.length]
          rcases Nat.lt_or_ge i xs.length with h' | h'
          · exact h'
          · simp [List.getElem?_eq_none h'] at hi
        obtain ⟨z, hz1, hz2⟩ := b3.get i (List.getElem?_eq_getElem hlt)
        rw [hi] at hz1
        cases hz1
        exact hz2.oneCell
      have hst := run_storeCells_put (P := P) L.blk t fr (pre ++ front) (L.base + front.length) xs 0 w C (tail.take (k * j.ty.size)) (tail.drop (k * j.ty.size)) m1 (m6 hrw) hC (by simp [m3]) hxl.symm hone
      have hst2 : (storeCells (a.add (len * j.ty.size)) xs).run P w = .ok () (World.putBlk w L.blk ((pre ++ front) ++ xs ++ tail.drop (k * j.ty.size)).toArray) := by
        rcases Nat.eq_zero_or_pos c with h0 | h0
        · have hk0 : k = 0 := by omega
          have hxs : xs = [] := List.length_eq_zero_iff.1 (by rw [b4, hk0]; simp)
          subst hxs
          have hCC : ((pre ++ front) ++ [] ++ tail.drop (k * j.ty.size)).toArray = C := by
            apply Array.ext'
            rw [m2, hk0]
            simp
          rw [hCC, put_self m1]
          rfl
        · obtain ⟨k7, k8⟩ := k6 h0
          rw [k7, add_none]
          have : L.base + offAt L.ty [] + off * j.ty.size + len * j.ty.size = L.base + front.length := by
            rw [hfl, Nat.add_mul]; simp [offAt]; omega
          rw [this]
          exact hst
      have hsz : ((pre ++ front) ++ xs ++ tail.drop (k * j.ty.size)).toArray.size = C.size := by
        rw [← Array.length_toList (xs := C), hC]
        simp only [List.size_toArray, List.length_append, hxl]
      refine ⟨_, _, ρ.put nx ⟨L.blk, L.base + off * j.ty.size, L.n, .row j.ty⟩, append_room hΓ hI hm g1 hj hnot hlx (by omega) b2 hst2, Env.le_put hnx, ?_, ?_, ?_⟩
      · intro i hi
        unfold Env.put at hi
        split at hi
        · exact .inr ⟨by omega, by simp; omega⟩
        · exact .inl hi
      · have hnew : (ρ.put nx ⟨L.blk, L.base + off * j.ty.size, L.n, .row j.ty⟩) nx = some ⟨L.blk, L.base + off * j.ty.size, L.n, .row j.ty⟩ := by simp [Env.put]
        refine ⟨_, hnew, _, _, a, c, rfl, rfl, rfl, by omega, k4, (fun k hk => by cases hk), fun h0 => ?_⟩
        obtain ⟨k7, k8⟩ := k6 h0
        simp only [offAt, Nat.add_zero] at k7 k8
        refine ⟨by rw [k7]; simp [offAt], ?_⟩
        simp only [offAt, Nat.add_zero, Nat.zero_add]
        rw [Nat.add_mul] at k8
        omega
      · refine hI.renew (hm _ _ hg) hrw h2 hnx hlt rfl ⟨rfl, hf, o7, _, t, fr, pre ++ f1, f2 ++ xs, tail.drop (k * j.ty.size), putBlk_same m1, ?_, ?_, ?_, ?_, ?_⟩
        · rw [hfe]; simp
        · simp [m3, hf1l]
        · rw [hsz, m4]
        · show All2 _ y.flat _
          rw [catD_flat hy]
          exact (hf2.append b3).mono fun _ _ => RepS.mono (Env.le_put hnx)
        · intro _
          have := m6 hrw
          unfold unfrozen at this ⊢
          rw [hsz]
          exact this

theorem sound_conv {src dst : Nat} {x : D} {v : Value} {e : Eff} (hnx : ρ nx = none) (he : convE Γ nx mg src dst x = some e) (ho : e.ob) (hx : Rep ρ x v) : Sound P (convert src dst v) id X ρ m w nx e := by
  unfold convE at he
  split at he <;> try contradiction
  rename_i i hi
  split at he <;> try contradiction
  rename_i k hk
  have hdi := (hΓ src i hi).desc
  have hdk := (hΓ dst k hk).desc
  unfold DescOk at hdi hdk
  split at he <;> try contradiction
  · rename_i k1 k2 h1 h2
    rw [h1] at hdi
    rw [h2] at hdk
    split at he <;> try contradiction
    rename_i y hy
    cases he
    obtain ⟨jj, n, r, rfl, hr, hrep⟩ := sound_convI (P := P) (w := w) hy hx
    refine Sound.pure hI (r := r) ?_ hrep
    simp [convert, underlying, hdi.1, hdk.1, hr]
  · rename_i h1 h2
    rw [h1] at hdi
    rw [h2] at hdk
    split at he <;> try contradiction
    rename_i l
    cases he
    have hx' := hx
    obtain ⟨s, rfl, hs, hlen⟩ := hx'
    refine Sound.pure hI (r := .string s) ?_ hx
    simp [convert, underlying, hdi.1, hdk.1]
  · rename_i el0 el h1 h2
    rw [h1] at hdi
    rw [h2] at hdk
    split at he <;> try contradiction
    rename_i hbeq
    split at he <;> try contradiction
    rename_i j hj
    split at he <;> try contradiction
    rename_i hjd
    split at he <;> try contradiction
    rename_i b p off len cap
    split at he <;> try contradiction
    rename_i en hg
    split at he <;> try contradiction
    rename_i hrw
    cases he
    have hdj := (hΓ el j hj).desc
    unfold DescOk at hdj
    rw [hjd] at hdj
    obtain rfl := Nat.eq_of_beq_eq_true hbeq
    have ho : 0 < len := ho
    have hx' := hx
    obtain ⟨L, h2', T1, t1, a, c, k1, k2, rfl, k3, k4, k5, k6⟩ := hx'
    obtain ⟨k7, _⟩ := k6 (by omega)
    obtain ⟨L', h3, h4⟩ := hI.sat b en (hm _ _ hg)
    rw [h2'] at h3; cases h3
    obtain ⟨C, t, fr, pre, front, tail, m1, m2, m3, m4, m5, m6⟩ := h4.mem
    refine ⟨_, _, ρ, ?_, Env.le_refl ρ, fun _ h => .inl h, hx, hI.frz (hm _ _ hg) hrw h2' m1⟩
    have hsh : w.shape? L.blk = some (t, C.size) := by simp [World.shape?, m1]
    simp [convert, run_underlying hdk.1, run_underlying hdj.1, markStringish, k7, hsh]
  · rename_i el h1 h2
    rw [h1] at hdi
    rw [h2] at hdk
    split at he <;> try contradiction
    rename_i j hj
    split at he <;> try contradiction
    rename_i hjd
    split at he <;> try contradiction
    rename_i l
    have hdj := (hΓ el j hj).desc
    unfold DescOk at hdj
    rw [hjd] at hdj
    obtain ⟨s, rfl, hs, hlen⟩ := hx
    have hsz : s.size = l.length := by
      have := congrArg List.length hs
      rw [bytesV, List.length_map, Array.length_toList] at this
      exact this
    let cap := (Question.appendCap s.size 0 el).cut (w.tape w.drawn (.appendCap s.size 0 el))
    have hcap : s.size ≤ cap ∧ cap < 9223372036854775808 := by
      show s.size ≤ s.size + w.tape w.drawn (.appendCap s.size 0 el) % (2 ^ 63 - s.size) ∧ s.size + w.tape w.drawn (.appendCap s.size 0 el) % (2 ^ 63 - s.size) < 9223372036854775808
      have : w.tape w.drawn (.appendCap s.size 0 el) % (2 ^ 63 - s.size) < 2 ^ 63 - s.size := Nat.mod_lt _ (by omega)
      omega
    let C : Array Value := (s.data.map fun b => .int .u8 b.toNat) ++ Array.replicate (cap - s.size) (.int .u8 0)
    have hCs : C.size = cap := by
      show ((s.data.map fun b : UInt8 => (Value.int .u8 b.toNat)) ++ Array.replicate (cap - s.size) (Value.int .u8 0)).size = cap
      have : s.data.size = s.size := rfl
      rw [Array.size_append, Array.size_map, Array.size_replicate]
      omega
    refine sound_new hΓ hI (C := C) (t := el) (front := l.map fun b => .int .u8 b.toNat) (tail := List.replicate (cap - s.size) (.int .u8 0)) (r := .slice (some ⟨w.drew.heap.size, 0, none⟩) s.size cap) (fr := (C.size, C.size + 1)) hnx he trivial trivial ?_ ?_ hI.drew (.inr (Nat.le_refl _)) ?_ ?_
    · show All2 (RepS ρ) (l.map D.u8) (l.map fun b => (.int .u8 b.toNat : Value))
      rw [All2.map_left, All2.map_right]
      exact All2.refl_of (R := fun a b => RepS ρ (D.u8 a) (Value.int IntKind.u8 (BitVec.toNat b))) (fun a => rfl) _
    · show (_ : Array Value).toList = _
      rw [Array.toList_append, Array.toList_map, hs, Array.toList_replicate]
      unfold bytesV
      rw [List.map_map]
      rfl
    · have hfz := freeze_last w.drew C el
      have hshape : (w.drew.alloc (.cells C el)).shape? w.drew.heap.size = some (el, C.size) := by
        unfold World.shape?
        rw [push_new]
      have hconv : (convert src dst (.string s)).run P w = (Conv.stringToBytes el s).run P w := by
        simp [convert, underlying, hdi.1, hdk.1, hdj.1]
      rw [hconv]
      simp only [Conv.stringToBytes, Sem.run_bind, run_choose, Question.forced, Bool.false_eq_true, if_false, Result.andThen_ok, World.drew_eq, newRow, run_newObj, World.alloc_eq, Sem.run_pure, markStringish, run_shape]
      have : (w.drew.alloc (.cells C el)).shape? w.drew.heap.size = some (el, C.size) := hshape
      rw [show (w.drew.alloc (Obj.cells (Array.map (fun b => Value.int IntKind.u8 b.toNat) s.data ++ Array.replicate (Question.cut (Question.appendCap s.size 0 el) (w.tape w.drawn (Question.appendCap s.size 0 el)) - s.size) (Value.int IntKind.u8 0)) el)) = w.drew.alloc (.cells C el) from rfl]
      rw [this]
      simp only [run_freeze, Result.andThen_ok]
      rw [hfz]
    · intro ρ' _ h'
      refine ⟨_, h', _, _, ⟨w.drew.heap.size, 0, none⟩, cap, rfl, rfl, by rw [hsz]; rfl, by omega, hcap.2, (fun k hk => by cases hk), fun hc => ⟨by simp [offAt], by simp [offAt, Ty.size]; omega⟩⟩
  · rename_i el h1 h2
    rw [h1] at hdi
    rw [h2] at hdk
    split at he <;> try contradiction
    rename_i j hj
    split at he <;> try contradiction
    rename_i hjd
    split at he <;> try contradiction
    rename_i n hn
    split at he <;> try contradiction
    rename_i ob l hel
    have hdj := (hΓ el j hj).desc
    unfold DescOk at hdj
    rw [hjd] at hdj
    have key : x ≠ .str [] → (∀ q, x ≠ .str q) → e = ⟨ob ∧ l.length = n, .str l, [], 0⟩ → Sound P (convert src dst v) id X ρ m w nx e := by
      intro _ hns hee
      subst hee
      obtain ⟨o1, o2⟩ := ho
      obtain ⟨a1, cs, a2, a3, a4⟩ := run_elems hΓ hI hm hj hel o1 hx
      have hcell : j.ty = .cell := hdj.2
      rw [hcell] at a2 a4
      simp only [D.flat] at a3
      rw [All2.map_left] at a3
      have hcs : cs = l.map fun b => (.int .u8 b.toNat : Value) := (All2.eq (fun b : BitVec 8 => (Value.int .u8 b.toNat))).1 a3
      obtain ⟨hlen, hk63⟩ := lenOf_spec (P := P) hΓ hI hm hn hx w
      have hst : ∀ (l : List Byte) (s : ByteArray), ((l.map fun b => ((b.toNat : Nat) : Int)).foldl (fun r n => r.push (UInt8.ofNat n.toNat)) s).data.toList = s.data.toList ++ bytesV l := by
        intro l
        induction l with
        | nil => intro s; simp [bytesV]
        | cons b l ih =>
          intro s
          rw [List.map_cons, List.foldl_cons, ih]
          have : UInt8.ofNat (((b.toNat : Nat) : Int)).toNat = UInt8.ofBitVec b := by
            rw [Int.toNat_natCast]
            apply UInt8.toNat_inj.1
            have := b.isLt
            simp
          rw [this]
          simp [bytesV, ByteArray.push]
      have hcs2 : cs = (l.map fun b => ((b.toNat : Nat) : Int)).map (Value.int .u8) := by rw [hcs, List.map_map]; rfl
      have hrv : (convert src dst v).run P w = (Conv.bytesToString v).run P w ∧ (∃ s : ByteArray, (Conv.bytesToString v).run P w = .ok (.string s) w ∧ s.data.toList = bytesV l) := by
        cases x <;> simp only [cntOf, Option.some.injEq] at hn <;> try contradiction
        · have hx : v = .slice none 0 0 := hx
          subst hx hn
          refine ⟨run_convert_bytes_string w src dst el none 0 0 hdi.1 hdj.1 hdk.1, ⟨.empty, rfl, ?_⟩⟩
          have : l = [] := List.length_eq_zero_iff.1 o2
          subst this
          rfl
        · obtain ⟨L, h2, T1, t1, a, c, k1, k2, rfl, k3, k4, k5, k6⟩ := hx
          subst hn
          refine ⟨run_convert_bytes_string w src dst el (some a) _ c hdi.1 hdj.1 hdk.1, ⟨_, run_bytesToString w a _ c (l.map fun b => ((b.toNat : Nat) : Int)) ?_, ?_⟩⟩
          · rw [← hcs2]
            simpa [Builtin.firstCells, Ty.size] using a2
          · rw [hst]; rfl
      obtain ⟨hc1, s, hc2, hc3⟩ := hrv
      exact Sound.pure hI (r := .string s) (by rw [hc1, hc2]) ⟨s, rfl, hc3, by omega⟩
    split at he <;> try contradiction
    rename_i hns
    cases he
    exact key (hns []) hns rfl
end
end Go.Proofs.YtljkjdhkofbgmaaDoor.Av
