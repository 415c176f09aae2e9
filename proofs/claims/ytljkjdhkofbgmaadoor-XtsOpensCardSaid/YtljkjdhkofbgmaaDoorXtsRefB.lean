import Derived.Test.YtljkjdhkofbgmaaDoorXtsRefA
namespace Go.Proofs.YtljkjdhkofbgmaaDoor.Av
open Go
set_option linter.all false
set_option maxRecDepth 3000

/-! the document's sectors -/
def rI (g : Nat → List (BitVec 8)) : Nat → List (List (BitVec 8))
  | 0 => []
  | n + 1 => rI g n ++ [g n]
theorem rI_length (g : Nat → List (BitVec 8)) : ∀ n, (rI g n).length = n
  | 0 => rfl
  | n + 1 => by rw [rI, List.length_append, rI_length g n]; rfl
theorem rI_lens {g : Nat → List (BitVec 8)} {m : Nat} : ∀ {n : Nat}, (∀ k, k < n → (g k).length = m) → ∀ r ∈ rI g n, r.length = m
  | 0, _, r, hr => by cases hr
  | n + 1, h, r, hr => by
    rw [rI, List.mem_append] at hr
    rcases hr with hr | hr
    · exact rI_lens (fun k hk => h k (by omega)) r hr
    · rw [List.mem_singleton.1 hr]; exact h n (by omega)
theorem rI_getD {g : Nat → List (BitVec 8)} : ∀ {n k : Nat}, k < n → (rI g n).getD k [] = g k
  | n + 1, k, hk => by
    rw [rI]
    by_cases h : k < n
    · rw [List.getD_eq_getElem?_getD, List.getElem?_append_left (by rw [rI_length]; exact h), ← List.getD_eq_getElem?_getD]
      exact rI_getD h
    · rw [show k = n by omega, List.getD_eq_getElem?_getD, List.getElem?_append_right (by rw [rI_length]; exact Nat.le_refl _), rI_length, Nat.sub_self]; rfl
theorem rI_congr {g h : Nat → List (BitVec 8)} : ∀ {n : Nat}, (∀ k, k < n → g k = h k) → rI g n = rI h n
  | 0, _ => rfl
  | n + 1, e => by rw [rI, rI, rI_congr (fun k hk => e k (by omega)), e n (by omega)]
theorem rowTy {m : Nat} {ws : List (List (BitVec 8))} (h : ∀ r ∈ ws, r.length = m) : hasTy (.row (.arr m .cell)) (.node (ws.map .u8s)) := by
  refine AllD_mem.2 fun d hd => ?_
  obtain ⟨k, hk, rfl⟩ := List.mem_map.1 hd
  exact h k hk
/-- a block, copied byte by byte -/
def cpI (b : List (BitVec 8)) (o i : Nat) : Nat → List (BitVec 8)
  | 0 => List.replicate 16 0
  | j + 1 => (cpI b o i j).set j (b.getD (o + (16 * i + j)) 0)
theorem cpI_length (b : List (BitVec 8)) (o i : Nat) : ∀ j, (cpI b o i j).length = 16
  | 0 => rfl
  | j + 1 => by rw [cpI, List.length_set, cpI_length b o i j]
theorem cpI_getD (b : List (BitVec 8)) (o i : Nat) : ∀ n x, n ≤ 16 → x < n → (cpI b o i n).getD x 0 = b.getD (o + (16 * i + x)) 0
  | 0, x, _, hx => by omega
  | n + 1, x, hn, hx => by
    rw [cpI, getD_set (by rw [cpI_length]; omega)]
    split
    · next h => subst h; rfl
    · exact cpI_getD b o i n x (by omega) (by omega)
theorem cpI_chunk (b : List (BitVec 8)) (o i : Nat) (h : o + 16 * i + 16 ≤ b.length) : cpI b o i 16 = chunk b (o + 16 * i) := by
  have hl := chunk_length h
  refine ext_getD (by rw [cpI_length, hl]) fun x hx => ?_
  rw [cpI_length] at hx
  rw [cpI_getD b o i 16 x (Nat.le_refl _) hx, chunk_getD _ _ _ hx, Nat.add_assoc]

theorem catRows {ws : List (List (BitVec 8))} {x : List (BitVec 8)} {n : Nat} (h : ws.length = n) : List.take n (List.drop 0 (ws.map D.u8s)) ++ List.take 1 (List.drop 0 [D.u8s x]) = (ws ++ [x]).map D.u8s := by
  rw [List.drop_zero, List.drop_zero, List.take_of_length_le (by rw [List.length_map, h]; exact Nat.le_refl _), List.map_append]
  rfl

/-- a slice that grew from nothing -/
def nD (b : Nat) : Nat → Nat → D
  | _, 0 => .nilslice
  | c, n + 1 => .slice b [] 0 (c * (n + 1)) none
def nM (b : Nat) (T : Ty) (d : D) : Nat → Mem
  | 0 => []
  | _ + 1 => [(b, some ⟨T, d, true⟩)]
set_option maxHeartbeats 400000 in
theorem rsectS_ac (k1 k2 : List (List (BitVec 8))) (h1 : Rows 15 16 k1) (h2 : Rows 15 16 k2) (bs : List (BitVec 8)) (o L : Nat) (cap : Option Nat) (s : BitVec 64) (hL : L = 512) (ho : o + 512 ≤ bs.length) (hbl : bs.length < 9223372036854775808)
    (G : List (BitVec 8)) (hG : G = catB (fun k => blkF (encF k1) (twN (encI k2 (nI s 8) 14) k) (chunk bs (o + 16 * k))) 32) :
    AC Tryd.prog 46 [xR k1 k2, .u64 s, .slice 0 [] o L cap, .bool false] 1 ((0, some ⟨.row .cell, .u8s bs, false⟩) :: gB)
      ⟨.slice 1 [] 0 512 none, [], [(.row .cell, .u8s G)]⟩ := by
  subst hL
  have htw := rtweaks_ac k1 k2 s _ h1 h2 rfl
  have hel := encI_length k2 _ (nI_length s 8) 14
  obtain ⟨_, hat⟩ := tkI_at (encI k2 (nI s 8) 14) 31 (by decide)
  have htr := tkI_rows _ hel 31 (by decide)
  generalize tkI (encI k2 (nI s 8) 14) 31 = tk at htw hat htr
  obtain ⟨l1, hl1⟩ : ∃ l1 : Nat → List (BitVec 8), l1 = fun k => xorF (chunk bs (o + 16 * k)) (tk.getD k []) := ⟨_, rfl⟩
  have hl1l : ∀ k, k < 32 → (l1 k).length = 16 := fun k hk => by rw [hl1]; show (xorF _ _).length = 16; rw [xorF_length, chunk_length (by omega)]
  obtain ⟨g2, hg2⟩ : ∃ g2 : Nat → List (BitVec 8), g2 = fun k => xorF (encF k1 (l1 k)) (tk.getD k []) := ⟨_, rfl⟩
  have hg2l : ∀ k, k < 32 → (g2 k).length = 16 := fun k hk => by rw [hg2]; show (xorF _ _).length = 16; rw [xorF_length]; exact encI_length k1 _ (hl1l k hk) 14
  have hGe : G = catB g2 32 := by
    rw [hG]
    refine catB_congr fun k hk => ?_
    rw [hg2, hl1]
    show blkF _ _ _ = xorF (encF k1 (xorF (chunk bs (o + 16 * k)) (tk.getD k []))) (tk.getD k [])
    rw [hat k (by omega)]
    rfl
  clear hG hat
  clear hel
  have hrl : ∀ k, k < 32 → (tk.getD k []).length = 16 := fun k hk => htr.get hk
  have htl : (tk.map D.u8s).length = 32 := by rw [List.length_map, htr.1]
  refine ac_of tab mix Tryd.func46 rfl (by kernel_rfl) (by kernel_rfl) (by kernel_rfl) {} ?_
  refine EffG.mk (And.intro (xR_ty h1 h2) ?_)
  repeat first | (refine EffG.mk (And.intro ?_ ?_); focus ((repeat' (first | exact trivial | refine And.intro ?_ ?_)) <;> (first | omega | (simp only [hasTy, okP, lenD, D.ren, D.isCell, Option.getD, List.length_set, List.length_take, List.length_drop, List.length_append, List.length_replicate, List.length_map, List.length_cons, List.length_nil, Option.map] <;> omega) | with_reducible assumption | with_reducible rfl | decide); done)) | (refine And.intro ?_ ?_; focus ((repeat' (first | exact trivial | refine And.intro ?_ ?_)) <;> (first | omega | (simp only [hasTy, okP, lenD, D.ren, D.isCell, Option.getD, List.length_set, List.length_take, List.length_drop, List.length_append, List.length_replicate, List.length_map, List.length_cons, List.length_nil, Option.map] <;> omega) | with_reducible assumption | with_reducible rfl | decide); done)) | refine chkG (by kernel_rfl) ?_
  refine callR htw [] (.node (tk.map .u8s)) [] rfl (congrArg (fun d => [d, D.u64 s]) (ren_xR _ k1 k2).symm) ⟨⟨_, rfl, rfl, rfl, id⟩, trivial⟩ rfl rfl (ren_rows _ tk) rfl ?_
  repeat first | (refine EffG.mk (And.intro ?_ ?_); focus ((repeat' (first | exact trivial | refine And.intro ?_ ?_)) <;> (first | omega | (simp only [hasTy, okP, lenD, D.ren, D.isCell, Option.getD, List.length_set, List.length_take, List.length_drop, List.length_append, List.length_replicate, List.length_map, List.length_cons, List.length_nil, Option.map] <;> omega) | with_reducible assumption | with_reducible rfl | decide); done)) | (refine And.intro ?_ ?_; focus ((repeat' (first | exact trivial | refine And.intro ?_ ?_)) <;> (first | omega | (simp only [hasTy, okP, lenD, D.ren, D.isCell, Option.getD, List.length_set, List.length_take, List.length_drop, List.length_append, List.length_replicate, List.length_map, List.length_cons, List.length_nil, Option.map] <;> omega) | with_reducible assumption | with_reducible rfl | decide); done)) | refine chkG (by kernel_rfl) ?_
  refine EffG.mk (And.intro ⟨trivial, htr.ty⟩ ?_)
  repeat first | (refine EffG.mk (And.intro ?_ ?_); focus ((repeat' (first | exact trivial | refine And.intro ?_ ?_)) <;> (first | omega | (simp only [hasTy, okP, lenD, D.ren, D.isCell, Option.getD, List.length_set, List.length_take, List.length_drop, List.length_append, List.length_replicate, List.length_map, List.length_cons, List.length_nil, Option.map] <;> omega) | with_reducible assumption | with_reducible rfl | decide); done)) | (refine And.intro ?_ ?_; focus ((repeat' (first | exact trivial | refine And.intro ?_ ?_)) <;> (first | omega | (simp only [hasTy, okP, lenD, D.ren, D.isCell, Option.getD, List.length_set, List.length_take, List.length_drop, List.length_append, List.length_replicate, List.length_map, List.length_cons, List.length_nil, Option.map] <;> omega) | with_reducible assumption | with_reducible rfl | decide); done)) | refine chkG (by kernel_rfl) ?_
  refine loopG Nat (fun i => [(2, .slice 0 [] o 512 cap), (3, .bool false), (4, .ptr 1 []), (9, .ptr 2 []), (10, nD 3 1 i), (11, .i64 i)]) (fun i => [(0, some ⟨.row .cell, .u8s bs, false⟩), (1, some ⟨tR, xR k1 k2, true⟩), (2, some ⟨t3216, .node (tk.map .u8s), true⟩), (gid 0, some ⟨t256, .u8s boxL, false⟩)] ++ nM 3 (.row t16) (.node ((rI l1 i).map .u8s)) i) 4
    (fun i => i ≤ 32) (fun i => 32 - i) 0 [0, 1, 2] (Nat.zero_le _) ?_ ?_
  · exact viewG rfl ⟨rfl, rfl, rfl, rfl, rfl, rfl, trivial⟩ ⟨⟨_, rfl, rfl, rfl, id⟩, ⟨_, rfl, rfl, (ren_xR _ k1 k2).symm, id⟩, ⟨_, rfl, rfl, (ren_rows _ tk).symm, id⟩, ⟨_, rfl, rfl, rfl, id⟩, trivial⟩ rfl
  intro i hi
  rcases i with _ | n
  · repeat first | (refine EffG.mk (And.intro ?_ ?_); focus ((repeat' (first | exact trivial | refine And.intro ?_ ?_)) <;> (first | omega | (simp only [hasTy, okP, lenD, D.ren, D.isCell, Option.getD, List.length_set, List.length_take, List.length_drop, List.length_append, List.length_replicate, List.length_map, List.length_cons, List.length_nil, Option.map] <;> omega) | with_reducible assumption | with_reducible rfl | decide); done)) | (refine And.intro ?_ ?_; focus ((repeat' (first | exact trivial | refine And.intro ?_ ?_)) <;> (first | omega | (simp only [hasTy, okP, lenD, D.ren, D.isCell, Option.getD, List.length_set, List.length_take, List.length_drop, List.length_append, List.length_replicate, List.length_map, List.length_cons, List.length_nil, Option.map] <;> omega) | with_reducible assumption | with_reducible rfl | decide); done)) | refine chkG (by kernel_rfl) ?_
    refine Br.split (fun h => ?_) (fun h => ?_)
    · have hi : 0 < 32 := by have := of_decide_eq_true h; omega
      have hlen := hl1l 0 hi
      have htk := hrl 0 hi
      have hle : l1 0 = xorF (cpI bs o 0 16) (tk.getD 0 []) := by rw [hl1, cpI_chunk bs o 0 (by omega)]
      repeat first | (refine EffG.mk (And.intro ?_ ?_); focus ((repeat' (first | exact trivial | refine And.intro ?_ ?_)) <;> (first | omega | (simp only [hasTy, okP, lenD, D.ren, D.isCell, Option.getD, List.length_set, List.length_take, List.length_drop, List.length_append, List.length_replicate, List.length_map, List.length_cons, List.length_nil, Option.map] <;> omega) | with_reducible assumption | with_reducible rfl | decide); done)) | (refine And.intro ?_ ?_; focus ((repeat' (first | exact trivial | refine And.intro ?_ ?_)) <;> (first | omega | (simp only [hasTy, okP, lenD, D.ren, D.isCell, Option.getD, List.length_set, List.length_take, List.length_drop, List.length_append, List.length_replicate, List.length_map, List.length_cons, List.length_nil, Option.map] <;> omega) | with_reducible assumption | with_reducible rfl | decide); done)) | refine chkG (by kernel_rfl) ?_
      refine loopG Nat (fun j => [(2, .slice 0 [] o 512 cap), (3, .bool false), (4, .ptr 1 []), (9, .ptr 2 []), (10, .nilslice), (11, .i64 (0 : Nat)), (12, .ptr 4 []), (13, .i64 j)]) (fun j => [(0, some ⟨.row .cell, .u8s bs, false⟩), (1, some ⟨tR, xR k1 k2, true⟩), (2, some ⟨t3216, .node (tk.map .u8s), true⟩), (gid 0, some ⟨t256, .u8s boxL, false⟩), (4, some ⟨t16, .u8s (cpI bs o 0 j), true⟩)]) 5
        (fun j => j ≤ 16) (fun j => 16 - j) 0 [0, 1, 2, 3, 4] (Nat.zero_le _) ?_ ?_
      · exact viewG rfl ⟨rfl, rfl, rfl, rfl, rfl, rfl, rfl, rfl, trivial⟩ ⟨⟨_, rfl, rfl, rfl, id⟩, ⟨_, rfl, rfl, (ren_xR _ k1 k2).symm, id⟩, ⟨_, rfl, rfl, (ren_rows _ tk).symm, id⟩, ⟨_, rfl, rfl, rfl, id⟩, ⟨_, rfl, rfl, rfl, id⟩, trivial⟩ rfl
      intro j hj
      have hcl := cpI_length bs o 0 j
      repeat first | (refine EffG.mk (And.intro ?_ ?_); focus ((repeat' (first | exact trivial | refine And.intro ?_ ?_)) <;> (first | omega | (simp only [hasTy, okP, lenD, D.ren, D.isCell, Option.getD, List.length_set, List.length_take, List.length_drop, List.length_append, List.length_replicate, List.length_map, List.length_cons, List.length_nil, Option.map] <;> omega) | with_reducible assumption | with_reducible rfl | decide); done)) | (refine And.intro ?_ ?_; focus ((repeat' (first | exact trivial | refine And.intro ?_ ?_)) <;> (first | omega | (simp only [hasTy, okP, lenD, D.ren, D.isCell, Option.getD, List.length_set, List.length_take, List.length_drop, List.length_append, List.length_replicate, List.length_map, List.length_cons, List.length_nil, Option.map] <;> omega) | with_reducible assumption | with_reducible rfl | decide); done)) | refine chkG (by kernel_rfl) ?_
      refine Br.split (fun h => ?_) (fun h => ?_)
      · have hj : j < 16 := by have := of_decide_eq_true h; omega
        repeat first | (refine EffG.mk (And.intro ?_ ?_); focus ((repeat' (first | exact trivial | refine And.intro ?_ ?_)) <;> (first | omega | (simp only [hasTy, okP, lenD, D.ren, D.isCell, Option.getD, List.length_set, List.length_take, List.length_drop, List.length_append, List.length_replicate, List.length_map, List.length_cons, List.length_nil, Option.map] <;> omega) | with_reducible assumption | with_reducible rfl | decide); done)) | (refine And.intro ?_ ?_; focus ((repeat' (first | exact trivial | refine And.intro ?_ ?_)) <;> (first | omega | (simp only [hasTy, okP, lenD, D.ren, D.isCell, Option.getD, List.length_set, List.length_take, List.length_drop, List.length_append, List.length_replicate, List.length_map, List.length_cons, List.length_nil, Option.map] <;> omega) | with_reducible assumption | with_reducible rfl | decide); done)) | refine chkG (by kernel_rfl) ?_
        refine nextG (j + 1) [0, 1, 2, 3, 4] ?_ ?_ ?_
        · omega
        · omega
        · exact viewG rfl ⟨rfl, rfl, rfl, rfl, rfl, rfl, rfl, rfl, trivial⟩ ⟨⟨_, rfl, rfl, rfl, id⟩, ⟨_, rfl, rfl, (ren_xR _ k1 k2).symm, id⟩, ⟨_, rfl, rfl, (ren_rows _ tk).symm, id⟩, ⟨_, rfl, rfl, rfl, id⟩, ⟨_, rfl, rfl, rfl, id⟩, trivial⟩ rfl
      · have hj : j = 16 := by have := of_decide_eq_false h; omega
        subst hj
        have hw := rwith_ac _ _ hcl htk
        rw [← hle] at hw
        generalize cpI bs o 0 16 = c at hcl hw ⊢
        repeat first | (rw [nthD_u8s (l := tk)]; rotate_left; (rw [htr.1]; omega)) | (refine EffG.mk (And.intro ?_ ?_); focus ((repeat' (first | exact trivial | refine And.intro ?_ ?_)) <;> (first | omega | (simp only [hasTy, okP, lenD, D.ren, D.isCell, Option.getD, List.length_set, List.length_take, List.length_drop, List.length_append, List.length_replicate, List.length_map, List.length_cons, List.length_nil, Option.map] <;> omega) | with_reducible assumption | with_reducible rfl | decide); done)) | (refine And.intro ?_ ?_; focus ((repeat' (first | exact trivial | refine And.intro ?_ ?_)) <;> (first | omega | (simp only [hasTy, okP, lenD, D.ren, D.isCell, Option.getD, List.length_set, List.length_take, List.length_drop, List.length_append, List.length_replicate, List.length_map, List.length_cons, List.length_nil, Option.map] <;> omega) | with_reducible assumption | with_reducible rfl | decide); done)) | refine chkG (by kernel_rfl) ?_
        refine callG hw [] rfl rfl trivial rfl rfl ?_
        repeat first | (refine EffG.mk (And.intro ?_ ?_); focus ((repeat' (first | exact trivial | refine And.intro ?_ ?_)) <;> (first | omega | (simp only [hasTy, okP, lenD, D.ren, D.isCell, Option.getD, List.length_set, List.length_take, List.length_drop, List.length_append, List.length_replicate, List.length_map, List.length_cons, List.length_nil, Option.map] <;> omega) | with_reducible assumption | with_reducible rfl | decide); done)) | (refine And.intro ?_ ?_; focus ((repeat' (first | exact trivial | refine And.intro ?_ ?_)) <;> (first | omega | (simp only [hasTy, okP, lenD, D.ren, D.isCell, Option.getD, List.length_set, List.length_take, List.length_drop, List.length_append, List.length_replicate, List.length_map, List.length_cons, List.length_nil, Option.map] <;> omega) | with_reducible assumption | with_reducible rfl | decide); done)) | refine chkG (by kernel_rfl) ?_
        refine ⟨1, ?_⟩
        repeat first | (refine EffG.mk (And.intro ?_ ?_); focus ((repeat' (first | exact trivial | refine And.intro ?_ ?_)) <;> (first | omega | (simp only [hasTy, okP, lenD, D.ren, D.isCell, Option.getD, List.length_set, List.length_take, List.length_drop, List.length_append, List.length_replicate, List.length_map, List.length_cons, List.length_nil, Option.map] <;> omega) | with_reducible assumption | with_reducible rfl | decide); done)) | (refine And.intro ?_ ?_; focus ((repeat' (first | exact trivial | refine And.intro ?_ ?_)) <;> (first | omega | (simp only [hasTy, okP, lenD, D.ren, D.isCell, Option.getD, List.length_set, List.length_take, List.length_drop, List.length_append, List.length_replicate, List.length_map, List.length_cons, List.length_nil, Option.map] <;> omega) | with_reducible assumption | with_reducible rfl | decide); done)) | refine chkG (by kernel_rfl) ?_
        refine nextG 1 [0, 1, 2, 6] ?_ ?_ ?_
        · omega
        · omega
        · refine viewG rfl ⟨rfl, rfl, rfl, rfl, rfl, rfl, trivial⟩ ⟨⟨_, rfl, rfl, rfl, id⟩, ⟨_, rfl, rfl, (ren_xR _ k1 k2).symm, id⟩, ⟨_, rfl, rfl, (ren_rows _ tk).symm, id⟩, ⟨_, rfl, rfl, rfl, id⟩, ⟨_, rfl, rfl, rfl, id⟩, trivial⟩ rfl
    · cases h
  · repeat first | (refine EffG.mk (And.intro ?_ ?_); focus ((repeat' (first | exact trivial | refine And.intro ?_ ?_)) <;> (first | omega | (simp only [hasTy, okP, lenD, D.ren, D.isCell, Option.getD, List.length_set, List.length_take, List.length_drop, List.length_append, List.length_replicate, List.length_map, List.length_cons, List.length_nil, Option.map] <;> omega) | with_reducible assumption | with_reducible rfl | decide); done)) | (refine And.intro ?_ ?_; focus ((repeat' (first | exact trivial | refine And.intro ?_ ?_)) <;> (first | omega | (simp only [hasTy, okP, lenD, D.ren, D.isCell, Option.getD, List.length_set, List.length_take, List.length_drop, List.length_append, List.length_replicate, List.length_map, List.length_cons, List.length_nil, Option.map] <;> omega) | with_reducible assumption | with_reducible rfl | decide); done)) | refine chkG (by kernel_rfl) ?_
    refine Br.split (fun h => ?_) (fun h => ?_)
    · have hi : (n + 1) < 32 := by have := of_decide_eq_true h; omega
      have hrn := rI_length l1 (n + 1)
      have hlen := hl1l (n + 1) hi
      have htk := hrl (n + 1) hi
      have hle : l1 (n + 1) = xorF (cpI bs o (n + 1) 16) (tk.getD (n + 1) []) := by rw [hl1, cpI_chunk bs o (n + 1) (by omega)]
      repeat first | (refine EffG.mk (And.intro ?_ ?_); focus ((repeat' (first | exact trivial | refine And.intro ?_ ?_)) <;> (first | omega | (simp only [hasTy, okP, lenD, D.ren, D.isCell, Option.getD, List.length_set, List.length_take, List.length_drop, List.length_append, List.length_replicate, List.length_map, List.length_cons, List.length_nil, Option.map] <;> omega) | with_reducible assumption | with_reducible rfl | decide); done)) | (refine And.intro ?_ ?_; focus ((repeat' (first | exact trivial | refine And.intro ?_ ?_)) <;> (first | omega | (simp only [hasTy, okP, lenD, D.ren, D.isCell, Option.getD, List.length_set, List.length_take, List.length_drop, List.length_append, List.length_replicate, List.length_map, List.length_cons, List.length_nil, Option.map] <;> omega) | with_reducible assumption | with_reducible rfl | decide); done)) | refine chkG (by kernel_rfl) ?_
      refine loopG Nat (fun j => [(2, .slice 0 [] o 512 cap), (3, .bool false), (4, .ptr 1 []), (9, .ptr 2 []), (10, .slice 3 [] 0 (1 * (n + 1)) none), (11, .i64 ((n + 1) : Nat)), (12, .ptr 4 []), (13, .i64 j)]) (fun j => [(0, some ⟨.row .cell, .u8s bs, false⟩), (1, some ⟨tR, xR k1 k2, true⟩), (2, some ⟨t3216, .node (tk.map .u8s), true⟩), (gid 0, some ⟨t256, .u8s boxL, false⟩), (3, some ⟨.row t16, .node ((rI l1 (n + 1)).map .u8s), true⟩), (4, some ⟨t16, .u8s (cpI bs o (n + 1) j), true⟩)]) 5
        (fun j => j ≤ 16) (fun j => 16 - j) 0 [0, 1, 2, 3, 4] (Nat.zero_le _) ?_ ?_
      · exact viewG rfl ⟨rfl, rfl, rfl, rfl, rfl, rfl, rfl, rfl, trivial⟩ ⟨⟨_, rfl, rfl, rfl, id⟩, ⟨_, rfl, rfl, (ren_xR _ k1 k2).symm, id⟩, ⟨_, rfl, rfl, (ren_rows _ tk).symm, id⟩, ⟨_, rfl, rfl, rfl, id⟩, ⟨_, rfl, rfl, (ren_rows _ (rI l1 (n + 1))).symm, id⟩, ⟨_, rfl, rfl, rfl, id⟩, trivial⟩ rfl
      intro j hj
      have hcl := cpI_length bs o (n + 1) j
      repeat first | (refine EffG.mk (And.intro ?_ ?_); focus ((repeat' (first | exact trivial | refine And.intro ?_ ?_)) <;> (first | omega | (simp only [hasTy, okP, lenD, D.ren, D.isCell, Option.getD, List.length_set, List.length_take, List.length_drop, List.length_append, List.length_replicate, List.length_map, List.length_cons, List.length_nil, Option.map] <;> omega) | with_reducible assumption | with_reducible rfl | decide); done)) | (refine And.intro ?_ ?_; focus ((repeat' (first | exact trivial | refine And.intro ?_ ?_)) <;> (first | omega | (simp only [hasTy, okP, lenD, D.ren, D.isCell, Option.getD, List.length_set, List.length_take, List.length_drop, List.length_append, List.length_replicate, List.length_map, List.length_cons, List.length_nil, Option.map] <;> omega) | with_reducible assumption | with_reducible rfl | decide); done)) | refine chkG (by kernel_rfl) ?_
      refine Br.split (fun h => ?_) (fun h => ?_)
      · have hj : j < 16 := by have := of_decide_eq_true h; omega
        repeat first | (refine EffG.mk (And.intro ?_ ?_); focus ((repeat' (first | exact trivial | refine And.intro ?_ ?_)) <;> (first | omega | (simp only [hasTy, okP, lenD, D.ren, D.isCell, Option.getD, List.length_set, List.length_take, List.length_drop, List.length_append, List.length_replicate, List.length_map, List.length_cons, List.length_nil, Option.map] <;> omega) | with_reducible assumption | with_reducible rfl | decide); done)) | (refine And.intro ?_ ?_; focus ((repeat' (first | exact trivial | refine And.intro ?_ ?_)) <;> (first | omega | (simp only [hasTy, okP, lenD, D.ren, D.isCell, Option.getD, List.length_set, List.length_take, List.length_drop, List.length_append, List.length_replicate, List.length_map, List.length_cons, List.length_nil, Option.map] <;> omega) | with_reducible assumption | with_reducible rfl | decide); done)) | refine chkG (by kernel_rfl) ?_
        refine nextG (j + 1) [0, 1, 2, 3, 4] ?_ ?_ ?_
        · omega
        · omega
        · exact viewG rfl ⟨rfl, rfl, rfl, rfl, rfl, rfl, rfl, rfl, trivial⟩ ⟨⟨_, rfl, rfl, rfl, id⟩, ⟨_, rfl, rfl, (ren_xR _ k1 k2).symm, id⟩, ⟨_, rfl, rfl, (ren_rows _ tk).symm, id⟩, ⟨_, rfl, rfl, rfl, id⟩, ⟨_, rfl, rfl, (ren_rows _ (rI l1 (n + 1))).symm, id⟩, ⟨_, rfl, rfl, rfl, id⟩, trivial⟩ rfl
      · have hj : j = 16 := by have := of_decide_eq_false h; omega
        subst hj
        have hw := rwith_ac _ _ hcl htk
        rw [← hle] at hw
        generalize cpI bs o (n + 1) 16 = c at hcl hw ⊢
        repeat first | (rw [nthD_u8s (l := tk)]; rotate_left; (rw [htr.1]; omega)) | (refine EffG.mk (And.intro ?_ ?_); focus ((repeat' (first | exact trivial | refine And.intro ?_ ?_)) <;> (first | omega | (simp only [hasTy, okP, lenD, D.ren, D.isCell, Option.getD, List.length_set, List.length_take, List.length_drop, List.length_append, List.length_replicate, List.length_map, List.length_cons, List.length_nil, Option.map] <;> omega) | with_reducible assumption | with_reducible rfl | decide); done)) | (refine And.intro ?_ ?_; focus ((repeat' (first | exact trivial | refine And.intro ?_ ?_)) <;> (first | omega | (simp only [hasTy, okP, lenD, D.ren, D.isCell, Option.getD, List.length_set, List.length_take, List.length_drop, List.length_append, List.length_replicate, List.length_map, List.length_cons, List.length_nil, Option.map] <;> omega) | with_reducible assumption | with_reducible rfl | decide); done)) | refine chkG (by kernel_rfl) ?_
        refine callG hw [] rfl rfl trivial rfl rfl ?_
        repeat first | (refine EffG.mk (And.intro ?_ ?_); focus ((repeat' (first | exact trivial | refine And.intro ?_ ?_)) <;> (first | omega | (simp only [hasTy, okP, lenD, D.ren, D.isCell, Option.getD, List.length_set, List.length_take, List.length_drop, List.length_append, List.length_replicate, List.length_map, List.length_cons, List.length_nil, Option.map] <;> omega) | with_reducible assumption | with_reducible rfl | decide); done)) | (refine And.intro ?_ ?_; focus ((repeat' (first | exact trivial | refine And.intro ?_ ?_)) <;> (first | omega | (simp only [hasTy, okP, lenD, D.ren, D.isCell, Option.getD, List.length_set, List.length_take, List.length_drop, List.length_append, List.length_replicate, List.length_map, List.length_cons, List.length_nil, Option.map] <;> omega) | with_reducible assumption | with_reducible rfl | decide); done)) | refine chkG (by kernel_rfl) ?_
        refine ⟨0, ?_⟩
        refine EffG.mk (And.intro (And.intro ?_ (And.intro ?_ (Eq.mpr (congrArg (fun l => hasTy (.row t16) (D.node l)) (catRows (n := 1 * (n + 1)) (by rw [hrn]; omega))) (rowTy (rI_lens (g := l1) (n := n + 2) (fun k hk => hl1l k (by omega))))))) ?_)
        · focus ((repeat' (first | exact trivial | refine And.intro ?_ ?_)) <;> (first | omega | (simp only [hasTy, okP, lenD, D.ren, D.isCell, Option.getD, List.length_set, List.length_take, List.length_drop, List.length_append, List.length_replicate, List.length_map, List.length_cons, List.length_nil, Option.map] <;> omega) | with_reducible assumption | with_reducible rfl | decide); done)
        · focus ((repeat' (first | exact trivial | refine And.intro ?_ ?_)) <;> (first | omega | (simp only [hasTy, okP, lenD, D.ren, D.isCell, Option.getD, List.length_set, List.length_take, List.length_drop, List.length_append, List.length_replicate, List.length_map, List.length_cons, List.length_nil, Option.map] <;> omega) | with_reducible assumption | with_reducible rfl | decide); done)
        repeat first | (refine EffG.mk (And.intro ?_ ?_); focus ((repeat' (first | exact trivial | refine And.intro ?_ ?_)) <;> (first | omega | (simp only [hasTy, okP, lenD, D.ren, D.isCell, Option.getD, List.length_set, List.length_take, List.length_drop, List.length_append, List.length_replicate, List.length_map, List.length_cons, List.length_nil, Option.map] <;> omega) | with_reducible assumption | with_reducible rfl | decide); done)) | (refine And.intro ?_ ?_; focus ((repeat' (first | exact trivial | refine And.intro ?_ ?_)) <;> (first | omega | (simp only [hasTy, okP, lenD, D.ren, D.isCell, Option.getD, List.length_set, List.length_take, List.length_drop, List.length_append, List.length_replicate, List.length_map, List.length_cons, List.length_nil, Option.map] <;> omega) | with_reducible assumption | with_reducible rfl | decide); done)) | refine chkG (by kernel_rfl) ?_
        refine nextG (n + 2) [0, 1, 2, 6] ?_ ?_ ?_
        · omega
        · omega
        · refine viewG rfl ⟨rfl, rfl, rfl, rfl, slice_eq rfl ?_ rfl, rfl, trivial⟩ ⟨⟨_, rfl, rfl, rfl, id⟩, ⟨_, rfl, rfl, (ren_xR _ k1 k2).symm, id⟩, ⟨_, rfl, rfl, (ren_rows _ tk).symm, id⟩, ⟨_, rfl, rfl, rfl, id⟩, ⟨_, rfl, rfl, ?_, id⟩, trivial⟩ rfl
          · show 1 * (n + 1) + 1 = 1 * (n + 1 + 1)
            omega
          · rw [ren_rows]
            exact congrArg D.node (catRows (by rw [hrn]; omega))
    · have hn : n = 31 := by have := of_decide_eq_false h; omega
      subst hn
      have hls := rI_length l1 32
      have hlm : ∀ k, k < 32 → (rI l1 32).getD k [] = l1 k := fun k hk => rI_getD hk
      generalize rI l1 (31 + 1) = ls at hls hlm ⊢
      repeat first | (refine EffG.mk (And.intro ?_ ?_); focus ((repeat' (first | exact trivial | refine And.intro ?_ ?_)) <;> (first | omega | (simp only [hasTy, okP, lenD, D.ren, D.isCell, Option.getD, List.length_set, List.length_take, List.length_drop, List.length_append, List.length_replicate, List.length_map, List.length_cons, List.length_nil, Option.map] <;> omega) | with_reducible assumption | with_reducible rfl | decide); done)) | (refine And.intro ?_ ?_; focus ((repeat' (first | exact trivial | refine And.intro ?_ ?_)) <;> (first | omega | (simp only [hasTy, okP, lenD, D.ren, D.isCell, Option.getD, List.length_set, List.length_take, List.length_drop, List.length_append, List.length_replicate, List.length_map, List.length_cons, List.length_nil, Option.map] <;> omega) | with_reducible assumption | with_reducible rfl | decide); done)) | refine chkG (by kernel_rfl) ?_
      refine Br.no rfl ?_
      repeat first | (refine EffG.mk (And.intro ?_ ?_); focus ((repeat' (first | exact trivial | refine And.intro ?_ ?_)) <;> (first | omega | (simp only [hasTy, okP, lenD, D.ren, D.isCell, Option.getD, List.length_set, List.length_take, List.length_drop, List.length_append, List.length_replicate, List.length_map, List.length_cons, List.length_nil, Option.map] <;> omega) | with_reducible assumption | with_reducible rfl | decide); done)) | (refine And.intro ?_ ?_; focus ((repeat' (first | exact trivial | refine And.intro ?_ ?_)) <;> (first | omega | (simp only [hasTy, okP, lenD, D.ren, D.isCell, Option.getD, List.length_set, List.length_take, List.length_drop, List.length_append, List.length_replicate, List.length_map, List.length_cons, List.length_nil, Option.map] <;> omega) | with_reducible assumption | with_reducible rfl | decide); done)) | refine chkG (by kernel_rfl) ?_
      refine loopG Nat (fun i => [(3, .bool false), (4, .ptr 1 []), (9, .ptr 2 []), (10, .slice 3 [] 0 (1 * (31 + 1)) none), (14, nD 4 16 i), (15, .i64 i)]) (fun i => [(0, some ⟨.row .cell, .u8s bs, false⟩), (1, some ⟨tR, xR k1 k2, true⟩), (2, some ⟨t3216, .node (tk.map .u8s), true⟩), (3, some ⟨.row t16, .node (ls.map .u8s), true⟩), (gid 0, some ⟨t256, .u8s boxL, false⟩)] ++ nM 4 (.row .cell) (.u8s (catB g2 i)) i) 5
        (fun i => i ≤ 32) (fun i => 32 - i) 0 [0, 1, 2, 3] (Nat.zero_le _) ?_ ?_
      · exact viewG rfl ⟨rfl, rfl, rfl, rfl, rfl, rfl, trivial⟩ ⟨⟨_, rfl, rfl, rfl, id⟩, ⟨_, rfl, rfl, (ren_xR _ k1 k2).symm, id⟩, ⟨_, rfl, rfl, (ren_rows _ tk).symm, id⟩, ⟨_, rfl, rfl, (ren_rows _ ls).symm, id⟩, ⟨_, rfl, rfl, rfl, id⟩, trivial⟩ rfl
      intro i hi
      rcases i with _ | n
      · repeat first | (refine EffG.mk (And.intro ?_ ?_); focus ((repeat' (first | exact trivial | refine And.intro ?_ ?_)) <;> (first | omega | (simp only [hasTy, okP, lenD, D.ren, D.isCell, Option.getD, List.length_set, List.length_take, List.length_drop, List.length_append, List.length_replicate, List.length_map, List.length_cons, List.length_nil, Option.map] <;> omega) | with_reducible assumption | with_reducible rfl | decide); done)) | (refine And.intro ?_ ?_; focus ((repeat' (first | exact trivial | refine And.intro ?_ ?_)) <;> (first | omega | (simp only [hasTy, okP, lenD, D.ren, D.isCell, Option.getD, List.length_set, List.length_take, List.length_drop, List.length_append, List.length_replicate, List.length_map, List.length_cons, List.length_nil, Option.map] <;> omega) | with_reducible assumption | with_reducible rfl | decide); done)) | refine chkG (by kernel_rfl) ?_
        refine Br.split (fun h => ?_) (fun h => ?_)
        · have hi : 0 < 32 := by have := of_decide_eq_true h; omega
          have hlen := hl1l 0 hi
          have htk := hrl 0 hi
          have hg2i := hg2l 0 hi
          have hge : g2 0 = xorF (encF k1 (l1 0)) (tk.getD 0 []) := by rw [hg2]
          have he := renc_ac k1 (l1 0) hlen h1
          rw [renc_eq, show encI k1 (l1 0) 14 = encF k1 (l1 0) from rfl] at he
          have hel : (encF k1 (l1 0)).length = 16 := encI_length k1 _ hlen 14
          rw [← hlm 0 hi] at hge he hel hlen
          have q0 : 0 + ((0 : Nat) : Int).toNat = 0 := by omega
          repeat first | (rw [nthD_u8s (l := ls)]; rotate_left; (rw [hls]; omega)) | rw [q0] | (refine EffG.mk (And.intro ?_ ?_); focus ((repeat' (first | exact trivial | refine And.intro ?_ ?_)) <;> (first | omega | (simp only [hasTy, okP, lenD, D.ren, D.isCell, Option.getD, List.length_set, List.length_take, List.length_drop, List.length_append, List.length_replicate, List.length_map, List.length_cons, List.length_nil, Option.map] <;> omega) | with_reducible assumption | with_reducible rfl | decide); done)) | (refine And.intro ?_ ?_; focus ((repeat' (first | exact trivial | refine And.intro ?_ ?_)) <;> (first | omega | (simp only [hasTy, okP, lenD, D.ren, D.isCell, Option.getD, List.length_set, List.length_take, List.length_drop, List.length_append, List.length_replicate, List.length_map, List.length_cons, List.length_nil, Option.map] <;> omega) | with_reducible assumption | with_reducible rfl | decide); done)) | refine chkG (by kernel_rfl) ?_
          refine Br.yes rfl ?_
          repeat first | (refine EffG.mk (And.intro ?_ ?_); focus ((repeat' (first | exact trivial | refine And.intro ?_ ?_)) <;> (first | omega | (simp only [hasTy, okP, lenD, D.ren, D.isCell, Option.getD, List.length_set, List.length_take, List.length_drop, List.length_append, List.length_replicate, List.length_map, List.length_cons, List.length_nil, Option.map] <;> omega) | with_reducible assumption | with_reducible rfl | decide); done)) | (refine And.intro ?_ ?_; focus ((repeat' (first | exact trivial | refine And.intro ?_ ?_)) <;> (first | omega | (simp only [hasTy, okP, lenD, D.ren, D.isCell, Option.getD, List.length_set, List.length_take, List.length_drop, List.length_append, List.length_replicate, List.length_map, List.length_cons, List.length_nil, Option.map] <;> omega) | with_reducible assumption | with_reducible rfl | decide); done)) | refine chkG (by kernel_rfl) ?_
          generalize ls.getD 0 [] = p at hge he hel hlen ⊢
          refine callG he [] rfl (congrArg (fun d => [D.node d, D.u8s p]) (rens_u8s _ k1).symm) ⟨⟨_, rfl, rfl, rfl, id⟩, trivial⟩ rfl rfl ?_
          have hw := rwith_ac _ _ hel htk
          rw [← hge] at hw
          have hOn : catB g2 1 = [] ++ g2 0 := rfl
          generalize g2 0 = q at hw hg2i hOn
          repeat first | (rw [nthD_u8s (l := tk)]; rotate_left; (rw [htr.1]; omega)) | (refine EffG.mk (And.intro ?_ ?_); focus ((repeat' (first | exact trivial | refine And.intro ?_ ?_)) <;> (first | omega | (simp only [hasTy, okP, lenD, D.ren, D.isCell, Option.getD, List.length_set, List.length_take, List.length_drop, List.length_append, List.length_replicate, List.length_map, List.length_cons, List.length_nil, Option.map] <;> omega) | with_reducible assumption | with_reducible rfl | decide); done)) | (refine And.intro ?_ ?_; focus ((repeat' (first | exact trivial | refine And.intro ?_ ?_)) <;> (first | omega | (simp only [hasTy, okP, lenD, D.ren, D.isCell, Option.getD, List.length_set, List.length_take, List.length_drop, List.length_append, List.length_replicate, List.length_map, List.length_cons, List.length_nil, Option.map] <;> omega) | with_reducible assumption | with_reducible rfl | decide); done)) | refine chkG (by kernel_rfl) ?_
          refine callG hw [] rfl rfl trivial rfl rfl ?_
          repeat first | (refine EffG.mk (And.intro ?_ ?_); focus ((repeat' (first | exact trivial | refine And.intro ?_ ?_)) <;> (first | omega | (simp only [hasTy, okP, lenD, D.ren, D.isCell, Option.getD, List.length_set, List.length_take, List.length_drop, List.length_append, List.length_replicate, List.length_map, List.length_cons, List.length_nil, Option.map] <;> omega) | with_reducible assumption | with_reducible rfl | decide); done)) | (refine And.intro ?_ ?_; focus ((repeat' (first | exact trivial | refine And.intro ?_ ?_)) <;> (first | omega | (simp only [hasTy, okP, lenD, D.ren, D.isCell, Option.getD, List.length_set, List.length_take, List.length_drop, List.length_append, List.length_replicate, List.length_map, List.length_cons, List.length_nil, Option.map] <;> omega) | with_reducible assumption | with_reducible rfl | decide); done)) | refine chkG (by kernel_rfl) ?_
          refine ⟨1, ?_⟩
          repeat first | (refine EffG.mk (And.intro ?_ ?_); focus ((repeat' (first | exact trivial | refine And.intro ?_ ?_)) <;> (first | omega | (simp only [hasTy, okP, lenD, D.ren, D.isCell, Option.getD, List.length_set, List.length_take, List.length_drop, List.length_append, List.length_replicate, List.length_map, List.length_cons, List.length_nil, Option.map] <;> omega) | with_reducible assumption | with_reducible rfl | decide); done)) | (refine And.intro ?_ ?_; focus ((repeat' (first | exact trivial | refine And.intro ?_ ?_)) <;> (first | omega | (simp only [hasTy, okP, lenD, D.ren, D.isCell, Option.getD, List.length_set, List.length_take, List.length_drop, List.length_append, List.length_replicate, List.length_map, List.length_cons, List.length_nil, Option.map] <;> omega) | with_reducible assumption | with_reducible rfl | decide); done)) | refine chkG (by kernel_rfl) ?_
          refine nextG 1 [0, 1, 2, 3, 6] ?_ ?_ ?_
          · omega
          · omega
          · refine viewG rfl ⟨rfl, rfl, rfl, rfl, rfl, rfl, trivial⟩ ⟨⟨_, rfl, rfl, rfl, id⟩, ⟨_, rfl, rfl, (ren_xR _ k1 k2).symm, id⟩, ⟨_, rfl, rfl, (ren_rows _ tk).symm, id⟩, ⟨_, rfl, rfl, (ren_rows _ ls).symm, id⟩, ⟨_, rfl, rfl, rfl, id⟩, ⟨_, rfl, rfl, congrArg D.u8s ?_, id⟩, trivial⟩ rfl
            rw [hOn]
            show [] ++ List.take 16 (List.drop 0 q) = [] ++ q
            rw [List.drop_zero, List.take_of_length_le (by omega)]
        · cases h
      · repeat first | (refine EffG.mk (And.intro ?_ ?_); focus ((repeat' (first | exact trivial | refine And.intro ?_ ?_)) <;> (first | omega | (simp only [hasTy, okP, lenD, D.ren, D.isCell, Option.getD, List.length_set, List.length_take, List.length_drop, List.length_append, List.length_replicate, List.length_map, List.length_cons, List.length_nil, Option.map] <;> omega) | with_reducible assumption | with_reducible rfl | decide); done)) | (refine And.intro ?_ ?_; focus ((repeat' (first | exact trivial | refine And.intro ?_ ?_)) <;> (first | omega | (simp only [hasTy, okP, lenD, D.ren, D.isCell, Option.getD, List.length_set, List.length_take, List.length_drop, List.length_append, List.length_replicate, List.length_map, List.length_cons, List.length_nil, Option.map] <;> omega) | with_reducible assumption | with_reducible rfl | decide); done)) | refine chkG (by kernel_rfl) ?_
        refine Br.split (fun h => ?_) (fun h => ?_)
        · have hi : (n + 1) < 32 := by have := of_decide_eq_true h; omega
          have hlen := hl1l (n + 1) hi
          have htk := hrl (n + 1) hi
          have hg2i := hg2l (n + 1) hi
          have hge : g2 (n + 1) = xorF (encF k1 (l1 (n + 1))) (tk.getD (n + 1) []) := by rw [hg2]
          have he := renc_ac k1 (l1 (n + 1)) hlen h1
          rw [renc_eq, show encI k1 (l1 (n + 1)) 14 = encF k1 (l1 (n + 1)) from rfl] at he
          have hel : (encF k1 (l1 (n + 1))).length = 16 := encI_length k1 _ hlen 14
          rw [← hlm (n + 1) hi] at hge he hel hlen
          have hO := catB_length (B := g2) (n := n + 1) (fun k hk => hg2l k (by omega))
          have hOn : catB g2 (n + 1 + 1) = catB g2 (n + 1) ++ g2 (n + 1) := rfl
          generalize catB g2 (n + 1) = O at hO hOn ⊢
          have q0 : 0 + (((n + 1) : Nat) : Int).toNat = (n + 1) := by omega
          repeat first | (rw [nthD_u8s (l := ls)]; rotate_left; (rw [hls]; omega)) | rw [q0] | (refine EffG.mk (And.intro ?_ ?_); focus ((repeat' (first | exact trivial | refine And.intro ?_ ?_)) <;> (first | omega | (simp only [hasTy, okP, lenD, D.ren, D.isCell, Option.getD, List.length_set, List.length_take, List.length_drop, List.length_append, List.length_replicate, List.length_map, List.length_cons, List.length_nil, Option.map] <;> omega) | with_reducible assumption | with_reducible rfl | decide); done)) | (refine And.intro ?_ ?_; focus ((repeat' (first | exact trivial | refine And.intro ?_ ?_)) <;> (first | omega | (simp only [hasTy, okP, lenD, D.ren, D.isCell, Option.getD, List.length_set, List.length_take, List.length_drop, List.length_append, List.length_replicate, List.length_map, List.length_cons, List.length_nil, Option.map] <;> omega) | with_reducible assumption | with_reducible rfl | decide); done)) | refine chkG (by kernel_rfl) ?_
          refine Br.yes rfl ?_
          repeat first | (refine EffG.mk (And.intro ?_ ?_); focus ((repeat' (first | exact trivial | refine And.intro ?_ ?_)) <;> (first | omega | (simp only [hasTy, okP, lenD, D.ren, D.isCell, Option.getD, List.length_set, List.length_take, List.length_drop, List.length_append, List.length_replicate, List.length_map, List.length_cons, List.length_nil, Option.map] <;> omega) | with_reducible assumption | with_reducible rfl | decide); done)) | (refine And.intro ?_ ?_; focus ((repeat' (first | exact trivial | refine And.intro ?_ ?_)) <;> (first | omega | (simp only [hasTy, okP, lenD, D.ren, D.isCell, Option.getD, List.length_set, List.length_take, List.length_drop, List.length_append, List.length_replicate, List.length_map, List.length_cons, List.length_nil, Option.map] <;> omega) | with_reducible assumption | with_reducible rfl | decide); done)) | refine chkG (by kernel_rfl) ?_
          generalize ls.getD (n + 1) [] = p at hge he hel hlen ⊢
          refine callG he [] rfl (congrArg (fun d => [D.node d, D.u8s p]) (rens_u8s _ k1).symm) ⟨⟨_, rfl, rfl, rfl, id⟩, trivial⟩ rfl rfl ?_
          have hw := rwith_ac _ _ hel htk
          rw [← hge] at hw
          generalize g2 (n + 1) = q at hw hg2i hOn ⊢
          repeat first | (rw [nthD_u8s (l := tk)]; rotate_left; (rw [htr.1]; omega)) | (refine EffG.mk (And.intro ?_ ?_); focus ((repeat' (first | exact trivial | refine And.intro ?_ ?_)) <;> (first | omega | (simp only [hasTy, okP, lenD, D.ren, D.isCell, Option.getD, List.length_set, List.length_take, List.length_drop, List.length_append, List.length_replicate, List.length_map, List.length_cons, List.length_nil, Option.map] <;> omega) | with_reducible assumption | with_reducible rfl | decide); done)) | (refine And.intro ?_ ?_; focus ((repeat' (first | exact trivial | refine And.intro ?_ ?_)) <;> (first | omega | (simp only [hasTy, okP, lenD, D.ren, D.isCell, Option.getD, List.length_set, List.length_take, List.length_drop, List.length_append, List.length_replicate, List.length_map, List.length_cons, List.length_nil, Option.map] <;> omega) | with_reducible assumption | with_reducible rfl | decide); done)) | refine chkG (by kernel_rfl) ?_
          refine callG hw [] rfl rfl trivial rfl rfl ?_
          repeat first | (refine EffG.mk (And.intro ?_ ?_); focus ((repeat' (first | exact trivial | refine And.intro ?_ ?_)) <;> (first | omega | (simp only [hasTy, okP, lenD, D.ren, D.isCell, Option.getD, List.length_set, List.length_take, List.length_drop, List.length_append, List.length_replicate, List.length_map, List.length_cons, List.length_nil, Option.map] <;> omega) | with_reducible assumption | with_reducible rfl | decide); done)) | (refine And.intro ?_ ?_; focus ((repeat' (first | exact trivial | refine And.intro ?_ ?_)) <;> (first | omega | (simp only [hasTy, okP, lenD, D.ren, D.isCell, Option.getD, List.length_set, List.length_take, List.length_drop, List.length_append, List.length_replicate, List.length_map, List.length_cons, List.length_nil, Option.map] <;> omega) | with_reducible assumption | with_reducible rfl | decide); done)) | refine chkG (by kernel_rfl) ?_
          refine ⟨0, ?_⟩
          repeat first | (refine EffG.mk (And.intro ?_ ?_); focus ((repeat' (first | exact trivial | refine And.intro ?_ ?_)) <;> (first | omega | (simp only [hasTy, okP, lenD, D.ren, D.isCell, Option.getD, List.length_set, List.length_take, List.length_drop, List.length_append, List.length_replicate, List.length_map, List.length_cons, List.length_nil, Option.map] <;> omega) | with_reducible assumption | with_reducible rfl | decide); done)) | (refine And.intro ?_ ?_; focus ((repeat' (first | exact trivial | refine And.intro ?_ ?_)) <;> (first | omega | (simp only [hasTy, okP, lenD, D.ren, D.isCell, Option.getD, List.length_set, List.length_take, List.length_drop, List.length_append, List.length_replicate, List.length_map, List.length_cons, List.length_nil, Option.map] <;> omega) | with_reducible assumption | with_reducible rfl | decide); done)) | refine chkG (by kernel_rfl) ?_
          refine nextG (n + 2) [0, 1, 2, 3, 6] ?_ ?_ ?_
          · omega
          · omega
          · refine viewG rfl ⟨rfl, rfl, rfl, rfl, slice_eq rfl ?_ rfl, rfl, trivial⟩ ⟨⟨_, rfl, rfl, rfl, id⟩, ⟨_, rfl, rfl, (ren_xR _ k1 k2).symm, id⟩, ⟨_, rfl, rfl, (ren_rows _ tk).symm, id⟩, ⟨_, rfl, rfl, (ren_rows _ ls).symm, id⟩, ⟨_, rfl, rfl, rfl, id⟩, ⟨_, rfl, rfl, congrArg D.u8s ?_, id⟩, trivial⟩ rfl
            · show 16 * (n + 1) + 16 = 16 * (n + 1 + 1)
              omega
            · rw [hOn]
              show List.take (16 * (n + 1)) (List.drop 0 O) ++ List.take 16 (List.drop 0 q) = O ++ q
              rw [List.drop_zero, List.drop_zero, List.take_of_length_le (by omega), List.take_of_length_le (by omega)]
        · have hn : n = 31 := by have := of_decide_eq_false h; omega
          subst hn
          have hG' : catB g2 (31 + 1) = G := hGe.symm
          generalize catB g2 (31 + 1) = O at hG' ⊢
          subst hG'
          repeat first | (refine EffG.mk (And.intro ?_ ?_); focus ((repeat' (first | exact trivial | refine And.intro ?_ ?_)) <;> (first | omega | (simp only [hasTy, okP, lenD, D.ren, D.isCell, Option.getD, List.length_set, List.length_take, List.length_drop, List.length_append, List.length_replicate, List.length_map, List.length_cons, List.length_nil, Option.map] <;> omega) | with_reducible assumption | with_reducible rfl | decide); done)) | (refine And.intro ?_ ?_; focus ((repeat' (first | exact trivial | refine And.intro ?_ ?_)) <;> (first | omega | (simp only [hasTy, okP, lenD, D.ren, D.isCell, Option.getD, List.length_set, List.length_take, List.length_drop, List.length_append, List.length_replicate, List.length_map, List.length_cons, List.length_nil, Option.map] <;> omega) | with_reducible assumption | with_reducible rfl | decide); done)) | refine chkG (by kernel_rfl) ?_
          refine retG [0, 4] rfl rfl ⟨⟨_, rfl, rfl, rfl, id⟩, ⟨_, rfl, rfl, rfl, id⟩, ⟨_, rfl, rfl, rfl, id⟩, trivial⟩ rfl
theorem rblocks_ac (ks ws : List (List (BitVec 8))) (h1 : Rows 15 16 ks) (hws : ws.length = 32) (hwl : ∀ r ∈ ws, r.length = 16) :
    AC Tryd.prog 61 [.node (ks.map .u8s), .slice 0 [] 0 32 none] 1 ((0, some ⟨.row t16, .node (ws.map .u8s), true⟩) :: gB)
      ⟨.slice 1 [] 0 32 none, [], [(.row t16, .node ((rI (fun k => decF ks (ws.getD k [])) 32).map .u8s))]⟩ := by
  have hwk : ∀ k, k < 32 → (ws.getD k []).length = 16 := fun k hk => hwl _ (getD_mem (by omega))
  have hd : ∀ k, k < 32 → AC Tryd.prog 73 [.node (ks.map .u8s), .u8s unboxL, .u8s (ws.getD k [])] 0 [] ⟨.u8s (decF ks (ws.getD k [])), [], []⟩ := fun k hk => by
    have := rdec_ac ks unboxL _ unboxL_length (hwk k hk) h1
    rwa [rdec_eq ks _ (hwk k hk)] at this
  have hun := unboxL_length
  have hbk := rback_ac
  generalize unboxL = un at hd hun hbk
  obtain ⟨g, hg⟩ : ∃ g : Nat → List (BitVec 8), g = fun k => decF ks (ws.getD k []) := ⟨_, rfl⟩
  have hgl : ∀ k, k < 32 → (g k).length = 16 := fun k hk => by rw [hg]; show (decF _ _).length = 16; rw [decF, xorF_length, decI_length ks _ (hwk k hk)]
  have hd : ∀ k, k < 32 → AC Tryd.prog 73 [.node (ks.map .u8s), .u8s un, .u8s (ws.getD k [])] 0 [] ⟨.u8s (g k), [], []⟩ := fun k hk => by rw [hg]; exact hd k hk
  rw [← hg]
  clear hg
  obtain ⟨R, hR⟩ : ∃ R, rI g 32 = R := ⟨_, rfl⟩
  rw [hR]
  refine ac_of tab mix Tryd.func61 rfl (by kernel_rfl) (by kernel_rfl) (by kernel_rfl) {} ?_
  refine EffG.mk (And.intro h1.ty ?_)
  repeat first | (refine EffG.mk (And.intro ?_ ?_); focus ((repeat' (first | exact trivial | refine And.intro ?_ ?_)) <;> (first | omega | (simp only [hasTy, okP, lenD, D.ren, D.isCell, Option.getD, List.length_set, List.length_take, List.length_drop, List.length_append, List.length_replicate, List.length_map, List.length_cons, List.length_nil, Option.map] <;> omega) | with_reducible assumption | with_reducible rfl | decide); done)) | (refine And.intro ?_ ?_; focus ((repeat' (first | exact trivial | refine And.intro ?_ ?_)) <;> (first | omega | (simp only [hasTy, okP, lenD, D.ren, D.isCell, Option.getD, List.length_set, List.length_take, List.length_drop, List.length_append, List.length_replicate, List.length_map, List.length_cons, List.length_nil, Option.map] <;> omega) | with_reducible assumption | with_reducible rfl | decide); done)) | refine chkG (by kernel_rfl) ?_
  refine callG hbk [] rfl rfl ⟨⟨_, rfl, rfl, rfl, id⟩, trivial⟩ rfl rfl ?_
  repeat first | (refine EffG.mk (And.intro ?_ ?_); focus ((repeat' (first | exact trivial | refine And.intro ?_ ?_)) <;> (first | omega | (simp only [hasTy, okP, lenD, D.ren, D.isCell, Option.getD, List.length_set, List.length_take, List.length_drop, List.length_append, List.length_replicate, List.length_map, List.length_cons, List.length_nil, Option.map] <;> omega) | with_reducible assumption | with_reducible rfl | decide); done)) | (refine And.intro ?_ ?_; focus ((repeat' (first | exact trivial | refine And.intro ?_ ?_)) <;> (first | omega | (simp only [hasTy, okP, lenD, D.ren, D.isCell, Option.getD, List.length_set, List.length_take, List.length_drop, List.length_append, List.length_replicate, List.length_map, List.length_cons, List.length_nil, Option.map] <;> omega) | with_reducible assumption | with_reducible rfl | decide); done)) | refine chkG (by kernel_rfl) ?_
  refine loopG Nat (fun i => [(1, .slice 0 [] 0 32 none), (2, .ptr 1 []), (5, .ptr 2 []), (6, nD 3 1 i), (7, .i64 i)])
    (fun i => [(0, some ⟨.row t16, .node (ws.map .u8s), true⟩), (1, some ⟨t15, .node (ks.map .u8s), true⟩), (2, some ⟨t256, .u8s un, true⟩), (gid 0, some ⟨t256, .u8s boxL, false⟩)] ++ nM 3 (.row t16) (.node ((rI g i).map .u8s)) i) 4
    (fun i => i ≤ 32) (fun i => 32 - i) 0 [0, 1, 2] (Nat.zero_le _) ?_ ?_
  · exact viewG rfl ⟨rfl, rfl, rfl, rfl, rfl, trivial⟩ ⟨⟨_, rfl, rfl, (ren_rows _ ws).symm, id⟩, ⟨_, rfl, rfl, (ren_rows _ ks).symm, id⟩, ⟨_, rfl, rfl, rfl, id⟩, ⟨_, rfl, rfl, rfl, id⟩, trivial⟩ rfl
  intro i hi
  rcases i with _ | n
  · repeat first | (refine EffG.mk (And.intro ?_ ?_); focus ((repeat' (first | exact trivial | refine And.intro ?_ ?_)) <;> (first | omega | (simp only [hasTy, okP, lenD, D.ren, D.isCell, Option.getD, List.length_set, List.length_take, List.length_drop, List.length_append, List.length_replicate, List.length_map, List.length_cons, List.length_nil, Option.map] <;> omega) | with_reducible assumption | with_reducible rfl | decide); done)) | (refine And.intro ?_ ?_; focus ((repeat' (first | exact trivial | refine And.intro ?_ ?_)) <;> (first | omega | (simp only [hasTy, okP, lenD, D.ren, D.isCell, Option.getD, List.length_set, List.length_take, List.length_drop, List.length_append, List.length_replicate, List.length_map, List.length_cons, List.length_nil, Option.map] <;> omega) | with_reducible assumption | with_reducible rfl | decide); done)) | refine chkG (by kernel_rfl) ?_
    refine Br.split (fun h => ?_) (fun h => ?_)
    · have hi : 0 < 32 := by have := of_decide_eq_true h; omega
      have hlen := hgl 0 hi
      have hw := hd 0 hi
      have hwi := hwk 0 hi
      have q0 : 0 + ((0 : Nat) : Int).toNat = 0 := by omega
      repeat first | (rw [nthD_u8s (l := ws)]; rotate_left; (rw [hws]; omega)) | rw [q0] | (refine EffG.mk (And.intro ?_ ?_); focus ((repeat' (first | exact trivial | refine And.intro ?_ ?_)) <;> (first | omega | (simp only [hasTy, okP, lenD, D.ren, D.isCell, Option.getD, List.length_set, List.length_take, List.length_drop, List.length_append, List.length_replicate, List.length_map, List.length_cons, List.length_nil, Option.map] <;> omega) | with_reducible assumption | with_reducible rfl | decide); done)) | (refine And.intro ?_ ?_; focus ((repeat' (first | exact trivial | refine And.intro ?_ ?_)) <;> (first | omega | (simp only [hasTy, okP, lenD, D.ren, D.isCell, Option.getD, List.length_set, List.length_take, List.length_drop, List.length_append, List.length_replicate, List.length_map, List.length_cons, List.length_nil, Option.map] <;> omega) | with_reducible assumption | with_reducible rfl | decide); done)) | refine chkG (by kernel_rfl) ?_
      generalize ws.getD 0 [] = p at hw hwi ⊢
      refine callG hw [] rfl (congrArg (fun d => [D.node d, D.u8s un, D.u8s p]) (rens_u8s _ ks).symm) trivial rfl rfl ?_
      repeat first | (refine EffG.mk (And.intro ?_ ?_); focus ((repeat' (first | exact trivial | refine And.intro ?_ ?_)) <;> (first | omega | (simp only [hasTy, okP, lenD, D.ren, D.isCell, Option.getD, List.length_set, List.length_take, List.length_drop, List.length_append, List.length_replicate, List.length_map, List.length_cons, List.length_nil, Option.map] <;> omega) | with_reducible assumption | with_reducible rfl | decide); done)) | (refine And.intro ?_ ?_; focus ((repeat' (first | exact trivial | refine And.intro ?_ ?_)) <;> (first | omega | (simp only [hasTy, okP, lenD, D.ren, D.isCell, Option.getD, List.length_set, List.length_take, List.length_drop, List.length_append, List.length_replicate, List.length_map, List.length_cons, List.length_nil, Option.map] <;> omega) | with_reducible assumption | with_reducible rfl | decide); done)) | refine chkG (by kernel_rfl) ?_
      refine ⟨1, ?_⟩
      repeat first | (refine EffG.mk (And.intro ?_ ?_); focus ((repeat' (first | exact trivial | refine And.intro ?_ ?_)) <;> (first | omega | (simp only [hasTy, okP, lenD, D.ren, D.isCell, Option.getD, List.length_set, List.length_take, List.length_drop, List.length_append, List.length_replicate, List.length_map, List.length_cons, List.length_nil, Option.map] <;> omega) | with_reducible assumption | with_reducible rfl | decide); done)) | (refine And.intro ?_ ?_; focus ((repeat' (first | exact trivial | refine And.intro ?_ ?_)) <;> (first | omega | (simp only [hasTy, okP, lenD, D.ren, D.isCell, Option.getD, List.length_set, List.length_take, List.length_drop, List.length_append, List.length_replicate, List.length_map, List.length_cons, List.length_nil, Option.map] <;> omega) | with_reducible assumption | with_reducible rfl | decide); done)) | refine chkG (by kernel_rfl) ?_
      refine nextG 1 [0, 1, 2, 5] ?_ ?_ ?_
      · omega
      · omega
      · exact viewG rfl ⟨rfl, rfl, rfl, rfl, rfl, trivial⟩ ⟨⟨_, rfl, rfl, (ren_rows _ ws).symm, id⟩, ⟨_, rfl, rfl, (ren_rows _ ks).symm, id⟩, ⟨_, rfl, rfl, rfl, id⟩, ⟨_, rfl, rfl, rfl, id⟩, ⟨_, rfl, rfl, rfl, id⟩, trivial⟩ rfl
    · cases h
  · repeat first | (refine EffG.mk (And.intro ?_ ?_); focus ((repeat' (first | exact trivial | refine And.intro ?_ ?_)) <;> (first | omega | (simp only [hasTy, okP, lenD, D.ren, D.isCell, Option.getD, List.length_set, List.length_take, List.length_drop, List.length_append, List.length_replicate, List.length_map, List.length_cons, List.length_nil, Option.map] <;> omega) | with_reducible assumption | with_reducible rfl | decide); done)) | (refine And.intro ?_ ?_; focus ((repeat' (first | exact trivial | refine And.intro ?_ ?_)) <;> (first | omega | (simp only [hasTy, okP, lenD, D.ren, D.isCell, Option.getD, List.length_set, List.length_take, List.length_drop, List.length_append, List.length_replicate, List.length_map, List.length_cons, List.length_nil, Option.map] <;> omega) | with_reducible assumption | with_reducible rfl | decide); done)) | refine chkG (by kernel_rfl) ?_
    refine Br.split (fun h => ?_) (fun h => ?_)
    · have hi : (n + 1) < 32 := by have := of_decide_eq_true h; omega
      have hrn := rI_length g (n + 1)
      have hlen := hgl (n + 1) hi
      have hw := hd (n + 1) hi
      have hwi := hwk (n + 1) hi
      have q0 : 0 + (((n + 1) : Nat) : Int).toNat = (n + 1) := by omega
      repeat first | (rw [nthD_u8s (l := ws)]; rotate_left; (rw [hws]; omega)) | rw [q0] | (refine EffG.mk (And.intro ?_ ?_); focus ((repeat' (first | exact trivial | refine And.intro ?_ ?_)) <;> (first | omega | (simp only [hasTy, okP, lenD, D.ren, D.isCell, Option.getD, List.length_set, List.length_take, List.length_drop, List.length_append, List.length_replicate, List.length_map, List.length_cons, List.length_nil, Option.map] <;> omega) | with_reducible assumption | with_reducible rfl | decide); done)) | (refine And.intro ?_ ?_; focus ((repeat' (first | exact trivial | refine And.intro ?_ ?_)) <;> (first | omega | (simp only [hasTy, okP, lenD, D.ren, D.isCell, Option.getD, List.length_set, List.length_take, List.length_drop, List.length_append, List.length_replicate, List.length_map, List.length_cons, List.length_nil, Option.map] <;> omega) | with_reducible assumption | with_reducible rfl | decide); done)) | refine chkG (by kernel_rfl) ?_
      generalize ws.getD (n + 1) [] = p at hw hwi ⊢
      refine callG hw [] rfl (congrArg (fun d => [D.node d, D.u8s un, D.u8s p]) (rens_u8s _ ks).symm) trivial rfl rfl ?_
      repeat first | (refine EffG.mk (And.intro ?_ ?_); focus ((repeat' (first | exact trivial | refine And.intro ?_ ?_)) <;> (first | omega | (simp only [hasTy, okP, lenD, D.ren, D.isCell, Option.getD, List.length_set, List.length_take, List.length_drop, List.length_append, List.length_replicate, List.length_map, List.length_cons, List.length_nil, Option.map] <;> omega) | with_reducible assumption | with_reducible rfl | decide); done)) | (refine And.intro ?_ ?_; focus ((repeat' (first | exact trivial | refine And.intro ?_ ?_)) <;> (first | omega | (simp only [hasTy, okP, lenD, D.ren, D.isCell, Option.getD, List.length_set, List.length_take, List.length_drop, List.length_append, List.length_replicate, List.length_map, List.length_cons, List.length_nil, Option.map] <;> omega) | with_reducible assumption | with_reducible rfl | decide); done)) | refine chkG (by kernel_rfl) ?_
      refine ⟨0, ?_⟩
      refine EffG.mk (And.intro (And.intro ?_ (And.intro ?_ (Eq.mpr (congrArg (fun l => hasTy (.row t16) (D.node l)) (catRows (n := 1 * (n + 1)) (by rw [hrn]; omega))) (rowTy (rI_lens (g := g) (n := n + 2) (fun k hk => hgl k (by omega))))))) ?_)
      · focus ((repeat' (first | exact trivial | refine And.intro ?_ ?_)) <;> (first | omega | (simp only [hasTy, okP, lenD, D.ren, D.isCell, Option.getD, List.length_set, List.length_take, List.length_drop, List.length_append, List.length_replicate, List.length_map, List.length_cons, List.length_nil, Option.map] <;> omega) | with_reducible assumption | with_reducible rfl | decide); done)
      · focus ((repeat' (first | exact trivial | refine And.intro ?_ ?_)) <;> (first | omega | (simp only [hasTy, okP, lenD, D.ren, D.isCell, Option.getD, List.length_set, List.length_take, List.length_drop, List.length_append, List.length_replicate, List.length_map, List.length_cons, List.length_nil, Option.map] <;> omega) | with_reducible assumption | with_reducible rfl | decide); done)
      repeat first | (refine EffG.mk (And.intro ?_ ?_); focus ((repeat' (first | exact trivial | refine And.intro ?_ ?_)) <;> (first | omega | (simp only [hasTy, okP, lenD, D.ren, D.isCell, Option.getD, List.length_set, List.length_take, List.length_drop, List.length_append, List.length_replicate, List.length_map, List.length_cons, List.length_nil, Option.map] <;> omega) | with_reducible assumption | with_reducible rfl | decide); done)) | (refine And.intro ?_ ?_; focus ((repeat' (first | exact trivial | refine And.intro ?_ ?_)) <;> (first | omega | (simp only [hasTy, okP, lenD, D.ren, D.isCell, Option.getD, List.length_set, List.length_take, List.length_drop, List.length_append, List.length_replicate, List.length_map, List.length_cons, List.length_nil, Option.map] <;> omega) | with_reducible assumption | with_reducible rfl | decide); done)) | refine chkG (by kernel_rfl) ?_
      refine nextG (n + 2) [0, 1, 2, 5] ?_ ?_ ?_
      · omega
      · omega
      · refine viewG rfl ⟨rfl, rfl, rfl, slice_eq rfl ?_ rfl, rfl, trivial⟩ ⟨⟨_, rfl, rfl, (ren_rows _ ws).symm, id⟩, ⟨_, rfl, rfl, (ren_rows _ ks).symm, id⟩, ⟨_, rfl, rfl, rfl, id⟩, ⟨_, rfl, rfl, rfl, id⟩, ⟨_, rfl, rfl, ?_, id⟩, trivial⟩ rfl
        · show 1 * (n + 1) + 1 = 1 * (n + 1 + 1)
          omega
        · rw [ren_rows]
          exact congrArg D.node (catRows (by rw [hrn]; omega))
    · have hn : n = 31 := by have := of_decide_eq_false h; omega
      subst hn
      have e : rI g (31 + 1) = R := hR
      rw [e]
      repeat first | (refine EffG.mk (And.intro ?_ ?_); focus ((repeat' (first | exact trivial | refine And.intro ?_ ?_)) <;> (first | omega | (simp only [hasTy, okP, lenD, D.ren, D.isCell, Option.getD, List.length_set, List.length_take, List.length_drop, List.length_append, List.length_replicate, List.length_map, List.length_cons, List.length_nil, Option.map] <;> omega) | with_reducible assumption | with_reducible rfl | decide); done)) | (refine And.intro ?_ ?_; focus ((repeat' (first | exact trivial | refine And.intro ?_ ?_)) <;> (first | omega | (simp only [hasTy, okP, lenD, D.ren, D.isCell, Option.getD, List.length_set, List.length_take, List.length_drop, List.length_append, List.length_replicate, List.length_map, List.length_cons, List.length_nil, Option.map] <;> omega) | with_reducible assumption | with_reducible rfl | decide); done)) | refine chkG (by kernel_rfl) ?_
      refine retG [0, 3] rfl rfl ⟨⟨_, rfl, rfl, (ren_rows _ R).symm, id⟩, ⟨_, rfl, rfl, (ren_rows _ ws).symm, id⟩, ⟨_, rfl, rfl, rfl, id⟩, trivial⟩ rfl
set_option maxHeartbeats 400000 in
theorem rsectO_ac (k1 k2 : List (List (BitVec 8))) (h1 : Rows 15 16 k1) (h2 : Rows 15 16 k2) (bs : List (BitVec 8)) (o L : Nat) (cap : Option Nat) (s : BitVec 64) (hL : L = 512) (ho : o + 512 ≤ bs.length) (hbl : bs.length < 9223372036854775808)
    (G : List (BitVec 8)) (hG : G = catB (fun k => blkF (decF k1) (twN (encI k2 (nI s 8) 14) k) (chunk bs (o + 16 * k))) 32) :
    AC Tryd.prog 46 [xR k1 k2, .u64 s, .slice 0 [] o L cap, .bool true] 1 ((0, some ⟨.row .cell, .u8s bs, false⟩) :: gB)
      ⟨.slice 1 [] 0 512 none, [], [(.row .cell, .u8s G)]⟩ := by
  subst hL
  have htw := rtweaks_ac k1 k2 s _ h1 h2 rfl
  have hel := encI_length k2 _ (nI_length s 8) 14
  obtain ⟨_, hat⟩ := tkI_at (encI k2 (nI s 8) 14) 31 (by decide)
  have htr := tkI_rows _ hel 31 (by decide)
  generalize tkI (encI k2 (nI s 8) 14) 31 = tk at htw hat htr
  obtain ⟨l1, hl1⟩ : ∃ l1 : Nat → List (BitVec 8), l1 = fun k => xorF (chunk bs (o + 16 * k)) (tk.getD k []) := ⟨_, rfl⟩
  have hl1l : ∀ k, k < 32 → (l1 k).length = 16 := fun k hk => by rw [hl1]; show (xorF _ _).length = 16; rw [xorF_length, chunk_length (by omega)]
  obtain ⟨g2, hg2⟩ : ∃ g2 : Nat → List (BitVec 8), g2 = fun k => xorF (decF k1 (l1 k)) (tk.getD k []) := ⟨_, rfl⟩
  have hg2l : ∀ k, k < 32 → (g2 k).length = 16 := fun k hk => by rw [hg2]; show (xorF _ _).length = 16; rw [xorF_length]; rw [decF, xorF_length, decI_length k1 _ (hl1l k hk)]
  have hGe : G = catB g2 32 := by
    rw [hG]
    refine catB_congr fun k hk => ?_
    rw [hg2, hl1]
    show blkF _ _ _ = xorF (decF k1 (xorF (chunk bs (o + 16 * k)) (tk.getD k []))) (tk.getD k [])
    rw [hat k (by omega)]
    rfl
  clear hG hat
  clear hel
  have hrl : ∀ k, k < 32 → (tk.getD k []).length = 16 := fun k hk => htr.get hk
  have htl : (tk.map D.u8s).length = 32 := by rw [List.length_map, htr.1]
  refine ac_of tab mix Tryd.func46 rfl (by kernel_rfl) (by kernel_rfl) (by kernel_rfl) {} ?_
  refine EffG.mk (And.intro (xR_ty h1 h2) ?_)
  repeat first | (refine EffG.mk (And.intro ?_ ?_); focus ((repeat' (first | exact trivial | refine And.intro ?_ ?_)) <;> (first | omega | (simp only [hasTy, okP, lenD, D.ren, D.isCell, Option.getD, List.length_set, List.length_take, List.length_drop, List.length_append, List.length_replicate, List.length_map, List.length_cons, List.length_nil, Option.map] <;> omega) | with_reducible assumption | with_reducible rfl | decide); done)) | (refine And.intro ?_ ?_; focus ((repeat' (first | exact trivial | refine And.intro ?_ ?_)) <;> (first | omega | (simp only [hasTy, okP, lenD, D.ren, D.isCell, Option.getD, List.length_set, List.length_take, List.length_drop, List.length_append, List.length_replicate, List.length_map, List.length_cons, List.length_nil, Option.map] <;> omega) | with_reducible assumption | with_reducible rfl | decide); done)) | refine chkG (by kernel_rfl) ?_
  refine callR htw [] (.node (tk.map .u8s)) [] rfl (congrArg (fun d => [d, D.u64 s]) (ren_xR _ k1 k2).symm) ⟨⟨_, rfl, rfl, rfl, id⟩, trivial⟩ rfl rfl (ren_rows _ tk) rfl ?_
  repeat first | (refine EffG.mk (And.intro ?_ ?_); focus ((repeat' (first | exact trivial | refine And.intro ?_ ?_)) <;> (first | omega | (simp only [hasTy, okP, lenD, D.ren, D.isCell, Option.getD, List.length_set, List.length_take, List.length_drop, List.length_append, List.length_replicate, List.length_map, List.length_cons, List.length_nil, Option.map] <;> omega) | with_reducible assumption | with_reducible rfl | decide); done)) | (refine And.intro ?_ ?_; focus ((repeat' (first | exact trivial | refine And.intro ?_ ?_)) <;> (first | omega | (simp only [hasTy, okP, lenD, D.ren, D.isCell, Option.getD, List.length_set, List.length_take, List.length_drop, List.length_append, List.length_replicate, List.length_map, List.length_cons, List.length_nil, Option.map] <;> omega) | with_reducible assumption | with_reducible rfl | decide); done)) | refine chkG (by kernel_rfl) ?_
  refine EffG.mk (And.intro ⟨trivial, htr.ty⟩ ?_)
  repeat first | (refine EffG.mk (And.intro ?_ ?_); focus ((repeat' (first | exact trivial | refine And.intro ?_ ?_)) <;> (first | omega | (simp only [hasTy, okP, lenD, D.ren, D.isCell, Option.getD, List.length_set, List.length_take, List.length_drop, List.length_append, List.length_replicate, List.length_map, List.length_cons, List.length_nil, Option.map] <;> omega) | with_reducible assumption | with_reducible rfl | decide); done)) | (refine And.intro ?_ ?_; focus ((repeat' (first | exact trivial | refine And.intro ?_ ?_)) <;> (first | omega | (simp only [hasTy, okP, lenD, D.ren, D.isCell, Option.getD, List.length_set, List.length_take, List.length_drop, List.length_append, List.length_replicate, List.length_map, List.length_cons, List.length_nil, Option.map] <;> omega) | with_reducible assumption | with_reducible rfl | decide); done)) | refine chkG (by kernel_rfl) ?_
  refine loopG Nat (fun i => [(2, .slice 0 [] o 512 cap), (3, .bool true), (4, .ptr 1 []), (9, .ptr 2 []), (10, nD 3 1 i), (11, .i64 i)]) (fun i => [(0, some ⟨.row .cell, .u8s bs, false⟩), (1, some ⟨tR, xR k1 k2, true⟩), (2, some ⟨t3216, .node (tk.map .u8s), true⟩), (gid 0, some ⟨t256, .u8s boxL, false⟩)] ++ nM 3 (.row t16) (.node ((rI l1 i).map .u8s)) i) 4
    (fun i => i ≤ 32) (fun i => 32 - i) 0 [0, 1, 2] (Nat.zero_le _) ?_ ?_
  · exact viewG rfl ⟨rfl, rfl, rfl, rfl, rfl, rfl, trivial⟩ ⟨⟨_, rfl, rfl, rfl, id⟩, ⟨_, rfl, rfl, (ren_xR _ k1 k2).symm, id⟩, ⟨_, rfl, rfl, (ren_rows _ tk).symm, id⟩, ⟨_, rfl, rfl, rfl, id⟩, trivial⟩ rfl
  intro i hi
  rcases i with _ | n
  · repeat first | (refine EffG.mk (And.intro ?_ ?_); focus ((repeat' (first | exact trivial | refine And.intro ?_ ?_)) <;> (first | omega | (simp only [hasTy, okP, lenD, D.ren, D.isCell, Option.getD, List.length_set, List.length_take, List.length_drop, List.length_append, List.length_replicate, List.length_map, List.length_cons, List.length_nil, Option.map] <;> omega) | with_reducible assumption | with_reducible rfl | decide); done)) | (refine And.intro ?_ ?_; focus ((repeat' (first | exact trivial | refine And.intro ?_ ?_)) <;> (first | omega | (simp only [hasTy, okP, lenD, D.ren, D.isCell, Option.getD, List.length_set, List.length_take, List.length_drop, List.length_append, List.length_replicate, List.length_map, List.length_cons, List.length_nil, Option.map] <;> omega) | with_reducible assumption | with_reducible rfl | decide); done)) | refine chkG (by kernel_rfl) ?_
    refine Br.split (fun h => ?_) (fun h => ?_)
    · have hi : 0 < 32 := by have := of_decide_eq_true h; omega
      have hlen := hl1l 0 hi
      have htk := hrl 0 hi
      have hle : l1 0 = xorF (cpI bs o 0 16) (tk.getD 0 []) := by rw [hl1, cpI_chunk bs o 0 (by omega)]
      repeat first | (refine EffG.mk (And.intro ?_ ?_); focus ((repeat' (first | exact trivial | refine And.intro ?_ ?_)) <;> (first | omega | (simp only [hasTy, okP, lenD, D.ren, D.isCell, Option.getD, List.length_set, List.length_take, List.length_drop, List.length_append, List.length_replicate, List.length_map, List.length_cons, List.length_nil, Option.map] <;> omega) | with_reducible assumption | with_reducible rfl | decide); done)) | (refine And.intro ?_ ?_; focus ((repeat' (first | exact trivial | refine And.intro ?_ ?_)) <;> (first | omega | (simp only [hasTy, okP, lenD, D.ren, D.isCell, Option.getD, List.length_set, List.length_take, List.length_drop, List.length_append, List.length_replicate, List.length_map, List.length_cons, List.length_nil, Option.map] <;> omega) | with_reducible assumption | with_reducible rfl | decide); done)) | refine chkG (by kernel_rfl) ?_
      refine loopG Nat (fun j => [(2, .slice 0 [] o 512 cap), (3, .bool true), (4, .ptr 1 []), (9, .ptr 2 []), (10, .nilslice), (11, .i64 (0 : Nat)), (12, .ptr 4 []), (13, .i64 j)]) (fun j => [(0, some ⟨.row .cell, .u8s bs, false⟩), (1, some ⟨tR, xR k1 k2, true⟩), (2, some ⟨t3216, .node (tk.map .u8s), true⟩), (gid 0, some ⟨t256, .u8s boxL, false⟩), (4, some ⟨t16, .u8s (cpI bs o 0 j), true⟩)]) 5
        (fun j => j ≤ 16) (fun j => 16 - j) 0 [0, 1, 2, 3, 4] (Nat.zero_le _) ?_ ?_
      · exact viewG rfl ⟨rfl, rfl, rfl, rfl, rfl, rfl, rfl, rfl, trivial⟩ ⟨⟨_, rfl, rfl, rfl, id⟩, ⟨_, rfl, rfl, (ren_xR _ k1 k2).symm, id⟩, ⟨_, rfl, rfl, (ren_rows _ tk).symm, id⟩, ⟨_, rfl, rfl, rfl, id⟩, ⟨_, rfl, rfl, rfl, id⟩, trivial⟩ rfl
      intro j hj
      have hcl := cpI_length bs o 0 j
      repeat first | (refine EffG.mk (And.intro ?_ ?_); focus ((repeat' (first | exact trivial | refine And.intro ?_ ?_)) <;> (first | omega | (simp only [hasTy, okP, lenD, D.ren, D.isCell, Option.getD, List.length_set, List.length_take, List.length_drop, List.length_append, List.length_replicate, List.length_map, List.length_cons, List.length_nil, Option.map] <;> omega) | with_reducible assumption | with_reducible rfl | decide); done)) | (refine And.intro ?_ ?_; focus ((repeat' (first | exact trivial | refine And.intro ?_ ?_)) <;> (first | omega | (simp only [hasTy, okP, lenD, D.ren, D.isCell, Option.getD, List.length_set, List.length_take, List.length_drop, List.length_append, List.length_replicate, List.length_map, List.length_cons, List.length_nil, Option.map] <;> omega) | with_reducible assumption | with_reducible rfl | decide); done)) | refine chkG (by kernel_rfl) ?_
      refine Br.split (fun h => ?_) (fun h => ?_)
      · have hj : j < 16 := by have := of_decide_eq_true h; omega
        repeat first | (refine EffG.mk (And.intro ?_ ?_); focus ((repeat' (first | exact trivial | refine And.intro ?_ ?_)) <;> (first | omega | (simp only [hasTy, okP, lenD, D.ren, D.isCell, Option.getD, List.length_set, List.length_take, List.length_drop, List.length_append, List.length_replicate, List.length_map, List.length_cons, List.length_nil, Option.map] <;> omega) | with_reducible assumption | with_reducible rfl | decide); done)) | (refine And.intro ?_ ?_; focus ((repeat' (first | exact trivial | refine And.intro ?_ ?_)) <;> (first | omega | (simp only [hasTy, okP, lenD, D.ren, D.isCell, Option.getD, List.length_set, List.length_take, List.length_drop, List.length_append, List.length_replicate, List.length_map, List.length_cons, List.length_nil, Option.map] <;> omega) | with_reducible assumption | with_reducible rfl | decide); done)) | refine chkG (by kernel_rfl) ?_
        refine nextG (j + 1) [0, 1, 2, 3, 4] ?_ ?_ ?_
        · omega
        · omega
        · exact viewG rfl ⟨rfl, rfl, rfl, rfl, rfl, rfl, rfl, rfl, trivial⟩ ⟨⟨_, rfl, rfl, rfl, id⟩, ⟨_, rfl, rfl, (ren_xR _ k1 k2).symm, id⟩, ⟨_, rfl, rfl, (ren_rows _ tk).symm, id⟩, ⟨_, rfl, rfl, rfl, id⟩, ⟨_, rfl, rfl, rfl, id⟩, trivial⟩ rfl
      · have hj : j = 16 := by have := of_decide_eq_false h; omega
        subst hj
        have hw := rwith_ac _ _ hcl htk
        rw [← hle] at hw
        generalize cpI bs o 0 16 = c at hcl hw ⊢
        repeat first | (rw [nthD_u8s (l := tk)]; rotate_left; (rw [htr.1]; omega)) | (refine EffG.mk (And.intro ?_ ?_); focus ((repeat' (first | exact trivial | refine And.intro ?_ ?_)) <;> (first | omega | (simp only [hasTy, okP, lenD, D.ren, D.isCell, Option.getD, List.length_set, List.length_take, List.length_drop, List.length_append, List.length_replicate, List.length_map, List.length_cons, List.length_nil, Option.map] <;> omega) | with_reducible assumption | with_reducible rfl | decide); done)) | (refine And.intro ?_ ?_; focus ((repeat' (first | exact trivial | refine And.intro ?_ ?_)) <;> (first | omega | (simp only [hasTy, okP, lenD, D.ren, D.isCell, Option.getD, List.length_set, List.length_take, List.length_drop, List.length_append, List.length_replicate, List.length_map, List.length_cons, List.length_nil, Option.map] <;> omega) | with_reducible assumption | with_reducible rfl | decide); done)) | refine chkG (by kernel_rfl) ?_
        refine callG hw [] rfl rfl trivial rfl rfl ?_
        repeat first | (refine EffG.mk (And.intro ?_ ?_); focus ((repeat' (first | exact trivial | refine And.intro ?_ ?_)) <;> (first | omega | (simp only [hasTy, okP, lenD, D.ren, D.isCell, Option.getD, List.length_set, List.length_take, List.length_drop, List.length_append, List.length_replicate, List.length_map, List.length_cons, List.length_nil, Option.map] <;> omega) | with_reducible assumption | with_reducible rfl | decide); done)) | (refine And.intro ?_ ?_; focus ((repeat' (first | exact trivial | refine And.intro ?_ ?_)) <;> (first | omega | (simp only [hasTy, okP, lenD, D.ren, D.isCell, Option.getD, List.length_set, List.length_take, List.length_drop, List.length_append, List.length_replicate, List.length_map, List.length_cons, List.length_nil, Option.map] <;> omega) | with_reducible assumption | with_reducible rfl | decide); done)) | refine chkG (by kernel_rfl) ?_
        refine ⟨1, ?_⟩
        repeat first | (refine EffG.mk (And.intro ?_ ?_); focus ((repeat' (first | exact trivial | refine And.intro ?_ ?_)) <;> (first | omega | (simp only [hasTy, okP, lenD, D.ren, D.isCell, Option.getD, List.length_set, List.length_take, List.length_drop, List.length_append, List.length_replicate, List.length_map, List.length_cons, List.length_nil, Option.map] <;> omega) | with_reducible assumption | with_reducible rfl | decide); done)) | (refine And.intro ?_ ?_; focus ((repeat' (first | exact trivial | refine And.intro ?_ ?_)) <;> (first | omega | (simp only [hasTy, okP, lenD, D.ren, D.isCell, Option.getD, List.length_set, List.length_take, List.length_drop, List.length_append, List.length_replicate, List.length_map, List.length_cons, List.length_nil, Option.map] <;> omega) | with_reducible assumption | with_reducible rfl | decide); done)) | refine chkG (by kernel_rfl) ?_
        refine nextG 1 [0, 1, 2, 6] ?_ ?_ ?_
        · omega
        · omega
        · refine viewG rfl ⟨rfl, rfl, rfl, rfl, rfl, rfl, trivial⟩ ⟨⟨_, rfl, rfl, rfl, id⟩, ⟨_, rfl, rfl, (ren_xR _ k1 k2).symm, id⟩, ⟨_, rfl, rfl, (ren_rows _ tk).symm, id⟩, ⟨_, rfl, rfl, rfl, id⟩, ⟨_, rfl, rfl, rfl, id⟩, trivial⟩ rfl
    · cases h
  · repeat first | (refine EffG.mk (And.intro ?_ ?_); focus ((repeat' (first | exact trivial | refine And.intro ?_ ?_)) <;> (first | omega | (simp only [hasTy, okP, lenD, D.ren, D.isCell, Option.getD, List.length_set, List.length_take, List.length_drop, List.length_append, List.length_replicate, List.length_map, List.length_cons, List.length_nil, Option.map] <;> omega) | with_reducible assumption | with_reducible rfl | decide); done)) | (refine And.intro ?_ ?_; focus ((repeat' (first | exact trivial | refine And.intro ?_ ?_)) <;> (first | omega | (simp only [hasTy, okP, lenD, D.ren, D.isCell, Option.getD, List.length_set, List.length_take, List.length_drop, List.length_append, List.length_replicate, List.length_map, List.length_cons, List.length_nil, Option.map] <;> omega) | with_reducible assumption | with_reducible rfl | decide); done)) | refine chkG (by kernel_rfl) ?_
    refine Br.split (fun h => ?_) (fun h => ?_)
    · have hi : (n + 1) < 32 := by have := of_decide_eq_true h; omega
      have hrn := rI_length l1 (n + 1)
      have hlen := hl1l (n + 1) hi
      have htk := hrl (n + 1) hi
      have hle : l1 (n + 1) = xorF (cpI bs o (n + 1) 16) (tk.getD (n + 1) []) := by rw [hl1, cpI_chunk bs o (n + 1) (by omega)]
      repeat first | (refine EffG.mk (And.intro ?_ ?_); focus ((repeat' (first | exact trivial | refine And.intro ?_ ?_)) <;> (first | omega | (simp only [hasTy, okP, lenD, D.ren, D.isCell, Option.getD, List.length_set, List.length_take, List.length_drop, List.length_append, List.length_replicate, List.length_map, List.length_cons, List.length_nil, Option.map] <;> omega) | with_reducible assumption | with_reducible rfl | decide); done)) | (refine And.intro ?_ ?_; focus ((repeat' (first | exact trivial | refine And.intro ?_ ?_)) <;> (first | omega | (simp only [hasTy, okP, lenD, D.ren, D.isCell, Option.getD, List.length_set, List.length_take, List.length_drop, List.length_append, List.length_replicate, List.length_map, List.length_cons, List.length_nil, Option.map] <;> omega) | with_reducible assumption | with_reducible rfl | decide); done)) | refine chkG (by kernel_rfl) ?_
      refine loopG Nat (fun j => [(2, .slice 0 [] o 512 cap), (3, .bool true), (4, .ptr 1 []), (9, .ptr 2 []), (10, .slice 3 [] 0 (1 * (n + 1)) none), (11, .i64 ((n + 1) : Nat)), (12, .ptr 4 []), (13, .i64 j)]) (fun j => [(0, some ⟨.row .cell, .u8s bs, false⟩), (1, some ⟨tR, xR k1 k2, true⟩), (2, some ⟨t3216, .node (tk.map .u8s), true⟩), (gid 0, some ⟨t256, .u8s boxL, false⟩), (3, some ⟨.row t16, .node ((rI l1 (n + 1)).map .u8s), true⟩), (4, some ⟨t16, .u8s (cpI bs o (n + 1) j), true⟩)]) 5
        (fun j => j ≤ 16) (fun j => 16 - j) 0 [0, 1, 2, 3, 4] (Nat.zero_le _) ?_ ?_
      · exact viewG rfl ⟨rfl, rfl, rfl, rfl, rfl, rfl, rfl, rfl, trivial⟩ ⟨⟨_, rfl, rfl, rfl, id⟩, ⟨_, rfl, rfl, (ren_xR _ k1 k2).symm, id⟩, ⟨_, rfl, rfl, (ren_rows _ tk).symm, id⟩, ⟨_, rfl, rfl, rfl, id⟩, ⟨_, rfl, rfl, (ren_rows _ (rI l1 (n + 1))).symm, id⟩, ⟨_, rfl, rfl, rfl, id⟩, trivial⟩ rfl
      intro j hj
      have hcl := cpI_length bs o (n + 1) j
      repeat first | (refine EffG.mk (And.intro ?_ ?_); focus ((repeat' (first | exact trivial | refine And.intro ?_ ?_)) <;> (first | omega | (simp only [hasTy, okP, lenD, D.ren, D.isCell, Option.getD, List.length_set, List.length_take, List.length_drop, List.length_append, List.length_replicate, List.length_map, List.length_cons, List.length_nil, Option.map] <;> omega) | with_reducible assumption | with_reducible rfl | decide); done)) | (refine And.intro ?_ ?_; focus ((repeat' (first | exact trivial | refine And.intro ?_ ?_)) <;> (first | omega | (simp only [hasTy, okP, lenD, D.ren, D.isCell, Option.getD, List.length_set, List.length_take, List.length_drop, List.length_append, List.length_replicate, List.length_map, List.length_cons, List.length_nil, Option.map] <;> omega) | with_reducible assumption | with_reducible rfl | decide); done)) | refine chkG (by kernel_rfl) ?_
      refine Br.split (fun h => ?_) (fun h => ?_)
      · have hj : j < 16 := by have := of_decide_eq_true h; omega
        repeat first | (refine EffG.mk (And.intro ?_ ?_); focus ((repeat' (first | exact trivial | refine And.intro ?_ ?_)) <;> (first | omega | (simp only [hasTy, okP, lenD, D.ren, D.isCell, Option.getD, List.length_set, List.length_take, List.length_drop, List.length_append, List.length_replicate, List.length_map, List.length_cons, List.length_nil, Option.map] <;> omega) | with_reducible assumption | with_reducible rfl | decide); done)) | (refine And.intro ?_ ?_; focus ((repeat' (first | exact trivial | refine And.intro ?_ ?_)) <;> (first | omega | (simp only [hasTy, okP, lenD, D.ren, D.isCell, Option.getD, List.length_set, List.length_take, List.length_drop, List.length_append, List.length_replicate, List.length_map, List.length_cons, List.length_nil, Option.map] <;> omega) | with_reducible assumption | with_reducible rfl | decide); done)) | refine chkG (by kernel_rfl) ?_
        refine nextG (j + 1) [0, 1, 2, 3, 4] ?_ ?_ ?_
        · omega
        · omega
        · exact viewG rfl ⟨rfl, rfl, rfl, rfl, rfl, rfl, rfl, rfl, trivial⟩ ⟨⟨_, rfl, rfl, rfl, id⟩, ⟨_, rfl, rfl, (ren_xR _ k1 k2).symm, id⟩, ⟨_, rfl, rfl, (ren_rows _ tk).symm, id⟩, ⟨_, rfl, rfl, rfl, id⟩, ⟨_, rfl, rfl, (ren_rows _ (rI l1 (n + 1))).symm, id⟩, ⟨_, rfl, rfl, rfl, id⟩, trivial⟩ rfl
      · have hj : j = 16 := by have := of_decide_eq_false h; omega
        subst hj
        have hw := rwith_ac _ _ hcl htk
        rw [← hle] at hw
        generalize cpI bs o (n + 1) 16 = c at hcl hw ⊢
        repeat first | (rw [nthD_u8s (l := tk)]; rotate_left; (rw [htr.1]; omega)) | (refine EffG.mk (And.intro ?_ ?_); focus ((repeat' (first | exact trivial | refine And.intro ?_ ?_)) <;> (first | omega | (simp only [hasTy, okP, lenD, D.ren, D.isCell, Option.getD, List.length_set, List.length_take, List.length_drop, List.length_append, List.length_replicate, List.length_map, List.length_cons, List.length_nil, Option.map] <;> omega) | with_reducible assumption | with_reducible rfl | decide); done)) | (refine And.intro ?_ ?_; focus ((repeat' (first | exact trivial | refine And.intro ?_ ?_)) <;> (first | omega | (simp only [hasTy, okP, lenD, D.ren, D.isCell, Option.getD, List.length_set, List.length_take, List.length_drop, List.length_append, List.length_replicate, List.length_map, List.length_cons, List.length_nil, Option.map] <;> omega) | with_reducible assumption | with_reducible rfl | decide); done)) | refine chkG (by kernel_rfl) ?_
        refine callG hw [] rfl rfl trivial rfl rfl ?_
        repeat first | (refine EffG.mk (And.intro ?_ ?_); focus ((repeat' (first | exact trivial | refine And.intro ?_ ?_)) <;> (first | omega | (simp only [hasTy, okP, lenD, D.ren, D.isCell, Option.getD, List.length_set, List.length_take, List.length_drop, List.length_append, List.length_replicate, List.length_map, List.length_cons, List.length_nil, Option.map] <;> omega) | with_reducible assumption | with_reducible rfl | decide); done)) | (refine And.intro ?_ ?_; focus ((repeat' (first | exact trivial | refine And.intro ?_ ?_)) <;> (first | omega | (simp only [hasTy, okP, lenD, D.ren, D.isCell, Option.getD, List.length_set, List.length_take, List.length_drop, List.length_append, List.length_replicate, List.length_map, List.length_cons, List.length_nil, Option.map] <;> omega) | with_reducible assumption | with_reducible rfl | decide); done)) | refine chkG (by kernel_rfl) ?_
        refine ⟨0, ?_⟩
        refine EffG.mk (And.intro (And.intro ?_ (And.intro ?_ (Eq.mpr (congrArg (fun l => hasTy (.row t16) (D.node l)) (catRows (n := 1 * (n + 1)) (by rw [hrn]; omega))) (rowTy (rI_lens (g := l1) (n := n + 2) (fun k hk => hl1l k (by omega))))))) ?_)
        · focus ((repeat' (first | exact trivial | refine And.intro ?_ ?_)) <;> (first | omega | (simp only [hasTy, okP, lenD, D.ren, D.isCell, Option.getD, List.length_set, List.length_take, List.length_drop, List.length_append, List.length_replicate, List.length_map, List.length_cons, List.length_nil, Option.map] <;> omega) | with_reducible assumption | with_reducible rfl | decide); done)
        · focus ((repeat' (first | exact trivial | refine And.intro ?_ ?_)) <;> (first | omega | (simp only [hasTy, okP, lenD, D.ren, D.isCell, Option.getD, List.length_set, List.length_take, List.length_drop, List.length_append, List.length_replicate, List.length_map, List.length_cons, List.length_nil, Option.map] <;> omega) | with_reducible assumption | with_reducible rfl | decide); done)
        repeat first | (refine EffG.mk (And.intro ?_ ?_); focus ((repeat' (first | exact trivial | refine And.intro ?_ ?_)) <;> (first | omega | (simp only [hasTy, okP, lenD, D.ren, D.isCell, Option.getD, List.length_set, List.length_take, List.length_drop, List.length_append, List.length_replicate, List.length_map, List.length_cons, List.length_nil, Option.map] <;> omega) | with_reducible assumption | with_reducible rfl | decide); done)) | (refine And.intro ?_ ?_; focus ((repeat' (first | exact trivial | refine And.intro ?_ ?_)) <;> (first | omega | (simp only [hasTy, okP, lenD, D.ren, D.isCell, Option.getD, List.length_set, List.length_take, List.length_drop, List.length_append, List.length_replicate, List.length_map, List.length_cons, List.length_nil, Option.map] <;> omega) | with_reducible assumption | with_reducible rfl | decide); done)) | refine chkG (by kernel_rfl) ?_
        refine nextG (n + 2) [0, 1, 2, 6] ?_ ?_ ?_
        · omega
        · omega
        · refine viewG rfl ⟨rfl, rfl, rfl, rfl, slice_eq rfl ?_ rfl, rfl, trivial⟩ ⟨⟨_, rfl, rfl, rfl, id⟩, ⟨_, rfl, rfl, (ren_xR _ k1 k2).symm, id⟩, ⟨_, rfl, rfl, (ren_rows _ tk).symm, id⟩, ⟨_, rfl, rfl, rfl, id⟩, ⟨_, rfl, rfl, ?_, id⟩, trivial⟩ rfl
          · show 1 * (n + 1) + 1 = 1 * (n + 1 + 1)
            omega
          · rw [ren_rows]
            exact congrArg D.node (catRows (by rw [hrn]; omega))
    · have hn : n = 31 := by have := of_decide_eq_false h; omega
      subst hn
      have hls := rI_length l1 32
      have hlm : ∀ k, k < 32 → (rI l1 32).getD k [] = l1 k := fun k hk => rI_getD hk
      have hb := rblocks_ac k1 (rI l1 32) h1 hls (rI_lens hl1l)
      have hdl : ∀ k, k < 32 → (decF k1 (l1 k)).length = 16 := fun k hk => by rw [decF, xorF_length, decI_length k1 _ (hl1l k hk)]
      rw [show rI (fun k => decF k1 ((rI l1 32).getD k [])) 32 = rI (fun k => decF k1 (l1 k)) 32 from rI_congr (fun k hk => by rw [hlm k hk])] at hb
      have hds := rI_length (fun k => decF k1 (l1 k)) 32
      have hdm : ∀ k, k < 32 → (rI (fun k => decF k1 (l1 k)) 32).getD k [] = decF k1 (l1 k) := fun k hk => rI_getD hk
      generalize rI (fun k => decF k1 (l1 k)) 32 = ds at hb hds hdm
      generalize rI l1 (31 + 1) = ls at hb
      repeat first | (refine EffG.mk (And.intro ?_ ?_); focus ((repeat' (first | exact trivial | refine And.intro ?_ ?_)) <;> (first | omega | (simp only [hasTy, okP, lenD, D.ren, D.isCell, Option.getD, List.length_set, List.length_take, List.length_drop, List.length_append, List.length_replicate, List.length_map, List.length_cons, List.length_nil, Option.map] <;> omega) | with_reducible assumption | with_reducible rfl | decide); done)) | (refine And.intro ?_ ?_; focus ((repeat' (first | exact trivial | refine And.intro ?_ ?_)) <;> (first | omega | (simp only [hasTy, okP, lenD, D.ren, D.isCell, Option.getD, List.length_set, List.length_take, List.length_drop, List.length_append, List.length_replicate, List.length_map, List.length_cons, List.length_nil, Option.map] <;> omega) | with_reducible assumption | with_reducible rfl | decide); done)) | refine chkG (by kernel_rfl) ?_
      refine Br.yes rfl ?_
      repeat first | (refine EffG.mk (And.intro ?_ ?_); focus ((repeat' (first | exact trivial | refine And.intro ?_ ?_)) <;> (first | omega | (simp only [hasTy, okP, lenD, D.ren, D.isCell, Option.getD, List.length_set, List.length_take, List.length_drop, List.length_append, List.length_replicate, List.length_map, List.length_cons, List.length_nil, Option.map] <;> omega) | with_reducible assumption | with_reducible rfl | decide); done)) | (refine And.intro ?_ ?_; focus ((repeat' (first | exact trivial | refine And.intro ?_ ?_)) <;> (first | omega | (simp only [hasTy, okP, lenD, D.ren, D.isCell, Option.getD, List.length_set, List.length_take, List.length_drop, List.length_append, List.length_replicate, List.length_map, List.length_cons, List.length_nil, Option.map] <;> omega) | with_reducible assumption | with_reducible rfl | decide); done)) | refine chkG (by kernel_rfl) ?_
      refine callR hb [3] (.slice 4 [] 0 32 none) [(4, some ⟨.row t16, .node (ds.map .u8s), true⟩)] rfl (congrArg (fun d => [D.node d, D.slice 3 [] 0 32 none]) (rens_u8s _ k1).symm) ⟨⟨_, rfl, rfl, (ren_rows _ ls).symm, id⟩, ⟨_, rfl, rfl, rfl, id⟩, trivial⟩ rfl rfl rfl (congrArg (fun d => ([(4, some ⟨.row t16, d, true⟩)] : Mem)) (ren_rows _ ds)) ?_
      repeat first | (refine EffG.mk (And.intro ?_ ?_); focus ((repeat' (first | exact trivial | refine And.intro ?_ ?_)) <;> (first | omega | (simp only [hasTy, okP, lenD, D.ren, D.isCell, Option.getD, List.length_set, List.length_take, List.length_drop, List.length_append, List.length_replicate, List.length_map, List.length_cons, List.length_nil, Option.map] <;> omega) | with_reducible assumption | with_reducible rfl | decide); done)) | (refine And.intro ?_ ?_; focus ((repeat' (first | exact trivial | refine And.intro ?_ ?_)) <;> (first | omega | (simp only [hasTy, okP, lenD, D.ren, D.isCell, Option.getD, List.length_set, List.length_take, List.length_drop, List.length_append, List.length_replicate, List.length_map, List.length_cons, List.length_nil, Option.map] <;> omega) | with_reducible assumption | with_reducible rfl | decide); done)) | refine chkG (by kernel_rfl) ?_
      refine loopG Nat (fun i => [(3, .bool true), (4, .ptr 1 []), (9, .ptr 2 []), (10, .slice 3 [] 0 32 none), (14, nD 4 16 i), (15, .i64 i)]) (fun i => [(0, some ⟨.row .cell, .u8s bs, false⟩), (1, some ⟨tR, xR k1 k2, true⟩), (2, some ⟨t3216, .node (tk.map .u8s), true⟩), (3, some ⟨.row t16, .node (ds.map .u8s), true⟩), (gid 0, some ⟨t256, .u8s boxL, false⟩)] ++ nM 4 (.row .cell) (.u8s (catB g2 i)) i) 5
        (fun i => i ≤ 32) (fun i => 32 - i) 0 [0, 1, 2, 4] (Nat.zero_le _) ?_ ?_
      · exact viewG rfl ⟨rfl, rfl, rfl, rfl, rfl, rfl, trivial⟩ ⟨⟨_, rfl, rfl, rfl, id⟩, ⟨_, rfl, rfl, (ren_xR _ k1 k2).symm, id⟩, ⟨_, rfl, rfl, (ren_rows _ tk).symm, id⟩, ⟨_, rfl, rfl, (ren_rows _ ds).symm, id⟩, ⟨_, rfl, rfl, rfl, id⟩, trivial⟩ rfl
      intro i hi
      rcases i with _ | n
      · repeat first | (refine EffG.mk (And.intro ?_ ?_); focus ((repeat' (first | exact trivial | refine And.intro ?_ ?_)) <;> (first | omega | (simp only [hasTy, okP, lenD, D.ren, D.isCell, Option.getD, List.length_set, List.length_take, List.length_drop, List.length_append, List.length_replicate, List.length_map, List.length_cons, List.length_nil, Option.map] <;> omega) | with_reducible assumption | with_reducible rfl | decide); done)) | (refine And.intro ?_ ?_; focus ((repeat' (first | exact trivial | refine And.intro ?_ ?_)) <;> (first | omega | (simp only [hasTy, okP, lenD, D.ren, D.isCell, Option.getD, List.length_set, List.length_take, List.length_drop, List.length_append, List.length_replicate, List.length_map, List.length_cons, List.length_nil, Option.map] <;> omega) | with_reducible assumption | with_reducible rfl | decide); done)) | refine chkG (by kernel_rfl) ?_
        refine Br.split (fun h => ?_) (fun h => ?_)
        · have hi : 0 < 32 := by have := of_decide_eq_true h; omega
          have hlen := hl1l 0 hi
          have htk := hrl 0 hi
          have hg2i := hg2l 0 hi
          have hge : g2 0 = xorF (decF k1 (l1 0)) (tk.getD 0 []) := by rw [hg2]
          have hel := hdl 0 hi
          rw [← hdm 0 hi] at hge hel
          have q0 : 0 + ((0 : Nat) : Int).toNat = 0 := by omega
          repeat first | (rw [nthD_u8s (l := ds)]; rotate_left; (rw [hds]; omega)) | rw [q0] | (refine EffG.mk (And.intro ?_ ?_); focus ((repeat' (first | exact trivial | refine And.intro ?_ ?_)) <;> (first | omega | (simp only [hasTy, okP, lenD, D.ren, D.isCell, Option.getD, List.length_set, List.length_take, List.length_drop, List.length_append, List.length_replicate, List.length_map, List.length_cons, List.length_nil, Option.map] <;> omega) | with_reducible assumption | with_reducible rfl | decide); done)) | (refine And.intro ?_ ?_; focus ((repeat' (first | exact trivial | refine And.intro ?_ ?_)) <;> (first | omega | (simp only [hasTy, okP, lenD, D.ren, D.isCell, Option.getD, List.length_set, List.length_take, List.length_drop, List.length_append, List.length_replicate, List.length_map, List.length_cons, List.length_nil, Option.map] <;> omega) | with_reducible assumption | with_reducible rfl | decide); done)) | refine chkG (by kernel_rfl) ?_
          refine Br.no rfl ?_
          have hw := rwith_ac _ _ hel htk
          rw [← hge] at hw
          have hOn : catB g2 1 = [] ++ g2 0 := rfl
          generalize g2 0 = q at hw hg2i hOn
          repeat first | (rw [nthD_u8s (l := tk)]; rotate_left; (rw [htr.1]; omega)) | (refine EffG.mk (And.intro ?_ ?_); focus ((repeat' (first | exact trivial | refine And.intro ?_ ?_)) <;> (first | omega | (simp only [hasTy, okP, lenD, D.ren, D.isCell, Option.getD, List.length_set, List.length_take, List.length_drop, List.length_append, List.length_replicate, List.length_map, List.length_cons, List.length_nil, Option.map] <;> omega) | with_reducible assumption | with_reducible rfl | decide); done)) | (refine And.intro ?_ ?_; focus ((repeat' (first | exact trivial | refine And.intro ?_ ?_)) <;> (first | omega | (simp only [hasTy, okP, lenD, D.ren, D.isCell, Option.getD, List.length_set, List.length_take, List.length_drop, List.length_append, List.length_replicate, List.length_map, List.length_cons, List.length_nil, Option.map] <;> omega) | with_reducible assumption | with_reducible rfl | decide); done)) | refine chkG (by kernel_rfl) ?_
          refine callG hw [] rfl rfl trivial rfl rfl ?_
          repeat first | (refine EffG.mk (And.intro ?_ ?_); focus ((repeat' (first | exact trivial | refine And.intro ?_ ?_)) <;> (first | omega | (simp only [hasTy, okP, lenD, D.ren, D.isCell, Option.getD, List.length_set, List.length_take, List.length_drop, List.length_append, List.length_replicate, List.length_map, List.length_cons, List.length_nil, Option.map] <;> omega) | with_reducible assumption | with_reducible rfl | decide); done)) | (refine And.intro ?_ ?_; focus ((repeat' (first | exact trivial | refine And.intro ?_ ?_)) <;> (first | omega | (simp only [hasTy, okP, lenD, D.ren, D.isCell, Option.getD, List.length_set, List.length_take, List.length_drop, List.length_append, List.length_replicate, List.length_map, List.length_cons, List.length_nil, Option.map] <;> omega) | with_reducible assumption | with_reducible rfl | decide); done)) | refine chkG (by kernel_rfl) ?_
          refine ⟨1, ?_⟩
          repeat first | (refine EffG.mk (And.intro ?_ ?_); focus ((repeat' (first | exact trivial | refine And.intro ?_ ?_)) <;> (first | omega | (simp only [hasTy, okP, lenD, D.ren, D.isCell, Option.getD, List.length_set, List.length_take, List.length_drop, List.length_append, List.length_replicate, List.length_map, List.length_cons, List.length_nil, Option.map] <;> omega) | with_reducible assumption | with_reducible rfl | decide); done)) | (refine And.intro ?_ ?_; focus ((repeat' (first | exact trivial | refine And.intro ?_ ?_)) <;> (first | omega | (simp only [hasTy, okP, lenD, D.ren, D.isCell, Option.getD, List.length_set, List.length_take, List.length_drop, List.length_append, List.length_replicate, List.length_map, List.length_cons, List.length_nil, Option.map] <;> omega) | with_reducible assumption | with_reducible rfl | decide); done)) | refine chkG (by kernel_rfl) ?_
          refine nextG 1 [0, 1, 2, 3, 6] ?_ ?_ ?_
          · omega
          · omega
          · refine viewG rfl ⟨rfl, rfl, rfl, rfl, rfl, rfl, trivial⟩ ⟨⟨_, rfl, rfl, rfl, id⟩, ⟨_, rfl, rfl, (ren_xR _ k1 k2).symm, id⟩, ⟨_, rfl, rfl, (ren_rows _ tk).symm, id⟩, ⟨_, rfl, rfl, (ren_rows _ ds).symm, id⟩, ⟨_, rfl, rfl, rfl, id⟩, ⟨_, rfl, rfl, congrArg D.u8s ?_, id⟩, trivial⟩ rfl
            rw [hOn]
            show [] ++ List.take 16 (List.drop 0 q) = [] ++ q
            rw [List.drop_zero, List.take_of_length_le (by omega)]
        · cases h
      · repeat first | (refine EffG.mk (And.intro ?_ ?_); focus ((repeat' (first | exact trivial | refine And.intro ?_ ?_)) <;> (first | omega | (simp only [hasTy, okP, lenD, D.ren, D.isCell, Option.getD, List.length_set, List.length_take, List.length_drop, List.length_append, List.length_replicate, List.length_map, List.length_cons, List.length_nil, Option.map] <;> omega) | with_reducible assumption | with_reducible rfl | decide); done)) | (refine And.intro ?_ ?_; focus ((repeat' (first | exact trivial | refine And.intro ?_ ?_)) <;> (first | omega | (simp only [hasTy, okP, lenD, D.ren, D.isCell, Option.getD, List.length_set, List.length_take, List.length_drop, List.length_append, List.length_replicate, List.length_map, List.length_cons, List.length_nil, Option.map] <;> omega) | with_reducible assumption | with_reducible rfl | decide); done)) | refine chkG (by kernel_rfl) ?_
        refine Br.split (fun h => ?_) (fun h => ?_)
        · have hi : (n + 1) < 32 := by have := of_decide_eq_true h; omega
          have hlen := hl1l (n + 1) hi
          have htk := hrl (n + 1) hi
          have hg2i := hg2l (n + 1) hi
          have hge : g2 (n + 1) = xorF (decF k1 (l1 (n + 1))) (tk.getD (n + 1) []) := by rw [hg2]
          have hel := hdl (n + 1) hi
          rw [← hdm (n + 1) hi] at hge hel
          have hO := catB_length (B := g2) (n := n + 1) (fun k hk => hg2l k (by omega))
          have hOn : catB g2 (n + 1 + 1) = catB g2 (n + 1) ++ g2 (n + 1) := rfl
          generalize catB g2 (n + 1) = O at hO hOn ⊢
          have q0 : 0 + (((n + 1) : Nat) : Int).toNat = (n + 1) := by omega
          repeat first | (rw [nthD_u8s (l := ds)]; rotate_left; (rw [hds]; omega)) | rw [q0] | (refine EffG.mk (And.intro ?_ ?_); focus ((repeat' (first | exact trivial | refine And.intro ?_ ?_)) <;> (first | omega | (simp only [hasTy, okP, lenD, D.ren, D.isCell, Option.getD, List.length_set, List.length_take, List.length_drop, List.length_append, List.length_replicate, List.length_map, List.length_cons, List.length_nil, Option.map] <;> omega) | with_reducible assumption | with_reducible rfl | decide); done)) | (refine And.intro ?_ ?_; focus ((repeat' (first | exact trivial | refine And.intro ?_ ?_)) <;> (first | omega | (simp only [hasTy, okP, lenD, D.ren, D.isCell, Option.getD, List.length_set, List.length_take, List.length_drop, List.length_append, List.length_replicate, List.length_map, List.length_cons, List.length_nil, Option.map] <;> omega) | with_reducible assumption | with_reducible rfl | decide); done)) | refine chkG (by kernel_rfl) ?_
          refine Br.no rfl ?_
          have hw := rwith_ac _ _ hel htk
          rw [← hge] at hw
          generalize g2 (n + 1) = q at hw hg2i hOn ⊢
          repeat first | (rw [nthD_u8s (l := tk)]; rotate_left; (rw [htr.1]; omega)) | (refine EffG.mk (And.intro ?_ ?_); focus ((repeat' (first | exact trivial | refine And.intro ?_ ?_)) <;> (first | omega | (simp only [hasTy, okP, lenD, D.ren, D.isCell, Option.getD, List.length_set, List.length_take, List.length_drop, List.length_append, List.length_replicate, List.length_map, List.length_cons, List.length_nil, Option.map] <;> omega) | with_reducible assumption | with_reducible rfl | decide); done)) | (refine And.intro ?_ ?_; focus ((repeat' (first | exact trivial | refine And.intro ?_ ?_)) <;> (first | omega | (simp only [hasTy, okP, lenD, D.ren, D.isCell, Option.getD, List.length_set, List.length_take, List.length_drop, List.length_append, List.length_replicate, List.length_map, List.length_cons, List.length_nil, Option.map] <;> omega) | with_reducible assumption | with_reducible rfl | decide); done)) | refine chkG (by kernel_rfl) ?_
          refine callG hw [] rfl rfl trivial rfl rfl ?_
          repeat first | (refine EffG.mk (And.intro ?_ ?_); focus ((repeat' (first | exact trivial | refine And.intro ?_ ?_)) <;> (first | omega | (simp only [hasTy, okP, lenD, D.ren, D.isCell, Option.getD, List.length_set, List.length_take, List.length_drop, List.length_append, List.length_replicate, List.length_map, List.length_cons, List.length_nil, Option.map] <;> omega) | with_reducible assumption | with_reducible rfl | decide); done)) | (refine And.intro ?_ ?_; focus ((repeat' (first | exact trivial | refine And.intro ?_ ?_)) <;> (first | omega | (simp only [hasTy, okP, lenD, D.ren, D.isCell, Option.getD, List.length_set, List.length_take, List.length_drop, List.length_append, List.length_replicate, List.length_map, List.length_cons, List.length_nil, Option.map] <;> omega) | with_reducible assumption | with_reducible rfl | decide); done)) | refine chkG (by kernel_rfl) ?_
          refine ⟨0, ?_⟩
          repeat first | (refine EffG.mk (And.intro ?_ ?_); focus ((repeat' (first | exact trivial | refine And.intro ?_ ?_)) <;> (first | omega | (simp only [hasTy, okP, lenD, D.ren, D.isCell, Option.getD, List.length_set, List.length_take, List.length_drop, List.length_append, List.length_replicate, List.length_map, List.length_cons, List.length_nil, Option.map] <;> omega) | with_reducible assumption | with_reducible rfl | decide); done)) | (refine And.intro ?_ ?_; focus ((repeat' (first | exact trivial | refine And.intro ?_ ?_)) <;> (first | omega | (simp only [hasTy, okP, lenD, D.ren, D.isCell, Option.getD, List.length_set, List.length_take, List.length_drop, List.length_append, List.length_replicate, List.length_map, List.length_cons, List.length_nil, Option.map] <;> omega) | with_reducible assumption | with_reducible rfl | decide); done)) | refine chkG (by kernel_rfl) ?_
          refine nextG (n + 2) [0, 1, 2, 3, 6] ?_ ?_ ?_
          · omega
          · omega
          · refine viewG rfl ⟨rfl, rfl, rfl, rfl, slice_eq rfl ?_ rfl, rfl, trivial⟩ ⟨⟨_, rfl, rfl, rfl, id⟩, ⟨_, rfl, rfl, (ren_xR _ k1 k2).symm, id⟩, ⟨_, rfl, rfl, (ren_rows _ tk).symm, id⟩, ⟨_, rfl, rfl, (ren_rows _ ds).symm, id⟩, ⟨_, rfl, rfl, rfl, id⟩, ⟨_, rfl, rfl, congrArg D.u8s ?_, id⟩, trivial⟩ rfl
            · show 16 * (n + 1) + 16 = 16 * (n + 1 + 1)
              omega
            · rw [hOn]
              show List.take (16 * (n + 1)) (List.drop 0 O) ++ List.take 16 (List.drop 0 q) = O ++ q
              rw [List.drop_zero, List.drop_zero, List.take_of_length_le (by omega), List.take_of_length_le (by omega)]
        · have hn : n = 31 := by have := of_decide_eq_false h; omega
          subst hn
          have hG' : catB g2 (31 + 1) = G := hGe.symm
          generalize catB g2 (31 + 1) = O at hG' ⊢
          subst hG'
          repeat first | (refine EffG.mk (And.intro ?_ ?_); focus ((repeat' (first | exact trivial | refine And.intro ?_ ?_)) <;> (first | omega | (simp only [hasTy, okP, lenD, D.ren, D.isCell, Option.getD, List.length_set, List.length_take, List.length_drop, List.length_append, List.length_replicate, List.length_map, List.length_cons, List.length_nil, Option.map] <;> omega) | with_reducible assumption | with_reducible rfl | decide); done)) | (refine And.intro ?_ ?_; focus ((repeat' (first | exact trivial | refine And.intro ?_ ?_)) <;> (first | omega | (simp only [hasTy, okP, lenD, D.ren, D.isCell, Option.getD, List.length_set, List.length_take, List.length_drop, List.length_append, List.length_replicate, List.length_map, List.length_cons, List.length_nil, Option.map] <;> omega) | with_reducible assumption | with_reducible rfl | decide); done)) | refine chkG (by kernel_rfl) ?_
          refine retG [0, 4] rfl rfl ⟨⟨_, rfl, rfl, rfl, id⟩, ⟨_, rfl, rfl, rfl, id⟩, ⟨_, rfl, rfl, rfl, id⟩, trivial⟩ rfl
end Go.Proofs.YtljkjdhkofbgmaaDoor.Av
