import Derived.Test.YtodkhgofmgaafaaDoorM6
import Derived.Test.YtodkhgofmgaafaaDoorM4
import Derived.Test.YtodkhgofmgaafaaDoorM5
namespace Go.Proofs.YtodkhgofmgaafaaDoor.Av
open Go
set_option linter.all false
set_option maxRecDepth 3000

/-! the document's wrapped keys -/
abbrev gBK : Mem := [(gid 1, some ⟨t256, .u8s boxL, false⟩), gK]
def rmI (k a b : List (BitVec 8)) : Nat → List (BitVec 8)
  | 0 => k
  | i + 1 => ((rmI k a b i).set i ((rmI k a b i).getD i 0 ^^^ a.getD i 0)).set (16 + (i : Int)).toNat (((rmI k a b i).set i ((rmI k a b i).getD i 0 ^^^ a.getD i 0)).getD (16 + (i : Int)).toNat 0 ^^^ b.getD i 0)
theorem rmI_length (k a b : List (BitVec 8)) : ∀ i, (rmI k a b i).length = k.length
  | 0 => rfl
  | i + 1 => by rw [rmI, List.length_set, List.length_set, rmI_length k a b i]
theorem rmI_at (k a b : List (BitVec 8)) (hk : k.length = 32) : ∀ n, n ≤ 16 → ∀ j, (rmI k a b n).getD j 0 = if j < n then k.getD j 0 ^^^ a.getD j 0 else if 16 ≤ j ∧ j < 16 + n then k.getD j 0 ^^^ b.getD (j - 16) 0 else k.getD j 0
  | 0, _, j => by rw [if_neg (by omega), if_neg (by omega)]; rfl
  | n + 1, hn, j => by
    have hl := rmI_length k a b n
    rw [rmI, show (16 + (n : Int)).toNat = 16 + n by omega, getD_set (by rw [List.length_set]; omega), getD_set (by omega), getD_set (by omega), rmI_at k a b hk n (by omega), rmI_at k a b hk n (by omega), rmI_at k a b hk n (by omega)]
    repeat' split
    all_goals first | (exfalso; omega) | rfl | (subst_vars; first | rfl | (exfalso; omega) | (rw [show 16 + n - 16 = n by omega]))
theorem rm_mask (by_ k : List (BitVec 8)) (hk : k.length = 32) : rmI k (encI (schedF (labF by_ wrapS)) (blkN 0) 14) (encI (schedF (labF by_ wrapS)) (blkN 1) 14) 16 = maskF by_ k := by
  refine eq_getD (by rw [rmI_length, maskF_length]) fun j hj => ?_
  rw [rmI_length, hk] at hj
  rw [rmI_at _ _ _ hk 16 (Nat.le_refl _), maskF_at _ _ hk j hj]
  unfold mkB
  by_cases h : j < 16
  · rw [if_pos h, if_pos h]
  · rw [if_neg h, if_pos (by omega), if_neg h]

theorem rmasked_ac (b k : List (BitVec 8)) (hb : b.length = 32) (hk : k.length = 32) : AC Tryd.prog 93 [.u8s b, .u8s k] 0 gBK ⟨.u8s (maskF b k), [], []⟩ := by
  have e := rm_mask b k hk
  have hl := rlabel_ac b wrapS hb (by decide)
  have hll := labF_length b wrapS
  generalize labF b wrapS = x at e hl hll
  have hr : Rows 15 16 (schedF x) := ⟨schedF_length x, schedF_lens x hll⟩
  have hs := rsch_ac x hll
  rw [rsch_eq x hll] at hs
  generalize schedF x = ks at e hr hs
  have h0 := renc_ac ks (blkN 0) rfl hr
  have h1 := renc_ac ks (blkN 1) rfl hr
  rw [renc_eq] at h0 h1
  have l0 := encI_length ks (blkN 0) rfl 14
  have l1 := encI_length ks (blkN 1) rfl 14
  generalize encI ks (blkN 0) 14 = p at e h0 l0
  generalize encI ks (blkN 1) 14 = q at e h1 l1
  refine acA tab mix Tryd.func93 {} ?_
  repeat first | refine EffG.mk (obA ?_) | refine obA ?_ | refine chkA ?_
  refine callA hl [] ?_
  repeat first | refine EffG.mk (obA ?_) | refine obA ?_ | refine chkA ?_
  refine callR hs [] (.node (ks.map .u8s)) [] rfl rfl ⟨⟨_, rfl, rfl, rfl, id⟩, trivial⟩ rfl rfl (ren_rows _ ks) rfl ?_
  repeat first | refine EffG.mk (obA ?_) | refine obA ?_ | refine chkA ?_
  refine EffG.mk (And.intro ⟨trivial, hr.ty⟩ ?_)
  repeat first | refine EffG.mk (obA ?_) | refine obA ?_ | refine chkA ?_
  refine callA h0 [] ?_ (hargs := congrArg (fun d => [d, D.u8s (blkN 0)]) (ren_rows _ ks).symm)
  repeat first | refine EffG.mk (obA ?_) | refine obA ?_ | refine chkA ?_
  refine callA h1 [] ?_ (hargs := congrArg (fun d => [d, D.u8s (blkN 1)]) (ren_rows _ ks).symm)
  repeat first | refine EffG.mk (obA ?_) | refine obA ?_ | refine chkA ?_
  refine loopG Nat (fun i => [(3, .ptr 1 []), (4, .ptr 2 []), (6, .ptr 3 []), (7, .ptr 4 []), (8, .i64 i)]) (fun i => [(1, some ⟨t32, .u8s (rmI k p q i), true⟩), (2, some ⟨t32, .u8s (List.replicate 32 0), true⟩), (3, some ⟨t16, .u8s p, true⟩), (4, some ⟨t16, .u8s q, true⟩), (gid 1, some ⟨t256, .u8s boxL, false⟩), gK]) 5
    (fun i => i ≤ 16) (fun i => 16 - i) 0 [0, 1, 2, 4, 5] (Nat.zero_le _) viewA ?_
  intro i hi
  have hx := rmI_length k p q i
  rw [hk] at hx
  repeat first | refine EffG.mk (obA ?_) | refine obA ?_ | refine chkA ?_
  refine Br.split (fun h => ?_) (fun h => ?_)
  · have hi : i < 16 := by have := of_decide_eq_true h; omega
    repeat first | refine EffG.mk (obA ?_) | refine obA ?_ | refine chkA ?_
    refine nextA (i + 1) [0, 1, 2, 3, 4] viewA
  · obtain rfl : i = 16 := by have := of_decide_eq_false h; omega
    rw [e] at hx ⊢
    repeat first | refine EffG.mk (obA ?_) | refine obA ?_ | refine chkA ?_
    refine retA []
end Go.Proofs.YtodkhgofmgaafaaDoor.Av

namespace Go.Proofs.YtodkhgofmgaafaaDoor.Av
open Go
set_option linter.all false
set_option maxRecDepth 3000

theorem rcheck_ac (b s : List (BitVec 8)) (hb : b.length = 32) (hs : s.length = 32) : AC Tryd.prog 92 [.u8s b, .u8s s] 0 [gK] ⟨.u8s (chkF b s), [], []⟩ := by
  have e : chkF b s = hmF (labF b checkS) s := rfl
  have hl := rlabel_ac b checkS hb (by decide)
  have hll := labF_length b checkS
  generalize labF b checkS = x at e hl hll
  have ho := rhof_ac x s 0 32 0 32 (some 32) (some 32) (by omega) (by omega) (by decide) (by decide)
  rw [List.drop_zero, List.take_of_length_le (by omega), List.drop_zero, List.take_of_length_le (by omega), ← e] at ho
  have hy := chkF_length b s
  generalize chkF b s = y at ho hy ⊢
  refine acA tab mix Tryd.func92 {} ?_
  repeat first | refine EffG.mk (obA ?_) | refine obA ?_ | refine chkA ?_
  refine callA hl [] ?_
  repeat first | refine EffG.mk (obA ?_) | refine obA ?_ | refine chkA ?_
  refine callA ((ho.arr 0 32).arr 1 32) [3, 1] ?_
  repeat first | refine EffG.mk (obA ?_) | refine obA ?_ | refine chkA ?_
  refine retA []
theorem rseal_ac (b k : List (BitVec 8)) (hb : b.length = 32) (hk : k.length = 32) : AC Tryd.prog 130 [.u8s b, .u8s k] 0 gBK ⟨.tup [.u8s (maskF b k), .u8s (chkF b (maskF b k))], [], []⟩ := by
  have hm := rmasked_ac b k hb hk
  have hy := maskF_length b k
  rw [hk] at hy
  generalize maskF b k = y at hm hy ⊢
  have hc := rcheck_ac b y hb hy
  have hz := chkF_length b y
  generalize chkF b y = z at hc hz ⊢
  refine acA tab mix Tryd.func130 {} ?_
  repeat first | refine EffG.mk (obA ?_) | refine obA ?_ | refine chkA ?_
  refine callA hm [] ?_
  repeat first | refine EffG.mk (obA ?_) | refine obA ?_ | refine chkA ?_
  refine callA hc [] ?_
  repeat first | refine EffG.mk (obA ?_) | refine obA ?_ | refine chkA ?_
  refine retA []
theorem ropen_ac (b s c : List (BitVec 8)) (hb : b.length = 32) (hs : s.length = 32) (hc : c.length = 32) :
    AC Tryd.prog 49 [.u8s b, .u8s s, .u8s c] 0 gBK ⟨.tup [.u8s (if chkF b s = c then maskF b s else List.replicate 32 0), .i64 (if chkF b s = c then 0 else 30)], [], []⟩ := by
  have hm := rmasked_ac b s hb hs
  have hy := maskF_length b s
  rw [hs] at hy
  generalize maskF b s = y at hm hy ⊢
  have hk := rcheck_ac b s hb hs
  have hz := chkF_length b s
  generalize chkF b s = z at hk hz ⊢
  refine acA tab mix Tryd.func49 {} ?_
  repeat first | refine EffG.mk (obA ?_) | refine obA ?_ | refine chkA ?_
  refine callA hk [] ?_
  repeat first | refine EffG.mk (obA ?_) | refine obA ?_ | refine chkA ?_
  by_cases h : z = c
  · rw [if_pos h, if_pos h]
    refine Br.no (neN h) ?_
    repeat first | refine EffG.mk (obA ?_) | refine obA ?_ | refine chkA ?_
    refine callA hm [] ?_
    repeat first | refine EffG.mk (obA ?_) | refine obA ?_ | refine chkA ?_
    refine retA []
  · rw [if_neg h, if_neg h]
    refine Br.yes (neY h) ?_
    repeat first | refine EffG.mk (obA ?_) | refine obA ?_ | refine chkA ?_
    refine retA []

abbrev gRBK : Mem := [gR, (gid 1, some ⟨t256, .u8s boxL, false⟩), gK]
end Go.Proofs.YtodkhgofmgaafaaDoor.Av

namespace Go.Proofs.YtodkhgofmgaafaaDoor.Av
open Go
set_option linter.all false
set_option maxRecDepth 3000

/-! the document's key slots -/
theorem rmay_ac (t : BitVec 16) (sa se ch : List (BitVec 8)) (hs : (⟨true, t, sa, se, ch⟩ : Slot).ok) : AC Tryd.prog 48 [slotD ⟨true, t, sa, se, ch⟩] 0 [] ⟨.bool (decide (1 ≤ t.toNat ∧ t.toNat ≤ 4096)), [], []⟩ := by
  have hT := slot_ty hs
  by_cases h1 : 1 ≤ t.toNat
  · by_cases h2 : t.toNat ≤ 4096
    · rw [decide_eq_true ⟨h1, h2⟩]
      refine acA tab mix Tryd.func48 {} ?_
      refine EffG.mk (And.intro hT ?_)
      repeat first | refine EffG.mk (obA ?_) | refine obA ?_ | refine chkA ?_ | refine brY ?_ | refine brN ?_
      refine brY ?_ (h := decide_eq_true h1)
      repeat first | refine EffG.mk (obA ?_) | refine obA ?_ | refine chkA ?_ | refine brY ?_ | refine brN ?_
      have q2 : decide ((t.toNat : Int) ≤ 4096) = true := decide_eq_true (by omega)
      refine retA [] (h1 := ?_)
      show retIs (.bool true) [.bool (decide ((t.toNat : Int) ≤ 4096))]
      rw [q2]
      first | rfl | exact rfl
    · rw [decide_eq_false (show ¬ (1 ≤ t.toNat ∧ t.toNat ≤ 4096) from fun h => h2 h.2)]
      refine acA tab mix Tryd.func48 {} ?_
      refine EffG.mk (And.intro hT ?_)
      repeat first | refine EffG.mk (obA ?_) | refine obA ?_ | refine chkA ?_ | refine brY ?_ | refine brN ?_
      refine brY ?_ (h := decide_eq_true h1)
      repeat first | refine EffG.mk (obA ?_) | refine obA ?_ | refine chkA ?_ | refine brY ?_ | refine brN ?_
      have q2 : decide ((t.toNat : Int) ≤ 4096) = false := decide_eq_false (by omega)
      refine retA [] (h1 := ?_)
      show retIs (.bool false) [.bool (decide ((t.toNat : Int) ≤ 4096))]
      rw [q2]
      first | rfl | exact rfl
  · rw [decide_eq_false (show ¬ (1 ≤ t.toNat ∧ t.toNat ≤ 4096) from fun h => h1 h.1)]
    refine acA tab mix Tryd.func48 {} ?_
    refine EffG.mk (And.intro hT ?_)
    repeat first | refine EffG.mk (obA ?_) | refine obA ?_ | refine chkA ?_ | refine brY ?_ | refine brN ?_
    refine brN ?_ (h := decide_eq_false h1)
    repeat first | refine EffG.mk (obA ?_) | refine obA ?_ | refine chkA ?_ | refine brY ?_ | refine brN ?_
    refine retA []

theorem rsopen_ac (ks : List (BitVec 8)) (l : List Slot) (k : Nat) (x : Option Nat) (ha : ks.length = k) (hx : x = none → k = 0) (hk : k ≤ 512) (hl : TabS l) :
    AC Tryd.prog 16 [tabD l, slD 0 k x] 1 ((0, some ⟨.row .cell, .u8s ks, false⟩) :: gBK) ⟨.tup [.u8s (opR ks l 0).1, .i64 (opR ks l 0).2.1, .i64 (opR ks l 0).2.2], [], []⟩ := by
  have hT := hl.ty
  have hlen := hl.len
  generalize hR : opR ks l 0 = R
  rcases x with _ | c
  · refine acA tab mix Tryd.func16 {} ?_
    refine EffG.mk (And.intro hT ?_)
    repeat first | refine EffG.mk (obA ?_) | refine obA ?_ | refine chkA ?_ | refine brY ?_ | refine brN ?_ | refine lenS rfl rfl rfl rfl hx rfl rfl ?_
    refine loopG Nat (fun i => [(1, slD 0 k none), (2, .ptr 1 []), (4, .ptr 2 []), (7, .i64 i)]) (fun i => [(0, some ⟨.row .cell, .u8s ks, false⟩), (1, some ⟨tTab, tabD l, true⟩), (2, some ⟨t32, .u8s (List.replicate 32 0), true⟩), (gid 1, some ⟨t256, .u8s boxL, false⟩), gK]) 3
      (fun i => i ≤ 8 ∧ opR ks (l.drop i) i = R) (fun i => 8 - i) 0 [0, 1, 2] ⟨Nat.zero_le _, hR⟩ viewA ?_
    intro i hI
    obtain ⟨hi, hR⟩ := hI
    repeat first | refine EffG.mk (obA ?_) | refine obA ?_ | refine chkA ?_
    refine Br.split (fun h => ?_) (fun h => ?_)
    · have hi : i < 8 := by have := of_decide_eq_true h; omega
      have hs := hl.at hi
      rw [drop_slots (by omega)] at hR
      have hn := nthD_slots (l := l) (i := i) (by omega)
      obtain ⟨⟨u, t, sa, se, ch⟩, he⟩ : ∃ s, l.getD i slot0 = s := ⟨_, rfl⟩
      rw [he] at hs hR hn
      have hsok := hs
      obtain ⟨hsa, hse, hch⟩ := hs
      have hsa : sa.length = 16 := hsa
      have hse : se.length = 32 := hse
      have hch : ch.length = 32 := hch
      have hn : nthD (l.map slotD) (Int.toNat (i : Int)) = slotD ⟨u, t, sa, se, ch⟩ := hn
      repeat first | refine EffG.mk (obA ?_) | refine obA ?_ | refine chkA ?_
      rw [hn]
      cases u with
      | false =>
        rw [opR_cons, hit_free] at hR
        have hR : opR ks (l.drop (i + 1)) (i + 1) = R := hR
        repeat first | refine EffG.mk (obA ?_) | refine obA ?_ | refine chkA ?_ | refine brY ?_ | refine brN ?_
        refine nextA (i + 1) [0, 1, 2] viewA (h1 := ⟨by omega, hR⟩)
      | true =>
        have hmay := rmay_ac t sa se ch hsok
        by_cases ht : 1 ≤ t.toNat ∧ t.toNat ≤ 4096
        · rw [decide_eq_true ht] at hmay
          have hk1 := rkey_ac ks sa k t.toNat none ha hx hk hsa ht.1 ht.2
          have hyl := dkF_length ks sa t.toNat
          have hb := hit_yes (ks := ks) (sa := sa) (se := se) (ch := ch) ht.1 ht.2
          have hop := ropen_ac (dkF ks sa t.toNat) se ch hyl hse hch
          have hR : (if decide (chkF (dkF ks sa t.toNat) se = ch) = true then (maskF (dkF ks sa t.toNat) se, i, 0) else opR ks (l.drop (i + 1)) (i + 1)) = R := by
            rw [opR, hb] at hR; exact hR
          have hml := maskF_length (dkF ks sa t.toNat) se
          generalize dkF ks sa t.toNat = y at hk1 hyl hop hR hml
          generalize maskF y se = z at hop hR hml
          generalize chkF y se = c9 at hop hR
          by_cases hc : c9 = ch
          · rw [if_pos hc, if_pos hc] at hop
            rw [if_pos (decide_eq_true hc)] at hR
            subst hR
            repeat first | refine EffG.mk (obA ?_) | refine obA ?_ | refine chkA ?_ | refine brY ?_ | refine brN ?_
            refine callA hmay [] ?_
            repeat first | refine EffG.mk (obA ?_) | refine obA ?_ | refine chkA ?_ | refine brY ?_ | refine brN ?_
            refine callA hk1 [0] ?_
            repeat first | refine EffG.mk (obA ?_) | refine obA ?_ | refine chkA ?_ | refine brY ?_ | refine brN ?_
            refine callA hop [] ?_
            repeat first | refine EffG.mk (obA ?_) | refine obA ?_ | refine chkA ?_ | refine brY ?_ | refine brN ?_
            refine retA [0]
          · rw [if_neg hc, if_neg hc] at hop
            rw [if_neg (by rw [decide_eq_false hc]; decide)] at hR
            repeat first | refine EffG.mk (obA ?_) | refine obA ?_ | refine chkA ?_ | refine brY ?_ | refine brN ?_
            refine callA hmay [] ?_
            repeat first | refine EffG.mk (obA ?_) | refine obA ?_ | refine chkA ?_ | refine brY ?_ | refine brN ?_
            refine callA hk1 [0] ?_
            repeat first | refine EffG.mk (obA ?_) | refine obA ?_ | refine chkA ?_ | refine brY ?_ | refine brN ?_
            refine callA hop [] ?_
            repeat first | refine EffG.mk (obA ?_) | refine obA ?_ | refine chkA ?_ | refine brY ?_ | refine brN ?_
            refine nextA (i + 1) [0, 1, 2] viewA (h1 := ⟨by omega, hR⟩)
        · rw [decide_eq_false ht] at hmay
          have hb := hit_no (ks := ks) (sa := sa) (se := se) (ch := ch) ht
          have hR : opR ks (l.drop (i + 1)) (i + 1) = R := by
            rw [opR_cons, hb] at hR; exact hR
          repeat first | refine EffG.mk (obA ?_) | refine obA ?_ | refine chkA ?_ | refine brY ?_ | refine brN ?_
          refine callA hmay [] ?_
          repeat first | refine EffG.mk (obA ?_) | refine obA ?_ | refine chkA ?_ | refine brY ?_ | refine brN ?_
          refine nextA (i + 1) [0, 1, 2] viewA (h1 := ⟨by omega, hR⟩)
    · obtain rfl : i = 8 := by have := of_decide_eq_false h; omega
      rw [List.drop_of_length_le (by omega)] at hR
      subst hR
      repeat first | refine EffG.mk (obA ?_) | refine obA ?_ | refine chkA ?_
      refine retA [0]
  · refine acA tab mix Tryd.func16 {} ?_
    refine EffG.mk (And.intro hT ?_)
    repeat first | refine EffG.mk (obA ?_) | refine obA ?_ | refine chkA ?_ | refine brY ?_ | refine brN ?_ | refine lenS rfl rfl rfl rfl hx rfl rfl ?_
    refine loopG Nat (fun i => [(1, slD 0 k (some c)), (2, .ptr 1 []), (4, .ptr 2 []), (7, .i64 i)]) (fun i => [(0, some ⟨.row .cell, .u8s ks, false⟩), (1, some ⟨tTab, tabD l, true⟩), (2, some ⟨t32, .u8s (List.replicate 32 0), true⟩), (gid 1, some ⟨t256, .u8s boxL, false⟩), gK]) 3
      (fun i => i ≤ 8 ∧ opR ks (l.drop i) i = R) (fun i => 8 - i) 0 [0, 1, 2] ⟨Nat.zero_le _, hR⟩ viewA ?_
    intro i hI
    obtain ⟨hi, hR⟩ := hI
    repeat first | refine EffG.mk (obA ?_) | refine obA ?_ | refine chkA ?_
    refine Br.split (fun h => ?_) (fun h => ?_)
    · have hi : i < 8 := by have := of_decide_eq_true h; omega
      have hs := hl.at hi
      rw [drop_slots (by omega)] at hR
      have hn := nthD_slots (l := l) (i := i) (by omega)
      obtain ⟨⟨u, t, sa, se, ch⟩, he⟩ : ∃ s, l.getD i slot0 = s := ⟨_, rfl⟩
      rw [he] at hs hR hn
      have hsok := hs
      obtain ⟨hsa, hse, hch⟩ := hs
      have hsa : sa.length = 16 := hsa
      have hse : se.length = 32 := hse
      have hch : ch.length = 32 := hch
      have hn : nthD (l.map slotD) (Int.toNat (i : Int)) = slotD ⟨u, t, sa, se, ch⟩ := hn
      repeat first | refine EffG.mk (obA ?_) | refine obA ?_ | refine chkA ?_
      rw [hn]
      cases u with
      | false =>
        rw [opR_cons, hit_free] at hR
        have hR : opR ks (l.drop (i + 1)) (i + 1) = R := hR
        repeat first | refine EffG.mk (obA ?_) | refine obA ?_ | refine chkA ?_ | refine brY ?_ | refine brN ?_
        refine nextA (i + 1) [0, 1, 2] viewA (h1 := ⟨by omega, hR⟩)
      | true =>
        have hmay := rmay_ac t sa se ch hsok
        by_cases ht : 1 ≤ t.toNat ∧ t.toNat ≤ 4096
        · rw [decide_eq_true ht] at hmay
          have hk1 := rkey_ac ks sa k t.toNat (some c) ha hx hk hsa ht.1 ht.2
          have hyl := dkF_length ks sa t.toNat
          have hb := hit_yes (ks := ks) (sa := sa) (se := se) (ch := ch) ht.1 ht.2
          have hop := ropen_ac (dkF ks sa t.toNat) se ch hyl hse hch
          have hR : (if decide (chkF (dkF ks sa t.toNat) se = ch) = true then (maskF (dkF ks sa t.toNat) se, i, 0) else opR ks (l.drop (i + 1)) (i + 1)) = R := by
            rw [opR, hb] at hR; exact hR
          have hml := maskF_length (dkF ks sa t.toNat) se
          generalize dkF ks sa t.toNat = y at hk1 hyl hop hR hml
          generalize maskF y se = z at hop hR hml
          generalize chkF y se = c9 at hop hR
          by_cases hc : c9 = ch
          · rw [if_pos hc, if_pos hc] at hop
            rw [if_pos (decide_eq_true hc)] at hR
            subst hR
            repeat first | refine EffG.mk (obA ?_) | refine obA ?_ | refine chkA ?_ | refine brY ?_ | refine brN ?_
            refine callA hmay [] ?_
            repeat first | refine EffG.mk (obA ?_) | refine obA ?_ | refine chkA ?_ | refine brY ?_ | refine brN ?_
            refine callA hk1 [0] ?_
            repeat first | refine EffG.mk (obA ?_) | refine obA ?_ | refine chkA ?_ | refine brY ?_ | refine brN ?_
            refine callA hop [] ?_
            repeat first | refine EffG.mk (obA ?_) | refine obA ?_ | refine chkA ?_ | refine brY ?_ | refine brN ?_
            refine retA [0]
          · rw [if_neg hc, if_neg hc] at hop
            rw [if_neg (by rw [decide_eq_false hc]; decide)] at hR
            repeat first | refine EffG.mk (obA ?_) | refine obA ?_ | refine chkA ?_ | refine brY ?_ | refine brN ?_
            refine callA hmay [] ?_
            repeat first | refine EffG.mk (obA ?_) | refine obA ?_ | refine chkA ?_ | refine brY ?_ | refine brN ?_
            refine callA hk1 [0] ?_
            repeat first | refine EffG.mk (obA ?_) | refine obA ?_ | refine chkA ?_ | refine brY ?_ | refine brN ?_
            refine callA hop [] ?_
            repeat first | refine EffG.mk (obA ?_) | refine obA ?_ | refine chkA ?_ | refine brY ?_ | refine brN ?_
            refine nextA (i + 1) [0, 1, 2] viewA (h1 := ⟨by omega, hR⟩)
        · rw [decide_eq_false ht] at hmay
          have hb := hit_no (ks := ks) (sa := sa) (se := se) (ch := ch) ht
          have hR : opR ks (l.drop (i + 1)) (i + 1) = R := by
            rw [opR_cons, hb] at hR; exact hR
          repeat first | refine EffG.mk (obA ?_) | refine obA ?_ | refine chkA ?_ | refine brY ?_ | refine brN ?_
          refine callA hmay [] ?_
          repeat first | refine EffG.mk (obA ?_) | refine obA ?_ | refine chkA ?_ | refine brY ?_ | refine brN ?_
          refine nextA (i + 1) [0, 1, 2] viewA (h1 := ⟨by omega, hR⟩)
    · obtain rfl : i = 8 := by have := of_decide_eq_false h; omega
      rw [List.drop_of_length_le (by omega)] at hR
      subst hR
      repeat first | refine EffG.mk (obA ?_) | refine obA ?_ | refine chkA ?_
      refine retA [0]
theorem rsopen_long_ac (ks : List (BitVec 8)) (l : List Slot) (k : Nat) (x : Option Nat) (ha : ks.length = k) (hx : x = none → k = 0) (hk : 512 < k) (hl : TabS l) :
    AC Tryd.prog 16 [tabD l, slD 0 k x] 1 [(0, some ⟨.row .cell, .u8s ks, false⟩)] ⟨.tup [.u8s (List.replicate 32 0), .i64 0, .i64 5], [], []⟩ := by
  have hT := hl.ty
  refine acA tab mix Tryd.func16 {} ?_
  refine EffG.mk (And.intro hT ?_)
  repeat first | refine EffG.mk (obA ?_) | refine obA ?_ | refine chkA ?_ | refine brY ?_ | refine brN ?_ | refine lenS rfl rfl rfl rfl hx rfl rfl ?_
  refine retA [0]
end Go.Proofs.YtodkhgofmgaafaaDoor.Av

namespace Go.Proofs.YtodkhgofmgaafaaDoor.Av
open Go
set_option linter.all false
set_option maxRecDepth 3000

/-- the turns of a table that count -/
def lightN : List Slot → Nat
  | [] => 0
  | s :: r => (bif s.used && decide (s.turns.toNat ≤ 4096) then s.turns.toNat else 0) + lightN r
theorem lightN_le : ∀ l : List Slot, lightN l ≤ 4096 * l.length
  | [] => Nat.le_refl _
  | s :: r => by
    have := lightN_le r
    rw [lightN, List.length_cons]
    cases s.used with
    | false => simp only [Bool.false_and, cond]; omega
    | true =>
      by_cases h : s.turns.toNat ≤ 4096
      · simp only [decide_eq_true h, Bool.true_and, cond]; omega
      · simp only [decide_eq_false h, Bool.and_false, cond]; omega
theorem getP_slotf {l : List Slot} {i f : Nat} {s : Slot} {v : D} (hi : i < l.length) (hs : l.getD i slot0 = s) (h : getP (slotD s) [.fld f] = some v) : getP (tabD l) [.idx i, .fld f] = some v := by
  show getP (nthD (l.map slotD) i) [.fld f] = _
  rw [nthD_slots hi, hs]; exact h
theorem okP_slotf {l : List Slot} {i f : Nat} {s : Slot} (hi : i < l.length) (hs : l.getD i slot0 = s) (h : okP (slotD s) [.fld f]) : okP (tabD l) [.idx i, .fld f] := by
  refine ⟨by rw [List.length_map]; exact hi, ?_⟩
  show okP (nthD (l.map slotD) i) [.fld f]
  rw [nthD_slots hi, hs]; exact h

set_option maxHeartbeats 1000000 in
theorem light_ac (l : List Slot) (hl : TabS l) : AC Tryd.prog 13 [tabD l] 0 [] ⟨.bool (decide ((lightN l : Int) ≤ 400)), [], []⟩ := by
  have hT := hl.ty
  have hlen := hl.len
  have hle := lightN_le l
  generalize hR : lightN l = R at hle
  refine acA tab mix Tryd.func13 {} ?_
  refine EffG.mk (And.intro hT ?_)
  repeat first | refine EffG.mk (obA ?_) | refine obA ?_ | refine chkA ?_
  refine loopG (Nat × Nat) (fun y => [(1, .ptr 0 []), (4, .i64 y.1), (3, .i64 y.2)]) (fun y => [(0, some ⟨tTab, tabD l, true⟩)]) 1
    (fun y => y.1 ≤ 8 ∧ y.2 + lightN (l.drop y.1) = R) (fun y => 8 - y.1) (0, 0) [0] ⟨Nat.zero_le _, (Nat.zero_add _).trans hR⟩ viewA ?_
  rintro ⟨i, n⟩ hI
  obtain ⟨hi, hR⟩ := hI
  have hi : i ≤ 8 := hi
  have hR : n + lightN (l.drop i) = R := hR
  repeat first | refine EffG.mk (obA ?_) | refine obA ?_ | refine chkA ?_
  refine Br.split (fun h => ?_) (fun h => ?_)
  · have hi : i < 8 := by have := of_decide_eq_true h; omega
    have hs := hl.at hi
    rw [drop_slots (by omega), lightN] at hR
    obtain ⟨⟨u, t, sa, se, ch⟩, he⟩ : ∃ s, l.getD i slot0 = s := ⟨_, rfl⟩
    rw [he] at hs hR
    have hR : n + ((bif u && decide (t.toNat ≤ 4096) then t.toNat else 0) + lightN (l.drop (i + 1))) = R := hR
    repeat first | refine EffG.mk (obA ?_) | refine obA ?_ | refine chkA ?_
    refine loadG (.bool u) rfl rfl rfl rfl rfl (getP_slotf (i := i) (by omega) he rfl) (okP_slotf (i := i) (by omega) he trivial) ?_
    cases u with
    | false =>
      simp only [Bool.false_and, cond] at hR
      repeat first | refine EffG.mk (obA ?_) | refine obA ?_ | refine chkA ?_ | refine brY ?_ | refine brN ?_
      refine nextA (i + 1, n) [0] viewA (h1 := ⟨by show i + 1 ≤ 8; omega, by show n + lightN (l.drop (i + 1)) = R; omega⟩) (h2 := by show 8 - (i + 1) < 8 - i; omega)
    | true =>
      repeat first | refine EffG.mk (obA ?_) | refine obA ?_ | refine chkA ?_ | refine brY ?_ | refine brN ?_
      refine loadG (.u16 t) rfl rfl rfl rfl rfl (getP_slotf (i := i) (by omega) he rfl) (okP_slotf (i := i) (by omega) he trivial) ?_
      repeat first | refine EffG.mk (obA ?_) | refine obA ?_ | refine chkA ?_ | refine brY ?_ | refine brN ?_
      by_cases h4 : t.toNat ≤ 4096
      · simp only [decide_eq_true h4, Bool.true_and, cond] at hR
        refine brY ?_ (h := decide_eq_true h4)
        repeat first | refine EffG.mk (obA ?_) | refine obA ?_ | refine chkA ?_ | refine brY ?_ | refine brN ?_
        refine loadG (.u16 t) rfl rfl rfl rfl rfl (getP_slotf (i := i) (by omega) he rfl) (okP_slotf (i := i) (by omega) he trivial) ?_
        repeat first | refine EffG.mk (obA ?_) | refine obA ?_ | refine chkA ?_ | refine brY ?_ | refine brN ?_
        refine nextA (i + 1, n + t.toNat) [0] viewA (h1 := ⟨by show i + 1 ≤ 8; omega, by show n + t.toNat + lightN (l.drop (i + 1)) = R; omega⟩) (h2 := by show 8 - (i + 1) < 8 - i; omega)
      · simp only [decide_eq_false h4, Bool.and_false, cond] at hR
        refine brN ?_ (h := decide_eq_false h4)
        repeat first | refine EffG.mk (obA ?_) | refine obA ?_ | refine chkA ?_ | refine brY ?_ | refine brN ?_
        refine nextA (i + 1, n) [0] viewA (h1 := ⟨by show i + 1 ≤ 8; omega, by show n + lightN (l.drop (i + 1)) = R; omega⟩) (h2 := by show 8 - (i + 1) < 8 - i; omega)
  · obtain rfl : i = 8 := by have := of_decide_eq_false h; omega
    rw [List.drop_of_length_le (by omega)] at hR
    subst hR
    repeat first | refine EffG.mk (obA ?_) | refine obA ?_ | refine chkA ?_
    refine retA []

theorem slotsopens_ac (ks : List (BitVec 8)) (l : List Slot) (k : Nat) (x : Option Nat) (ha : ks.length = k) (hx : x = none → k = 0) (hl : TabS l) :
    AC Tryd.prog 3 [tabD l, slD 0 k x] 1 ((0, some ⟨.row .cell, .u8s ks, false⟩) :: gRBK) ⟨.bool true, [], []⟩ := by
  have hT := hl.ty
  have hli := light_ac l hl
  have haw := slawake_ac
  by_cases hlt : (lightN l : Int) ≤ 400
  · rw [decide_eq_true hlt] at hli
    by_cases hk : k ≤ 512
    · have h1 := sopen_ac ks l k x ha hx hk hl
      have h2 := rsopen_ac ks l k x ha hx hk hl
      have hol := opR_length ks l 0 hl.ok
      generalize (opR ks l 0).1 = a at h1 h2 hol
      generalize (opR ks l 0).2.1 = b at h1 h2
      generalize (opR ks l 0).2.2 = c at h1 h2
      have hq : (D.u8s a).eqb (D.u8s a) = true := eqY rfl
      refine acA tab mix Tryd.func3 {} ?_
      refine EffG.mk (And.intro hT ?_)
      repeat first | refine EffG.mk (obA ?_) | refine obA ?_ | refine chkA ?_
      refine callA hli [] ?_ (hargs := by simp only [D.rens, ren_tab]; rfl)
      repeat first | refine EffG.mk (obA ?_) | refine obA ?_ | refine chkA ?_ | refine brY ?_ | refine brN ?_
      refine callA h1 [0] ?_ (hargs := by simp only [D.rens, ren_slD, ren_tab]; rfl)
      repeat first | refine EffG.mk (obA ?_) | refine obA ?_ | refine chkA ?_
      refine callA h2 [0] ?_ (hargs := by simp only [D.rens, ren_slD, ren_tab]; rfl)
      repeat first | refine EffG.mk (obA ?_) | refine obA ?_ | refine chkA ?_ | refine brY ?_ | refine brN ?_ | rw [hq]
      refine callA haw [] ?_
      repeat first | refine EffG.mk (obA ?_) | refine obA ?_ | refine chkA ?_ | refine brY ?_ | refine brN ?_
      refine retA [0]
    · have h1 := sopen_long_ac ks l k x ha hx (by omega) hl
      have h2 := rsopen_long_ac ks l k x ha hx (by omega) hl
      refine acA tab mix Tryd.func3 {} ?_
      refine EffG.mk (And.intro hT ?_)
      repeat first | refine EffG.mk (obA ?_) | refine obA ?_ | refine chkA ?_
      refine callA hli [] ?_ (hargs := by simp only [D.rens, ren_tab]; rfl)
      repeat first | refine EffG.mk (obA ?_) | refine obA ?_ | refine chkA ?_ | refine brY ?_ | refine brN ?_
      refine callA h1 [0] ?_ (hargs := by simp only [D.rens, ren_slD, ren_tab]; rfl)
      repeat first | refine EffG.mk (obA ?_) | refine obA ?_ | refine chkA ?_
      refine callA h2 [0] ?_ (hargs := by simp only [D.rens, ren_slD, ren_tab]; rfl)
      repeat first | refine EffG.mk (obA ?_) | refine obA ?_ | refine chkA ?_ | refine brY ?_ | refine brN ?_
      refine callA haw [] ?_
      repeat first | refine EffG.mk (obA ?_) | refine obA ?_ | refine chkA ?_ | refine brY ?_ | refine brN ?_
      refine retA [0]
  · rw [decide_eq_false hlt] at hli
    refine acA tab mix Tryd.func3 {} ?_
    refine EffG.mk (And.intro hT ?_)
    repeat first | refine EffG.mk (obA ?_) | refine obA ?_ | refine chkA ?_
    refine callA hli [] ?_ (hargs := by simp only [D.rens, ren_tab]; rfl)
    repeat first | refine EffG.mk (obA ?_) | refine obA ?_ | refine chkA ?_ | refine brY ?_ | refine brN ?_
    refine callA haw [] ?_
    repeat first | refine EffG.mk (obA ?_) | refine obA ?_ | refine chkA ?_ | refine brY ?_ | refine brN ?_
    refine retA [0]
end Go.Proofs.YtodkhgofmgaafaaDoor.Av

namespace Go.Proofs.YtodkhgofmgaafaaDoor.Av
open Go
set_option linter.all false
set_option maxRecDepth 3000

/-! tables as bytes -/
theorem put16_ac (n : BitVec 16) : AC Tryd.prog 62 [.u16 n] 0 [] ⟨.slice 0 [] 0 2 none, [], [(.row .cell, .u8s (nbF (n.setWidth 64) 2))]⟩ := by
  refine acA tab mix Tryd.func62 {} ?_
  repeat first | refine EffG.mk (obA ?_) | refine obA ?_ | refine chkA ?_
  refine callA (put_ac (n.setWidth 64) 2 (by decide)) [] ?_
  repeat first | refine EffG.mk (obA ?_) | refine obA ?_ | refine chkA ?_
  refine retA [0]
theorem pad_ac (bs : List (BitVec 8)) (k : Nat) (cap : Option Nat) (h : bs.length = k) (hk : k ≤ 128) :
    AC Tryd.prog 60 [.slice 0 [] 0 k cap, .i64 128] 1 [(0, some ⟨.row .cell, .u8s bs, false⟩)] ⟨.tup [.slice 1 [] 0 128 none, .i64 0], [], [(.row .cell, .u8s (bs ++ List.replicate (128 - k) 0))]⟩ := by
  refine acA tab mix Tryd.func60 {} ?_
  repeat first | refine EffG.mk (obA ?_) | refine obA ?_ | refine chkA ?_ | refine brY ?_ | refine brN ?_
  have q1 : Nat.min k 128 = k := Nat.min_eq_left hk
  have e : List.take 0 (List.replicate 128 (0 : BitVec 8)) ++ List.take (Nat.min k 128) (List.drop 0 bs) ++ List.drop (0 + Nat.min k 128) (List.replicate 128 0) = bs ++ List.replicate (128 - k) 0 := by
    rw [q1, List.drop_zero (l := bs), List.take_of_length_le (l := bs) (by omega), Nat.zero_add, List.drop_replicate]; rfl
  refine retA [0, 1] (h3 := ?_)
  (repeat' (first | exact trivial | refine And.intro ⟨_, rfl, rfl, ?_, id⟩ ?_ | refine And.intro ⟨_, rfl, rfl, ?_, fun _ => rfl⟩ ?_)) <;> first | rfl | exact congrArg D.u8s e
theorem concat5_ac (a b c d e : List (BitVec 8)) (ha : a.length = 1) (hb : b.length = 2) (hc : c.length = 16) (hd : d.length = 32) (he : e.length = 32) :
    AC Tryd.prog 61 [.slice 0 [] 0 5 (some 5)] 6 [(0, some ⟨.row .cell, .node [.slice 1 [] 0 1 (some 1), .slice 2 [] 0 2 none, .slice 3 [] 0 16 (some 16), .slice 4 [] 0 32 (some 32), .slice 5 [] 0 32 (some 32)], true⟩),
      (1, some ⟨.row .cell, .u8s a, false⟩), (2, some ⟨.row .cell, .u8s b, false⟩), (3, some ⟨.row .cell, .u8s c, false⟩), (4, some ⟨.row .cell, .u8s d, false⟩), (5, some ⟨.row .cell, .u8s e, false⟩)]
      ⟨.slice 6 [] 0 83 none, [], [(.row .cell, .u8s (a ++ b ++ c ++ d ++ e))]⟩ := by
  refine acA tab mix Tryd.func61 ⟨[], [3, 11]⟩ ?_
  repeat first | refine EffG.mk (obA ?_) | refine obA ?_ | refine chkA ?_
  refine unrG 6 ?_
  repeat first | refine EffG.mk (obA ?_) | refine obA ?_ | refine chkA ?_ | refine brY ?_ | refine brN ?_
  refine callA (grow_ac (0 + (1 : Int) + 2 + 16 + 32 + 32) (by omega) (by omega)) [] ?_
  repeat first | refine EffG.mk (obA ?_) | refine obA ?_ | refine chkA ?_
  refine unrG 6 ?_
  repeat first | refine EffG.mk (obA ?_) | refine obA ?_ | refine chkA ?_ | refine brY ?_ | refine brN ?_
  refine ⟨0, ?_⟩
  repeat first | refine EffG.mk (obA ?_) | refine obA ?_ | refine chkA ?_ | refine brY ?_ | refine brN ?_
  refine ⟨0, ?_⟩
  repeat first | refine EffG.mk (obA ?_) | refine obA ?_ | refine chkA ?_ | refine brY ?_ | refine brN ?_
  refine ⟨0, ?_⟩
  repeat first | refine EffG.mk (obA ?_) | refine obA ?_ | refine chkA ?_ | refine brY ?_ | refine brN ?_
  refine ⟨0, ?_⟩
  repeat first | refine EffG.mk (obA ?_) | refine obA ?_ | refine chkA ?_ | refine brY ?_ | refine brN ?_
  refine ⟨0, ?_⟩
  repeat first | refine EffG.mk (obA ?_) | refine obA ?_ | refine chkA ?_ | refine brY ?_ | refine brN ?_
  refine retA [0, 1, 2, 3, 4, 5, 11] (h3 := ?_)
  (repeat' (first | exact trivial | refine And.intro ⟨_, rfl, rfl, ?_, id⟩ ?_ | refine And.intro ⟨_, rfl, rfl, ?_, fun _ => rfl⟩ ?_)) <;> first | rfl | skip
  have t1 : List.take 1 a = a := List.take_of_length_le (by omega)
  have t2 : List.take 2 b = b := List.take_of_length_le (by omega)
  have t3 : List.take 16 c = c := List.take_of_length_le (by omega)
  have t4 : List.take 32 d = d := List.take_of_length_le (by omega)
  have t5 : List.take 32 e = e := List.take_of_length_le (by omega)
  have k2 : List.take 3 (a ++ b) = a ++ b := List.take_of_length_le (by simp only [List.length_append]; omega)
  have k3 : List.take 19 (a ++ b ++ c) = a ++ b ++ c := List.take_of_length_le (by simp only [List.length_append]; omega)
  have k4 : List.take 51 (a ++ b ++ c ++ d) = a ++ b ++ c ++ d := List.take_of_length_le (by simp only [List.length_append]; omega)
  exact congrArg D.u8s (show List.take 51 (List.take 19 (List.take 3 (List.take 1 (List.take 1 a) ++ List.take 2 b) ++ List.take 16 c) ++ List.take 32 d) ++ List.take 32 e = a ++ b ++ c ++ d ++ e by rw [t1, t1, t2, k2, t3, k3, t4, k4, t5])
end Go.Proofs.YtodkhgofmgaafaaDoor.Av

namespace Go.Proofs.YtodkhgofmgaafaaDoor.Av
open Go
set_option linter.all false
set_option maxRecDepth 3000

/-- a slot's bytes, a table's bytes -/
def slotB (s : Slot) : List (BitVec 8) := [bif s.used then 1 else 0] ++ nbF (s.turns.setWidth 64) 2 ++ s.salt ++ s.sealed ++ s.check ++ List.replicate 45 0
theorem slotB_length {s : Slot} (h : s.ok) : (slotB s).length = 128 := by
  have h1 := h.salt
  have h2 := h.sealed
  have h3 := h.check
  have h4 := nbF_length (s.turns.setWidth 64) 2
  unfold slotB
  simp only [List.length_append, List.length_cons, List.length_nil, List.length_replicate, h1, h2, h3, h4]
def tabI (l : List Slot) : Nat → List (BitVec 8)
  | 0 => []
  | i + 1 => tabI l i ++ slotB (l.getD i slot0)
theorem tabI_length {l : List Slot} (hl : TabS l) : ∀ i, i ≤ 8 → (tabI l i).length = 128 * i
  | 0, _ => rfl
  | i + 1, h => by rw [tabI, List.length_append, tabI_length hl i (by omega), slotB_length (hl.at (by omega))]; omega

set_option maxHeartbeats 2000000 in
theorem sput_ac (l : List Slot) (hl : TabS l) : AC Tryd.prog 23 [tabD l] 0 [] ⟨.slice 0 [] 0 1024 none, [], [(.row .cell, .u8s (tabI l 8))]⟩ := by
  have hT := hl.ty
  have hlen := hl.len
  refine acA tab mix Tryd.func23 {} ?_
  refine EffG.mk (And.intro hT ?_)
  repeat first | refine EffG.mk (obA ?_) | refine obA ?_ | refine chkA ?_
  refine loopG Nat (fun i => [(3, .slice 0 [] 0 (128 * i) none), (10, tabD l), (11, .i64 i)]) (fun i => [(0, some ⟨.row .cell, .u8s (tabI l i), true⟩)]) 1 (fun i => i ≤ 8) (fun i => 8 - i) 0 [1] (Nat.zero_le _) viewA ?_
  intro i hi
  have hpl := tabI_length hl i hi
  repeat first | refine EffG.mk (obA ?_) | refine obA ?_ | refine chkA ?_
  refine Br.split (fun h => ?_) (fun h => ?_)
  · have hi : i < 8 := by have := of_decide_eq_true h; omega
    have hs := hl.at hi
    have hput : tabI l (i + 1) = tabI l i ++ slotB (l.getD i slot0) := rfl
    have hn := nthD_slots (l := l) (i := i) (by omega)
    obtain ⟨⟨u, t, sa, se, ch⟩, he⟩ : ∃ s, l.getD i slot0 = s := ⟨_, rfl⟩
    rw [he] at hs hn hput
    have hbl := slotB_length hs
    obtain ⟨hsa, hse, hch⟩ := hs
    have hsa : sa.length = 16 := hsa
    have hse : se.length = 32 := hse
    have hch : ch.length = 32 := hch
    have hn : nthD (l.map slotD) (Int.toNat (i : Int)) = slotD ⟨u, t, sa, se, ch⟩ := hn
    have hp16 := put16_ac t
    have hnl := nbF_length (t.setWidth 64) 2
    have hcc := concat5_ac [bif u then 1 else 0] (nbF (t.setWidth 64) 2) sa se ch rfl hnl hsa hse hch
    have hcc := ((hcc.arrAt 3 16 [.fld 2] tSlot (slotD ⟨u, t, sa, se, ch⟩)).arrAt 4 32 [.fld 3] tSlot (slotD ⟨u, t, sa, se, ch⟩)).arrAt 5 32 [.fld 4] tSlot (slotD ⟨u, t, sa, se, ch⟩)
    have hpd := pad_ac ([bif u then 1 else 0] ++ nbF (t.setWidth 64) 2 ++ sa ++ se ++ ch) 83 none (by simp only [List.length_append, List.length_cons, List.length_nil, hsa, hse, hch, hnl]) (by decide)
    have hsb : slotB ⟨u, t, sa, se, ch⟩ = [bif u then 1 else 0] ++ nbF (t.setWidth 64) 2 ++ sa ++ se ++ ch ++ List.replicate 45 0 := rfl
    generalize nbF (t.setWidth 64) 2 = tb at hp16 hnl hcc hpd hsb
    rw [← hsb] at hpd
    generalize slotB ⟨u, t, sa, se, ch⟩ = sb at hput hbl hsb hpd
    repeat first | refine EffG.mk (obA ?_) | refine obA ?_ | refine chkA ?_
    refine EffG.mk (And.intro ⟨⟨⟨by omega, by omega⟩, ⟨by rw [List.length_map]; omega, trivial⟩⟩, hT⟩ ?_)
    rw [hn]
    cases u
    all_goals
      repeat first | refine EffG.mk (obA ?_) | refine obA ?_ | refine chkA ?_ | refine brY ?_ | refine brN ?_
      refine callA hp16 [] ?_
      repeat first | refine EffG.mk (obA ?_) | refine obA ?_ | refine chkA ?_ | refine brY ?_ | refine brN ?_
      refine callA hcc [4, 2, 3, 1, 1, 1] ?_
      repeat first | refine EffG.mk (obA ?_) | refine obA ?_ | refine chkA ?_ | refine brY ?_ | refine brN ?_
      refine callA hpd [5] ?_
      repeat first | refine EffG.mk (obA ?_) | refine obA ?_ | refine chkA ?_ | refine brY ?_ | refine brN ?_
      refine ⟨0, ?_⟩
      repeat first | refine EffG.mk (obA ?_) | refine obA ?_ | refine chkA ?_ | refine brY ?_ | refine brN ?_
      have e : List.take (128 * i) (tabI l i) ++ List.take 128 sb = tabI l (i + 1) := by rw [hput, List.take_of_length_le (by omega), List.take_of_length_le (by omega)]
      refine nextA (i + 1) [7] (viewA (h3 := ?_))
      (repeat' (first | exact trivial | refine And.intro ⟨_, rfl, rfl, ?_, id⟩ ?_ | refine And.intro ⟨_, rfl, rfl, ?_, fun _ => rfl⟩ ?_)) <;> first | rfl | exact congrArg D.u8s e
  · obtain rfl : i = 8 := by have := of_decide_eq_false h; omega
    repeat first | refine EffG.mk (obA ?_) | refine obA ?_ | refine chkA ?_
    refine retA [0]
end Go.Proofs.YtodkhgofmgaafaaDoor.Av

namespace Go.Proofs.YtodkhgofmgaafaaDoor.Av
open Go
set_option linter.all false
set_option maxRecDepth 3000

/-! the document's tables as bytes -/
def be2 (n : BitVec 64) : List (BitVec 8) := [(n >>> 8).setWidth 8, (n >>> 0).setWidth 8]
theorem be2_eq (n : BitVec 64) : be2 n = nbF n 2 := by
  have h : nbF n 2 = [(n >>> 8).setWidth 8, n.setWidth 8] := rfl
  rw [h, be2]
  simp only [BitVec.ushiftRight_zero]
theorem rput2_ac (n : BitVec 64) : AC Tryd.prog 63 [.u64 n, .i64 2] 0 [] ⟨.slice 0 [] 0 2 none, [], [(.row .cell, .u8s (nbF n 2))]⟩ := by
  rw [← be2_eq]
  refine acA tab mix Tryd.func63 ⟨[], [3]⟩ ?_
  repeat first | refine EffG.mk (obA ?_) | refine obA ?_ | refine chkA ?_
  refine unrG 3 ?_
  repeat first | refine EffG.mk (obA ?_) | refine obA ?_ | refine chkA ?_ | refine brY ?_ | refine brN ?_
  refine ⟨1, ?_⟩
  repeat first | refine EffG.mk (obA ?_) | refine obA ?_ | refine chkA ?_ | refine brY ?_ | refine brN ?_
  refine ⟨0, ?_⟩
  repeat first | refine EffG.mk (obA ?_) | refine obA ?_ | refine chkA ?_ | refine brY ?_ | refine brN ?_
  refine retA [3]

theorem parts_eq (P a b c d e : List (BitVec 8)) (n : Nat) (hP : P.length = n) (ha : a.length = 1) (hb : b.length = 2) (hc : c.length = 16) (hd : d.length = 32) (he : e.length = 32) :
    List.take (n + 1 + 2 + 16 + 32 + 32) (List.take (n + 1 + 2 + 16 + 32) (List.take (n + 1 + 2 + 16) (List.take (n + 1 + 2) (List.take (n + 1) (List.take n P ++ List.take 1 a) ++ List.take 2 b) ++ List.take 16 c) ++ List.take 32 d) ++ List.take 32 e) ++ List.replicate 45 0 =
      P ++ (a ++ b ++ c ++ d ++ e ++ List.replicate 45 0) := by
  rw [List.take_of_length_le (l := P) (by omega), List.take_of_length_le (l := a) (by omega), List.take_of_length_le (l := b) (by omega), List.take_of_length_le (l := c) (by omega), List.take_of_length_le (l := d) (by omega), List.take_of_length_le (l := e) (by omega),
    List.take_of_length_le (l := P ++ a) (by simp only [List.length_append]; omega), List.take_of_length_le (l := P ++ a ++ b) (by simp only [List.length_append]; omega), List.take_of_length_le (l := P ++ a ++ b ++ c) (by simp only [List.length_append]; omega),
    List.take_of_length_le (l := P ++ a ++ b ++ c ++ d) (by simp only [List.length_append]; omega), List.take_of_length_le (l := P ++ a ++ b ++ c ++ d ++ e) (by simp only [List.length_append]; omega)]
  simp only [List.append_assoc]
def outS : Nat → D
  | 0 => .nilslice
  | i + 1 => .slice 1 [] 0 (128 * (i + 1)) none
def outB (l : List Slot) : Nat → Option Ent
  | 0 => none
  | i + 1 => some ⟨.row .cell, .u8s (tabI l (i + 1)), true⟩
set_option maxHeartbeats 2000000 in
theorem rtput_ac (l : List Slot) (hl : TabS l) : AC Tryd.prog 24 [tabD l] 0 [] ⟨.slice 0 [] 0 1024 none, [], [(.row .cell, .u8s (tabI l 8))]⟩ := by
  have hT := hl.ty
  have hlen := hl.len
  refine acA tab mix Tryd.func24 {} ?_
  refine EffG.mk (And.intro hT ?_)
  repeat first | refine EffG.mk (obA ?_) | refine obA ?_ | refine chkA ?_
  refine loopG Nat (fun i => [(1, .ptr 0 []), (3, outS i), (4, .i64 i)]) (fun i => [(0, some ⟨tTab, tabD l, true⟩), (1, outB l i)]) 2 (fun i => i ≤ 8) (fun i => 8 - i) 0 [0, 7] (Nat.zero_le _) viewA ?_
  intro i hi
  cases i with
  | zero =>
    have hs := hl.at (i := 0) (by omega)
    have hput : tabI l (0 + 1) = tabI l 0 ++ slotB (l.getD 0 slot0) := rfl
    have hpl := tabI_length hl 0 (by omega)
    have hn := nthD_slots (l := l) (i := 0) (by omega)
    obtain ⟨⟨u, t, sa, se, ch⟩, he⟩ : ∃ s, l.getD 0 slot0 = s := ⟨_, rfl⟩
    rw [he] at hs hn hput
    obtain ⟨hsa, hse, hch⟩ := hs
    have hsa : sa.length = 16 := hsa
    have hse : se.length = 32 := hse
    have hch : ch.length = 32 := hch
    have hn : nthD (l.map slotD) (Int.toNat (0 : Nat)) = slotD ⟨u, t, sa, se, ch⟩ := hn
    have hp2 := rput2_ac (t.setWidth 64)
    have hnl := nbF_length (t.setWidth 64) 2
    have hsb : slotB ⟨u, t, sa, se, ch⟩ = [bif u then 1 else 0] ++ nbF (t.setWidth 64) 2 ++ sa ++ se ++ ch ++ List.replicate 45 0 := rfl
    generalize nbF (t.setWidth 64) 2 = tb at hp2 hnl hsb
    rw [hsb] at hput
    cases u
    all_goals
      repeat first | refine EffG.mk (obA ?_) | refine obA ?_ | refine chkA ?_ | refine brY ?_ | refine brN ?_
      rw [hn]
      repeat first | refine EffG.mk (obA ?_) | refine obA ?_ | refine chkA ?_ | refine brY ?_ | refine brN ?_
      refine ⟨1, ?_⟩
      repeat first | refine EffG.mk (obA ?_) | refine obA ?_ | refine chkA ?_ | refine brY ?_ | refine brN ?_
      refine callA hp2 [] ?_
      repeat first | refine EffG.mk (obA ?_) | refine obA ?_ | refine chkA ?_ | refine brY ?_ | refine brN ?_
      refine ⟨0, ?_⟩
      repeat first | refine EffG.mk (obA ?_) | refine obA ?_ | refine chkA ?_ | refine brY ?_ | refine brN ?_
      refine ⟨0, ?_⟩
      repeat first | refine EffG.mk (obA ?_) | refine obA ?_ | refine chkA ?_ | refine brY ?_ | refine brN ?_
      refine ⟨0, ?_⟩
      repeat first | refine EffG.mk (obA ?_) | refine obA ?_ | refine chkA ?_ | refine brY ?_ | refine brN ?_
      refine ⟨0, ?_⟩
      repeat first | refine EffG.mk (obA ?_) | refine obA ?_ | refine chkA ?_ | refine brY ?_ | refine brN ?_
      refine ⟨0, ?_⟩
      repeat first | refine EffG.mk (obA ?_) | refine obA ?_ | refine chkA ?_ | refine brY ?_ | refine brN ?_
      have e := (parts_eq (tabI l 0) _ tb sa se ch (128 * 0) hpl (by first | rfl | decide) hnl hsa hse hch).trans hput.symm
      refine nextA (0 + 1) [0, 10] (viewA (h3 := ?_))
      (repeat' (first | exact trivial | refine And.intro ⟨_, rfl, rfl, ?_, id⟩ ?_ | refine And.intro ⟨_, rfl, rfl, ?_, fun _ => rfl⟩ ?_)) <;> first | exact (Pure.ren _).symm | rfl | exact congrArg D.u8s e
  | succ i =>
    have hpl := tabI_length hl (i + 1) hi
    repeat first | refine EffG.mk (obA ?_) | refine obA ?_ | refine chkA ?_
    refine Br.split (fun h => ?_) (fun h => ?_)
    · have hi : i + 1 < 8 := by have := of_decide_eq_true h; omega
      have hs := hl.at (i := (i + 1)) (by omega)
      have hput : tabI l ((i + 1) + 1) = tabI l (i + 1) ++ slotB (l.getD (i + 1) slot0) := rfl
      have hpl := tabI_length hl (i + 1) (by omega)
      have hn := nthD_slots (l := l) (i := (i + 1)) (by omega)
      obtain ⟨⟨u, t, sa, se, ch⟩, he⟩ : ∃ s, l.getD (i + 1) slot0 = s := ⟨_, rfl⟩
      rw [he] at hs hn hput
      obtain ⟨hsa, hse, hch⟩ := hs
      have hsa : sa.length = 16 := hsa
      have hse : se.length = 32 := hse
      have hch : ch.length = 32 := hch
      have hn : nthD (l.map slotD) (Int.toNat ((i + 1) : Nat)) = slotD ⟨u, t, sa, se, ch⟩ := hn
      have hp2 := rput2_ac (t.setWidth 64)
      have hnl := nbF_length (t.setWidth 64) 2
      have hsb : slotB ⟨u, t, sa, se, ch⟩ = [bif u then 1 else 0] ++ nbF (t.setWidth 64) 2 ++ sa ++ se ++ ch ++ List.replicate 45 0 := rfl
      generalize nbF (t.setWidth 64) 2 = tb at hp2 hnl hsb
      rw [hsb] at hput
      cases u
      all_goals
        repeat first | refine EffG.mk (obA ?_) | refine obA ?_ | refine chkA ?_ | refine brY ?_ | refine brN ?_
        rw [hn]
        repeat first | refine EffG.mk (obA ?_) | refine obA ?_ | refine chkA ?_ | refine brY ?_ | refine brN ?_
        refine ⟨0, ?_⟩
        repeat first | refine EffG.mk (obA ?_) | refine obA ?_ | refine chkA ?_ | refine brY ?_ | refine brN ?_
        refine callA hp2 [] ?_
        repeat first | refine EffG.mk (obA ?_) | refine obA ?_ | refine chkA ?_ | refine brY ?_ | refine brN ?_
        refine ⟨0, ?_⟩
        repeat first | refine EffG.mk (obA ?_) | refine obA ?_ | refine chkA ?_ | refine brY ?_ | refine brN ?_
        refine ⟨0, ?_⟩
        repeat first | refine EffG.mk (obA ?_) | refine obA ?_ | refine chkA ?_ | refine brY ?_ | refine brN ?_
        refine ⟨0, ?_⟩
        repeat first | refine EffG.mk (obA ?_) | refine obA ?_ | refine chkA ?_ | refine brY ?_ | refine brN ?_
        refine ⟨0, ?_⟩
        repeat first | refine EffG.mk (obA ?_) | refine obA ?_ | refine chkA ?_ | refine brY ?_ | refine brN ?_
        refine ⟨0, ?_⟩
        repeat first | refine EffG.mk (obA ?_) | refine obA ?_ | refine chkA ?_ | refine brY ?_ | refine brN ?_
        have e := (parts_eq (tabI l (i + 1)) _ tb sa se ch (128 * (i + 1)) hpl (by first | rfl | decide) hnl hsa hse hch).trans hput.symm
        refine nextA ((i + 1) + 1) [0, 10] (viewA (h3 := ?_))
        (repeat' (first | exact trivial | refine And.intro ⟨_, rfl, rfl, ?_, id⟩ ?_ | refine And.intro ⟨_, rfl, rfl, ?_, fun _ => rfl⟩ ?_)) <;> first | exact (Pure.ren _).symm | rfl | exact congrArg D.u8s e
    · obtain rfl : i = 7 := by have := of_decide_eq_false h; omega
      repeat first | refine EffG.mk (obA ?_) | refine obA ?_ | refine chkA ?_
      refine retA [1]
end Go.Proofs.YtodkhgofmgaafaaDoor.Av

namespace Go.Proofs.YtodkhgofmgaafaaDoor.Av
open Go
set_option linter.all false
set_option maxRecDepth 3000

/-! a table's sum, and how many are used, by both -/
theorem ssum_ac (l : List Slot) (hl : TabS l) : AC Tryd.prog 25 [tabD l] 0 [gR] ⟨.u8s (shaF (tabI l 8)), [], []⟩ := by
  have hT := hl.ty
  have hp := sput_ac l hl
  have hb := tabI_length hl 8 (by decide)
  generalize tabI l 8 = b at hp hb ⊢
  have ho := of1_ac b 0 1024 none (by omega) (by decide) (by decide)
  rw [List.drop_zero, List.take_of_length_le (by omega)] at ho
  have hs := shaF_length b
  generalize shaF b = y at ho hs ⊢
  refine acA tab mix Tryd.func25 {} ?_
  refine EffG.mk (And.intro hT ?_)
  repeat first | refine EffG.mk (obA ?_) | refine obA ?_ | refine chkA ?_
  refine callA hp [] ?_ (hargs := by simp only [D.rens, ren_tab]; rfl)
  repeat first | refine EffG.mk (obA ?_) | refine obA ?_ | refine chkA ?_
  refine callA ho [3, 2] ?_
  repeat first | refine EffG.mk (obA ?_) | refine obA ?_ | refine chkA ?_
  refine retA []
theorem rssum_ac (l : List Slot) (hl : TabS l) : AC Tryd.prog 26 [tabD l] 0 [gK] ⟨.u8s (shaF (tabI l 8)), [], []⟩ := by
  have hT := hl.ty
  have hp := rtput_ac l hl
  have hb := tabI_length hl 8 (by decide)
  generalize tabI l 8 = b at hp hb ⊢
  have ho := rof_ac b 0 1024 none (by omega) (by decide)
  rw [List.drop_zero, List.take_of_length_le (by omega)] at ho
  have hs := shaF_length b
  generalize shaF b = y at ho hs ⊢
  refine acA tab mix Tryd.func26 {} ?_
  refine EffG.mk (And.intro hT ?_)
  repeat first | refine EffG.mk (obA ?_) | refine obA ?_ | refine chkA ?_
  refine callA hp [] ?_ (hargs := by simp only [D.rens, ren_tab]; rfl)
  repeat first | refine EffG.mk (obA ?_) | refine obA ?_ | refine chkA ?_
  refine callA ho [2] ?_
  repeat first | refine EffG.mk (obA ?_) | refine obA ?_ | refine chkA ?_
  refine retA []
theorem rused_ac (l : List Slot) (hl : TabS l) : AC Tryd.prog 28 [tabD l] 0 [] ⟨.i64 (usedN l), [], []⟩ := by
  have hT := hl.ty
  have hlen := hl.len
  have hle := usedN_le l
  generalize hR : usedN l = R at hle
  refine acA tab mix Tryd.func28 {} ?_
  refine EffG.mk (And.intro hT ?_)
  repeat first | refine EffG.mk (obA ?_) | refine obA ?_ | refine chkA ?_
  refine loopG (Nat × Nat) (fun y => [(1, .ptr 0 []), (4, .i64 y.1), (3, .i64 y.2)]) (fun y => [(0, some ⟨tTab, tabD l, true⟩)]) 1
    (fun y => y.1 ≤ 8 ∧ y.2 + usedN (l.drop y.1) = R) (fun y => 8 - y.1) (0, 0) [0] ⟨Nat.zero_le _, (Nat.zero_add _).trans hR⟩ viewA ?_
  rintro ⟨i, n⟩ hI
  obtain ⟨hi, hR⟩ := hI
  have hi : i ≤ 8 := hi
  have hR : n + usedN (l.drop i) = R := hR
  repeat first | refine EffG.mk (obA ?_) | refine obA ?_ | refine chkA ?_
  refine Br.split (fun h => ?_) (fun h => ?_)
  · have hi : i < 8 := by have := of_decide_eq_true h; omega
    rw [drop_slots (by omega), usedN] at hR
    obtain ⟨⟨u, t, sa, se, ch⟩, he⟩ : ∃ s, l.getD i slot0 = s := ⟨_, rfl⟩
    rw [he] at hR
    have hR : n + ((bif u then 1 else 0) + usedN (l.drop (i + 1))) = R := hR
    repeat first | refine EffG.mk (obA ?_) | refine obA ?_ | refine chkA ?_
    refine loadG (.bool u) rfl rfl rfl rfl rfl (getP_slotf (i := i) (by omega) he rfl) (okP_slotf (i := i) (by omega) he trivial) ?_
    cases u with
    | false =>
      simp only [cond] at hR
      repeat first | refine EffG.mk (obA ?_) | refine obA ?_ | refine chkA ?_ | refine brY ?_ | refine brN ?_
      refine nextA (i + 1, n) [0] viewA (h1 := ⟨by show i + 1 ≤ 8; omega, by show n + usedN (l.drop (i + 1)) = R; omega⟩) (h2 := by show 8 - (i + 1) < 8 - i; omega)
    | true =>
      simp only [cond] at hR
      repeat first | refine EffG.mk (obA ?_) | refine obA ?_ | refine chkA ?_ | refine brY ?_ | refine brN ?_
      refine nextA (i + 1, n + 1) [0] viewA (h1 := ⟨by show i + 1 ≤ 8; omega, by show n + 1 + usedN (l.drop (i + 1)) = R; omega⟩) (h2 := by show 8 - (i + 1) < 8 - i; omega)
  · obtain rfl : i = 8 := by have := of_decide_eq_false h; omega
    rw [List.drop_of_length_le (by omega)] at hR
    subst hR
    repeat first | refine EffG.mk (obA ?_) | refine obA ?_ | refine chkA ?_
    refine retA []

theorem slotsputs_ac (l : List Slot) (hl : TabS l) : AC Tryd.prog 6 [tabD l] 0 [gR, gK] ⟨.bool true, [], []⟩ := by
  have hT := hl.ty
  have haw := slawake_ac
  have h1 := sput_ac l hl
  have h2 := rtput_ac l hl
  have h3 := ssum_ac l hl
  have h4 := rssum_ac l hl
  have h5 := used_ac l hl
  have h6 := rused_ac l hl
  have hb := tabI_length hl 8 (by decide)
  generalize tabI l 8 = b at h1 h2 h3 h4 hb
  have hs := shaF_length b
  generalize shaF b = y at h3 h4 hs
  generalize usedN l = n at h5 h6
  have hq : (D.u8s y).eqb (D.u8s y) = true := eqY rfl
  refine acA tab mix Tryd.func6 {} ?_
  refine EffG.mk (And.intro hT ?_)
  repeat first | refine EffG.mk (obA ?_) | refine obA ?_ | refine chkA ?_
  refine callA h1 [] ?_ (hargs := by simp only [D.rens, ren_tab]; rfl)
  repeat first | refine EffG.mk (obA ?_) | refine obA ?_ | refine chkA ?_
  refine callA h2 [] ?_ (hargs := by simp only [D.rens, ren_tab]; rfl)
  repeat first | refine EffG.mk (obA ?_) | refine obA ?_ | refine chkA ?_ | refine brY ?_ | refine brN ?_
  refine callA h3 [] ?_ (hargs := by simp only [D.rens, ren_tab]; rfl)
  repeat first | refine EffG.mk (obA ?_) | refine obA ?_ | refine chkA ?_ | refine brY ?_ | refine brN ?_ | rw [hq]
  refine callA h4 [] ?_ (hargs := by simp only [D.rens, ren_tab]; rfl)
  repeat first | refine EffG.mk (obA ?_) | refine obA ?_ | refine chkA ?_ | refine brY ?_ | refine brN ?_ | rw [hq]
  refine callA h5 [] ?_ (hargs := by simp only [D.rens, ren_tab]; rfl)
  repeat first | refine EffG.mk (obA ?_) | refine obA ?_ | refine chkA ?_ | refine brY ?_ | refine brN ?_ | rw [hq]
  refine callA h6 [] ?_ (hargs := by simp only [D.rens, ren_tab]; rfl)
  repeat first | refine EffG.mk (obA ?_) | refine obA ?_ | refine chkA ?_ | refine brY ?_ | refine brN ?_
  refine callA haw [] ?_
  repeat first | refine EffG.mk (obA ?_) | refine obA ?_ | refine chkA ?_ | refine brY ?_ | refine brN ?_
  refine retA []
end Go.Proofs.YtodkhgofmgaafaaDoor.Av

namespace Go.Proofs.YtodkhgofmgaafaaDoor.Av
open Go
set_option linter.all false
set_option maxRecDepth 3000

/-! a reader -/
abbrev rdM (bs : List (BitVec 8)) (o len : Nat) (cap : Option Nat) : Mem := [(0, some ⟨.row .cell, .u8s bs, false⟩), (1, some ⟨tRd, .node [.slice 0 [] o len cap, .i64 0], true⟩)]
abbrev rdN (o len n : Nat) (cap : Option Nat) : List (Nat × Option D) := [(1, some (.node [.slice 0 [] (o + n) (len - n) (cap.map (· - n)), .i64 0]))]

theorem rnext_ac (bs : List (BitVec 8)) (o n len : Nat) (cap : Option Nat) (h : n ≤ len) :
    AC Tryd.prog 108 [.ptr 1 [], .i64 n] 2 (rdM bs o len cap) ⟨.slice 0 [] o n (some n), rdN o len n cap, []⟩ := by
  refine acA tab mix Tryd.func108 {} ?_
  repeat first | refine EffG.mk (obA ?_) | refine obA ?_ | refine chkA ?_ | refine brY ?_ | refine brN ?_
  refine retA [0, 1]
theorem readr_ac (bs : List (BitVec 8)) (o len : Nat) (cap : Option Nat) :
    AC Tryd.prog 66 [.slice 0 [] o len cap] 1 [(0, some ⟨.row .cell, .u8s bs, false⟩)] ⟨.ptr 1 [], [], [(tRd, .node [.slice 0 [] o len cap, .i64 0])]⟩ := by
  refine acA tab mix Tryd.func66 {} ?_
  repeat first | refine EffG.mk (obA ?_) | refine obA ?_ | refine chkA ?_ | refine brY ?_ | refine brN ?_
  refine retA [0, 1]

theorem num1_eq (a : BitVec 8) : ((0 : BitVec 64) <<< (8 : Nat) ||| a.setWidth 64).setWidth 8 = a := by
  apply BitVec.eq_of_getLsbD_eq
  intro i hi
  simp [BitVec.getLsbD_setWidth, hi]
theorem num2_eq (a b : BitVec 8) : (((0 : BitVec 64) <<< (8 : Nat) ||| a.setWidth 64) <<< (8 : Nat) ||| b.setWidth 64).setWidth 16 = a.setWidth 16 <<< (8 : Nat) ||| b.setWidth 16 := by
  apply BitVec.eq_of_getLsbD_eq
  intro i hi
  simp [BitVec.getLsbD_setWidth, hi]

theorem number1_ac (bs : List (BitVec 8)) (o len : Nat) (cap : Option Nat) (h : 1 ≤ len) (hb : o + len ≤ bs.length) :
    AC Tryd.prog 107 [.ptr 1 [], .i64 1] 2 (rdM bs o len cap) ⟨.u64 ((0 : BitVec 64) <<< (8 : Nat) ||| (bs.getD o 0).setWidth 64), rdN o len 1 cap, []⟩ := by
  have hn := rnext_ac bs o 1 len cap h
  refine acA tab mix Tryd.func107 ⟨[], [4]⟩ ?_
  repeat first | refine EffG.mk (obA ?_) | refine obA ?_ | refine chkA ?_ | refine brY ?_ | refine brN ?_
  refine callA hn [0, 1] ?_
  repeat first | refine EffG.mk (obA ?_) | refine obA ?_ | refine chkA ?_ | refine brY ?_ | refine brN ?_
  refine unrG 2 ?_
  repeat first | refine EffG.mk (obA ?_) | refine obA ?_ | refine chkA ?_ | refine brY ?_ | refine brN ?_
  refine retA [0, 1]
theorem number2_ac (bs : List (BitVec 8)) (o len : Nat) (cap : Option Nat) (h : 2 ≤ len) (hb : o + len ≤ bs.length) :
    AC Tryd.prog 107 [.ptr 1 [], .i64 2] 2 (rdM bs o len cap) ⟨.u64 (((0 : BitVec 64) <<< (8 : Nat) ||| (bs.getD o 0).setWidth 64) <<< (8 : Nat) ||| (bs.getD (o + 1) 0).setWidth 64), rdN o len 2 cap, []⟩ := by
  have hn := rnext_ac bs o 2 len cap h
  refine acA tab mix Tryd.func107 ⟨[], [4]⟩ ?_
  repeat first | refine EffG.mk (obA ?_) | refine obA ?_ | refine chkA ?_ | refine brY ?_ | refine brN ?_
  refine callA hn [0, 1] ?_
  repeat first | refine EffG.mk (obA ?_) | refine obA ?_ | refine chkA ?_ | refine brY ?_ | refine brN ?_
  refine unrG 3 ?_
  repeat first | refine EffG.mk (obA ?_) | refine obA ?_ | refine chkA ?_ | refine brY ?_ | refine brN ?_
  refine retA [0, 1]
theorem ru8_ac (bs : List (BitVec 8)) (o len : Nat) (cap : Option Nat) (h : 1 ≤ len) (hb : o + len ≤ bs.length) :
    AC Tryd.prog 67 [.ptr 1 []] 2 (rdM bs o len cap) ⟨.u8 (bs.getD o 0), rdN o len 1 cap, []⟩ := by
  have hn := number1_ac bs o len cap h hb
  have e := num1_eq (bs.getD o 0)
  rw [← e]; clear e
  generalize ((0 : BitVec 64) <<< (8 : Nat) ||| (bs.getD o 0).setWidth 64 : BitVec 64) = y at hn ⊢
  refine acA tab mix Tryd.func67 {} ?_
  repeat first | refine EffG.mk (obA ?_) | refine obA ?_ | refine chkA ?_ | refine brY ?_ | refine brN ?_
  refine callA hn [0, 1] ?_
  repeat first | refine EffG.mk (obA ?_) | refine obA ?_ | refine chkA ?_ | refine brY ?_ | refine brN ?_
  refine retA [0, 1]
theorem ru16_ac (bs : List (BitVec 8)) (o len : Nat) (cap : Option Nat) (h : 2 ≤ len) (hb : o + len ≤ bs.length) :
    AC Tryd.prog 68 [.ptr 1 []] 2 (rdM bs o len cap) ⟨.u16 ((bs.getD o 0).setWidth 16 <<< (8 : Nat) ||| (bs.getD (o + 1) 0).setWidth 16), rdN o len 2 cap, []⟩ := by
  have hn := number2_ac bs o len cap h hb
  rw [← num2_eq]
  generalize (((0 : BitVec 64) <<< (8 : Nat) ||| (bs.getD o 0).setWidth 64) <<< (8 : Nat) ||| (bs.getD (o + 1) 0).setWidth 64 : BitVec 64) = y at hn ⊢
  refine acA tab mix Tryd.func68 {} ?_
  repeat first | refine EffG.mk (obA ?_) | refine obA ?_ | refine chkA ?_ | refine brY ?_ | refine brN ?_
  refine callA hn [0, 1] ?_
  repeat first | refine EffG.mk (obA ?_) | refine obA ?_ | refine chkA ?_ | refine brY ?_ | refine brN ?_
  refine retA [0, 1]
theorem take_ac (bs : List (BitVec 8)) (o n len : Nat) (cap : Option Nat) (h : n ≤ len) (hb : o + len ≤ bs.length) (hk : n ≤ 70368744177664) :
    AC Tryd.prog 69 [.ptr 1 [], .i64 n] 2 (rdM bs o len cap) ⟨.slice 2 [] 0 n none, rdN o len n cap, [(.row .cell, .u8s ((bs.drop o).take n))]⟩ := by
  have hn := rnext_ac bs o n len cap h
  have hc := clone_ac bs o n (some n) (by omega) hk
  refine acA tab mix Tryd.func69 {} ?_
  repeat first | refine EffG.mk (obA ?_) | refine obA ?_ | refine chkA ?_ | refine brY ?_ | refine brN ?_
  refine callA hn [0, 1] ?_
  repeat first | refine EffG.mk (obA ?_) | refine obA ?_ | refine chkA ?_ | refine brY ?_ | refine brN ?_
  refine callA hc [0] ?_
  repeat first | refine EffG.mk (obA ?_) | refine obA ?_ | refine chkA ?_ | refine brY ?_ | refine brN ?_
  refine retA [0, 1, 2]
end Go.Proofs.YtodkhgofmgaafaaDoor.Av

namespace Go.Proofs.YtodkhgofmgaafaaDoor.Av
open Go
set_option linter.all false
set_option maxRecDepth 3000

/-! two rows of bytes -/
theorem take_succ {l : List (BitVec 8)} {i : Nat} (h : i < l.length) : l.take (i + 1) = l.take i ++ [l.getD i 0] := by
  rw [List.take_add_one, List.getElem?_eq_getElem h, List.getD_eq_getElem?_getD, List.getElem?_eq_getElem h]; rfl
theorem sequal_ac (a b : List (BitVec 8)) (k : Nat) (ca cb : Option Nat) (ha : a.length = k) (hb : b.length = k) (hk : k ≤ 4611686018427387904) :
    AC Tryd.prog 71 [.slice 0 [] 0 k ca, .slice 1 [] 0 k cb] 2 [(0, some ⟨.row .cell, .u8s a, false⟩), (1, some ⟨.row .cell, .u8s b, false⟩)] ⟨.bool (decide (a = b)), [], []⟩ := by
  generalize hR : decide (a = b) = R
  refine acA tab mix Tryd.func71 {} ?_
  repeat first | refine EffG.mk (obA ?_) | refine obA ?_ | refine chkA ?_
  refine brN ?_ (h := by show (!decide ((k : Int) = k)) = false; rw [decide_eq_true rfl]; rfl)
  repeat first | refine EffG.mk (obA ?_) | refine obA ?_ | refine chkA ?_
  refine loopG Nat (fun i => [(0, .slice 0 [] 0 k ca), (1, .slice 1 [] 0 k cb), (12, .i64 k), (13, .i64 i)]) (fun i => [(0, some ⟨.row .cell, .u8s a, false⟩), (1, some ⟨.row .cell, .u8s b, false⟩)]) 2
    (fun i => i ≤ k ∧ a.take i = b.take i) (fun i => k - i) 0 [0, 1] ⟨Nat.zero_le _, rfl⟩ viewA ?_
  intro i hI
  obtain ⟨hi, he⟩ := hI
  repeat first | refine EffG.mk (obA ?_) | refine obA ?_ | refine chkA ?_
  refine Br.split (fun h => ?_) (fun h => ?_)
  · have hi : i < k := by have := of_decide_eq_true h; omega
    have e0 : ∀ l : List (BitVec 8), l.getD (0 + i) 0 = l.getD i 0 := fun l => by rw [Nat.zero_add]
    have hta := take_succ (l := a) (i := i) (by omega)
    have htb := take_succ (l := b) (i := i) (by omega)
    by_cases hx : a.getD i 0 = b.getD i 0
    · repeat first | refine EffG.mk (obA ?_) | refine obA ?_ | refine chkA ?_
      refine brN ?_ (h := by show (!decide (a.getD (0 + i) 0 = b.getD (0 + i) 0)) = false; rw [e0, e0, decide_eq_true hx]; rfl)
      repeat first | refine EffG.mk (obA ?_) | refine obA ?_ | refine chkA ?_
      refine nextA (i + 1) [0, 1] viewA (h1 := ⟨by omega, by rw [hta, htb, he, hx]⟩)
    · repeat first | refine EffG.mk (obA ?_) | refine obA ?_ | refine chkA ?_
      refine brY ?_ (h := by show (!decide (a.getD (0 + i) 0 = b.getD (0 + i) 0)) = true; rw [e0, e0, decide_eq_false hx]; rfl)
      have : R = false := by rw [← hR]; exact decide_eq_false fun e => hx (by rw [e])
      subst this
      repeat first | refine EffG.mk (obA ?_) | refine obA ?_ | refine chkA ?_
      refine retA [0, 1]
  · obtain rfl : i = k := by have := of_decide_eq_false h; omega
    have : R = true := by
      rw [← hR]
      refine decide_eq_true ?_
      rw [List.take_of_length_le (by omega), List.take_of_length_le (by omega)] at he
      exact he
    subst this
    repeat first | refine EffG.mk (obA ?_) | refine obA ?_ | refine chkA ?_
    refine retA [0, 1]

/-! may a slot be? -/
instance : DecidableEq Slot := fun a b => decidable_of_iff (a.used = b.used ∧ a.turns = b.turns ∧ a.salt = b.salt ∧ a.sealed = b.sealed ∧ a.check = b.check)
  ⟨fun ⟨h1, h2, h3, h4, h5⟩ => by cases a; cases b; cases h1; cases h2; cases h3; cases h4; cases h5; rfl, fun h => by subst h; exact ⟨rfl, rfl, rfl, rfl, rfl⟩⟩
theorem slot_eqb (a b : Slot) : (slotD a).eqb (slotD b) = decide (a = b) := by
  rw [Bool.eq_iff_iff, decide_eq_true_iff]
  obtain ⟨a1, a2, a3, a4, a5⟩ := a
  obtain ⟨b1, b2, b3, b4, b5⟩ := b
  show (decide (a1 = b1) && (decide (a2 = b2) && (decide (a3 = b3) && (decide (a4 = b4) && (decide (a5 = b5) && true))))) = true ↔ _
  simp only [Bool.and_eq_true, decide_eq_true_iff, Bool.and_true, Slot.mk.injEq]
theorem tab_eqbs : ∀ a b : List Slot, D.eqbs (a.map slotD) (b.map slotD) = decide (a = b)
  | [], [] => rfl
  | [], _ :: _ => rfl
  | _ :: _, [] => rfl
  | x :: a, y :: b => by
    show ((slotD x).eqb (slotD y) && D.eqbs (a.map slotD) (b.map slotD)) = _
    rw [slot_eqb, tab_eqbs a b, Bool.eq_iff_iff]
    simp
theorem tab_eqb (a b : List Slot) : (tabD a).eqb (tabD b) = decide (a = b) := tab_eqbs a b
def mayB (s : Slot) : Bool := bif s.used then decide (1 ≤ s.turns.toNat ∧ s.turns.toNat ≤ 4096) else decide (s = slot0)

theorem smay_ac (s : Slot) (hs : s.ok) : AC Tryd.prog 70 [slotD s] 0 [] ⟨.bool (mayB s), [], []⟩ := by
  have hT := slot_ty hs
  obtain ⟨u, t, sa, se, ch⟩ := s
  obtain ⟨hsa, hse, hch⟩ := hs
  have hsa : sa.length = 16 := hsa
  have hse : se.length = 32 := hse
  have hch : ch.length = 32 := hch
  cases u with
  | false =>
    have hq := slot_eqb ⟨false, t, sa, se, ch⟩ slot0
    have e : mayB ⟨false, t, sa, se, ch⟩ = decide ((⟨false, t, sa, se, ch⟩ : Slot) = slot0) := rfl
    rw [e]
    generalize decide ((⟨false, t, sa, se, ch⟩ : Slot) = slot0) = y at hq
    refine acA tab mix Tryd.func70 {} ?_
    refine EffG.mk (And.intro hT ?_)
    repeat first | refine EffG.mk (obA ?_) | refine obA ?_ | refine chkA ?_ | refine brY ?_ | refine brN ?_
    refine retA [] (h1 := ?_)
    show retIs (.bool y) [.bool ((slotD ⟨false, t, sa, se, ch⟩).eqb (slotD slot0))]
    rw [hq]
    first | rfl | exact rfl
  | true =>
    have e : mayB ⟨true, t, sa, se, ch⟩ = decide (1 ≤ t.toNat ∧ t.toNat ≤ 4096) := rfl
    rw [e]
    by_cases h1 : 1 ≤ t.toNat
    · have q2 : decide (t.toNat ≤ (4096 : BitVec 16).toNat) = decide (1 ≤ t.toNat ∧ t.toNat ≤ 4096) := by
        rw [Bool.eq_iff_iff, decide_eq_true_iff, decide_eq_true_iff]
        exact ⟨fun h => ⟨h1, h⟩, fun h => h.2⟩
      rw [← q2]
      refine acA tab mix Tryd.func70 {} ?_
      refine EffG.mk (And.intro hT ?_)
      repeat first | refine EffG.mk (obA ?_) | refine obA ?_ | refine chkA ?_ | refine brY ?_ | refine brN ?_
      refine brY ?_ (h := decide_eq_true h1)
      repeat first | refine EffG.mk (obA ?_) | refine obA ?_ | refine chkA ?_ | refine brY ?_ | refine brN ?_
      refine retA []
    · rw [decide_eq_false (show ¬ (1 ≤ t.toNat ∧ t.toNat ≤ 4096) from fun h => h1 h.1)]
      refine acA tab mix Tryd.func70 {} ?_
      refine EffG.mk (And.intro hT ?_)
      repeat first | refine EffG.mk (obA ?_) | refine obA ?_ | refine chkA ?_ | refine brY ?_ | refine brN ?_
      refine brN ?_ (h := decide_eq_false h1)
      repeat first | refine EffG.mk (obA ?_) | refine obA ?_ | refine chkA ?_ | refine brY ?_ | refine brN ?_
      refine retA []
theorem rmayf_ac (s : Slot) (hs : s.ok) : AC Tryd.prog 48 [slotD s] 0 [] ⟨.bool (mayB s), [], []⟩ := by
  have hs0 := hs
  have hT := slot_ty hs
  obtain ⟨u, t, sa, se, ch⟩ := s
  obtain ⟨hsa, hse, hch⟩ := hs
  have hsa : sa.length = 16 := hsa
  have hse : se.length = 32 := hse
  have hch : ch.length = 32 := hch
  cases u with
  | false =>
    have hq := slot_eqb ⟨false, t, sa, se, ch⟩ slot0
    have e : mayB ⟨false, t, sa, se, ch⟩ = decide ((⟨false, t, sa, se, ch⟩ : Slot) = slot0) := rfl
    rw [e]
    generalize decide ((⟨false, t, sa, se, ch⟩ : Slot) = slot0) = y at hq
    refine acA tab mix Tryd.func48 {} ?_
    refine EffG.mk (And.intro hT ?_)
    repeat first | refine EffG.mk (obA ?_) | refine obA ?_ | refine chkA ?_ | refine brY ?_ | refine brN ?_
    refine retA [] (h1 := ?_)
    show retIs (.bool y) [.bool ((slotD ⟨false, t, sa, se, ch⟩).eqb (slotD slot0))]
    rw [hq]
    first | rfl | exact rfl
  | true => exact rmay_ac t sa se ch hs0
end Go.Proofs.YtodkhgofmgaafaaDoor.Av

namespace Go.Proofs.YtodkhgofmgaafaaDoor.Av
open Go
set_option linter.all false
set_option maxRecDepth 3000

/-! a table of bytes -/
def slotAt (bs : List (BitVec 8)) (j : Nat) : Slot :=
  ⟨decide (bs.getD (128 * j) 0 = 1), (bs.getD (128 * j + 1) 0).setWidth 16 <<< (8 : Nat) ||| (bs.getD (128 * j + 2) 0).setWidth 16, (bs.drop (128 * j + 3)).take 16, (bs.drop (128 * j + 19)).take 32, (bs.drop (128 * j + 51)).take 32⟩
theorem slotAt_ok {bs : List (BitVec 8)} {j : Nat} (h : 128 * j + 128 ≤ bs.length) : (slotAt bs j).ok :=
  ⟨by show ((bs.drop _).take 16).length = 16; rw [List.length_take, List.length_drop]; omega, by show ((bs.drop _).take 32).length = 32; rw [List.length_take, List.length_drop]; omega, by show ((bs.drop _).take 32).length = 32; rw [List.length_take, List.length_drop]; omega⟩
def getI (bs : List (BitVec 8)) (i : Nat) : List Slot := (List.range i).map (slotAt bs) ++ List.replicate (8 - i) slot0
theorem getI_ok {bs : List (BitVec 8)} (hb : bs.length = 1024) {i : Nat} (hi : i ≤ 8) : TabS (getI bs i) :=
  ⟨by unfold getI; simp only [List.length_append, List.length_map, List.length_range, List.length_replicate]; omega, fun s hs => by
    rcases List.mem_append.1 hs with h | h
    · obtain ⟨j, hj, rfl⟩ := List.mem_map.1 h
      have := List.mem_range.1 hj
      exact slotAt_ok (by omega)
    · rw [List.eq_of_mem_replicate h]; exact slot0_ok⟩
theorem getI_set {bs : List (BitVec 8)} {i : Nat} (hi : i < 8) : (getI bs i).set i (slotAt bs i) = getI bs (i + 1) := by
  unfold getI
  rw [List.range_succ, List.map_append, List.set_append_right (h := by simp)]
  simp only [List.length_map, List.length_range, Nat.sub_self, List.map_cons, List.map_nil, List.append_assoc]
  congr 1
  rw [show 8 - i = (8 - (i + 1)) + 1 by omega, List.replicate_succ, List.set_cons_zero]
  rfl
theorem getI_at {bs : List (BitVec 8)} {i : Nat} (hi : i < 8) : (getI bs i).getD i slot0 = slot0 := by
  unfold getI
  rw [List.getD_eq_getElem?_getD, List.getElem?_append_right (by simp)]
  simp only [List.length_map, List.length_range, Nat.sub_self]
  rw [show 8 - i = (8 - (i + 1)) + 1 by omega, List.replicate_succ]
  rfl
def goodB (bs : List (BitVec 8)) : Bool := (List.range 8).all (fun j => mayB (slotAt bs j)) && decide (tabI (getI bs 8) 8 = bs)
def getF (bs : List (BitVec 8)) : List Slot × Int := bif goodB bs then (getI bs 8, 0) else (tab0, 4)
theorem getF_bad {bs : List (BitVec 8)} {j : Nat} (hj : j < 8) (h : mayB (slotAt bs j) = false) : getF bs = (tab0, 4) := by
  have : goodB bs = false := by
    unfold goodB
    have : (List.range 8).all (fun j => mayB (slotAt bs j)) = false := by
      rw [List.all_eq_false]
      exact ⟨j, List.mem_range.2 hj, by rw [h]; decide⟩
    rw [this]; rfl
  unfold getF; rw [this]; rfl
theorem getF_end {bs : List (BitVec 8)} (h : ∀ j, j < 8 → mayB (slotAt bs j) = true) : getF bs = bif decide (tabI (getI bs 8) 8 = bs) then (getI bs 8, 0) else (tab0, 4) := by
  unfold getF goodB
  rw [List.all_eq_true.2 fun j hj => h j (List.mem_range.1 hj)]
  rfl
theorem setP_slotf {l : List Slot} {i f : Nat} {s s' : Slot} {y : D} (hi : i < l.length) (hs : l.getD i slot0 = s) (h : setP (slotD s) [.fld f] y = some (slotD s')) : setP (tabD l) [.idx i, .fld f] y = some (tabD (l.set i s')) := by
  have e : setP (nthD (l.map slotD) i) [.fld f] y = some (slotD s') := by rw [nthD_slots hi, hs]; exact h
  show (match setP (nthD (l.map slotD) i) [.fld f] y with | some d' => some (D.node ((l.map slotD).set i d')) | none => none) = _
  rw [e]
  exact congrArg (fun x => some (D.node x)) List.map_set.symm
theorem getP_slotw {l : List Slot} {i f n : Nat} {s : Slot} {v : D} (hi : i < l.length) (hs : l.getD i slot0 = s) (h : getP (slotD s) [.fld f, .win 0 n] = some v) : getP (tabD l) [.idx i, .fld f, .win 0 n] = some v := by
  show getP (nthD (l.map slotD) i) [.fld f, .win 0 n] = _
  rw [nthD_slots hi, hs]; exact h
theorem okP_slotw {l : List Slot} {i f n : Nat} {s : Slot} (hi : i < l.length) (hs : l.getD i slot0 = s) (h : okP (slotD s) [.fld f, .win 0 n]) : okP (tabD l) [.idx i, .fld f, .win 0 n] := by
  refine ⟨by rw [List.length_map]; exact hi, ?_⟩
  show okP (nthD (l.map slotD) i) [.fld f, .win 0 n]
  rw [nthD_slots hi, hs]; exact h
theorem setP_slotw {l : List Slot} {i f n : Nat} {s s' : Slot} {y : D} (hi : i < l.length) (hs : l.getD i slot0 = s) (h : setP (slotD s) [.fld f, .win 0 n] y = some (slotD s')) : setP (tabD l) [.idx i, .fld f, .win 0 n] y = some (tabD (l.set i s')) := by
  have e : setP (nthD (l.map slotD) i) [.fld f, .win 0 n] y = some (slotD s') := by rw [nthD_slots hi, hs]; exact h
  show (match setP (nthD (l.map slotD) i) [.fld f, .win 0 n] y with | some d' => some (D.node ((l.map slotD).set i d')) | none => none) = _
  rw [e]
  exact congrArg (fun x => some (D.node x)) List.map_set.symm
theorem win_all {l y : List (BitVec 8)} {n : Nat} (hl : l.length = n) : l.take 0 ++ y ++ l.drop (0 + n) = y := by
  rw [List.take_zero, List.nil_append, Nat.zero_add, List.drop_of_length_le (by omega), List.append_nil]

theorem win_put {l y : List (BitVec 8)} {n : Nat} (hl : l.length = n) (hy : y.length = n) : l.take 0 ++ (y.drop 0).take n ++ l.drop (0 + n) = y := by
  rw [List.drop_zero, List.take_of_length_le (l := y) (by omega), win_all hl]

theorem sget_len_ac (bs : List (BitVec 8)) (k : Nat) (x : Option Nat) (hx : x = none → k = 0) (hk : k ≠ 1024) :
    AC Tryd.prog 29 [slD 0 k x] 1 [(0, some ⟨.row .cell, .u8s bs, false⟩)] ⟨.tup [tabD tab0, .i64 4], [], []⟩ := by
  refine acA tab mix Tryd.func29 {} ?_
  repeat first | refine EffG.mk (obA ?_) | refine obA ?_ | refine chkA ?_ | refine lenS rfl rfl rfl rfl hx rfl rfl ?_
  refine brY ?_ (h := by show (!decide ((k : Int) = 1024)) = true; rw [decide_eq_false (by omega)]; rfl)
  repeat first | refine EffG.mk (obA ?_) | refine obA ?_ | refine chkA ?_ | refine brY ?_ | refine brN ?_
  refine retA [0]

set_option maxHeartbeats 4000000 in
theorem sget_ac (bs : List (BitVec 8)) (cap : Option Nat) (hb : bs.length = 1024) :
    AC Tryd.prog 29 [.slice 0 [] 0 1024 cap] 1 [(0, some ⟨.row .cell, .u8s bs, false⟩)] ⟨.tup [tabD (getF bs).1, .i64 (getF bs).2], [], []⟩ := by
  obtain ⟨R, hR⟩ : ∃ R, getF bs = R := ⟨_, rfl⟩
  rw [hR]
  refine acA tab mix Tryd.func29 {} ?_
  repeat first | refine EffG.mk (obA ?_) | refine obA ?_ | refine chkA ?_ | refine brY ?_ | refine brN ?_
  refine loopG Nat (fun i => [(0, .slice 0 [] 0 1024 cap), (2, .ptr 1 []), (4, .ptr 2 []), (12, .i64 i)]) (fun i => [(0, some ⟨.row .cell, .u8s bs, false⟩), (1, some ⟨tTab, tabD tab0, true⟩), (2, some ⟨tTab, tabD (getI bs i), true⟩)]) 3
    (fun i => i ≤ 8 ∧ ∀ j, j < i → mayB (slotAt bs j) = true) (fun i => 8 - i) 0 [0, 1, 2] ⟨Nat.zero_le _, fun j h => absurd h (Nat.not_lt_zero _)⟩ viewA ?_
  intro i hI
  obtain ⟨hi, hall⟩ := hI
  repeat first | refine EffG.mk (obA ?_) | refine obA ?_ | refine chkA ?_
  refine Br.split (fun h => ?_) (fun h => ?_)
  · have hi : i < 8 := by have := of_decide_eq_true h; omega
    have hok := slotAt_ok (bs := bs) (j := i) (by omega)
    have hmay := smay_ac _ hok
    have hset := getI_set (bs := bs) hi
    have hat := getI_at (bs := bs) hi
    have hl := (getI_ok hb (i := i) (by omega)).len
    have hsat : slotAt bs i = ⟨decide (bs.getD (128 * i) 0 = 1), (bs.getD (128 * i + 1) 0).setWidth 16 <<< (8 : Nat) ||| (bs.getD (128 * i + 1 + 1) 0).setWidth 16, (bs.drop (128 * i + 1 + 2)).take 16, (bs.drop (128 * i + 1 + 2 + 16)).take 32, (bs.drop (128 * i + 1 + 2 + 16 + 32)).take 32⟩ := rfl
    have hg : slotAt bs i = R.1.getD 0 slot0 → True := fun _ => trivial
    have hbad := getF_bad (bs := bs) hi
    rw [hR] at hbad
    have c1 := fun cap => readr_ac bs (128 * i) 128 cap
    have c2 := fun cap => ru8_ac bs (128 * i) 128 cap (by omega) (by omega)
    have c3 := fun cap => ru16_ac bs (128 * i + 1) 127 cap (by omega) (by omega)
    have c4 := fun cap => take_ac bs (128 * i + 1 + 2) 16 125 cap (by omega) (by omega) (by decide)
    have c5 := fun cap => take_ac bs (128 * i + 1 + 2 + 16) 32 109 cap (by omega) (by omega) (by decide)
    have c6 := fun cap => take_ac bs (128 * i + 1 + 2 + 16 + 32) 32 77 cap (by omega) (by omega) (by decide)
    obtain ⟨hsa, hse, hch⟩ := hok
    rw [hsat] at hsa hse hch
    have hsa : ((bs.drop (128 * i + 1 + 2)).take 16).length = 16 := hsa
    have hse : ((bs.drop (128 * i + 1 + 2 + 16)).take 32).length = 32 := hse
    have hch : ((bs.drop (128 * i + 1 + 2 + 16 + 32)).take 32).length = 32 := hch
    generalize (bs.drop (128 * i + 1 + 2)).take 16 = sa at c4 hsa hsat
    generalize (bs.drop (128 * i + 1 + 2 + 16)).take 32 = se at c5 hse hsat
    generalize (bs.drop (128 * i + 1 + 2 + 16 + 32)).take 32 = ch at c6 hch hsat
    generalize (bs.getD (128 * i + 1) 0).setWidth 16 <<< (8 : Nat) ||| (bs.getD (128 * i + 1 + 1) 0).setWidth 16 = tu at c3 hsat
    generalize bs.getD (128 * i) 0 = u at c2 hsat
    generalize getI bs i = l at hset hat hl ⊢
    iterate 9 (first | refine EffG.mk (obA ?_) | refine obA ?_ | refine chkA ?_)
    have e1 : 0 + ((some ((i : Int) * 128)).getD 0).toNat = 128 * i := by show 0 + ((i : Int) * 128).toNat = _; omega
    have e2 : ((some (((i : Int) + 1) * 128)).getD ((1024 : Nat) : Int)).toNat - ((some ((i : Int) * 128)).getD 0).toNat = 128 := by show (((i : Int) + 1) * 128).toNat - ((i : Int) * 128).toNat = _; omega
    rw [e1, e2]
    repeat first | refine EffG.mk (obA ?_) | refine obA ?_ | refine chkA ?_
    refine callA (c1 _) [0] ?_
    repeat first | refine EffG.mk (obA ?_) | refine obA ?_ | refine chkA ?_
    refine callA (c2 _) [0, 3] ?_
    repeat first | refine EffG.mk (obA ?_) | refine obA ?_ | refine chkA ?_
    refine callA (c3 _) [0, 3] ?_
    iterate 2 (first | refine EffG.mk (obA ?_) | refine obA ?_ | refine chkA ?_)
    refine storeG (tabD (l.set i ⟨decide (u = 1), 0, List.replicate 16 0, List.replicate 32 0, List.replicate 32 0⟩)) rfl rfl rfl rfl rfl rfl rfl (getP_slotf (by omega) hat rfl) (setP_slotf (by omega) hat rfl) (okP_slotf (by omega) hat trivial) rfl ?_
    iterate 2 (first | refine EffG.mk (obA ?_) | refine obA ?_ | refine chkA ?_)
    have hat1 : ∀ s, (l.set i s).getD i slot0 = s := fun s => by rw [getD_set (by omega), if_pos rfl]
    have hl1 : ∀ s : Slot, i < (l.set i s).length := fun s => by rw [List.length_set]; omega
    have hss : ∀ s s' : Slot, (l.set i s).set i s' = l.set i s' := fun s s' => List.set_set ..
    refine storeG (tabD ((l.set i _).set i ⟨decide (u = 1), tu, List.replicate 16 0, List.replicate 32 0, List.replicate 32 0⟩)) rfl rfl rfl rfl rfl rfl rfl (getP_slotf (hl1 _) (hat1 _) rfl) (setP_slotf (hl1 _) (hat1 _) rfl) (okP_slotf (hl1 _) (hat1 _) trivial) rfl ?_
    rw [hss]
    repeat first | refine EffG.mk (obA ?_) | refine obA ?_ | refine chkA ?_
    refine slicePG rfl rfl rfl rfl rfl rfl rfl rfl rfl (getP_slotf (hl1 _) (hat1 _) rfl) (okP_slotf (hl1 _) (hat1 _) trivial) ?_
    repeat first | refine EffG.mk (obA ?_) | refine obA ?_ | refine chkA ?_
    refine callA (c4 _) [0, 3] ?_
    refine copyG (tabD ((l.set i _).set i ⟨decide (u = 1), tu, sa, List.replicate 32 0, List.replicate 32 0⟩)) rfl rfl rfl rfl rfl rfl rfl rfl rfl rfl rfl rfl rfl rfl rfl (by decide) (getP_slotw (hl1 _) (hat1 _) rfl) rfl (setP_slotw (hl1 _) (hat1 _) ?_) ⟨by omega, trivial⟩ (okP_slotw (hl1 _) (hat1 _) ⟨show 0 + 16 ≤ (List.replicate 16 (0 : BitVec 8)).length from by decide, trivial⟩) ?_ ?_
    · exact congrArg (fun x => some (D.node [.bool (decide (u = 1)), .u16 tu, .u8s x, .u8s (List.replicate 32 0), .u8s (List.replicate 32 0)])) (win_put (l := List.replicate 16 (0 : BitVec 8)) (y := sa) (n := 16) rfl hsa)
    · show (List.take 16 (List.drop 0 sa)).length = 16
      rw [List.drop_zero, List.length_take]; omega
    rw [hss]
    repeat first | refine EffG.mk (obA ?_) | refine obA ?_ | refine chkA ?_
    refine slicePG rfl rfl rfl rfl rfl rfl rfl rfl rfl (getP_slotf (hl1 _) (hat1 _) rfl) (okP_slotf (hl1 _) (hat1 _) trivial) ?_
    repeat first | refine EffG.mk (obA ?_) | refine obA ?_ | refine chkA ?_
    refine callA (c5 _) [0, 3] ?_
    refine copyG (tabD ((l.set i _).set i ⟨decide (u = 1), tu, sa, se, List.replicate 32 0⟩)) rfl rfl rfl rfl rfl rfl rfl rfl rfl rfl rfl rfl rfl rfl rfl (by decide) (getP_slotw (hl1 _) (hat1 _) rfl) rfl (setP_slotw (hl1 _) (hat1 _) ?_) ⟨by omega, trivial⟩ (okP_slotw (hl1 _) (hat1 _) ⟨show 0 + 32 ≤ (List.replicate 32 (0 : BitVec 8)).length from by decide, trivial⟩) ?_ ?_
    · exact congrArg (fun x => some (D.node [.bool (decide (u = 1)), .u16 tu, .u8s sa, .u8s x, .u8s (List.replicate 32 0)])) (win_put (l := List.replicate 32 (0 : BitVec 8)) (y := se) (n := 32) rfl hse)
    · show (List.take 32 (List.drop 0 se)).length = 32
      rw [List.drop_zero, List.length_take]; omega
    rw [hss]
    repeat first | refine EffG.mk (obA ?_) | refine obA ?_ | refine chkA ?_
    refine slicePG rfl rfl rfl rfl rfl rfl rfl rfl rfl (getP_slotf (hl1 _) (hat1 _) rfl) (okP_slotf (hl1 _) (hat1 _) trivial) ?_
    repeat first | refine EffG.mk (obA ?_) | refine obA ?_ | refine chkA ?_
    refine callA (c6 _) [0, 3] ?_
    refine copyG (tabD ((l.set i _).set i ⟨decide (u = 1), tu, sa, se, ch⟩)) rfl rfl rfl rfl rfl rfl rfl rfl rfl rfl rfl rfl rfl rfl rfl (by decide) (getP_slotw (hl1 _) (hat1 _) rfl) rfl (setP_slotw (hl1 _) (hat1 _) ?_) ⟨by omega, trivial⟩ (okP_slotw (hl1 _) (hat1 _) ⟨show 0 + 32 ≤ (List.replicate 32 (0 : BitVec 8)).length from by decide, trivial⟩) ?_ ?_
    · exact congrArg (fun x => some (D.node [.bool (decide (u = 1)), .u16 tu, .u8s sa, .u8s se, .u8s x])) (win_put (l := List.replicate 32 (0 : BitVec 8)) (y := ch) (n := 32) rfl hch)
    · show (List.take 32 (List.drop 0 ch)).length = 32
      rw [List.drop_zero, List.length_take]; omega
    rw [hss]
    repeat first | refine EffG.mk (obA ?_) | refine obA ?_ | refine chkA ?_
    have hn : nthD ((l.set i ⟨decide (u = 1), tu, sa, se, ch⟩).map slotD) (Int.toNat (i : Int)) = slotD ⟨decide (u = 1), tu, sa, se, ch⟩ := by
      show nthD _ i = _
      rw [nthD_slots (hl1 _), hat1]
    rw [hn]
    rw [hsat] at hmay hset hbad
    rw [hset]
    cases hm : mayB ⟨decide (u = 1), tu, sa, se, ch⟩ with
    | true =>
      rw [hm] at hmay
      refine callA hmay [] ?_
      repeat first | refine EffG.mk (obA ?_) | refine obA ?_ | refine chkA ?_ | refine brY ?_ | refine brN ?_
      refine nextA (i + 1) [0, 1, 2] viewA (h1 := ⟨by omega, fun j hj => ?_⟩)
      rcases Nat.lt_or_eq_of_le (Nat.le_of_lt_succ hj) with h' | h'
      · exact hall j h'
      · rw [h', hsat]; exact hm
    | false =>
      rw [hm] at hmay
      rw [hbad hm]
      refine callA hmay [] ?_
      repeat first | refine EffG.mk (obA ?_) | refine obA ?_ | refine chkA ?_ | refine brY ?_ | refine brN ?_
      refine retA [0]
  · obtain rfl : i = 8 := by have := of_decide_eq_false h; omega
    have hend := getF_end (bs := bs) hall
    rw [hR] at hend
    have hok := getI_ok hb (i := 8) (by omega)
    have hpl := tabI_length hok 8 (by omega)
    have hp := sput_ac _ hok
    have hty := hok.ty
    generalize getI bs 8 = l at hend hok hpl hp hty ⊢
    generalize tabI l 8 = pb at hend hpl hp
    have hq := sequal_ac pb bs 1024 none cap hpl hb (by decide)
    by_cases he : pb = bs
    · rw [decide_eq_true he] at hend hq
      subst hend
      repeat first | refine EffG.mk (obA ?_) | refine obA ?_ | refine chkA ?_ | refine brY ?_ | refine brN ?_
      refine callA hp [] ?_ (hargs := by simp only [D.rens, ren_tab]; rfl)
      repeat first | refine EffG.mk (obA ?_) | refine obA ?_ | refine chkA ?_ | refine brY ?_ | refine brN ?_
      refine callA hq [3, 0] ?_
      repeat first | refine EffG.mk (obA ?_) | refine obA ?_ | refine chkA ?_ | refine brY ?_ | refine brN ?_
      refine EffG.mk (And.intro ⟨trivial, hty⟩ ?_)
      repeat first | refine EffG.mk (obA ?_) | refine obA ?_ | refine chkA ?_ | refine brY ?_ | refine brN ?_
      refine retA [0] (h1 := ?_)
      show retIs (.tup [(tabD l).ren _, .i64 0]) [tabD l, .i64 0]
      rw [ren_tab]
      first | rfl | exact ⟨rfl, rfl⟩ | exact rfl
    · rw [decide_eq_false he] at hend hq
      subst hend
      repeat first | refine EffG.mk (obA ?_) | refine obA ?_ | refine chkA ?_ | refine brY ?_ | refine brN ?_
      refine callA hp [] ?_ (hargs := by simp only [D.rens, ren_tab]; rfl)
      repeat first | refine EffG.mk (obA ?_) | refine obA ?_ | refine chkA ?_ | refine brY ?_ | refine brN ?_
      refine callA hq [3, 0] ?_
      repeat first | refine EffG.mk (obA ?_) | refine obA ?_ | refine chkA ?_ | refine brY ?_ | refine brN ?_
      refine retA [0]
end Go.Proofs.YtodkhgofmgaafaaDoor.Av

namespace Go.Proofs.YtodkhgofmgaafaaDoor.Av
open Go
set_option linter.all false
set_option maxRecDepth 3000

/-! the document's table of bytes -/
def cpN (bs : List (BitVec 8)) (o n k : Nat) : List (BitVec 8) := (bs.drop o).take k ++ List.replicate (n - k) 0
theorem cpN_length {bs : List (BitVec 8)} {o n k : Nat} (h : o + n ≤ bs.length) (hk : k ≤ n) : (cpN bs o n k).length = n := by
  unfold cpN
  rw [List.length_append, List.length_take, List.length_drop, List.length_replicate]; omega
theorem cpN_set {bs : List (BitVec 8)} {o n k : Nat} (h : o + n ≤ bs.length) (hk : k < n) : (cpN bs o n k).set k (bs.getD (o + k) 0) = cpN bs o n (k + 1) := by
  unfold cpN
  have hl : ((bs.drop o).take k).length = k := by rw [List.length_take, List.length_drop]; omega
  rw [List.set_append_right (h := by omega), hl, Nat.sub_self, take_succ (by rw [List.length_drop]; omega), getD_drop, List.append_assoc]
  congr 1
  rw [show n - k = (n - (k + 1)) + 1 by omega, List.replicate_succ, List.set_cons_zero]
  rfl
theorem cpN_zero (bs : List (BitVec 8)) (o n : Nat) : cpN bs o n 0 = List.replicate n 0 := by
  unfold cpN
  rw [List.take_zero, List.nil_append, Nat.sub_zero]
theorem cpN_all (bs : List (BitVec 8)) (o n : Nat) : cpN bs o n n = (bs.drop o).take n := by
  unfold cpN
  rw [Nat.sub_self]; exact List.append_nil _

theorem rget_len_ac (bs : List (BitVec 8)) (k : Nat) (x : Option Nat) (hx : x = none → k = 0) (hk : k ≠ 1024) :
    AC Tryd.prog 30 [slD 0 k x] 1 [(0, some ⟨.row .cell, .u8s bs, false⟩)] ⟨.tup [tabD tab0, .i64 4], [], []⟩ := by
  refine acA tab mix Tryd.func30 {} ?_
  repeat first | refine EffG.mk (obA ?_) | refine obA ?_ | refine chkA ?_ | refine lenS rfl rfl rfl rfl hx rfl rfl ?_
  refine brY ?_ (h := by show (!decide ((k : Int) = 1024)) = true; rw [decide_eq_false (by omega)]; rfl)
  repeat first | refine EffG.mk (obA ?_) | refine obA ?_ | refine chkA ?_ | refine brY ?_ | refine brN ?_
  refine retA [0]

set_option maxHeartbeats 4000000 in
theorem rget_ac (bs : List (BitVec 8)) (cap : Option Nat) (hb : bs.length = 1024) :
    AC Tryd.prog 30 [.slice 0 [] 0 1024 cap] 1 [(0, some ⟨.row .cell, .u8s bs, false⟩)] ⟨.tup [tabD (getF bs).1, .i64 (getF bs).2], [], []⟩ := by
  obtain ⟨R, hR⟩ : ∃ R, getF bs = R := ⟨_, rfl⟩
  rw [hR]
  refine acA tab mix Tryd.func30 {} ?_
  repeat first | refine EffG.mk (obA ?_) | refine obA ?_ | refine chkA ?_ | refine brY ?_ | refine brN ?_
  refine loopG Nat (fun i => [(0, .slice 0 [] 0 1024 cap), (2, .ptr 1 []), (4, .ptr 2 []), (5, .i64 i)]) (fun i => [(0, some ⟨.row .cell, .u8s bs, false⟩), (1, some ⟨tTab, tabD tab0, true⟩), (2, some ⟨tTab, tabD (getI bs i), true⟩)]) 3
    (fun i => i ≤ 8 ∧ ∀ j, j < i → mayB (slotAt bs j) = true) (fun i => 8 - i) 0 [0, 1, 2] ⟨Nat.zero_le _, fun j h => absurd h (Nat.not_lt_zero _)⟩ viewA ?_
  intro i hI
  obtain ⟨hi, hall⟩ := hI
  repeat first | refine EffG.mk (obA ?_) | refine obA ?_ | refine chkA ?_
  refine Br.split (fun h => ?_) (fun h => ?_)
  · have hi : i < 8 := by have := of_decide_eq_true h; omega
    have hok := slotAt_ok (bs := bs) (j := i) (by omega)
    have hmay := rmayf_ac _ hok
    have hset := getI_set (bs := bs) hi
    have hl := (getI_ok hb (i := i) (by omega)).len
    have hbad := getF_bad (bs := bs) hi
    rw [hR] at hbad
    have hsat : slotAt bs i = ⟨decide (bs.getD (128 * i) 0 = 1), (bs.getD (128 * i + 1) 0).setWidth 16 <<< (8 : Nat) ||| (bs.getD (128 * i + 2) 0).setWidth 16, cpN bs (128 * i + 3) 16 16, cpN bs (128 * i + 19) 32 32, cpN bs (128 * i + 51) 32 32⟩ := by
      rw [cpN_all, cpN_all, cpN_all]; rfl
    generalize getI bs i = l at hset hl ⊢
    iterate 7 (first | refine EffG.mk (obA ?_) | refine obA ?_ | refine chkA ?_)
    have e1 : 0 + ((some ((i : Int) * 128)).getD 0).toNat = 128 * i := by show 0 + ((i : Int) * 128).toNat = _; omega
    have e2 : ((some (((i : Int) + 1) * 128)).getD ((1024 : Nat) : Int)).toNat - ((some ((i : Int) * 128)).getD 0).toNat = 128 := by show (((i : Int) + 1) * 128).toNat - ((i : Int) * 128).toNat = _; omega
    rw [e1, e2]
    generalize Option.map (fun x => x - ((some ((i : Int) * 128)).getD 0).toNat) cap = cp
    repeat first | refine EffG.mk (obA ?_) | refine obA ?_ | refine chkA ?_
    have z16 := cpN_zero bs (128 * i + 3) 16
    have z32 := cpN_zero bs (128 * i + 19) 32
    have z33 := cpN_zero bs (128 * i + 51) 32
    have hl1 := fun k (hk : k ≤ 16) => cpN_length (bs := bs) (o := 128 * i + 3) (n := 16) (k := k) (by omega) hk
    have hl2 := fun k (hk : k ≤ 32) => cpN_length (bs := bs) (o := 128 * i + 19) (n := 32) (k := k) (by omega) hk
    have hl3 := fun k (hk : k ≤ 32) => cpN_length (bs := bs) (o := 128 * i + 51) (n := 32) (k := k) (by omega) hk
    have hs1 := fun k (hk : k < 16) => cpN_set (bs := bs) (o := 128 * i + 3) (n := 16) (k := k) (by omega) hk
    have hs2 := fun k (hk : k < 32) => cpN_set (bs := bs) (o := 128 * i + 19) (n := 32) (k := k) (by omega) hk
    have hs3 := fun k (hk : k < 32) => cpN_set (bs := bs) (o := 128 * i + 51) (n := 32) (k := k) (by omega) hk
    generalize cpN bs (128 * i + 3) 16 = c1 at *
    generalize cpN bs (128 * i + 19) 32 = c2 at *
    generalize cpN bs (128 * i + 51) 32 = c3 at *
    refine loopG Nat (fun k => [(0, .slice 0 [] 0 1024 cap), (2, .ptr 1 []), (4, .ptr 2 []), (5, .i64 i), (6, .slice 0 [] (128 * i) 128 cp), (7, .ptr 3 []), (8, .i64 k)])
      (fun k => [(0, some ⟨.row .cell, .u8s bs, false⟩), (1, some ⟨tTab, tabD tab0, true⟩), (2, some ⟨tTab, tabD l, true⟩),
        (3, some ⟨tSlot, slotD ⟨decide (bs.getD (128 * i) 0 = 1), (bs.getD (128 * i + 1) 0).setWidth 16 <<< (8 : Nat) ||| (bs.getD (128 * i + 2) 0).setWidth 16, c1 k, List.replicate 32 0, List.replicate 32 0⟩, true⟩)]) 4
      (fun k => k ≤ 16) (fun k => 16 - k) 0 [0, 1, 2, 3] (Nat.zero_le _) (by rw [z16]; exact viewA) ?_
    intro k hk
    have hlk := hl1 k hk
    repeat first | refine EffG.mk (obA ?_) | refine obA ?_ | refine chkA ?_
    refine Br.split (fun h => ?_) (fun h => ?_)
    · have hk : k < 16 := by have := of_decide_eq_true h; omega
      have hsk := hs1 k hk
      have e : (c1 k).set (Int.toNat (k : Int)) (bs.getD (128 * i + (3 + (k : Int)).toNat) 0) = c1 (k + 1) := by rw [← hsk]; congr 2; omega
      repeat first | refine EffG.mk (obA ?_) | refine obA ?_ | refine chkA ?_
      refine nextA (k + 1) [0, 1, 2, 3] (viewA (h3 := ?_))
      (repeat' (first | exact trivial | refine And.intro ⟨_, rfl, rfl, ?_, id⟩ ?_ | refine And.intro ⟨_, rfl, rfl, ?_, fun _ => rfl⟩ ?_)) <;> first | rfl | exact (Pure.ren _).symm | exact congrArg (fun x => D.node [_, _, .u8s x, _, _]) e
    · obtain rfl : k = 16 := by have := of_decide_eq_false h; omega
      repeat first | refine EffG.mk (obA ?_) | refine obA ?_ | refine chkA ?_
      refine loopG Nat (fun k => [(0, .slice 0 [] 0 1024 cap), (2, .ptr 1 []), (4, .ptr 2 []), (5, .i64 i), (6, .slice 0 [] (128 * i) 128 cp), (7, .ptr 3 []), (9, .i64 k)])
        (fun k => [(0, some ⟨.row .cell, .u8s bs, false⟩), (1, some ⟨tTab, tabD tab0, true⟩), (2, some ⟨tTab, tabD l, true⟩),
          (3, some ⟨tSlot, slotD ⟨decide (bs.getD (128 * i) 0 = 1), (bs.getD (128 * i + 1) 0).setWidth 16 <<< (8 : Nat) ||| (bs.getD (128 * i + 2) 0).setWidth 16, c1 16, c2 k, c3 k⟩, true⟩)]) 4
        (fun k => k ≤ 32) (fun k => 32 - k) 0 [0, 1, 2, 3] (Nat.zero_le _) (by rw [z32, z33]; exact viewA) ?_
      intro k hk
      have hlk2 := hl2 k hk
      have hlk3 := hl3 k hk
      repeat first | refine EffG.mk (obA ?_) | refine obA ?_ | refine chkA ?_
      refine Br.split (fun h => ?_) (fun h => ?_)
      · have hk : k < 32 := by have := of_decide_eq_true h; omega
        have hsk2 := hs2 k hk
        have hsk3 := hs3 k hk
        have e2 : (c2 k).set (Int.toNat (k : Int)) (bs.getD (128 * i + (19 + (k : Int)).toNat) 0) = c2 (k + 1) := by rw [← hsk2]; congr 2; omega
        have e3 : (c3 k).set (Int.toNat (k : Int)) (bs.getD (128 * i + (51 + (k : Int)).toNat) 0) = c3 (k + 1) := by rw [← hsk3]; congr 2; omega
        have e : ∀ a b c, D.node [a, b, c, .u8s ((c2 k).set (Int.toNat (k : Int)) (bs.getD (128 * i + (19 + (k : Int)).toNat) 0)), .u8s ((c3 k).set (Int.toNat (k : Int)) (bs.getD (128 * i + (51 + (k : Int)).toNat) 0))] = D.node [a, b, c, .u8s (c2 (k + 1)), .u8s (c3 (k + 1))] := fun a b c => by rw [e2, e3]
        repeat first | refine EffG.mk (obA ?_) | refine obA ?_ | refine chkA ?_
        refine nextA (k + 1) [0, 1, 2, 3] (viewA (h3 := ?_))
        (repeat' (first | exact trivial | refine And.intro ⟨_, rfl, rfl, ?_, id⟩ ?_ | refine And.intro ⟨_, rfl, rfl, ?_, fun _ => rfl⟩ ?_)) <;> first | rfl | exact (Pure.ren _).symm | exact e _ _ _
      · obtain rfl : k = 32 := by have := of_decide_eq_false h; omega
        have e4 : ((l.map slotD).set i (slotD (slotAt bs i))) = (getI bs (i + 1)).map slotD := by rw [← hset]; exact List.map_set.symm
        have hsty := slot_ty hok
        clear hset
        rw [hsat] at hmay hbad e4 hsty
        cases hm : mayB ⟨decide (bs.getD (128 * i) 0 = 1), (bs.getD (128 * i + 1) 0).setWidth 16 <<< (8 : Nat) ||| (bs.getD (128 * i + 2) 0).setWidth 16, c1 16, c2 32, c3 32⟩ with
        | true =>
          rw [hm] at hmay
          repeat first | refine EffG.mk (obA ?_) | refine obA ?_ | refine chkA ?_
          refine callA hmay [] ?_
          repeat first | refine EffG.mk (obA ?_) | refine obA ?_ | refine chkA ?_ | refine brY ?_ | refine brN ?_
          refine nextA (i + 1) [0, 1, 2] (viewA (h3 := ?_)) (h1 := ⟨by omega, fun j hj => ?_⟩)
          · (repeat' (first | exact trivial | refine And.intro ⟨_, rfl, rfl, ?_, id⟩ ?_ | refine And.intro ⟨_, rfl, rfl, ?_, fun _ => rfl⟩ ?_)) <;> first | rfl | exact (Pure.ren _).symm | exact (congrArg D.node e4).trans (Pure.ren (d := tabD (getI bs (i + 1))) _).symm
          · rcases Nat.lt_or_eq_of_le (Nat.le_of_lt_succ hj) with h' | h'
            · exact hall j h'
            · rw [h', hsat]; exact hm
        | false =>
          rw [hm] at hmay
          rw [hbad hm]
          repeat first | refine EffG.mk (obA ?_) | refine obA ?_ | refine chkA ?_
          refine callA hmay [] ?_
          repeat first | refine EffG.mk (obA ?_) | refine obA ?_ | refine chkA ?_ | refine brY ?_ | refine brN ?_
          refine retA [0]
  · obtain rfl : i = 8 := by have := of_decide_eq_false h; omega
    have hend := getF_end (bs := bs) hall
    rw [hR] at hend
    have hok := getI_ok hb (i := 8) (by omega)
    have hpl := tabI_length hok 8 (by omega)
    have hp := rtput_ac _ hok
    have hty := hok.ty
    generalize getI bs 8 = l at hend hok hpl hp hty ⊢
    generalize tabI l 8 = pb at hend hpl hp
    have q1 : List.take 1024 (List.drop 0 pb) = pb := by rw [List.drop_zero, List.take_of_length_le (by omega)]
    have q2 : List.take 1024 (List.drop 0 bs) = bs := by rw [List.drop_zero, List.take_of_length_le (by omega)]
    by_cases he : pb = bs
    · rw [decide_eq_true he] at hend
      subst hend
      repeat first | refine EffG.mk (obA ?_) | refine obA ?_ | refine chkA ?_ | refine brY ?_ | refine brN ?_
      refine callA hp [] ?_ (hargs := by simp only [D.rens, ren_tab]; rfl)
      repeat first | refine EffG.mk (obA ?_) | refine obA ?_ | refine chkA ?_
      refine brN ?_ (h := by show (!decide (List.take 1024 (List.drop 0 pb) = List.take 1024 (List.drop 0 bs))) = false; rw [q1, q2, decide_eq_true he]; rfl)
      repeat first | refine EffG.mk (obA ?_) | refine obA ?_ | refine chkA ?_
      refine EffG.mk (And.intro ⟨trivial, hty⟩ ?_)
      repeat first | refine EffG.mk (obA ?_) | refine obA ?_ | refine chkA ?_ | refine brY ?_ | refine brN ?_
      refine retA [0] (h1 := ?_)
      show retIs (.tup [(tabD l).ren _, .i64 0]) [tabD l, .i64 0]
      rw [ren_tab]
      first | rfl | exact ⟨rfl, rfl⟩ | exact rfl
    · rw [decide_eq_false he] at hend
      subst hend
      repeat first | refine EffG.mk (obA ?_) | refine obA ?_ | refine chkA ?_ | refine brY ?_ | refine brN ?_
      refine callA hp [] ?_ (hargs := by simp only [D.rens, ren_tab]; rfl)
      repeat first | refine EffG.mk (obA ?_) | refine obA ?_ | refine chkA ?_
      refine brY ?_ (h := by show (!decide (List.take 1024 (List.drop 0 pb) = List.take 1024 (List.drop 0 bs))) = true; rw [q1, q2, decide_eq_false he]; rfl)
      repeat first | refine EffG.mk (obA ?_) | refine obA ?_ | refine chkA ?_ | refine brY ?_ | refine brN ?_
      refine retA [0]
end Go.Proofs.YtodkhgofmgaafaaDoor.Av

namespace Go.Proofs.YtodkhgofmgaafaaDoor.Av
open Go
set_option linter.all false
set_option maxRecDepth 3000

theorem sget_len2_ac (bs : List (BitVec 8)) (k : Nat) (cap : Option Nat) (hk : k ≠ 1024) :
    AC Tryd.prog 29 [.slice 0 [] 0 k cap] 1 [(0, some ⟨.row .cell, .u8s bs, false⟩)] ⟨.tup [tabD tab0, .i64 4], [], []⟩ := by
  refine acA tab mix Tryd.func29 {} ?_
  repeat first | refine EffG.mk (obA ?_) | refine obA ?_ | refine chkA ?_
  refine brY ?_ (h := by show (!decide ((k : Int) = 1024)) = true; rw [decide_eq_false (by omega)]; rfl)
  repeat first | refine EffG.mk (obA ?_) | refine obA ?_ | refine chkA ?_ | refine brY ?_ | refine brN ?_
  refine retA [0]

theorem slot_fit {s : Slot} (h : s.ok) : fitE Γ 19 28 (slotD s) := by
  obtain ⟨u, t, sa, se, ch⟩ := s
  exact ⟨trivial, trivial, ⟨h.salt, trivial⟩, ⟨h.sealed, trivial⟩, ⟨h.check, trivial⟩, trivial⟩
theorem slots_fit : ∀ {l : List Slot}, (∀ s ∈ l, s.ok) → AllD (fitE Γ 19 28) (l.map slotD)
  | [], _ => trivial
  | s :: l, h => ⟨slot_fit (h s (by simp)), slots_fit fun x hx => h x (by simp [hx])⟩
theorem tab_fit {l : List Slot} (h : TabS l) : fitE Γ 20 39 (tabD l) := ⟨by rw [List.length_map, h.len], slots_fit h.ok⟩
theorem tab_fit30 {l : List Slot} (h : TabS l) : fitE Γ 20 30 (tabD l) := ⟨by rw [List.length_map, h.len], slots_fit h.ok⟩
theorem slot_same (a b : Slot) : (slotD a).same (slotD b) := ⟨trivial, trivial, trivial, trivial, trivial, trivial⟩
theorem slots_same : ∀ {a b : List Slot}, a.length = b.length → D.sames (a.map slotD) (b.map slotD)
  | [], [], _ => trivial
  | x :: a, y :: b, h => ⟨slot_same x y, slots_same (by simpa using h)⟩
  | [], _ :: _, h => by simp at h
  | _ :: _, [], h => by simp at h
theorem tab_same {a b : List Slot} (ha : TabS a) (hb : TabS b) : (tabD a).same (tabD b) := slots_same (by rw [ha.len, hb.len])
theorem getF_ok {bs : List (BitVec 8)} (hb : bs.length = 1024) : TabS (getF bs).1 := by
  unfold getF
  cases goodB bs
  · exact tab0_ok
  · exact getI_ok hb (by decide)

theorem slotsgets_ac (bs : List (BitVec 8)) (k : Nat) (x : Option Nat) (hb : bs.length = k) (hx : x = none → k = 0) (hk : k ≤ 140737488355328) :
    AC Tryd.prog 7 [slD 0 k x] 1 [(0, some ⟨.row .cell, .u8s bs, false⟩), gR] ⟨.bool true, [], []⟩ := by
  have haw := slawake_ac
  by_cases h1 : k = 1024
  · subst h1
    obtain ⟨c, rfl⟩ : ∃ c, x = some c := by
      cases x with
      | none => exact absurd (hx rfl) (by decide)
      | some c => exact ⟨c, rfl⟩
    have t1 : [] ++ List.take 1024 (List.drop 0 bs) = bs := by rw [List.drop_zero, List.take_of_length_le (by omega)]; rfl
    have t2 : decide (List.take 1024 (List.drop 0 ([] ++ List.take 1024 (List.drop 0 bs))) = List.take 1024 (List.drop 0 bs)) = true := by
      refine decide_eq_true ?_
      rw [t1]
    have hg1 := sget_ac ([] ++ List.take 1024 (List.drop 0 bs)) none (by rw [t1]; exact hb)
    rw [show getF ([] ++ List.take 1024 (List.drop 0 bs)) = getF bs by rw [t1]] at hg1
    have hg2 := rget_ac bs (some c) hb
    have hok := getF_ok hb
    generalize (getF bs).1 = l at hg1 hg2 hok
    generalize (getF bs).2 = e at hg1 hg2
    have hT := hok.ty
    have hq : (tabD l).eqb (tabD l) = true := by rw [tab_eqb]; exact decide_eq_true rfl
    have hf := tab_fit hok
    have hs := tab_same hok hok
    refine acA tab mix Tryd.func7 {} ?_
    repeat first | refine EffG.mk (obA ?_) | refine obA ?_ | refine chkA ?_ | refine brY ?_ | refine brN ?_
    refine ⟨0, ?_⟩
    repeat first | refine EffG.mk (obA ?_) | refine obA ?_ | refine chkA ?_
    refine callT hg1 [2] (.tup [tabD l, .i64 e]) ?_
    repeat first | refine EffG.mk (obA ?_) | refine obA ?_ | refine chkA ?_
    refine EffG.mk (And.intro ⟨trivial, hT⟩ ?_)
    repeat first | refine EffG.mk (obA ?_) | refine obA ?_ | refine chkA ?_
    refine callT hg2 [0] (.tup [tabD l, .i64 e]) ?_
    repeat first | refine EffG.mk (obA ?_) | refine obA ?_ | refine chkA ?_
    refine EffG.mk (And.intro ⟨trivial, hT⟩ ?_)
    repeat first | refine EffG.mk (obA ?_) | refine obA ?_ | refine chkA ?_
    refine EffG.mk (And.intro ⟨hf, hf, hs⟩ ?_)
    rw [hq]
    repeat first | refine EffG.mk (obA ?_) | refine obA ?_ | refine chkA ?_ | refine brY ?_ | refine brN ?_
    refine brY ?_ (h := t2)
    repeat first | refine EffG.mk (obA ?_) | refine obA ?_ | refine chkA ?_
    refine callA haw [] ?_
    repeat first | refine EffG.mk (obA ?_) | refine obA ?_ | refine chkA ?_ | refine brY ?_ | refine brN ?_
    refine retA [0]
  · have t2 : decide (List.take k (List.drop 0 ([] ++ List.take k (List.drop 0 bs))) = List.take k (List.drop 0 bs)) = true := by
      refine decide_eq_true ?_
      rw [List.drop_zero, List.drop_zero, List.nil_append, List.take_take, Nat.min_self]
    have hf := tab_fit tab0_ok
    have hT := tab0_ok.ty
    have hs := tab_same tab0_ok tab0_ok
    have hq : (tabD tab0).eqb (tabD tab0) = true := by rw [tab_eqb]; exact decide_eq_true rfl
    have hg2 := rget_len_ac bs k x hx h1
    cases x with
    | none =>
      obtain rfl := hx rfl
      have hg1 := sget_len2_ac [] 0 none (by decide)
      generalize tab0 = l at hg1 hg2 hf hT hs hq
      refine acA tab mix Tryd.func7 {} ?_
      repeat first | refine EffG.mk (obA ?_) | refine obA ?_ | refine chkA ?_ | refine brY ?_ | refine brN ?_
      refine ⟨0, ?_⟩
      repeat first | refine EffG.mk (obA ?_) | refine obA ?_ | refine chkA ?_
      refine callT hg1 [2] (.tup [tabD l, .i64 4]) ?_
      repeat first | refine EffG.mk (obA ?_) | refine obA ?_ | refine chkA ?_
      refine EffG.mk (And.intro ⟨trivial, hT⟩ ?_)
      repeat first | refine EffG.mk (obA ?_) | refine obA ?_ | refine chkA ?_
      refine callT hg2 [0] (.tup [tabD l, .i64 4]) ?_
      repeat first | refine EffG.mk (obA ?_) | refine obA ?_ | refine chkA ?_
      refine EffG.mk (And.intro ⟨trivial, hT⟩ ?_)
      repeat first | refine EffG.mk (obA ?_) | refine obA ?_ | refine chkA ?_
      refine EffG.mk (And.intro ⟨hf, hf, hs⟩ ?_)
      rw [hq]
      repeat first | refine EffG.mk (obA ?_) | refine obA ?_ | refine chkA ?_ | refine brY ?_ | refine brN ?_
      refine callA haw [] ?_
      repeat first | refine EffG.mk (obA ?_) | refine obA ?_ | refine chkA ?_ | refine brY ?_ | refine brN ?_
      refine retA [0]
    | some c =>
      have hg1 := sget_len2_ac ([] ++ List.take k (List.drop 0 bs)) (0 + k) none (by omega)
      generalize tab0 = l at hg1 hg2 hf hT hs hq
      refine acA tab mix Tryd.func7 {} ?_
      repeat first | refine EffG.mk (obA ?_) | refine obA ?_ | refine chkA ?_ | refine brY ?_ | refine brN ?_
      refine ⟨0, ?_⟩
      repeat first | refine EffG.mk (obA ?_) | refine obA ?_ | refine chkA ?_
      refine callT hg1 [2] (.tup [tabD l, .i64 4]) ?_
      repeat first | refine EffG.mk (obA ?_) | refine obA ?_ | refine chkA ?_
      refine EffG.mk (And.intro ⟨trivial, hT⟩ ?_)
      repeat first | refine EffG.mk (obA ?_) | refine obA ?_ | refine chkA ?_
      refine callT hg2 [0] (.tup [tabD l, .i64 4]) ?_
      repeat first | refine EffG.mk (obA ?_) | refine obA ?_ | refine chkA ?_
      refine EffG.mk (And.intro ⟨trivial, hT⟩ ?_)
      repeat first | refine EffG.mk (obA ?_) | refine obA ?_ | refine chkA ?_
      refine EffG.mk (And.intro ⟨hf, hf, hs⟩ ?_)
      rw [hq]
      repeat first | refine EffG.mk (obA ?_) | refine obA ?_ | refine chkA ?_ | refine brY ?_ | refine brN ?_
      refine brY ?_ (h := by show decide (List.take (0 + k) (List.drop 0 ([] ++ List.take k (List.drop 0 bs))) = List.take k (List.drop 0 bs)) = true; rw [Nat.zero_add]; exact t2)
      repeat first | refine EffG.mk (obA ?_) | refine obA ?_ | refine chkA ?_
      refine callA haw [] ?_
      repeat first | refine EffG.mk (obA ?_) | refine obA ?_ | refine chkA ?_ | refine brY ?_ | refine brN ?_
      refine retA [0]
end Go.Proofs.YtodkhgofmgaafaaDoor.Av

namespace Go.Proofs.YtodkhgofmgaafaaDoor.Av
open Go
set_option linter.all false
set_option maxRecDepth 3000

/-! what is laid is read as it was -/
theorem turns_eq (t : BitVec 16) : ((t.setWidth 64 >>> 8).setWidth 8).setWidth 16 <<< (8 : Nat) ||| ((t.setWidth 64).setWidth 8).setWidth 16 = t := by
  apply BitVec.eq_of_getLsbD_eq
  intro i hi
  simp only [BitVec.getLsbD_or, BitVec.getLsbD_shiftLeft, BitVec.getLsbD_setWidth, BitVec.getLsbD_ushiftRight]
  by_cases h : i < 8
  · simp [h, hi, show i < 64 by omega]
  · simp [h, hi, show i - 8 < 16 by omega, show i - 8 < 8 by omega, show 8 + (i - 8) = i by omega]
    intro hh
    have := BitVec.lt_of_getLsbD hh
    omega
theorem nb2_eq (n : BitVec 64) : nbF n 2 = [(n >>> 8).setWidth 8, n.setWidth 8] := rfl
theorem tabI_drop {l : List Slot} (hl : TabS l) : ∀ (i j : Nat), j < i → i ≤ 8 → ∃ r, (tabI l i).drop (128 * j) = slotB (l.getD j slot0) ++ r
  | 0, _, h, _ => absurd h (Nat.not_lt_zero _)
  | i + 1, j, h, hi => by
    have hlen := tabI_length hl i (by omega)
    rw [tabI]
    rcases Nat.lt_or_eq_of_le (Nat.le_of_lt_succ h) with h' | h'
    · obtain ⟨r, hr⟩ := tabI_drop hl i j h' (by omega)
      refine ⟨r ++ slotB (l.getD i slot0), ?_⟩
      rw [List.drop_append_of_le_length (by omega), hr, List.append_assoc]
    · subst h'
      refine ⟨[], ?_⟩
      rw [List.drop_append, List.drop_of_length_le (by omega), hlen, Nat.sub_self, List.append_nil]
      rfl
theorem slotAt_tab {l : List Slot} (hl : TabS l) {j : Nat} (hj : j < 8) : slotAt (tabI l 8) j = l.getD j slot0 := by
  obtain ⟨r, hr⟩ := tabI_drop hl 8 j hj (Nat.le_refl _)
  obtain ⟨h1, h2, h3⟩ := hl.at hj
  generalize l.getD j slot0 = s at hr h1 h2 h3
  obtain ⟨u, t, sa, se, ch⟩ := s
  have h1 : sa.length = 16 := h1
  have h2 : se.length = 32 := h2
  have h3 : ch.length = 32 := h3
  generalize tabI l 8 = bs at hr
  have hg : ∀ i, bs.getD (128 * j + i) 0 = (bs.drop (128 * j)).getD i 0 := fun i => getD_drop.symm
  have hd : ∀ i, bs.drop (128 * j + i) = (bs.drop (128 * j)).drop i := fun i => by rw [List.drop_drop]
  have hX : bs.drop (128 * j) = (bif u then (1 : BitVec 8) else 0) :: ((t.setWidth 64 >>> 8).setWidth 8) :: ((t.setWidth 64).setWidth 8) :: (sa ++ (se ++ (ch ++ (List.replicate 45 0 ++ r)))) := by
    rw [hr, slotB, nb2_eq]
    simp only [List.append_assoc, List.cons_append, List.nil_append]
  have e0 : bs.getD (128 * j) 0 = bif u then (1 : BitVec 8) else 0 := by
    have := hg 0
    rw [Nat.add_zero] at this
    rw [this, hX]; rfl
  have e1 : bs.getD (128 * j + 1) 0 = (t.setWidth 64 >>> 8).setWidth 8 := by rw [hg, hX]; rfl
  have e2 : bs.getD (128 * j + 2) 0 = (t.setWidth 64).setWidth 8 := by rw [hg, hX]; rfl
  have e3 : (bs.drop (128 * j + 3)).take 16 = sa := by
    rw [hd, hX]
    show (sa ++ (se ++ (ch ++ (List.replicate 45 0 ++ r)))).take 16 = sa
    rw [List.take_left' h1]
  have e4 : (bs.drop (128 * j + 19)).take 32 = se := by
    rw [hd, hX, show (19 : Nat) = 3 + 16 from rfl, ← List.drop_drop]
    show ((sa ++ (se ++ (ch ++ (List.replicate 45 0 ++ r)))).drop 16).take 32 = se
    rw [List.drop_left' h1, List.take_left' h2]
  have e5 : (bs.drop (128 * j + 51)).take 32 = ch := by
    rw [hd, hX, show (51 : Nat) = 3 + 16 + 32 from rfl, ← List.drop_drop, ← List.drop_drop]
    show (((sa ++ (se ++ (ch ++ (List.replicate 45 0 ++ r)))).drop 16).drop 32).take 32 = ch
    rw [List.drop_left' h1, List.drop_left' h2, List.take_left' h3]
  unfold slotAt
  rw [e0, e1, e2, e3, e4, e5, turns_eq]
  cases u <;> rfl
theorem getI_tab {l : List Slot} (hl : TabS l) : getI (tabI l 8) 8 = l := by
  unfold getI
  rw [Nat.sub_self, List.replicate_zero, List.append_nil]
  apply List.ext_getElem
  · rw [List.length_map, List.length_range, hl.len]
  · intro i h1 h2
    have hi : i < 8 := by simpa using h1
    rw [List.getElem_map, List.getElem_range, slotAt_tab hl hi, List.getD_eq_getElem?_getD, List.getElem?_eq_getElem h2]
    rfl
theorem all_at {l : List Slot} (hl : TabS l) : (List.range 8).all (fun j => mayB (l.getD j slot0)) = l.all mayB := by
  rw [Bool.eq_iff_iff, List.all_eq_true, List.all_eq_true]
  constructor
  · intro h s hs
    obtain ⟨i, hi, rfl⟩ := List.getElem_of_mem hs
    have := h i (List.mem_range.2 (by rw [← hl.len]; exact hi))
    rwa [List.getD_eq_getElem?_getD, List.getElem?_eq_getElem hi] at this
  · intro h j hj
    exact h _ (getD_mem (by rw [hl.len]; exact List.mem_range.1 hj))
theorem getF_tab {l : List Slot} (hl : TabS l) : getF (tabI l 8) = bif l.all mayB then (l, 0) else (tab0, 4) := by
  have h : goodB (tabI l 8) = l.all mayB := by
    unfold goodB
    rw [getI_tab hl, decide_eq_true rfl, Bool.and_true, ← all_at hl, Bool.eq_iff_iff, List.all_eq_true, List.all_eq_true]
    constructor
    · intro h j hj
      have := h j hj
      rwa [slotAt_tab hl (List.mem_range.1 hj)] at this
    · intro h j hj
      rw [slotAt_tab hl (List.mem_range.1 hj)]
      exact h j hj
  unfold getF
  rw [h, getI_tab hl]
theorem getF_say (bs : List (BitVec 8)) : ((getF bs).2 = 0 ∧ tabI (getF bs).1 8 = bs) ∨ ((getF bs).2 = 4 ∧ (getF bs).1 = tab0) := by
  unfold getF
  cases h : goodB bs with
  | false => exact .inr ⟨rfl, rfl⟩
  | true =>
    refine .inl ⟨rfl, ?_⟩
    unfold goodB at h
    exact of_decide_eq_true (Bool.and_eq_true _ _ ▸ h).2
theorem mayB_eq (s : Slot) : mayB s = (decide (s = slot0) || (s.used && decide (1 ≤ s.turns.toNat) && decide (s.turns.toNat ≤ 4096))) := by
  obtain ⟨u, t, sa, se, ch⟩ := s
  cases u with
  | false =>
    show decide _ = (decide _ || false)
    rw [Bool.or_false]
  | true =>
    have : decide ((⟨true, t, sa, se, ch⟩ : Slot) = slot0) = false := decide_eq_false fun h => by
      have := congrArg Slot.used h
      cases this
    rw [this, Bool.false_or]
    show decide (1 ≤ t.toNat ∧ t.toNat ≤ 4096) = (true && decide (1 ≤ t.toNat) && decide (t.toNat ≤ 4096))
    rw [Bool.true_and, Bool.eq_iff_iff, decide_eq_true_iff, Bool.and_eq_true, decide_eq_true_iff, decide_eq_true_iff]
end Go.Proofs.YtodkhgofmgaafaaDoor.Av

namespace Go.Proofs.YtodkhgofmgaafaaDoor.Av
open Go
set_option linter.all false
set_option maxRecDepth 3000

/-! passphrases put in another's place, and taken away -/
theorem srot_err_ac (ks fs : List (BitVec 8)) (l : List Slot) (salt : List (BitVec 8)) (k k2 : Nat) (x x2 : Option Nat) (ha : ks.length = k) (hx : x = none → k = 0) (ha2 : fs.length = k2) (hx2 : x2 = none → k2 = 0) (hl : TabS l) (hs : salt.length = 16) (n : Int) (m : List (BitVec 8)) (i : Nat) (hm : m.length = 32) (hk : k ≤ 512) (ho : opR ks l 0 = (m, i, 30)) :
    AC Tryd.prog 19 [tabD l, slD 0 k x, slD 1 k2 x2, .u8s salt, .i64 n] 2 [(0, some ⟨.row .cell, .u8s ks, false⟩), (1, some ⟨.row .cell, .u8s fs, false⟩), gR] ⟨.tup [tabD tab0, .i64 30], [], []⟩ := by
  have hT := hl.ty
  have hop := sopen_ac ks l k x ha hx hk hl
  rw [ho] at hop
  refine acA tab mix Tryd.func19 {} ?_
  refine EffG.mk (And.intro hT ?_)
  repeat first | refine EffG.mk (obA ?_) | refine obA ?_ | refine chkA ?_
  refine callA hop [0] ?_ (hargs := by simp only [D.rens, ren_slD, ren_tab]; rfl)
  repeat first | refine EffG.mk (obA ?_) | refine obA ?_ | refine chkA ?_ | refine brY ?_ | refine brN ?_
  refine retA [0, 1]
theorem srot_long_ac (ks fs : List (BitVec 8)) (l : List Slot) (salt : List (BitVec 8)) (k k2 : Nat) (x x2 : Option Nat) (ha : ks.length = k) (hx : x = none → k = 0) (ha2 : fs.length = k2) (hx2 : x2 = none → k2 = 0) (hl : TabS l) (hs : salt.length = 16) (n : Int) (hk : 512 < k) :
    AC Tryd.prog 19 [tabD l, slD 0 k x, slD 1 k2 x2, .u8s salt, .i64 n] 2 [(0, some ⟨.row .cell, .u8s ks, false⟩), (1, some ⟨.row .cell, .u8s fs, false⟩), gR] ⟨.tup [tabD tab0, .i64 5], [], []⟩ := by
  have hT := hl.ty
  have hop := sopen_long_ac ks l k x ha hx hk hl
  refine acA tab mix Tryd.func19 {} ?_
  refine EffG.mk (And.intro hT ?_)
  repeat first | refine EffG.mk (obA ?_) | refine obA ?_ | refine chkA ?_
  refine callA hop [0] ?_ (hargs := by simp only [D.rens, ren_slD, ren_tab]; rfl)
  repeat first | refine EffG.mk (obA ?_) | refine obA ?_ | refine chkA ?_ | refine brY ?_ | refine brN ?_
  refine retA [0, 1]
theorem srot_there_ac (ks fs : List (BitVec 8)) (l : List Slot) (salt : List (BitVec 8)) (k k2 : Nat) (x x2 : Option Nat) (ha : ks.length = k) (hx : x = none → k = 0) (ha2 : fs.length = k2) (hx2 : x2 = none → k2 = 0) (hl : TabS l) (hs : salt.length = 16) (n : Nat) (m : List (BitVec 8)) (i : Nat) (hm : m.length = 32) (hk : k ≤ 512) (ho : opR ks l 0 = (m, i, 0)) (hk2 : k2 ≤ 512) (h1 : 1 ≤ n) (h2 : n ≤ 4096) (ho2 : (opR fs l 0).2.2 = 0) :
    AC Tryd.prog 19 [tabD l, slD 0 k x, slD 1 k2 x2, .u8s salt, .i64 n] 2 [(0, some ⟨.row .cell, .u8s ks, false⟩), (1, some ⟨.row .cell, .u8s fs, false⟩), gR] ⟨.tup [tabD tab0, .i64 23], [], []⟩ := by
  have hT := hl.ty
  have hop := sopen_ac ks l k x ha hx hk hl
  rw [ho] at hop
  have hse := sseal_there_ac fs l salt m k2 n x2 ha2 hx2 hk2 hl hs hm h1 h2 ho2
  have hso := slot0_ok
  generalize slot0 = s0 at hse hso
  obtain ⟨u, t, sa, se, ch⟩ := s0
  obtain ⟨hsa, hse2, hch⟩ := hso
  have hsa : sa.length = 16 := hsa
  have hse2 : se.length = 32 := hse2
  have hch : ch.length = 32 := hch
  refine acA tab mix Tryd.func19 {} ?_
  refine EffG.mk (And.intro hT ?_)
  repeat first | refine EffG.mk (obA ?_) | refine obA ?_ | refine chkA ?_
  refine callA hop [0] ?_ (hargs := by simp only [D.rens, ren_slD, ren_tab]; rfl)
  repeat first | refine EffG.mk (obA ?_) | refine obA ?_ | refine chkA ?_ | refine brY ?_ | refine brN ?_
  refine callA hse [1] ?_ (hargs := by simp only [D.rens, ren_slD, ren_tab]; rfl)
  repeat first | refine EffG.mk (obA ?_) | refine obA ?_ | refine chkA ?_ | refine brY ?_ | refine brN ?_
  refine retA [0, 1]
theorem srot_bad_ac (ks fs : List (BitVec 8)) (l : List Slot) (salt : List (BitVec 8)) (k k2 : Nat) (x x2 : Option Nat) (ha : ks.length = k) (hx : x = none → k = 0) (ha2 : fs.length = k2) (hx2 : x2 = none → k2 = 0) (hl : TabS l) (hs : salt.length = 16) (n : Int) (m : List (BitVec 8)) (i : Nat) (hm : m.length = 32) (hk : k ≤ 512) (ho : opR ks l 0 = (m, i, 0)) (hb : 512 < k2 ∨ n < 1 ∨ 4096 < n) :
    AC Tryd.prog 19 [tabD l, slD 0 k x, slD 1 k2 x2, .u8s salt, .i64 n] 2 [(0, some ⟨.row .cell, .u8s ks, false⟩), (1, some ⟨.row .cell, .u8s fs, false⟩), gR] ⟨.tup [tabD tab0, .i64 (if 512 < k2 then 5 else 2)], [], []⟩ := by
  have hT := hl.ty
  have hop := sopen_ac ks l k x ha hx hk hl
  rw [ho] at hop
  have hse := sseal_bad_ac fs l salt m k2 n x2 ha2 hx2 hl hs hm hb
  have hso := slot0_ok
  generalize slot0 = s0 at hse hso
  obtain ⟨u, t, sa, se, ch⟩ := s0
  obtain ⟨hsa, hse2, hch⟩ := hso
  have hsa : sa.length = 16 := hsa
  have hse2 : se.length = 32 := hse2
  have hch : ch.length = 32 := hch
  by_cases h5 : 512 < k2
  · rw [if_pos h5] at hse ⊢
    refine acA tab mix Tryd.func19 {} ?_
    refine EffG.mk (And.intro hT ?_)
    repeat first | refine EffG.mk (obA ?_) | refine obA ?_ | refine chkA ?_
    refine callA hop [0] ?_ (hargs := by simp only [D.rens, ren_slD, ren_tab]; rfl)
    repeat first | refine EffG.mk (obA ?_) | refine obA ?_ | refine chkA ?_ | refine brY ?_ | refine brN ?_
    refine callA hse [1] ?_ (hargs := by simp only [D.rens, ren_slD, ren_tab]; rfl)
    repeat first | refine EffG.mk (obA ?_) | refine obA ?_ | refine chkA ?_ | refine brY ?_ | refine brN ?_
    refine retA [0, 1]
  · rw [if_neg h5] at hse ⊢
    refine acA tab mix Tryd.func19 {} ?_
    refine EffG.mk (And.intro hT ?_)
    repeat first | refine EffG.mk (obA ?_) | refine obA ?_ | refine chkA ?_
    refine callA hop [0] ?_ (hargs := by simp only [D.rens, ren_slD, ren_tab]; rfl)
    repeat first | refine EffG.mk (obA ?_) | refine obA ?_ | refine chkA ?_ | refine brY ?_ | refine brN ?_
    refine callA hse [1] ?_ (hargs := by simp only [D.rens, ren_slD, ren_tab]; rfl)
    repeat first | refine EffG.mk (obA ?_) | refine obA ?_ | refine chkA ?_ | refine brY ?_ | refine brN ?_
    refine retA [0, 1]
set_option maxHeartbeats 1000000 in
theorem srot_ac (ks fs : List (BitVec 8)) (l : List Slot) (salt : List (BitVec 8)) (k k2 : Nat) (x x2 : Option Nat) (ha : ks.length = k) (hx : x = none → k = 0) (ha2 : fs.length = k2) (hx2 : x2 = none → k2 = 0) (hl : TabS l) (hs : salt.length = 16) (n : Nat) (m : List (BitVec 8)) (i : Nat) (hm : m.length = 32) (hi : i < 8) (hk : k ≤ 512) (ho : opR ks l 0 = (m, i, 0)) (hk2 : k2 ≤ 512) (h1 : 1 ≤ n) (h2 : n ≤ 4096) (ho2 : (opR fs l 0).2.2 = 30) :
    AC Tryd.prog 19 [tabD l, slD 0 k x, slD 1 k2 x2, .u8s salt, .i64 n] 2 [(0, some ⟨.row .cell, .u8s ks, false⟩), (1, some ⟨.row .cell, .u8s fs, false⟩), gR] ⟨.tup [tabD (l.set i (sealS fs salt n m)), .i64 0], [], []⟩ := by
  have hT := hl.ty
  have hlen := hl.len
  have hop := sopen_ac ks l k x ha hx hk hl
  rw [ho] at hop
  have hse := sseal_ac fs l salt m k2 n x2 ha2 hx2 hk2 hl hs hm h1 h2 ho2
  have hso := sealS_ok (ks := fs) (n := n) hs hm
  generalize sealS fs salt n m = s at hse hso ⊢
  have hT2 := (hl.set (i := i) hso).ty
  have hset : (l.map slotD).set i (slotD s) = (l.set i s).map slotD := List.map_set.symm
  have hT2 : hasTy tTab (.node ((l.map slotD).set i (slotD s))) := by rw [hset]; exact hT2
  obtain ⟨u, t, sa, se, ch⟩ := s
  obtain ⟨hsa, hse2, hch⟩ := hso
  have hsa : sa.length = 16 := hsa
  have hse2 : se.length = 32 := hse2
  have hch : ch.length = 32 := hch
  refine acA tab mix Tryd.func19 {} ?_
  refine EffG.mk (And.intro hT ?_)
  repeat first | refine EffG.mk (obA ?_) | refine obA ?_ | refine chkA ?_
  refine callA hop [0] ?_ (hargs := by simp only [D.rens, ren_slD, ren_tab]; rfl)
  repeat first | refine EffG.mk (obA ?_) | refine obA ?_ | refine chkA ?_ | refine brY ?_ | refine brN ?_
  refine callA hse [1] ?_ (hargs := by simp only [D.rens, ren_slD, ren_tab]; rfl)
  repeat first | refine EffG.mk (obA ?_) | refine obA ?_ | refine chkA ?_ | refine brY ?_ | refine brN ?_
  refine EffG.mk (And.intro ⟨trivial, hT2⟩ ?_)
  repeat first | refine EffG.mk (obA ?_) | refine obA ?_ | refine chkA ?_ | refine brY ?_ | refine brN ?_
  refine retA [0, 1] (h1 := ?_)
  show retIs (.tup [(tabD (l.set i ⟨u, t, sa, se, ch⟩)).ren _, .i64 0]) [.node ((l.map slotD).set i (slotD ⟨u, t, sa, se, ch⟩)), .i64 0]
  rw [ren_tab, hset]
  first | rfl | exact ⟨rfl, rfl⟩ | exact rfl
theorem srem_err_ac (ks : List (BitVec 8)) (l : List Slot) (k : Nat) (x : Option Nat) (ha : ks.length = k) (hx : x = none → k = 0) (hl : TabS l) (m : List (BitVec 8)) (i : Nat) (hm : m.length = 32) (hk : k ≤ 512) (ho : opR ks l 0 = (m, i, 30)) :
    AC Tryd.prog 21 [tabD l, slD 0 k x] 1 [(0, some ⟨.row .cell, .u8s ks, false⟩), gR] ⟨.tup [tabD tab0, .i64 30], [], []⟩ := by
  have hT := hl.ty
  have hop := sopen_ac ks l k x ha hx hk hl
  rw [ho] at hop
  refine acA tab mix Tryd.func21 {} ?_
  refine EffG.mk (And.intro hT ?_)
  repeat first | refine EffG.mk (obA ?_) | refine obA ?_ | refine chkA ?_
  refine callA hop [0] ?_ (hargs := by simp only [D.rens, ren_slD, ren_tab]; rfl)
  repeat first | refine EffG.mk (obA ?_) | refine obA ?_ | refine chkA ?_ | refine brY ?_ | refine brN ?_
  refine retA [0]
theorem srem_long_ac (ks : List (BitVec 8)) (l : List Slot) (k : Nat) (x : Option Nat) (ha : ks.length = k) (hx : x = none → k = 0) (hl : TabS l) (hk : 512 < k) :
    AC Tryd.prog 21 [tabD l, slD 0 k x] 1 [(0, some ⟨.row .cell, .u8s ks, false⟩), gR] ⟨.tup [tabD tab0, .i64 5], [], []⟩ := by
  have hT := hl.ty
  have hop := sopen_long_ac ks l k x ha hx hk hl
  refine acA tab mix Tryd.func21 {} ?_
  refine EffG.mk (And.intro hT ?_)
  repeat first | refine EffG.mk (obA ?_) | refine obA ?_ | refine chkA ?_
  refine callA hop [0] ?_ (hargs := by simp only [D.rens, ren_slD, ren_tab]; rfl)
  repeat first | refine EffG.mk (obA ?_) | refine obA ?_ | refine chkA ?_ | refine brY ?_ | refine brN ?_
  refine retA [0]
theorem srem_last_ac (ks : List (BitVec 8)) (l : List Slot) (k : Nat) (x : Option Nat) (ha : ks.length = k) (hx : x = none → k = 0) (hl : TabS l) (m : List (BitVec 8)) (i : Nat) (hm : m.length = 32) (hk : k ≤ 512) (ho : opR ks l 0 = (m, i, 0)) (hu : usedN l = 1) :
    AC Tryd.prog 21 [tabD l, slD 0 k x] 1 [(0, some ⟨.row .cell, .u8s ks, false⟩), gR] ⟨.tup [tabD tab0, .i64 31], [], []⟩ := by
  have hT := hl.ty
  have hop := sopen_ac ks l k x ha hx hk hl
  have huu := used_ac l hl
  rw [ho] at hop
  rw [hu] at huu
  refine acA tab mix Tryd.func21 {} ?_
  refine EffG.mk (And.intro hT ?_)
  repeat first | refine EffG.mk (obA ?_) | refine obA ?_ | refine chkA ?_
  refine callA hop [0] ?_ (hargs := by simp only [D.rens, ren_slD, ren_tab]; rfl)
  repeat first | refine EffG.mk (obA ?_) | refine obA ?_ | refine chkA ?_ | refine brY ?_ | refine brN ?_
  refine callA huu [] ?_ (hargs := by simp only [D.rens, ren_slD, ren_tab]; rfl)
  repeat first | refine EffG.mk (obA ?_) | refine obA ?_ | refine chkA ?_ | refine brY ?_ | refine brN ?_
  refine retA [0]
end Go.Proofs.YtodkhgofmgaafaaDoor.Av

namespace Go.Proofs.YtodkhgofmgaafaaDoor.Av
open Go
set_option linter.all false
set_option maxRecDepth 3000

/-! the document's answers to a passphrase that comes -/
abbrev pMem (ks : List (BitVec 8)) : Mem := (0, some ⟨.row .cell, .u8s ks, false⟩) :: gBK
theorem rfresh_bad_ac (ks : List (BitVec 8)) (l : List Slot) (k : Nat) (n : Int) (x : Option Nat) (ha : ks.length = k) (hx : x = none → k = 0) (hl : TabS l) (hb : 512 < k ∨ n < 1 ∨ 4096 < n) :
    AC Tryd.prog 95 [tabD l, slD 0 k x, .i64 n] 1 (pMem ks) ⟨.i64 (if 512 < k then 5 else 2), [], []⟩ := by
  have hT := hl.ty
  by_cases h5 : 512 < k
  · rw [if_pos h5]
    refine acA tab mix Tryd.func95 {} ?_
    refine EffG.mk (And.intro hT ?_)
    repeat first | refine EffG.mk (obA ?_) | refine obA ?_ | refine chkA ?_ | refine brY ?_ | refine brN ?_ | refine lenS rfl rfl rfl rfl hx rfl rfl ?_
    refine retA [0]
  · rw [if_neg h5]
    by_cases h1 : n < 1
    · refine acA tab mix Tryd.func95 {} ?_
      refine EffG.mk (And.intro hT ?_)
      repeat first | refine EffG.mk (obA ?_) | refine obA ?_ | refine chkA ?_ | refine brY ?_ | refine brN ?_ | refine lenS rfl rfl rfl rfl hx rfl rfl ?_
      refine retA [0]
    · refine acA tab mix Tryd.func95 {} ?_
      refine EffG.mk (And.intro hT ?_)
      repeat first | refine EffG.mk (obA ?_) | refine obA ?_ | refine chkA ?_ | refine brY ?_ | refine brN ?_ | refine lenS rfl rfl rfl rfl hx rfl rfl ?_
      refine retA [0]
theorem rfresh_ac (ks : List (BitVec 8)) (l : List Slot) (k n : Nat) (x : Option Nat) (m : List (BitVec 8)) (i : Nat) (e : Int) (ha : ks.length = k) (hx : x = none → k = 0) (hk : k ≤ 512) (hl : TabS l) (h1 : 1 ≤ n) (h2 : n ≤ 4096)
    (ho : opR ks l 0 = (m, i, e)) (he : e = 0 ∨ e = 30) (hm : m.length = 32) :
    AC Tryd.prog 95 [tabD l, slD 0 k x, .i64 n] 1 (pMem ks) ⟨.i64 (if e = 0 then 23 else 0), [], []⟩ := by
  have hT := hl.ty
  have hop := rsopen_ac ks l k x ha hx hk hl
  rw [ho] at hop
  rcases he with rfl | rfl
  · refine acA tab mix Tryd.func95 {} ?_
    refine EffG.mk (And.intro hT ?_)
    repeat first | refine EffG.mk (obA ?_) | refine obA ?_ | refine chkA ?_ | refine brY ?_ | refine brN ?_ | refine lenS rfl rfl rfl rfl hx rfl rfl ?_
    refine callA hop [0] ?_ (hargs := by simp only [D.rens, ren_slD, ren_tab]; rfl)
    repeat first | refine EffG.mk (obA ?_) | refine obA ?_ | refine chkA ?_ | refine brY ?_ | refine brN ?_
    refine retA [0]
  · refine acA tab mix Tryd.func95 {} ?_
    refine EffG.mk (And.intro hT ?_)
    repeat first | refine EffG.mk (obA ?_) | refine obA ?_ | refine chkA ?_ | refine brY ?_ | refine brN ?_ | refine lenS rfl rfl rfl rfl hx rfl rfl ?_
    refine callA hop [0] ?_ (hargs := by simp only [D.rens, ren_slD, ren_tab]; rfl)
    repeat first | refine EffG.mk (obA ?_) | refine obA ?_ | refine chkA ?_ | refine brY ?_ | refine brN ?_
    refine retA [0]
theorem rsealed_ac (ks salt master : List (BitVec 8)) (k n : Nat) (x : Option Nat) (ha : ks.length = k) (hx : x = none → k = 0) (hk : k ≤ 512) (hs : salt.length = 16) (hm : master.length = 32) (h1 : 1 ≤ n) (h2 : n ≤ 4096) :
    AC Tryd.prog 96 [slD 0 k x, .u8s salt, .i64 n, .u8s master] 1 (pMem ks) ⟨slotD (sealS ks salt n master), [], []⟩ := by
  have hky := rkey_ac ks salt k n x ha hx hk hs h1 h2
  have hyl := dkF_length ks salt n
  have e : sealS ks salt n master = ⟨true, BitVec.ofInt 16 n, salt, maskF (dkF ks salt n) master, chkF (dkF ks salt n) (maskF (dkF ks salt n) master)⟩ := rfl
  rw [e]
  clear e
  generalize dkF ks salt n = y at hky hyl ⊢
  have hse := rseal_ac y master hyl hm
  have h3 := (maskF_length y master).trans hm
  have h4 := chkF_length y (maskF y master)
  generalize chkF y (maskF y master) = c at hse h4 ⊢
  generalize maskF y master = z at hse h3 ⊢
  cases x with
  | none =>
    refine acA tab mix Tryd.func96 {} ?_
    repeat first | refine EffG.mk (obA ?_) | refine obA ?_ | refine chkA ?_ | refine brY ?_ | refine brN ?_
    refine callA hky [0] ?_
    repeat first | refine EffG.mk (obA ?_) | refine obA ?_ | refine chkA ?_ | refine brY ?_ | refine brN ?_
    refine callA hse [] ?_
    repeat first | refine EffG.mk (obA ?_) | refine obA ?_ | refine chkA ?_ | refine brY ?_ | refine brN ?_
    refine retA [0]
  | some c0 =>
    refine acA tab mix Tryd.func96 {} ?_
    repeat first | refine EffG.mk (obA ?_) | refine obA ?_ | refine chkA ?_ | refine brY ?_ | refine brN ?_
    refine callA hky [0] ?_
    repeat first | refine EffG.mk (obA ?_) | refine obA ?_ | refine chkA ?_ | refine brY ?_ | refine brN ?_
    refine callA hse [] ?_
    repeat first | refine EffG.mk (obA ?_) | refine obA ?_ | refine chkA ?_ | refine brY ?_ | refine brN ?_
    refine retA [0]
end Go.Proofs.YtodkhgofmgaafaaDoor.Av

namespace Go.Proofs.YtodkhgofmgaafaaDoor.Av
open Go
set_option linter.all false
set_option maxRecDepth 3000

theorem sadd_bad2_ac (ks : List (BitVec 8)) (l : List Slot) (salt master : List (BitVec 8)) (k : Nat) (n : Int) (x : Option Nat) (ha : ks.length = k) (hx : x = none → k = 0) (hl : TabS l) (hs : salt.length = 16) (hm : master.length = 32) (hb : 512 < k ∨ n < 1 ∨ 4096 < n) :
    AC Tryd.prog 18 [tabD l, slD 0 k x, .u8s salt, .i64 n, .u8s master] 1 [(0, some ⟨.row .cell, .u8s ks, false⟩), gR] ⟨.tup [tabD tab0, .i64 (if 512 < k then 5 else 2)], [], []⟩ := by
  have hT := hl.ty
  have hse := sseal_bad_ac ks l salt master k n x ha hx hl hs hm hb
  have hso := slot0_ok
  generalize slot0 = s0 at hse hso
  obtain ⟨u, t, sa, se, ch⟩ := s0
  obtain ⟨hsa, hse2, hch⟩ := hso
  have hsa : sa.length = 16 := hsa
  have hse2 : se.length = 32 := hse2
  have hch : ch.length = 32 := hch
  by_cases h5 : 512 < k
  · rw [if_pos h5] at hse ⊢
    refine acA tab mix Tryd.func18 {} ?_
    refine EffG.mk (And.intro hT ?_)
    repeat first | refine EffG.mk (obA ?_) | refine obA ?_ | refine chkA ?_
    refine callA hse [0] ?_ (hargs := by simp only [D.rens, ren_slD, ren_tab]; rfl)
    repeat first | refine EffG.mk (obA ?_) | refine obA ?_ | refine chkA ?_ | refine brY ?_ | refine brN ?_
    refine retA [0]
  · rw [if_neg h5] at hse ⊢
    refine acA tab mix Tryd.func18 {} ?_
    refine EffG.mk (And.intro hT ?_)
    repeat first | refine EffG.mk (obA ?_) | refine obA ?_ | refine chkA ?_
    refine callA hse [0] ?_ (hargs := by simp only [D.rens, ren_slD, ren_tab]; rfl)
    repeat first | refine EffG.mk (obA ?_) | refine obA ?_ | refine chkA ?_ | refine brY ?_ | refine brN ?_
    refine retA [0]
theorem radd_bad_ac (ks : List (BitVec 8)) (l : List Slot) (salt master : List (BitVec 8)) (k : Nat) (x : Option Nat) (ha : ks.length = k) (hx : x = none → k = 0) (hl : TabS l) (hs : salt.length = 16) (hm : master.length = 32) (n : Int) (hb : 512 < k ∨ n < 1 ∨ 4096 < n) :
    AC Tryd.prog 54 [tabD l, slD 0 k x, .u8s salt, .i64 n, .u8s master] 1 (pMem ks) ⟨.tup [tabD tab0, .i64 (if 512 < k then 5 else 2)], [], []⟩ := by
  have hT := hl.ty
  have hf := rfresh_bad_ac ks l k n x ha hx hl hb
  by_cases h5 : 512 < k
  · rw [if_pos h5] at hf ⊢
    refine acA tab mix Tryd.func54 {} ?_
    refine EffG.mk (And.intro hT ?_)
    repeat first | refine EffG.mk (obA ?_) | refine obA ?_ | refine chkA ?_
    refine callA hf [0] ?_ (hargs := by simp only [D.rens, ren_slD, ren_tab]; rfl)
    repeat first | refine EffG.mk (obA ?_) | refine obA ?_ | refine chkA ?_ | refine brY ?_ | refine brN ?_
    refine retA [0]
  · rw [if_neg h5] at hf ⊢
    refine acA tab mix Tryd.func54 {} ?_
    refine EffG.mk (And.intro hT ?_)
    repeat first | refine EffG.mk (obA ?_) | refine obA ?_ | refine chkA ?_
    refine callA hf [0] ?_ (hargs := by simp only [D.rens, ren_slD, ren_tab]; rfl)
    repeat first | refine EffG.mk (obA ?_) | refine obA ?_ | refine chkA ?_ | refine brY ?_ | refine brN ?_
    refine retA [0]
theorem radd_there_ac (ks : List (BitVec 8)) (l : List Slot) (salt master : List (BitVec 8)) (k : Nat) (x : Option Nat) (ha : ks.length = k) (hx : x = none → k = 0) (hl : TabS l) (hs : salt.length = 16) (hm : master.length = 32) (n : Nat) (hk : k ≤ 512) (h1 : 1 ≤ n) (h2 : n ≤ 4096) (ho : (opR ks l 0).2.2 = 0) :
    AC Tryd.prog 54 [tabD l, slD 0 k x, .u8s salt, .i64 n, .u8s master] 1 (pMem ks) ⟨.tup [tabD tab0, .i64 23], [], []⟩ := by
  have hT := hl.ty
  have hf := rfresh_ac ks l k n x _ _ 0 ha hx hk hl h1 h2 (show opR ks l 0 = ((opR ks l 0).1, (opR ks l 0).2.1, 0) by rw [← ho]) (.inl rfl) (opR_length ks l 0 hl.ok)
  rw [if_pos rfl] at hf
  refine acA tab mix Tryd.func54 {} ?_
  refine EffG.mk (And.intro hT ?_)
  repeat first | refine EffG.mk (obA ?_) | refine obA ?_ | refine chkA ?_
  refine callA hf [0] ?_ (hargs := by simp only [D.rens, ren_slD, ren_tab]; rfl)
  repeat first | refine EffG.mk (obA ?_) | refine obA ?_ | refine chkA ?_ | refine brY ?_ | refine brN ?_
  refine retA [0]
set_option maxHeartbeats 1000000 in
theorem radd_ac (ks : List (BitVec 8)) (l : List Slot) (salt master : List (BitVec 8)) (k : Nat) (x : Option Nat) (ha : ks.length = k) (hx : x = none → k = 0) (hl : TabS l) (hs : salt.length = 16) (hm : master.length = 32) (n : Nat) (hk : k ≤ 512) (h1 : 1 ≤ n) (h2 : n ≤ 4096) (ho : (opR ks l 0).2.2 = 30) :
    AC Tryd.prog 54 [tabD l, slD 0 k x, .u8s salt, .i64 n, .u8s master] 1 (pMem ks) ⟨.tup [tabD (if freeI l 0 = -1 then tab0 else l.set (freeI l 0).toNat (sealS ks salt n master)), .i64 (if freeI l 0 = -1 then 32 else 0)], [], []⟩ := by
  have hT := hl.ty
  have hlen := hl.len
  have hf := rfresh_ac ks l k n x _ _ 30 ha hx hk hl h1 h2 (show opR ks l 0 = ((opR ks l 0).1, (opR ks l 0).2.1, 30) by rw [← ho]) (.inr rfl) (opR_length ks l 0 hl.ok)
  rw [if_neg (by decide)] at hf
  have hse := rsealed_ac ks salt master k n x ha hx hk hs hm h1 h2
  have hso := sealS_ok (ks := ks) (n := n) hs hm
  generalize sealS ks salt n master = s at hse hso ⊢
  obtain ⟨R, hR⟩ : ∃ R, freeI l 0 = R := ⟨_, rfl⟩
  rw [hR]
  refine acA tab mix Tryd.func54 {} ?_
  refine EffG.mk (And.intro hT ?_)
  repeat first | refine EffG.mk (obA ?_) | refine obA ?_ | refine chkA ?_
  refine callA hf [0] ?_ (hargs := by simp only [D.rens, ren_slD, ren_tab]; rfl)
  repeat first | refine EffG.mk (obA ?_) | refine obA ?_ | refine chkA ?_ | refine brY ?_ | refine brN ?_
  refine loopG Nat (fun i => [(1, slD 0 k x), (3, .i64 n), (5, .ptr 1 []), (7, .ptr 2 []), (9, .ptr 3 []), (10, .ptr 4 []), (13, .i64 i)])
    (fun i => [(0, some ⟨.row .cell, .u8s ks, false⟩), (1, some ⟨tTab, tabD l, true⟩), (2, some ⟨t16, .u8s salt, true⟩), (3, some ⟨t32, .u8s master, true⟩), (4, some ⟨tTab, tabD tab0, true⟩), (gid 1, some ⟨t256, .u8s boxL, false⟩), gK]) 5
    (fun i => i ≤ 8 ∧ freeI (l.drop i) i = R) (fun i => 8 - i) 0 [0, 1, 2, 3, 4] ⟨Nat.zero_le _, hR⟩ viewA ?_
  intro i hI
  obtain ⟨hi, hR⟩ := hI
  repeat first | refine EffG.mk (obA ?_) | refine obA ?_ | refine chkA ?_
  refine Br.split (fun h => ?_) (fun h => ?_)
  · have hi : i < 8 := by have := of_decide_eq_true h; omega
    have hsi := hl.at hi
    have hil : i < l.length := by omega
    rw [drop_slots hil] at hR
    obtain ⟨⟨u, t, sa, se, ch⟩, he⟩ : ∃ s, l.getD i slot0 = s := ⟨_, rfl⟩
    rw [he] at hsi hR
    cases u with
    | false =>
      have hR : (i : Int) = R := hR
      subst hR
      have hT2 := (hl.set (i := i) hso).ty
      have hset : (l.map slotD).set i (slotD s) = (l.set i s).map slotD := List.map_set.symm
      have hT3 : hasTy tTab (.node ((l.map slotD).set i (slotD s))) := by rw [hset]; exact hT2
      rw [if_neg (by omega), if_neg (by omega)]
      have hj : (i : Int).toNat = i := rfl
      rw [hj]
      obtain ⟨u2, t2, sa2, se2, ch2⟩ := s
      obtain ⟨hsa2, hse2, hch2⟩ := hso
      have hsa2 : sa2.length = 16 := hsa2
      have hse2 : se2.length = 32 := hse2
      have hch2 : ch2.length = 32 := hch2
      repeat first | refine EffG.mk (obA ?_) | refine obA ?_ | refine chkA ?_
      refine loadG (.bool false) rfl rfl rfl rfl rfl (getP_slotf hil he rfl) (okP_slotf hil he (by trivial)) ?_
      repeat first | refine EffG.mk (obA ?_) | refine obA ?_ | refine chkA ?_ | refine brY ?_ | refine brN ?_
      refine callA hse [0] ?_
      repeat first | refine EffG.mk (obA ?_) | refine obA ?_ | refine chkA ?_
      refine EffG.mk (And.intro ⟨trivial, hT3⟩ ?_)
      repeat first | refine EffG.mk (obA ?_) | refine obA ?_ | refine chkA ?_
      refine retA [0] (h1 := ?_)
      show retIs (.tup [(tabD (l.set i ⟨u2, t2, sa2, se2, ch2⟩)).ren _, .i64 0]) [.node ((l.map slotD).set i (slotD ⟨u2, t2, sa2, se2, ch2⟩)), .i64 0]
      rw [ren_tab, hset]
      first | rfl | exact ⟨rfl, rfl⟩ | exact rfl
    | true =>
      have hR : freeI (l.drop (i + 1)) (i + 1) = R := hR
      repeat first | refine EffG.mk (obA ?_) | refine obA ?_ | refine chkA ?_
      refine loadG (.bool true) rfl rfl rfl rfl rfl (getP_slotf hil he rfl) (okP_slotf hil he (by trivial)) ?_
      repeat first | refine EffG.mk (obA ?_) | refine obA ?_ | refine chkA ?_ | refine brY ?_ | refine brN ?_
      refine nextA (i + 1) [0, 1, 2, 3, 4] viewA (h1 := ⟨by omega, hR⟩)
  · obtain rfl : i = 8 := by have := of_decide_eq_false h; omega
    rw [List.drop_of_length_le (by omega)] at hR
    have hR : (-1 : Int) = R := hR
    subst hR
    rw [if_pos rfl, if_pos rfl]
    repeat first | refine EffG.mk (obA ?_) | refine obA ?_ | refine chkA ?_
    refine retA [0]
end Go.Proofs.YtodkhgofmgaafaaDoor.Av

namespace Go.Proofs.YtodkhgofmgaafaaDoor.Av
open Go
set_option linter.all false
set_option maxRecDepth 3000

theorem opR_idx (ks : List (BitVec 8)) : ∀ (l : List Slot) (i : Nat), (opR ks l i).2.2 = 0 → (opR ks l i).2.1 < i + l.length
  | [], _, h => by rw [opR] at h; exact absurd h (by decide)
  | s :: r, i, h => by
    rw [opR_cons] at h ⊢
    cases hb : hitB ks s with
    | true => show i < _; rw [List.length_cons]; omega
    | false =>
      rw [hb] at h
      have := opR_idx ks r (i + 1) h
      rw [List.length_cons]
      show (opR ks r (i + 1)).2.1 < _
      omega
theorem srem_ac (ks : List (BitVec 8)) (l : List Slot) (k : Nat) (x : Option Nat) (ha : ks.length = k) (hx : x = none → k = 0) (hl : TabS l) (m : List (BitVec 8)) (i : Nat) (hm : m.length = 32) (hi : i < 8) (hk : k ≤ 512) (ho : opR ks l 0 = (m, i, 0)) (hu : usedN l ≠ 1) :
    AC Tryd.prog 21 [tabD l, slD 0 k x] 1 [(0, some ⟨.row .cell, .u8s ks, false⟩), gR] ⟨.tup [tabD (l.set i slot0), .i64 0], [], []⟩ := by
  have hT := hl.ty
  have hlen := hl.len
  have hop := sopen_ac ks l k x ha hx hk hl
  rw [ho] at hop
  have huu := used_ac l hl
  have hT2 := (hl.set (i := i) slot0_ok).ty
  have hset : (l.map slotD).set i (slotD slot0) = (l.set i slot0).map slotD := List.map_set.symm
  have hT3 : hasTy tTab (.node ((l.map slotD).set i (slotD slot0))) := by rw [hset]; exact hT2
  have hu2 : decide ((usedN l : Int) = 1) = false := decide_eq_false (by omega)
  generalize usedN l = un at huu hu2
  refine acA tab mix Tryd.func21 {} ?_
  refine EffG.mk (And.intro hT ?_)
  repeat first | refine EffG.mk (obA ?_) | refine obA ?_ | refine chkA ?_
  refine callA hop [0] ?_ (hargs := by simp only [D.rens, ren_slD, ren_tab]; rfl)
  repeat first | refine EffG.mk (obA ?_) | refine obA ?_ | refine chkA ?_ | refine brY ?_ | refine brN ?_
  refine callA huu [] ?_ (hargs := by simp only [D.rens, ren_slD, ren_tab]; rfl)
  repeat first | refine EffG.mk (obA ?_) | refine obA ?_ | refine chkA ?_
  refine brN ?_ (h := hu2)
  repeat first | refine EffG.mk (obA ?_) | refine obA ?_ | refine chkA ?_
  refine EffG.mk (And.intro ⟨trivial, hT3⟩ ?_)
  repeat first | refine EffG.mk (obA ?_) | refine obA ?_ | refine chkA ?_
  refine retA [0] (h1 := ?_)
  show retIs (.tup [(tabD (l.set i slot0)).ren _, .i64 0]) [.node ((l.map slotD).set i (slotD slot0)), .i64 0]
  rw [ren_tab, hset]
  first | rfl | exact ⟨rfl, rfl⟩ | exact rfl
theorem rrem_ac (ks : List (BitVec 8)) (l : List Slot) (k : Nat) (x : Option Nat) (ha : ks.length = k) (hx : x = none → k = 0) (hl : TabS l) (m : List (BitVec 8)) (i : Nat) (hm : m.length = 32) (hi : i < 8) (hk : k ≤ 512) (ho : opR ks l 0 = (m, i, 0)) (hu : usedN l ≠ 1) :
    AC Tryd.prog 51 [tabD l, slD 0 k x] 1 (pMem ks) ⟨.tup [tabD (l.set i slot0), .i64 0], [], []⟩ := by
  have hT := hl.ty
  have hlen := hl.len
  have hop := rsopen_ac ks l k x ha hx hk hl
  rw [ho] at hop
  have huu := rused_ac l hl
  have hT2 := (hl.set (i := i) slot0_ok).ty
  have hset : (l.map slotD).set i (slotD slot0) = (l.set i slot0).map slotD := List.map_set.symm
  have hT3 : hasTy tTab (.node ((l.map slotD).set i (slotD slot0))) := by rw [hset]; exact hT2
  have hu2 : decide ((usedN l : Int) = 1) = false := decide_eq_false (by omega)
  generalize usedN l = un at huu hu2
  refine acA tab mix Tryd.func51 {} ?_
  refine EffG.mk (And.intro hT ?_)
  repeat first | refine EffG.mk (obA ?_) | refine obA ?_ | refine chkA ?_
  refine callA hop [0] ?_ (hargs := by simp only [D.rens, ren_slD, ren_tab]; rfl)
  repeat first | refine EffG.mk (obA ?_) | refine obA ?_ | refine chkA ?_ | refine brY ?_ | refine brN ?_
  refine callA huu [] ?_ (hargs := by simp only [D.rens, ren_slD, ren_tab]; rfl)
  repeat first | refine EffG.mk (obA ?_) | refine obA ?_ | refine chkA ?_
  refine brN ?_ (h := hu2)
  repeat first | refine EffG.mk (obA ?_) | refine obA ?_ | refine chkA ?_
  refine EffG.mk (And.intro ⟨trivial, hT3⟩ ?_)
  repeat first | refine EffG.mk (obA ?_) | refine obA ?_ | refine chkA ?_
  refine retA [0] (h1 := ?_)
  show retIs (.tup [(tabD (l.set i slot0)).ren _, .i64 0]) [.node ((l.map slotD).set i (slotD slot0)), .i64 0]
  rw [ren_tab, hset]
  first | rfl | exact ⟨rfl, rfl⟩ | exact rfl
theorem rrem_err_ac (ks : List (BitVec 8)) (l : List Slot) (k : Nat) (x : Option Nat) (ha : ks.length = k) (hx : x = none → k = 0) (hl : TabS l) (m : List (BitVec 8)) (i : Nat) (hm : m.length = 32) (hk : k ≤ 512) (ho : opR ks l 0 = (m, i, 30)) :
    AC Tryd.prog 51 [tabD l, slD 0 k x] 1 (pMem ks) ⟨.tup [tabD tab0, .i64 30], [], []⟩ := by
  have hT := hl.ty
  have hop := rsopen_ac ks l k x ha hx hk hl
  rw [ho] at hop
  refine acA tab mix Tryd.func51 {} ?_
  refine EffG.mk (And.intro hT ?_)
  repeat first | refine EffG.mk (obA ?_) | refine obA ?_ | refine chkA ?_
  refine callA hop [0] ?_ (hargs := by simp only [D.rens, ren_slD, ren_tab]; rfl)
  repeat first | refine EffG.mk (obA ?_) | refine obA ?_ | refine chkA ?_ | refine brY ?_ | refine brN ?_
  refine retA [0]
theorem rrem_long_ac (ks : List (BitVec 8)) (l : List Slot) (k : Nat) (x : Option Nat) (ha : ks.length = k) (hx : x = none → k = 0) (hl : TabS l) (hk : 512 < k) :
    AC Tryd.prog 51 [tabD l, slD 0 k x] 1 (pMem ks) ⟨.tup [tabD tab0, .i64 5], [], []⟩ := by
  have hT := hl.ty
  have hop := rsopen_long_ac ks l k x ha hx hk hl
  refine acA tab mix Tryd.func51 {} ?_
  refine EffG.mk (And.intro hT ?_)
  repeat first | refine EffG.mk (obA ?_) | refine obA ?_ | refine chkA ?_
  refine callA hop [0] ?_ (hargs := by simp only [D.rens, ren_slD, ren_tab]; rfl)
  repeat first | refine EffG.mk (obA ?_) | refine obA ?_ | refine chkA ?_ | refine brY ?_ | refine brN ?_
  refine retA [0]
theorem rrem_last_ac (ks : List (BitVec 8)) (l : List Slot) (k : Nat) (x : Option Nat) (ha : ks.length = k) (hx : x = none → k = 0) (hl : TabS l) (m : List (BitVec 8)) (i : Nat) (hm : m.length = 32) (hk : k ≤ 512) (ho : opR ks l 0 = (m, i, 0)) (hu : usedN l = 1) :
    AC Tryd.prog 51 [tabD l, slD 0 k x] 1 (pMem ks) ⟨.tup [tabD tab0, .i64 31], [], []⟩ := by
  have hT := hl.ty
  have hop := rsopen_ac ks l k x ha hx hk hl
  rw [ho] at hop
  have huu := rused_ac l hl
  rw [hu] at huu
  refine acA tab mix Tryd.func51 {} ?_
  refine EffG.mk (And.intro hT ?_)
  repeat first | refine EffG.mk (obA ?_) | refine obA ?_ | refine chkA ?_
  refine callA hop [0] ?_ (hargs := by simp only [D.rens, ren_slD, ren_tab]; rfl)
  repeat first | refine EffG.mk (obA ?_) | refine obA ?_ | refine chkA ?_ | refine brY ?_ | refine brN ?_
  refine callA huu [] ?_ (hargs := by simp only [D.rens, ren_slD, ren_tab]; rfl)
  repeat first | refine EffG.mk (obA ?_) | refine obA ?_ | refine chkA ?_ | refine brY ?_ | refine brN ?_
  refine retA [0]
theorem rrot_err_ac (ks fs : List (BitVec 8)) (l : List Slot) (salt : List (BitVec 8)) (k k2 : Nat) (x x2 : Option Nat) (ha : ks.length = k) (hx : x = none → k = 0) (ha2 : fs.length = k2) (hx2 : x2 = none → k2 = 0) (hl : TabS l) (hs : salt.length = 16) (n : Int) (m : List (BitVec 8)) (i : Nat) (hm : m.length = 32) (hk : k ≤ 512) (ho : opR ks l 0 = (m, i, 30)) :
    AC Tryd.prog 53 [tabD l, slD 0 k x, slD 1 k2 x2, .u8s salt, .i64 n] 2 ((0, some ⟨.row .cell, .u8s ks, false⟩) :: (1, some ⟨.row .cell, .u8s fs, false⟩) :: gBK) ⟨.tup [tabD tab0, .i64 30], [], []⟩ := by
  have hT := hl.ty
  have hop := rsopen_ac ks l k x ha hx hk hl
  rw [ho] at hop
  refine acA tab mix Tryd.func53 {} ?_
  refine EffG.mk (And.intro hT ?_)
  repeat first | refine EffG.mk (obA ?_) | refine obA ?_ | refine chkA ?_
  refine callA hop [0] ?_ (hargs := by simp only [D.rens, ren_slD, ren_tab]; rfl)
  repeat first | refine EffG.mk (obA ?_) | refine obA ?_ | refine chkA ?_ | refine brY ?_ | refine brN ?_
  refine retA [0, 1]
theorem rrot_long_ac (ks fs : List (BitVec 8)) (l : List Slot) (salt : List (BitVec 8)) (k k2 : Nat) (x x2 : Option Nat) (ha : ks.length = k) (hx : x = none → k = 0) (ha2 : fs.length = k2) (hx2 : x2 = none → k2 = 0) (hl : TabS l) (hs : salt.length = 16) (n : Int) (hk : 512 < k) :
    AC Tryd.prog 53 [tabD l, slD 0 k x, slD 1 k2 x2, .u8s salt, .i64 n] 2 ((0, some ⟨.row .cell, .u8s ks, false⟩) :: (1, some ⟨.row .cell, .u8s fs, false⟩) :: gBK) ⟨.tup [tabD tab0, .i64 5], [], []⟩ := by
  have hT := hl.ty
  have hop := rsopen_long_ac ks l k x ha hx hk hl
  refine acA tab mix Tryd.func53 {} ?_
  refine EffG.mk (And.intro hT ?_)
  repeat first | refine EffG.mk (obA ?_) | refine obA ?_ | refine chkA ?_
  refine callA hop [0] ?_ (hargs := by simp only [D.rens, ren_slD, ren_tab]; rfl)
  repeat first | refine EffG.mk (obA ?_) | refine obA ?_ | refine chkA ?_ | refine brY ?_ | refine brN ?_
  refine retA [0, 1]
theorem rrot_bad_ac (ks fs : List (BitVec 8)) (l : List Slot) (salt : List (BitVec 8)) (k k2 : Nat) (x x2 : Option Nat) (ha : ks.length = k) (hx : x = none → k = 0) (ha2 : fs.length = k2) (hx2 : x2 = none → k2 = 0) (hl : TabS l) (hs : salt.length = 16) (n : Int) (m : List (BitVec 8)) (i : Nat) (hm : m.length = 32) (hk : k ≤ 512) (ho : opR ks l 0 = (m, i, 0)) (hb : 512 < k2 ∨ n < 1 ∨ 4096 < n) :
    AC Tryd.prog 53 [tabD l, slD 0 k x, slD 1 k2 x2, .u8s salt, .i64 n] 2 ((0, some ⟨.row .cell, .u8s ks, false⟩) :: (1, some ⟨.row .cell, .u8s fs, false⟩) :: gBK) ⟨.tup [tabD tab0, .i64 (if 512 < k2 then 5 else 2)], [], []⟩ := by
  have hT := hl.ty
  have hop := rsopen_ac ks l k x ha hx hk hl
  rw [ho] at hop
  have hf := rfresh_bad_ac fs l k2 n x2 ha2 hx2 hl hb
  by_cases h5 : 512 < k2
  · rw [if_pos h5] at hf ⊢
    refine acA tab mix Tryd.func53 {} ?_
    refine EffG.mk (And.intro hT ?_)
    repeat first | refine EffG.mk (obA ?_) | refine obA ?_ | refine chkA ?_
    refine callA hop [0] ?_ (hargs := by simp only [D.rens, ren_slD, ren_tab]; rfl)
    repeat first | refine EffG.mk (obA ?_) | refine obA ?_ | refine chkA ?_ | refine brY ?_ | refine brN ?_
    refine callA hf [1] ?_ (hargs := by simp only [D.rens, ren_slD, ren_tab]; rfl)
    repeat first | refine EffG.mk (obA ?_) | refine obA ?_ | refine chkA ?_ | refine brY ?_ | refine brN ?_
    refine retA [0, 1]
  · rw [if_neg h5] at hf ⊢
    refine acA tab mix Tryd.func53 {} ?_
    refine EffG.mk (And.intro hT ?_)
    repeat first | refine EffG.mk (obA ?_) | refine obA ?_ | refine chkA ?_
    refine callA hop [0] ?_ (hargs := by simp only [D.rens, ren_slD, ren_tab]; rfl)
    repeat first | refine EffG.mk (obA ?_) | refine obA ?_ | refine chkA ?_ | refine brY ?_ | refine brN ?_
    refine callA hf [1] ?_ (hargs := by simp only [D.rens, ren_slD, ren_tab]; rfl)
    repeat first | refine EffG.mk (obA ?_) | refine obA ?_ | refine chkA ?_ | refine brY ?_ | refine brN ?_
    refine retA [0, 1]
theorem rrot_there_ac (ks fs : List (BitVec 8)) (l : List Slot) (salt : List (BitVec 8)) (k k2 : Nat) (x x2 : Option Nat) (ha : ks.length = k) (hx : x = none → k = 0) (ha2 : fs.length = k2) (hx2 : x2 = none → k2 = 0) (hl : TabS l) (hs : salt.length = 16) (n : Nat) (m : List (BitVec 8)) (i : Nat) (hm : m.length = 32) (hk : k ≤ 512) (ho : opR ks l 0 = (m, i, 0)) (hk2 : k2 ≤ 512) (h1 : 1 ≤ n) (h2 : n ≤ 4096) (ho2 : (opR fs l 0).2.2 = 0) :
    AC Tryd.prog 53 [tabD l, slD 0 k x, slD 1 k2 x2, .u8s salt, .i64 n] 2 ((0, some ⟨.row .cell, .u8s ks, false⟩) :: (1, some ⟨.row .cell, .u8s fs, false⟩) :: gBK) ⟨.tup [tabD tab0, .i64 23], [], []⟩ := by
  have hT := hl.ty
  have hop := rsopen_ac ks l k x ha hx hk hl
  rw [ho] at hop
  have hf := rfresh_ac fs l k2 n x2 _ _ 0 ha2 hx2 hk2 hl h1 h2 (show opR fs l 0 = ((opR fs l 0).1, (opR fs l 0).2.1, 0) by rw [← ho2]) (.inl rfl) (opR_length fs l 0 hl.ok)
  rw [if_pos rfl] at hf
  refine acA tab mix Tryd.func53 {} ?_
  refine EffG.mk (And.intro hT ?_)
  repeat first | refine EffG.mk (obA ?_) | refine obA ?_ | refine chkA ?_
  refine callA hop [0] ?_ (hargs := by simp only [D.rens, ren_slD, ren_tab]; rfl)
  repeat first | refine EffG.mk (obA ?_) | refine obA ?_ | refine chkA ?_ | refine brY ?_ | refine brN ?_
  refine callA hf [1] ?_ (hargs := by simp only [D.rens, ren_slD, ren_tab]; rfl)
  repeat first | refine EffG.mk (obA ?_) | refine obA ?_ | refine chkA ?_ | refine brY ?_ | refine brN ?_
  refine retA [0, 1]
set_option maxHeartbeats 1000000 in
theorem rrot_ac (ks fs : List (BitVec 8)) (l : List Slot) (salt : List (BitVec 8)) (k k2 : Nat) (x x2 : Option Nat) (ha : ks.length = k) (hx : x = none → k = 0) (ha2 : fs.length = k2) (hx2 : x2 = none → k2 = 0) (hl : TabS l) (hs : salt.length = 16) (n : Nat) (m : List (BitVec 8)) (i : Nat) (hm : m.length = 32) (hi : i < 8) (hk : k ≤ 512) (ho : opR ks l 0 = (m, i, 0)) (hk2 : k2 ≤ 512) (h1 : 1 ≤ n) (h2 : n ≤ 4096) (ho2 : (opR fs l 0).2.2 = 30) :
    AC Tryd.prog 53 [tabD l, slD 0 k x, slD 1 k2 x2, .u8s salt, .i64 n] 2 ((0, some ⟨.row .cell, .u8s ks, false⟩) :: (1, some ⟨.row .cell, .u8s fs, false⟩) :: gBK) ⟨.tup [tabD (l.set i (sealS fs salt n m)), .i64 0], [], []⟩ := by
  have hT := hl.ty
  have hlen := hl.len
  have hop := rsopen_ac ks l k x ha hx hk hl
  rw [ho] at hop
  have hf := rfresh_ac fs l k2 n x2 _ _ 30 ha2 hx2 hk2 hl h1 h2 (show opR fs l 0 = ((opR fs l 0).1, (opR fs l 0).2.1, 30) by rw [← ho2]) (.inr rfl) (opR_length fs l 0 hl.ok)
  rw [if_neg (by decide)] at hf
  have hse := rsealed_ac fs salt m k2 n x2 ha2 hx2 hk2 hs hm h1 h2
  have hso := sealS_ok (ks := fs) (n := n) hs hm
  generalize sealS fs salt n m = s at hse hso ⊢
  have hT2 := (hl.set (i := i) hso).ty
  have hset : (l.map slotD).set i (slotD s) = (l.set i s).map slotD := List.map_set.symm
  have hT3 : hasTy tTab (.node ((l.map slotD).set i (slotD s))) := by rw [hset]; exact hT2
  obtain ⟨u, t, sa, se, ch⟩ := s
  obtain ⟨hsa, hse2, hch⟩ := hso
  have hsa : sa.length = 16 := hsa
  have hse2 : se.length = 32 := hse2
  have hch : ch.length = 32 := hch
  refine acA tab mix Tryd.func53 {} ?_
  refine EffG.mk (And.intro hT ?_)
  repeat first | refine EffG.mk (obA ?_) | refine obA ?_ | refine chkA ?_
  refine callA hop [0] ?_ (hargs := by simp only [D.rens, ren_slD, ren_tab]; rfl)
  repeat first | refine EffG.mk (obA ?_) | refine obA ?_ | refine chkA ?_ | refine brY ?_ | refine brN ?_
  refine callA hf [1] ?_ (hargs := by simp only [D.rens, ren_slD, ren_tab]; rfl)
  repeat first | refine EffG.mk (obA ?_) | refine obA ?_ | refine chkA ?_ | refine brY ?_ | refine brN ?_
  refine callA hse [1] ?_ (hargs := by simp only [D.rens, ren_slD, ren_tab]; rfl)
  repeat first | refine EffG.mk (obA ?_) | refine obA ?_ | refine chkA ?_
  refine EffG.mk (And.intro ⟨trivial, hT3⟩ ?_)
  repeat first | refine EffG.mk (obA ?_) | refine obA ?_ | refine chkA ?_
  refine retA [0, 1] (h1 := ?_)
  show retIs (.tup [(tabD (l.set i ⟨u, t, sa, se, ch⟩)).ren _, .i64 0]) [.node ((l.map slotD).set i (slotD ⟨u, t, sa, se, ch⟩)), .i64 0]
  rw [ren_tab, hset]
  first | rfl | exact ⟨rfl, rfl⟩ | exact rfl
end Go.Proofs.YtodkhgofmgaafaaDoor.Av

namespace Go.Proofs.YtodkhgofmgaafaaDoor.Av
open Go
set_option linter.all false
set_option maxRecDepth 3000

theorem nat_of {n : Int} (h : ¬ (n < 1 ∨ 4096 < n)) : ∃ m : Nat, n = m ∧ 1 ≤ m ∧ m ≤ 4096 := ⟨n.toNat, by omega, by omega, by omega⟩
theorem op_of {ks : List (BitVec 8)} {l : List Slot} {e : Int} (h : (opR ks l 0).2.2 = e) : opR ks l 0 = ((opR ks l 0).1, (opR ks l 0).2.1, e) := by rw [← h]
theorem add_both (ks : List (BitVec 8)) (l : List Slot) (salt master : List (BitVec 8)) (k : Nat) (n : Int) (x : Option Nat) (ha : ks.length = k) (hx : x = none → k = 0) (hl : TabS l) (hs : salt.length = 16) (hm : master.length = 32) :
    ∃ (t : List Slot) (e : Int), TabS t ∧ AC Tryd.prog 18 [tabD l, slD 0 k x, .u8s salt, .i64 n, .u8s master] 1 [(0, some ⟨.row .cell, .u8s ks, false⟩), gR] ⟨.tup [tabD t, .i64 e], [], []⟩ ∧
      AC Tryd.prog 54 [tabD l, slD 0 k x, .u8s salt, .i64 n, .u8s master] 1 (pMem ks) ⟨.tup [tabD t, .i64 e], [], []⟩ := by
  by_cases hb : 512 < k ∨ n < 1 ∨ 4096 < n
  · exact ⟨tab0, _, tab0_ok, sadd_bad2_ac ks l salt master k n x ha hx hl hs hm hb, radd_bad_ac ks l salt master k x ha hx hl hs hm n hb⟩
  · have hk : k ≤ 512 := by omega
    obtain ⟨n, rfl, h1, h2⟩ := nat_of (n := n) (by omega)
    rcases opR_err ks l 0 with h0 | h0
    · exact ⟨tab0, 23, tab0_ok, sadd_there_ac ks l salt master k n x ha hx hk hl hs hm h1 h2 h0, radd_there_ac ks l salt master k x ha hx hl hs hm n hk h1 h2 h0⟩
    · have hr := radd_ac ks l salt master k x ha hx hl hs hm n hk h1 h2 h0
      rcases freeI_spec l 0 with hf | ⟨j, hf, hj⟩
      · rw [if_pos hf, if_pos hf] at hr
        exact ⟨tab0, 32, tab0_ok, sadd_full_ac ks l salt master k n x ha hx hk hl hs hm h1 h2 h0 hf, hr⟩
      · have hf : freeI l 0 = (j : Int) := by rw [hf]; congr 1; omega
        rw [if_neg (by omega), if_neg (by omega), hf] at hr
        exact ⟨_, 0, hl.set (i := j) (sealS_ok (ks := ks) (n := n) hs hm), sadd_ac ks l salt master k n j x ha hx hk hl hs hm h1 h2 h0 hf (by rw [hl.len] at hj; exact hj), hr⟩
theorem rem_both (ks : List (BitVec 8)) (l : List Slot) (k : Nat) (x : Option Nat) (ha : ks.length = k) (hx : x = none → k = 0) (hl : TabS l) :
    ∃ (t : List Slot) (e : Int), TabS t ∧ AC Tryd.prog 21 [tabD l, slD 0 k x] 1 [(0, some ⟨.row .cell, .u8s ks, false⟩), gR] ⟨.tup [tabD t, .i64 e], [], []⟩ ∧
      AC Tryd.prog 51 [tabD l, slD 0 k x] 1 (pMem ks) ⟨.tup [tabD t, .i64 e], [], []⟩ := by
  by_cases hk : 512 < k
  · exact ⟨tab0, 5, tab0_ok, srem_long_ac ks l k x ha hx hl hk, rrem_long_ac ks l k x ha hx hl hk⟩
  · have hk : k ≤ 512 := by omega
    have hm := opR_length ks l 0 hl.ok
    rcases opR_err ks l 0 with h0 | h0
    · have hi := opR_idx ks l 0 h0
      rw [hl.len] at hi
      by_cases hu : usedN l = 1
      · exact ⟨tab0, 31, tab0_ok, srem_last_ac ks l k x ha hx hl _ _ hm hk (op_of h0) hu, rrem_last_ac ks l k x ha hx hl _ _ hm hk (op_of h0) hu⟩
      · exact ⟨_, 0, hl.set slot0_ok, srem_ac ks l k x ha hx hl _ _ hm (by omega) hk (op_of h0) hu, rrem_ac ks l k x ha hx hl _ _ hm (by omega) hk (op_of h0) hu⟩
    · exact ⟨tab0, 30, tab0_ok, srem_err_ac ks l k x ha hx hl _ _ hm hk (op_of h0), rrem_err_ac ks l k x ha hx hl _ _ hm hk (op_of h0)⟩
theorem rot_both (ks fs : List (BitVec 8)) (l : List Slot) (salt : List (BitVec 8)) (k k2 : Nat) (n : Int) (x x2 : Option Nat) (ha : ks.length = k) (hx : x = none → k = 0) (ha2 : fs.length = k2) (hx2 : x2 = none → k2 = 0) (hl : TabS l) (hs : salt.length = 16) :
    ∃ (t : List Slot) (e : Int), TabS t ∧ AC Tryd.prog 19 [tabD l, slD 0 k x, slD 1 k2 x2, .u8s salt, .i64 n] 2 [(0, some ⟨.row .cell, .u8s ks, false⟩), (1, some ⟨.row .cell, .u8s fs, false⟩), gR] ⟨.tup [tabD t, .i64 e], [], []⟩ ∧
      AC Tryd.prog 53 [tabD l, slD 0 k x, slD 1 k2 x2, .u8s salt, .i64 n] 2 ((0, some ⟨.row .cell, .u8s ks, false⟩) :: (1, some ⟨.row .cell, .u8s fs, false⟩) :: gBK) ⟨.tup [tabD t, .i64 e], [], []⟩ := by
  by_cases hk : 512 < k
  · exact ⟨tab0, 5, tab0_ok, srot_long_ac ks fs l salt k k2 x x2 ha hx ha2 hx2 hl hs n hk, rrot_long_ac ks fs l salt k k2 x x2 ha hx ha2 hx2 hl hs n hk⟩
  · have hk : k ≤ 512 := by omega
    have hm := opR_length ks l 0 hl.ok
    rcases opR_err ks l 0 with h0 | h0
    · have hi := opR_idx ks l 0 h0
      rw [hl.len] at hi
      by_cases hb : 512 < k2 ∨ n < 1 ∨ 4096 < n
      · exact ⟨tab0, _, tab0_ok, srot_bad_ac ks fs l salt k k2 x x2 ha hx ha2 hx2 hl hs n _ _ hm hk (op_of h0) hb, rrot_bad_ac ks fs l salt k k2 x x2 ha hx ha2 hx2 hl hs n _ _ hm hk (op_of h0) hb⟩
      · have hk2 : k2 ≤ 512 := by omega
        obtain ⟨n, rfl, h1, h2⟩ := nat_of (n := n) (by omega)
        rcases opR_err fs l 0 with h3 | h3
        · exact ⟨tab0, 23, tab0_ok, srot_there_ac ks fs l salt k k2 x x2 ha hx ha2 hx2 hl hs n _ _ hm hk (op_of h0) hk2 h1 h2 h3, rrot_there_ac ks fs l salt k k2 x x2 ha hx ha2 hx2 hl hs n _ _ hm hk (op_of h0) hk2 h1 h2 h3⟩
        · exact ⟨_, 0, hl.set (sealS_ok (ks := fs) (n := n) hs hm), srot_ac ks fs l salt k k2 x x2 ha hx ha2 hx2 hl hs n _ _ hm (by omega) hk (op_of h0) hk2 h1 h2 h3, rrot_ac ks fs l salt k k2 x x2 ha hx ha2 hx2 hl hs n _ _ hm (by omega) hk (op_of h0) hk2 h1 h2 h3⟩
    · exact ⟨tab0, 30, tab0_ok, srot_err_ac ks fs l salt k k2 x x2 ha hx ha2 hx2 hl hs n _ _ hm hk (op_of h0), rrot_err_ac ks fs l salt k k2 x x2 ha hx ha2 hx2 hl hs n _ _ hm hk (op_of h0)⟩

/-! an act -/
abbrev tAct : Ty := .st [.cell, .cell, .cell, .arr 16 .cell, .cell]
abbrev actD (kd : BitVec 8) (k k2 : Nat) (x x2 : Option Nat) (salt : List (BitVec 8)) (n : Int) : D := .node [.u8 kd, slD 0 k x, slD 1 k2 x2, .u8s salt, .i64 n]
def tuF (n : Int) : Int := if n < 1 ∨ 4096 < n then n else 1 + Int.tmod n 8
theorem cell_slD (i k : Nat) (x : Option Nat) : (slD i k x).isCell = true := by cases x <;> rfl
theorem act_ty {kd : BitVec 8} {k k2 : Nat} {x x2 : Option Nat} {salt : List (BitVec 8)} {n : Int} (hs : salt.length = 16) : hasTy tAct (actD kd k k2 x x2 salt n) := ⟨rfl, cell_slD _ _ _, cell_slD _ _ _, hs, rfl, trivial⟩
theorem turns_ac (kd : BitVec 8) (k k2 : Nat) (x x2 : Option Nat) (salt : List (BitVec 8)) (n : Int) (hs : salt.length = 16) : AC Tryd.prog 52 [actD kd k k2 x x2 salt n] 2 [] ⟨.i64 (tuF n), [], []⟩ := by
  have hT := act_ty (kd := kd) (k := k) (k2 := k2) (x := x) (x2 := x2) (n := n) hs
  by_cases h : n < 1 ∨ 4096 < n
  · have e : tuF n = n := if_pos h
    rw [e]
    by_cases h1 : n < 1
    · refine acA tab mix Tryd.func52 {} ?_
      refine EffG.mk (And.intro hT ?_)
      repeat first | refine EffG.mk (obA ?_) | refine obA ?_ | refine chkA ?_ | refine brY ?_ | refine brN ?_
      refine retA [0, 1]
    · refine acA tab mix Tryd.func52 {} ?_
      refine EffG.mk (And.intro hT ?_)
      repeat first | refine EffG.mk (obA ?_) | refine obA ?_ | refine chkA ?_ | refine brY ?_ | refine brN ?_
      refine retA [0, 1]
  · have e : tuF n = 1 + Int.tmod n 8 := if_neg h
    rw [e]
    have hm1 : Int.tmod n 8 = n % 8 := Int.tmod_eq_emod_of_nonneg (by omega)
    refine acA tab mix Tryd.func52 {} ?_
    refine EffG.mk (And.intro hT ?_)
    repeat first | refine EffG.mk (obA ?_) | refine obA ?_ | refine chkA ?_ | refine brY ?_ | refine brN ?_
    refine retA [0, 1]
end Go.Proofs.YtodkhgofmgaafaaDoor.Av

namespace Go.Proofs.YtodkhgofmgaafaaDoor.Av
open Go
set_option linter.all false
set_option maxRecDepth 3000

set_option maxHeartbeats 4000000 in
theorem do_rem_ac (ks fs : List (BitVec 8)) (l : List Slot) (salt master : List (BitVec 8)) (kd : BitVec 8) (k k2 : Nat) (n : Int) (x x2 : Option Nat) (ha : ks.length = k) (hx : x = none → k = 0) (ha2 : fs.length = k2) (hx2 : x2 = none → k2 = 0) (hl : TabS l) (hs : salt.length = 16) (hm : master.length = 32) (hk : kd % 4 = 2) :
    ∃ (t : List Slot) (e : Int), TabS t ∧ AC Tryd.prog 17 [tabD l, tabD l, actD kd k k2 x x2 salt n, .u8s master] 2 ((0, some ⟨.row .cell, .u8s ks, false⟩) :: (1, some ⟨.row .cell, .u8s fs, false⟩) :: gRBK)
      ⟨.tup [tabD t, tabD t, .i64 e, .bool true], [], []⟩ := by
  obtain ⟨t, e, ht, hc1, hc2⟩ := rem_both ks l k x ha hx hl
  have hT := hl.ty
  have hTt := ht.ty
  have hTa := act_ty (kd := kd) (k := k) (k2 := k2) (x := x) (x2 := x2) (n := n) hs
  have hfit := tab_fit ht
  have hsame := tab_same ht ht
  have hq : (tabD t).eqb (tabD t) = true := by rw [tab_eqb]; exact decide_eq_true rfl
  have hturn := turns_ac kd k k2 x x2 salt n hs
  generalize tuF n = tn at hturn hc1 hc2
  by_cases he : e = 0
  · subst he
    refine ⟨t, 0, ht, ?_⟩
    cases x <;> cases x2
    all_goals
      refine acA tab mix Tryd.func17 {} ?_
      refine EffG.mk (And.intro hT ?_)
      refine EffG.mk (And.intro hT ?_)
      refine EffG.mk (And.intro hTa ?_)
      repeat first | refine EffG.mk (obA ?_) | refine obA ?_ | refine chkA ?_
      refine brY ?_ (h := decide_eq_true hk)
      repeat first | refine EffG.mk (obA ?_) | refine obA ?_ | refine chkA ?_
      refine callT hc1 [0] (.tup [tabD t, .i64 0]) ?_ (hargs := by simp only [D.rens, ren_slD, ren_tab]; rfl)
      repeat first | refine EffG.mk (obA ?_) | refine obA ?_ | refine chkA ?_
      refine EffG.mk (And.intro ⟨trivial, hTt⟩ ?_)
      repeat first | refine EffG.mk (obA ?_) | refine obA ?_ | refine chkA ?_
      refine callT hc2 [0] (.tup [tabD t, .i64 0]) ?_ (hargs := by simp only [D.rens, ren_slD, ren_tab]; rfl)
      repeat first | refine EffG.mk (obA ?_) | refine obA ?_ | refine chkA ?_
      refine EffG.mk (And.intro ⟨trivial, hTt⟩ ?_)
      repeat first | refine EffG.mk (obA ?_) | refine obA ?_ | refine chkA ?_
      repeat first | refine EffG.mk (obA ?_) | refine obA ?_ | refine chkA ?_
      refine EffG.mk (And.intro ⟨hfit, hfit, hsame⟩ ?_)
      rw [hq]
      repeat first | refine EffG.mk (obA ?_) | refine obA ?_ | refine chkA ?_ | refine brY ?_ | refine brN ?_
      refine EffG.mk (And.intro ⟨trivial, hTt⟩ ?_)
      repeat first | refine EffG.mk (obA ?_) | refine obA ?_ | refine chkA ?_
      refine EffG.mk (And.intro ⟨trivial, hTt⟩ ?_)
      repeat first | refine EffG.mk (obA ?_) | refine obA ?_ | refine chkA ?_
      refine retA [0, 1] (h1 := ?_)
      refine And.intro rfl ?_
      show D.tup [tabD t, tabD t, .i64 0, .bool _] = D.tup [(tabD t).ren _, (tabD t).ren _, .i64 0, .bool true]
      rw [ren_tab]
      first | rfl | exact congrArg (fun b => D.tup [_, _, _, .bool b]) (decide_eq_true rfl) | exact congrArg (fun b => D.tup [_, _, _, .bool b]) (decide_eq_true trivial)
  · refine ⟨l, e, hl, ?_⟩
    have hen : (!decide (e = 0)) = true := by rw [decide_eq_false he]; rfl
    cases x <;> cases x2
    all_goals
      refine acA tab mix Tryd.func17 {} ?_
      refine EffG.mk (And.intro hT ?_)
      refine EffG.mk (And.intro hT ?_)
      refine EffG.mk (And.intro hTa ?_)
      repeat first | refine EffG.mk (obA ?_) | refine obA ?_ | refine chkA ?_
      refine brY ?_ (h := decide_eq_true hk)
      repeat first | refine EffG.mk (obA ?_) | refine obA ?_ | refine chkA ?_
      refine callT hc1 [0] (.tup [tabD t, .i64 e]) ?_ (hargs := by simp only [D.rens, ren_slD, ren_tab]; rfl)
      repeat first | refine EffG.mk (obA ?_) | refine obA ?_ | refine chkA ?_
      refine EffG.mk (And.intro ⟨trivial, hTt⟩ ?_)
      repeat first | refine EffG.mk (obA ?_) | refine obA ?_ | refine chkA ?_
      refine callT hc2 [0] (.tup [tabD t, .i64 e]) ?_ (hargs := by simp only [D.rens, ren_slD, ren_tab]; rfl)
      repeat first | refine EffG.mk (obA ?_) | refine obA ?_ | refine chkA ?_
      refine EffG.mk (And.intro ⟨trivial, hTt⟩ ?_)
      repeat first | refine EffG.mk (obA ?_) | refine obA ?_ | refine chkA ?_
      repeat first | refine EffG.mk (obA ?_) | refine obA ?_ | refine chkA ?_
      refine EffG.mk (And.intro ⟨hfit, hfit, hsame⟩ ?_)
      rw [hq]
      repeat first | refine EffG.mk (obA ?_) | refine obA ?_ | refine chkA ?_ | refine brY ?_ | refine brN ?_
      refine brY ?_ (h := hen)
      repeat first | refine EffG.mk (obA ?_) | refine obA ?_ | refine chkA ?_ | refine brY ?_ | refine brN ?_
      refine EffG.mk (And.intro ⟨trivial, hT⟩ ?_)
      repeat first | refine EffG.mk (obA ?_) | refine obA ?_ | refine chkA ?_
      refine EffG.mk (And.intro ⟨trivial, hT⟩ ?_)
      repeat first | refine EffG.mk (obA ?_) | refine obA ?_ | refine chkA ?_
      refine retA [0, 1] (h1 := ?_)
      refine And.intro rfl ?_
      show D.tup [tabD l, tabD l, .i64 e, .bool _] = D.tup [(tabD l).ren _, (tabD l).ren _, .i64 e, .bool true]
      rw [ren_tab]
      first | rfl | exact congrArg (fun b => D.tup [_, _, _, .bool b]) (decide_eq_true rfl) | exact congrArg (fun b => D.tup [_, _, _, .bool b]) (decide_eq_true trivial)
set_option maxHeartbeats 4000000 in
theorem do_rot_ac (ks fs : List (BitVec 8)) (l : List Slot) (salt master : List (BitVec 8)) (kd : BitVec 8) (k k2 : Nat) (n : Int) (x x2 : Option Nat) (ha : ks.length = k) (hx : x = none → k = 0) (ha2 : fs.length = k2) (hx2 : x2 = none → k2 = 0) (hl : TabS l) (hs : salt.length = 16) (hm : master.length = 32) (hk : kd % 4 = 3) :
    ∃ (t : List Slot) (e : Int), TabS t ∧ AC Tryd.prog 17 [tabD l, tabD l, actD kd k k2 x x2 salt n, .u8s master] 2 ((0, some ⟨.row .cell, .u8s ks, false⟩) :: (1, some ⟨.row .cell, .u8s fs, false⟩) :: gRBK)
      ⟨.tup [tabD t, tabD t, .i64 e, .bool true], [], []⟩ := by
  obtain ⟨t, e, ht, hc1, hc2⟩ := rot_both ks fs l salt k k2 (tuF n) x x2 ha hx ha2 hx2 hl hs
  have hT := hl.ty
  have hTt := ht.ty
  have hTa := act_ty (kd := kd) (k := k) (k2 := k2) (x := x) (x2 := x2) (n := n) hs
  have hfit := tab_fit ht
  have hsame := tab_same ht ht
  have hq : (tabD t).eqb (tabD t) = true := by rw [tab_eqb]; exact decide_eq_true rfl
  have hturn := turns_ac kd k k2 x x2 salt n hs
  generalize tuF n = tn at hturn hc1 hc2
  by_cases he : e = 0
  · subst he
    refine ⟨t, 0, ht, ?_⟩
    cases x <;> cases x2
    all_goals
      refine acA tab mix Tryd.func17 {} ?_
      refine EffG.mk (And.intro hT ?_)
      refine EffG.mk (And.intro hT ?_)
      refine EffG.mk (And.intro hTa ?_)
      repeat first | refine EffG.mk (obA ?_) | refine obA ?_ | refine chkA ?_
      refine brN ?_ (h := decide_eq_false (show ¬ kd % 4 = 2 from by rw [hk]; decide))
      repeat first | refine EffG.mk (obA ?_) | refine obA ?_ | refine chkA ?_
      refine brY ?_ (h := decide_eq_true hk)
      repeat first | refine EffG.mk (obA ?_) | refine obA ?_ | refine chkA ?_
      refine callA hturn [0, 1] ?_
      repeat first | refine EffG.mk (obA ?_) | refine obA ?_ | refine chkA ?_
      refine callT hc1 [0, 1] (.tup [tabD t, .i64 0]) ?_ (hargs := by simp only [D.rens, ren_slD, ren_tab]; rfl)
      repeat first | refine EffG.mk (obA ?_) | refine obA ?_ | refine chkA ?_
      refine EffG.mk (And.intro ⟨trivial, hTt⟩ ?_)
      repeat first | refine EffG.mk (obA ?_) | refine obA ?_ | refine chkA ?_
      refine callA hturn [0, 1] ?_
      repeat first | refine EffG.mk (obA ?_) | refine obA ?_ | refine chkA ?_
      refine callT hc2 [0, 1] (.tup [tabD t, .i64 0]) ?_ (hargs := by simp only [D.rens, ren_slD, ren_tab]; rfl)
      repeat first | refine EffG.mk (obA ?_) | refine obA ?_ | refine chkA ?_
      refine EffG.mk (And.intro ⟨trivial, hTt⟩ ?_)
      repeat first | refine EffG.mk (obA ?_) | refine obA ?_ | refine chkA ?_
      repeat first | refine EffG.mk (obA ?_) | refine obA ?_ | refine chkA ?_
      refine EffG.mk (And.intro ⟨hfit, hfit, hsame⟩ ?_)
      rw [hq]
      repeat first | refine EffG.mk (obA ?_) | refine obA ?_ | refine chkA ?_ | refine brY ?_ | refine brN ?_
      refine EffG.mk (And.intro ⟨trivial, hTt⟩ ?_)
      repeat first | refine EffG.mk (obA ?_) | refine obA ?_ | refine chkA ?_
      refine EffG.mk (And.intro ⟨trivial, hTt⟩ ?_)
      repeat first | refine EffG.mk (obA ?_) | refine obA ?_ | refine chkA ?_
      refine retA [0, 1] (h1 := ?_)
      refine And.intro rfl ?_
      show D.tup [tabD t, tabD t, .i64 0, .bool _] = D.tup [(tabD t).ren _, (tabD t).ren _, .i64 0, .bool true]
      rw [ren_tab]
      first | rfl | exact congrArg (fun b => D.tup [_, _, _, .bool b]) (decide_eq_true rfl) | exact congrArg (fun b => D.tup [_, _, _, .bool b]) (decide_eq_true trivial)
  · refine ⟨l, e, hl, ?_⟩
    have hen : (!decide (e = 0)) = true := by rw [decide_eq_false he]; rfl
    cases x <;> cases x2
    all_goals
      refine acA tab mix Tryd.func17 {} ?_
      refine EffG.mk (And.intro hT ?_)
      refine EffG.mk (And.intro hT ?_)
      refine EffG.mk (And.intro hTa ?_)
      repeat first | refine EffG.mk (obA ?_) | refine obA ?_ | refine chkA ?_
      refine brN ?_ (h := decide_eq_false (show ¬ kd % 4 = 2 from by rw [hk]; decide))
      repeat first | refine EffG.mk (obA ?_) | refine obA ?_ | refine chkA ?_
      refine brY ?_ (h := decide_eq_true hk)
      repeat first | refine EffG.mk (obA ?_) | refine obA ?_ | refine chkA ?_
      refine callA hturn [0, 1] ?_
      repeat first | refine EffG.mk (obA ?_) | refine obA ?_ | refine chkA ?_
      refine callT hc1 [0, 1] (.tup [tabD t, .i64 e]) ?_ (hargs := by simp only [D.rens, ren_slD, ren_tab]; rfl)
      repeat first | refine EffG.mk (obA ?_) | refine obA ?_ | refine chkA ?_
      refine EffG.mk (And.intro ⟨trivial, hTt⟩ ?_)
      repeat first | refine EffG.mk (obA ?_) | refine obA ?_ | refine chkA ?_
      refine callA hturn [0, 1] ?_
      repeat first | refine EffG.mk (obA ?_) | refine obA ?_ | refine chkA ?_
      refine callT hc2 [0, 1] (.tup [tabD t, .i64 e]) ?_ (hargs := by simp only [D.rens, ren_slD, ren_tab]; rfl)
      repeat first | refine EffG.mk (obA ?_) | refine obA ?_ | refine chkA ?_
      refine EffG.mk (And.intro ⟨trivial, hTt⟩ ?_)
      repeat first | refine EffG.mk (obA ?_) | refine obA ?_ | refine chkA ?_
      repeat first | refine EffG.mk (obA ?_) | refine obA ?_ | refine chkA ?_
      refine EffG.mk (And.intro ⟨hfit, hfit, hsame⟩ ?_)
      rw [hq]
      repeat first | refine EffG.mk (obA ?_) | refine obA ?_ | refine chkA ?_ | refine brY ?_ | refine brN ?_
      refine brY ?_ (h := hen)
      repeat first | refine EffG.mk (obA ?_) | refine obA ?_ | refine chkA ?_ | refine brY ?_ | refine brN ?_
      refine EffG.mk (And.intro ⟨trivial, hT⟩ ?_)
      repeat first | refine EffG.mk (obA ?_) | refine obA ?_ | refine chkA ?_
      refine EffG.mk (And.intro ⟨trivial, hT⟩ ?_)
      repeat first | refine EffG.mk (obA ?_) | refine obA ?_ | refine chkA ?_
      refine retA [0, 1] (h1 := ?_)
      refine And.intro rfl ?_
      show D.tup [tabD l, tabD l, .i64 e, .bool _] = D.tup [(tabD l).ren _, (tabD l).ren _, .i64 e, .bool true]
      rw [ren_tab]
      first | rfl | exact congrArg (fun b => D.tup [_, _, _, .bool b]) (decide_eq_true rfl) | exact congrArg (fun b => D.tup [_, _, _, .bool b]) (decide_eq_true trivial)
set_option maxHeartbeats 4000000 in
theorem do_add_ac (ks fs : List (BitVec 8)) (l : List Slot) (salt master : List (BitVec 8)) (kd : BitVec 8) (k k2 : Nat) (n : Int) (x x2 : Option Nat) (ha : ks.length = k) (hx : x = none → k = 0) (ha2 : fs.length = k2) (hx2 : x2 = none → k2 = 0) (hl : TabS l) (hs : salt.length = 16) (hm : master.length = 32) (hk : kd % 4 ≠ 2) (hk3 : kd % 4 ≠ 3) :
    ∃ (t : List Slot) (e : Int), TabS t ∧ AC Tryd.prog 17 [tabD l, tabD l, actD kd k k2 x x2 salt n, .u8s master] 2 ((0, some ⟨.row .cell, .u8s ks, false⟩) :: (1, some ⟨.row .cell, .u8s fs, false⟩) :: gRBK)
      ⟨.tup [tabD t, tabD t, .i64 e, .bool true], [], []⟩ := by
  obtain ⟨t, e, ht, hc1, hc2⟩ := add_both ks l salt master k (tuF n) x ha hx hl hs hm
  have hT := hl.ty
  have hTt := ht.ty
  have hTa := act_ty (kd := kd) (k := k) (k2 := k2) (x := x) (x2 := x2) (n := n) hs
  have hfit := tab_fit ht
  have hsame := tab_same ht ht
  have hq : (tabD t).eqb (tabD t) = true := by rw [tab_eqb]; exact decide_eq_true rfl
  have hturn := turns_ac kd k k2 x x2 salt n hs
  generalize tuF n = tn at hturn hc1 hc2
  by_cases he : e = 0
  · subst he
    refine ⟨t, 0, ht, ?_⟩
    cases x <;> cases x2
    all_goals
      refine acA tab mix Tryd.func17 {} ?_
      refine EffG.mk (And.intro hT ?_)
      refine EffG.mk (And.intro hT ?_)
      refine EffG.mk (And.intro hTa ?_)
      repeat first | refine EffG.mk (obA ?_) | refine obA ?_ | refine chkA ?_
      refine brN ?_ (h := decide_eq_false hk)
      repeat first | refine EffG.mk (obA ?_) | refine obA ?_ | refine chkA ?_
      refine brN ?_ (h := decide_eq_false hk3)
      repeat first | refine EffG.mk (obA ?_) | refine obA ?_ | refine chkA ?_
      refine callA hturn [0, 1] ?_
      repeat first | refine EffG.mk (obA ?_) | refine obA ?_ | refine chkA ?_
      refine callT hc1 [0] (.tup [tabD t, .i64 0]) ?_ (hargs := by simp only [D.rens, ren_slD, ren_tab]; rfl)
      repeat first | refine EffG.mk (obA ?_) | refine obA ?_ | refine chkA ?_
      refine EffG.mk (And.intro ⟨trivial, hTt⟩ ?_)
      repeat first | refine EffG.mk (obA ?_) | refine obA ?_ | refine chkA ?_
      refine callA hturn [0, 1] ?_
      repeat first | refine EffG.mk (obA ?_) | refine obA ?_ | refine chkA ?_
      refine callT hc2 [0] (.tup [tabD t, .i64 0]) ?_ (hargs := by simp only [D.rens, ren_slD, ren_tab]; rfl)
      repeat first | refine EffG.mk (obA ?_) | refine obA ?_ | refine chkA ?_
      refine EffG.mk (And.intro ⟨trivial, hTt⟩ ?_)
      repeat first | refine EffG.mk (obA ?_) | refine obA ?_ | refine chkA ?_
      repeat first | refine EffG.mk (obA ?_) | refine obA ?_ | refine chkA ?_
      refine EffG.mk (And.intro ⟨hfit, hfit, hsame⟩ ?_)
      rw [hq]
      repeat first | refine EffG.mk (obA ?_) | refine obA ?_ | refine chkA ?_ | refine brY ?_ | refine brN ?_
      refine EffG.mk (And.intro ⟨trivial, hTt⟩ ?_)
      repeat first | refine EffG.mk (obA ?_) | refine obA ?_ | refine chkA ?_
      refine EffG.mk (And.intro ⟨trivial, hTt⟩ ?_)
      repeat first | refine EffG.mk (obA ?_) | refine obA ?_ | refine chkA ?_
      refine retA [0, 1] (h1 := ?_)
      refine And.intro rfl ?_
      show D.tup [tabD t, tabD t, .i64 0, .bool _] = D.tup [(tabD t).ren _, (tabD t).ren _, .i64 0, .bool true]
      rw [ren_tab]
      first | rfl | exact congrArg (fun b => D.tup [_, _, _, .bool b]) (decide_eq_true rfl) | exact congrArg (fun b => D.tup [_, _, _, .bool b]) (decide_eq_true trivial)
  · refine ⟨l, e, hl, ?_⟩
    have hen : (!decide (e = 0)) = true := by rw [decide_eq_false he]; rfl
    cases x <;> cases x2
    all_goals
      refine acA tab mix Tryd.func17 {} ?_
      refine EffG.mk (And.intro hT ?_)
      refine EffG.mk (And.intro hT ?_)
      refine EffG.mk (And.intro hTa ?_)
      repeat first | refine EffG.mk (obA ?_) | refine obA ?_ | refine chkA ?_
      refine brN ?_ (h := decide_eq_false hk)
      repeat first | refine EffG.mk (obA ?_) | refine obA ?_ | refine chkA ?_
      refine brN ?_ (h := decide_eq_false hk3)
      repeat first | refine EffG.mk (obA ?_) | refine obA ?_ | refine chkA ?_
      refine callA hturn [0, 1] ?_
      repeat first | refine EffG.mk (obA ?_) | refine obA ?_ | refine chkA ?_
      refine callT hc1 [0] (.tup [tabD t, .i64 e]) ?_ (hargs := by simp only [D.rens, ren_slD, ren_tab]; rfl)
      repeat first | refine EffG.mk (obA ?_) | refine obA ?_ | refine chkA ?_
      refine EffG.mk (And.intro ⟨trivial, hTt⟩ ?_)
      repeat first | refine EffG.mk (obA ?_) | refine obA ?_ | refine chkA ?_
      refine callA hturn [0, 1] ?_
      repeat first | refine EffG.mk (obA ?_) | refine obA ?_ | refine chkA ?_
      refine callT hc2 [0] (.tup [tabD t, .i64 e]) ?_ (hargs := by simp only [D.rens, ren_slD, ren_tab]; rfl)
      repeat first | refine EffG.mk (obA ?_) | refine obA ?_ | refine chkA ?_
      refine EffG.mk (And.intro ⟨trivial, hTt⟩ ?_)
      repeat first | refine EffG.mk (obA ?_) | refine obA ?_ | refine chkA ?_
      repeat first | refine EffG.mk (obA ?_) | refine obA ?_ | refine chkA ?_
      refine EffG.mk (And.intro ⟨hfit, hfit, hsame⟩ ?_)
      rw [hq]
      repeat first | refine EffG.mk (obA ?_) | refine obA ?_ | refine chkA ?_ | refine brY ?_ | refine brN ?_
      refine brY ?_ (h := hen)
      repeat first | refine EffG.mk (obA ?_) | refine obA ?_ | refine chkA ?_ | refine brY ?_ | refine brN ?_
      refine EffG.mk (And.intro ⟨trivial, hT⟩ ?_)
      repeat first | refine EffG.mk (obA ?_) | refine obA ?_ | refine chkA ?_
      refine EffG.mk (And.intro ⟨trivial, hT⟩ ?_)
      repeat first | refine EffG.mk (obA ?_) | refine obA ?_ | refine chkA ?_
      refine retA [0, 1] (h1 := ?_)
      refine And.intro rfl ?_
      show D.tup [tabD l, tabD l, .i64 e, .bool _] = D.tup [(tabD l).ren _, (tabD l).ren _, .i64 e, .bool true]
      rw [ren_tab]
      first | rfl | exact congrArg (fun b => D.tup [_, _, _, .bool b]) (decide_eq_true rfl) | exact congrArg (fun b => D.tup [_, _, _, .bool b]) (decide_eq_true trivial)
theorem do_ac (ks fs : List (BitVec 8)) (l : List Slot) (salt master : List (BitVec 8)) (kd : BitVec 8) (k k2 : Nat) (n : Int) (x x2 : Option Nat) (ha : ks.length = k) (hx : x = none → k = 0) (ha2 : fs.length = k2) (hx2 : x2 = none → k2 = 0) (hl : TabS l) (hs : salt.length = 16) (hm : master.length = 32) :
    ∃ (t : List Slot) (e : Int), TabS t ∧ AC Tryd.prog 17 [tabD l, tabD l, actD kd k k2 x x2 salt n, .u8s master] 2 ((0, some ⟨.row .cell, .u8s ks, false⟩) :: (1, some ⟨.row .cell, .u8s fs, false⟩) :: gRBK)
      ⟨.tup [tabD t, tabD t, .i64 e, .bool true], [], []⟩ := by
  by_cases h2 : kd % 4 = 2
  · exact do_rem_ac ks fs l salt master kd k k2 n x x2 ha hx ha2 hx2 hl hs hm h2
  · by_cases h3 : kd % 4 = 3
    · exact do_rot_ac ks fs l salt master kd k k2 n x x2 ha hx ha2 hx2 hl hs hm h3
    · exact do_add_ac ks fs l salt master kd k k2 n x x2 ha hx ha2 hx2 hl hs hm h2 h3
end Go.Proofs.YtodkhgofmgaafaaDoor.Av
