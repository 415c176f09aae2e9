import Derived.Test.YtodkhgofmgaafaaDoorM6
import Derived.Test.YtodkhgofmgaafaaDoorM4
import Derived.Test.YtodkhgofmgaafaaDoorM3
import Derived.ProofKit
import Derived.OpenShut
import Derived.Lib.LaidU8
import Derived.Lay
import Derived.MakeChecks
import Derived.ChangeSlices
import Derived.ChangeSame
namespace Go.Proofs.YtodkhgofmgaafaaDoor.Av
open Go
set_option linter.all false
set_option maxRecDepth 3000

/-! the document's wrapped keys -/
abbrev gBK : Mem := [(gid 1, some ⟨t256, .u8s boxL, false⟩), gK]
def rmI (k a b : List (BitVec 8)) : Nat → List (BitVec 8)
  | 0 => k
  | i + 1 => ((rmI k a b i).set i ((rmI k a b i).getD i 0 ^^^ a.getD i 0)).set (16 + (i : Int)).toNat (((rmI k a b i).set i ((rmI k a b i).getD i 0 ^^^ a.getD i 0)).getD (16 + (i : Int)).toNat 0 ^^^ b.getD i 0)
theorem rmI_length (k a b : List (BitVec 8)) : ∀ i, (rmI k a b i).length = k.length
  | 0 => rfl
  | i + 1 => by rw [rmI, List.length_set, List.length_set, rmI_length k a b i]
theorem rmI_at (k a b : List (BitVec 8)) (hk : k.length = 32) : ∀ n, n ≤ 16 → ∀ j, (rmI k a b n).getD j 0 = if j < n then k.getD j 0 ^^^ a.getD j 0 else if 16 ≤ j ∧ j < 16 + n then k.getD j 0 ^^^ b.getD (j - 16) 0 else k.getD j 0
  | 0, _, j => by rw [if_neg (by omega), if_neg (by omega)]; rfl
  | n + 1, hn, j => by
    have hl := rmI_length k a b n
    rw [rmI, show (16 + (n : Int)).toNat = 16 + n by omega, getD_set (by rw [List.length_set]; omega), getD_set (by omega), getD_set (by omega), rmI_at k a b hk n (by omega), rmI_at k a b hk n (by omega), rmI_at k a b hk n (by omega)]
    repeat' split
    all_goals first | (exfalso; omega) | rfl | (subst_vars; first | rfl | (exfalso; omega) | (rw [show 16 + n - 16 = n by omega]))
theorem rm_mask (by_ k : List (BitVec 8)) (hk : k.length = 32) : rmI k (encI (schedF (labF by_ wrapS)) (blkN 0) 14) (encI (schedF (labF by_ wrapS)) (blkN 1) 14) 16 = maskF by_ k := by
  refine eq_getD (by rw [rmI_length, maskF_length]) fun j hj => ?_
  rw [rmI_length, hk] at hj
  rw [rmI_at _ _ _ hk 16 (Nat.le_refl _), maskF_at _ _ hk j hj]
  unfold mkB
  by_cases h : j < 16
  · rw [if_pos h, if_pos h]
  · rw [if_neg h, if_pos (by omega), if_neg h]

theorem rmasked_ac (b k : List (BitVec 8)) (hb : b.length = 32) (hk : k.length = 32) : AC Tryd.prog 93 [.u8s b, .u8s k] 0 gBK ⟨.u8s (maskF b k), [], []⟩ := by
  have e := rm_mask b k hk
  have hl := rlabel_ac b wrapS hb (by decide)
  have hll := labF_length b wrapS
  generalize labF b wrapS = x at e hl hll
  have hr : Rows 15 16 (schedF x) := ⟨schedF_length x, schedF_lens x hll⟩
  have hs := rsch_ac x hll
  rw [rsch_eq x hll] at hs
  generalize schedF x = ks at e hr hs
  have h0 := renc_ac ks (blkN 0) rfl hr
  have h1 := renc_ac ks (blkN 1) rfl hr
  rw [renc_eq] at h0 h1
  have l0 := encI_length ks (blkN 0) rfl 14
  have l1 := encI_length ks (blkN 1) rfl 14
  generalize encI ks (blkN 0) 14 = p at e h0 l0
  generalize encI ks (blkN 1) 14 = q at e h1 l1
  refine acA tab mix Tryd.func93 {} ?_
  repeat first | refine EffG.mk (obA ?_) | refine obA ?_ | refine chkA ?_
  refine callA hl [] ?_
  repeat first | refine EffG.mk (obA ?_) | refine obA ?_ | refine chkA ?_
  refine callR hs [] (.node (ks.map .u8s)) [] rfl rfl ⟨⟨_, rfl, rfl, rfl, id⟩, trivial⟩ rfl rfl (ren_rows _ ks) rfl ?_
  repeat first | refine EffG.mk (obA ?_) | refine obA ?_ | refine chkA ?_
  refine EffG.mk (And.intro ⟨trivial, hr.ty⟩ ?_)
  repeat first | refine EffG.mk (obA ?_) | refine obA ?_ | refine chkA ?_
  refine callA h0 [] ?_ (hargs := congrArg (fun d => [d, D.u8s (blkN 0)]) (ren_rows _ ks).symm)
  repeat first | refine EffG.mk (obA ?_) | refine obA ?_ | refine chkA ?_
  refine callA h1 [] ?_ (hargs := congrArg (fun d => [d, D.u8s (blkN 1)]) (ren_rows _ ks).symm)
  repeat first | refine EffG.mk (obA ?_) | refine obA ?_ | refine chkA ?_
  refine loopG Nat (fun i => [(3, .ptr 1 []), (4, .ptr 2 []), (6, .ptr 3 []), (7, .ptr 4 []), (8, .i64 i)]) (fun i => [(1, some ⟨t32, .u8s (rmI k p q i), true⟩), (2, some ⟨t32, .u8s (List.replicate 32 0), true⟩), (3, some ⟨t16, .u8s p, true⟩), (4, some ⟨t16, .u8s q, true⟩), (gid 1, some ⟨t256, .u8s boxL, false⟩), gK]) 5
    (fun i => i ≤ 16) (fun i => 16 - i) 0 [0, 1, 2, 4, 5] (Nat.zero_le _) viewA ?_
  intro i hi
  have hx := rmI_length k p q i
  rw [hk] at hx
  repeat first | refine EffG.mk (obA ?_) | refine obA ?_ | refine chkA ?_
  refine Br.split (fun h => ?_) (fun h => ?_)
  · have hi : i < 16 := by have := of_decide_eq_true h; omega
    repeat first | refine EffG.mk (obA ?_) | refine obA ?_ | refine chkA ?_
    refine nextA (i + 1) [0, 1, 2, 3, 4] viewA
  · obtain rfl : i = 16 := by have := of_decide_eq_false h; omega
    rw [e] at hx ⊢
    repeat first | refine EffG.mk (obA ?_) | refine obA ?_ | refine chkA ?_
    refine retA []
end Go.Proofs.YtodkhgofmgaafaaDoor.Av

namespace Go.Proofs.YtodkhgofmgaafaaDoor.Av
open Go
set_option linter.all false
set_option maxRecDepth 3000

theorem rcheck_ac (b s : List (BitVec 8)) (hb : b.length = 32) (hs : s.length = 32) : AC Tryd.prog 92 [.u8s b, .u8s s] 0 [gK] ⟨.u8s (chkF b s), [], []⟩ := by
  have e : chkF b s = hmF (labF b checkS) s := rfl
  have hl := rlabel_ac b checkS hb (by decide)
  have hll := labF_length b checkS
  generalize labF b checkS = x at e hl hll
  have ho := rhof_ac x s 0 32 0 32 (some 32) (some 32) (by omega) (by omega) (by decide) (by decide)
  rw [List.drop_zero, List.take_of_length_le (by omega), List.drop_zero, List.take_of_length_le (by omega), ← e] at ho
  have hy := chkF_length b s
  generalize chkF b s = y at ho hy ⊢
  refine acA tab mix Tryd.func92 {} ?_
  repeat first | refine EffG.mk (obA ?_) | refine obA ?_ | refine chkA ?_
  refine callA hl [] ?_
  repeat first | refine EffG.mk (obA ?_) | refine obA ?_ | refine chkA ?_
  refine callA ((ho.arr 0 32).arr 1 32) [3, 1] ?_
  repeat first | refine EffG.mk (obA ?_) | refine obA ?_ | refine chkA ?_
  refine retA []
theorem rseal_ac (b k : List (BitVec 8)) (hb : b.length = 32) (hk : k.length = 32) : AC Tryd.prog 130 [.u8s b, .u8s k] 0 gBK ⟨.tup [.u8s (maskF b k), .u8s (chkF b (maskF b k))], [], []⟩ := by
  have hm := rmasked_ac b k hb hk
  have hy := maskF_length b k
  rw [hk] at hy
  generalize maskF b k = y at hm hy ⊢
  have hc := rcheck_ac b y hb hy
  have hz := chkF_length b y
  generalize chkF b y = z at hc hz ⊢
  refine acA tab mix Tryd.func130 {} ?_
  repeat first | refine EffG.mk (obA ?_) | refine obA ?_ | refine chkA ?_
  refine callA hm [] ?_
  repeat first | refine EffG.mk (obA ?_) | refine obA ?_ | refine chkA ?_
  refine callA hc [] ?_
  repeat first | refine EffG.mk (obA ?_) | refine obA ?_ | refine chkA ?_
  refine retA []
theorem ropen_ac (b s c : List (BitVec 8)) (hb : b.length = 32) (hs : s.length = 32) (hc : c.length = 32) :
    AC Tryd.prog 49 [.u8s b, .u8s s, .u8s c] 0 gBK ⟨.tup [.u8s (if chkF b s = c then maskF b s else List.replicate 32 0), .i64 (if chkF b s = c then 0 else 30)], [], []⟩ := by
  have hm := rmasked_ac b s hb hs
  have hy := maskF_length b s
  rw [hs] at hy
  generalize maskF b s = y at hm hy ⊢
  have hk := rcheck_ac b s hb hs
  have hz := chkF_length b s
  generalize chkF b s = z at hk hz ⊢
  refine acA tab mix Tryd.func49 {} ?_
  repeat first | refine EffG.mk (obA ?_) | refine obA ?_ | refine chkA ?_
  refine callA hk [] ?_
  repeat first | refine EffG.mk (obA ?_) | refine obA ?_ | refine chkA ?_
  by_cases h : z = c
  · rw [if_pos h, if_pos h]
    refine Br.no (neN h) ?_
    repeat first | refine EffG.mk (obA ?_) | refine obA ?_ | refine chkA ?_
    refine callA hm [] ?_
    repeat first | refine EffG.mk (obA ?_) | refine obA ?_ | refine chkA ?_
    refine retA []
  · rw [if_neg h, if_neg h]
    refine Br.yes (neY h) ?_
    repeat first | refine EffG.mk (obA ?_) | refine obA ?_ | refine chkA ?_
    refine retA []

abbrev gRBK : Mem := [gR, (gid 1, some ⟨t256, .u8s boxL, false⟩), gK]
end Go.Proofs.YtodkhgofmgaafaaDoor.Av

namespace Go.Proofs.YtodkhgofmgaafaaDoor.Av
open Go
set_option linter.all false
set_option maxRecDepth 3000

/-! the document's key slots -/
theorem rmay_ac (t : BitVec 16) (sa se ch : List (BitVec 8)) (hs : (⟨true, t, sa, se, ch⟩ : Slot).ok) : AC Tryd.prog 48 [slotD ⟨true, t, sa, se, ch⟩] 0 [] ⟨.bool (decide (1 ≤ t.toNat ∧ t.toNat ≤ 4096)), [], []⟩ := by
  have hT := slot_ty hs
  by_cases h1 : 1 ≤ t.toNat
  · by_cases h2 : t.toNat ≤ 4096
    · rw [decide_eq_true ⟨h1, h2⟩]
      refine acA tab mix Tryd.func48 {} ?_
      refine EffG.mk (And.intro hT ?_)
      repeat first | refine EffG.mk (obA ?_) | refine obA ?_ | refine chkA ?_ | refine brY ?_ | refine brN ?_
      refine brY ?_ (h := decide_eq_true h1)
      repeat first | refine EffG.mk (obA ?_) | refine obA ?_ | refine chkA ?_ | refine brY ?_ | refine brN ?_
      have q2 : decide ((t.toNat : Int) ≤ 4096) = true := decide_eq_true (by omega)
      refine retA [] (h1 := ?_)
      show retIs (.bool true) [.bool (decide ((t.toNat : Int) ≤ 4096))]
      rw [q2]
      first | rfl | exact rfl
    · rw [decide_eq_false (show ¬ (1 ≤ t.toNat ∧ t.toNat ≤ 4096) from fun h => h2 h.2)]
      refine acA tab mix Tryd.func48 {} ?_
      refine EffG.mk (And.intro hT ?_)
      repeat first | refine EffG.mk (obA ?_) | refine obA ?_ | refine chkA ?_ | refine brY ?_ | refine brN ?_
      refine brY ?_ (h := decide_eq_true h1)
      repeat first | refine EffG.mk (obA ?_) | refine obA ?_ | refine chkA ?_ | refine brY ?_ | refine brN ?_
      have q2 : decide ((t.toNat : Int) ≤ 4096) = false := decide_eq_false (by omega)
      refine retA [] (h1 := ?_)
      show retIs (.bool false) [.bool (decide ((t.toNat : Int) ≤ 4096))]
      rw [q2]
      first | rfl | exact rfl
  · rw [decide_eq_false (show ¬ (1 ≤ t.toNat ∧ t.toNat ≤ 4096) from fun h => h1 h.1)]
    refine acA tab mix Tryd.func48 {} ?_
    refine EffG.mk (And.intro hT ?_)
    repeat first | refine EffG.mk (obA ?_) | refine obA ?_ | refine chkA ?_ | refine brY ?_ | refine brN ?_
    refine brN ?_ (h := decide_eq_false h1)
    repeat first | refine EffG.mk (obA ?_) | refine obA ?_ | refine chkA ?_ | refine brY ?_ | refine brN ?_
    refine retA []

theorem rsopen_ac (ks : List (BitVec 8)) (l : List Slot) (k : Nat) (x : Option Nat) (ha : ks.length = k) (hx : x = none → k = 0) (hk : k ≤ 512) (hl : TabS l) :
    AC Tryd.prog 16 [tabD l, slD 0 k x] 1 ((0, some ⟨.row .cell, .u8s ks, false⟩) :: gBK) ⟨.tup [.u8s (opR ks l 0).1, .i64 (opR ks l 0).2.1, .i64 (opR ks l 0).2.2], [], []⟩ := by
  have hT := hl.ty
  have hlen := hl.len
  generalize hR : opR ks l 0 = R
  rcases x with _ | c
  · refine acA tab mix Tryd.func16 {} ?_
    refine EffG.mk (And.intro hT ?_)
    repeat first | refine EffG.mk (obA ?_) | refine obA ?_ | refine chkA ?_ | refine brY ?_ | refine brN ?_ | refine lenS rfl rfl rfl rfl hx rfl rfl ?_
    refine loopG Nat (fun i => [(1, slD 0 k none), (2, .ptr 1 []), (4, .ptr 2 []), (7, .i64 i)]) (fun i => [(0, some ⟨.row .cell, .u8s ks, false⟩), (1, some ⟨tTab, tabD l, true⟩), (2, some ⟨t32, .u8s (List.replicate 32 0), true⟩), (gid 1, some ⟨t256, .u8s boxL, false⟩), gK]) 3
      (fun i => i ≤ 8 ∧ opR ks (l.drop i) i = R) (fun i => 8 - i) 0 [0, 1, 2] ⟨Nat.zero_le _, hR⟩ viewA ?_
    intro i hI
    obtain ⟨hi, hR⟩ := hI
    repeat first | refine EffG.mk (obA ?_) | refine obA ?_ | refine chkA ?_
    refine Br.split (fun h => ?_) (fun h => ?_)
    · have hi : i < 8 := by have := of_decide_eq_true h; omega
      have hs := hl.at hi
      rw [drop_slots (by omega)] at hR
      have hn := nthD_slots (l := l) (i := i) (by omega)
      obtain ⟨⟨u, t, sa, se, ch⟩, he⟩ : ∃ s, l.getD i slot0 = s := ⟨_, rfl⟩
      rw [he] at hs hR hn
      have hsok := hs
      obtain ⟨hsa, hse, hch⟩ := hs
      have hsa : sa.length = 16 := hsa
      have hse : se.length = 32 := hse
      have hch : ch.length = 32 := hch
      have hn : nthD (l.map slotD) (Int.toNat (i : Int)) = slotD ⟨u, t, sa, se, ch⟩ := hn
      repeat first | refine EffG.mk (obA ?_) | refine obA ?_ | refine chkA ?_
      rw [hn]
      cases u with
      | false =>
        rw [opR_cons, hit_free] at hR
        have hR : opR ks (l.drop (i + 1)) (i + 1) = R := hR
        repeat first | refine EffG.mk (obA ?_) | refine obA ?_ | refine chkA ?_ | refine brY ?_ | refine brN ?_
        refine nextA (i + 1) [0, 1, 2] viewA (h1 := ⟨by omega, hR⟩)
      | true =>
        have hmay := rmay_ac t sa se ch hsok
        by_cases ht : 1 ≤ t.toNat ∧ t.toNat ≤ 4096
        · rw [decide_eq_true ht] at hmay
          have hk1 := rkey_ac ks sa k t.toNat none ha hx hk hsa ht.1 ht.2
          have hyl := dkF_length ks sa t.toNat
          have hb := hit_yes (ks := ks) (sa := sa) (se := se) (ch := ch) ht.1 ht.2
          have hop := ropen_ac (dkF ks sa t.toNat) se ch hyl hse hch
          have hR : (if decide (chkF (dkF ks sa t.toNat) se = ch) = true then (maskF (dkF ks sa t.toNat) se, i, 0) else opR ks (l.drop (i + 1)) (i + 1)) = R := by
            rw [opR, hb] at hR; exact hR
          have hml := maskF_length (dkF ks sa t.toNat) se
          generalize dkF ks sa t.toNat = y at hk1 hyl hop hR hml
          generalize maskF y se = z at hop hR hml
          generalize chkF y se = c9 at hop hR
          by_cases hc : c9 = ch
          · rw [if_pos hc, if_pos hc] at hop
            rw [if_pos (decide_eq_true hc)] at hR
            subst hR
            repeat first | refine EffG.mk (obA ?_) | refine obA ?_ | refine chkA ?_ | refine brY ?_ | refine brN ?_
            refine callA hmay [] ?_
            repeat first | refine EffG.mk (obA ?_) | refine obA ?_ | refine chkA ?_ | refine brY ?_ | refine brN ?_
            refine callA hk1 [0] ?_
            repeat first | refine EffG.mk (obA ?_) | refine obA ?_ | refine chkA ?_ | refine brY ?_ | refine brN ?_
            refine callA hop [] ?_
            repeat first | refine EffG.mk (obA ?_) | refine obA ?_ | refine chkA ?_ | refine brY ?_ | refine brN ?_
            refine retA [0]
          · rw [if_neg hc, if_neg hc] at hop
            rw [if_neg (by rw [decide_eq_false hc]; decide)] at hR
            repeat first | refine EffG.mk (obA ?_) | refine obA ?_ | refine chkA ?_ | refine brY ?_ | refine brN ?_
            refine callA hmay [] ?_
            repeat first | refine EffG.mk (obA ?_) | refine obA ?_ | refine chkA ?_ | refine brY ?_ | refine brN ?_
            refine callA hk1 [0] ?_
            repeat first | refine EffG.mk (obA ?_) | refine obA ?_ | refine chkA ?_ | refine brY ?_ | refine brN ?_
            refine callA hop [] ?_
            repeat first | refine EffG.mk (obA ?_) | refine obA ?_ | refine chkA ?_ | refine brY ?_ | refine brN ?_
            refine nextA (i + 1) [0, 1, 2] viewA (h1 := ⟨by omega, hR⟩)
        · rw [decide_eq_false ht] at hmay
          have hb := hit_no (ks := ks) (sa := sa) (se := se) (ch := ch) ht
          have hR : opR ks (l.drop (i + 1)) (i + 1) = R := by
            rw [opR_cons, hb] at hR; exact hR
          repeat first | refine EffG.mk (obA ?_) | refine obA ?_ | refine chkA ?_ | refine brY ?_ | refine brN ?_
          refine callA hmay [] ?_
          repeat first | refine EffG.mk (obA ?_) | refine obA ?_ | refine chkA ?_ | refine brY ?_ | refine brN ?_
          refine nextA (i + 1) [0, 1, 2] viewA (h1 := ⟨by omega, hR⟩)
    · obtain rfl : i = 8 := by have := of_decide_eq_false h; omega
      rw [List.drop_of_length_le (by omega)] at hR
      subst hR
      repeat first | refine EffG.mk (obA ?_) | refine obA ?_ | refine chkA ?_
      refine retA [0]
  · refine acA tab mix Tryd.func16 {} ?_
    refine EffG.mk (And.intro hT ?_)
    repeat first | refine EffG.mk (obA ?_) | refine obA ?_ | refine chkA ?_ | refine brY ?_ | refine brN ?_ | refine lenS rfl rfl rfl rfl hx rfl rfl ?_
    refine loopG Nat (fun i => [(1, slD 0 k (some c)), (2, .ptr 1 []), (4, .ptr 2 []), (7, .i64 i)]) (fun i => [(0, some ⟨.row .cell, .u8s ks, false⟩), (1, some ⟨tTab, tabD l, true⟩), (2, some ⟨t32, .u8s (List.replicate 32 0), true⟩), (gid 1, some ⟨t256, .u8s boxL, false⟩), gK]) 3
      (fun i => i ≤ 8 ∧ opR ks (l.drop i) i = R) (fun i => 8 - i) 0 [0, 1, 2] ⟨Nat.zero_le _, hR⟩ viewA ?_
    intro i hI
    obtain ⟨hi, hR⟩ := hI
    repeat first | refine EffG.mk (obA ?_) | refine obA ?_ | refine chkA ?_
    refine Br.split (fun h => ?_) (fun h => ?_)
    · have hi : i < 8 := by have := of_decide_eq_true h; omega
      have hs := hl.at hi
      rw [drop_slots (by omega)] at hR
      have hn := nthD_slots (l := l) (i := i) (by omega)
      obtain ⟨⟨u, t, sa, se, ch⟩, he⟩ : ∃ s, l.getD i slot0 = s := ⟨_, rfl⟩
      rw [he] at hs hR hn
      have hsok := hs
      obtain ⟨hsa, hse, hch⟩ := hs
      have hsa : sa.length = 16 := hsa
      have hse : se.length = 32 := hse
      have hch : ch.length = 32 := hch
      have hn : nthD (l.map slotD) (Int.toNat (i : Int)) = slotD ⟨u, t, sa, se, ch⟩ := hn
      repeat first | refine EffG.mk (obA ?_) | refine obA ?_ | refine chkA ?_
      rw [hn]
      cases u with
      | false =>
        rw [opR_cons, hit_free] at hR
        have hR : opR ks (l.drop (i + 1)) (i + 1) = R := hR
        repeat first | refine EffG.mk (obA ?_) | refine obA ?_ | refine chkA ?_ | refine brY ?_ | refine brN ?_
        refine nextA (i + 1) [0, 1, 2] viewA (h1 := ⟨by omega, hR⟩)
      | true =>
        have hmay := rmay_ac t sa se ch hsok
        by_cases ht : 1 ≤ t.toNat ∧ t.toNat ≤ 4096
        · rw [decide_eq_true ht] at hmay
          have hk1 := rkey_ac ks sa k t.toNat (some c) ha hx hk hsa ht.1 ht.2
          have hyl := dkF_length ks sa t.toNat
          have hb := hit_yes (ks := ks) (sa := sa) (se := se) (ch := ch) ht.1 ht.2
          have hop := ropen_ac (dkF ks sa t.toNat) se ch hyl hse hch
          have hR : (if decide (chkF (dkF ks sa t.toNat) se = ch) = true then (maskF (dkF ks sa t.toNat) se, i, 0) else opR ks (l.drop (i + 1)) (i + 1)) = R := by
            rw [opR, hb] at hR; exact hR
          have hml := maskF_length (dkF ks sa t.toNat) se
          generalize dkF ks sa t.toNat = y at hk1 hyl hop hR hml
          generalize maskF y se = z at hop hR hml
          generalize chkF y se = c9 at hop hR
          by_cases hc : c9 = ch
          · rw [if_pos hc, if_pos hc] at hop
            rw [if_pos (decide_eq_true hc)] at hR
            subst hR
            repeat first | refine EffG.mk (obA ?_) | refine obA ?_ | refine chkA ?_ | refine brY ?_ | refine brN ?_
            refine callA hmay [] ?_
            repeat first | refine EffG.mk (obA ?_) | refine obA ?_ | refine chkA ?_ | refine brY ?_ | refine brN ?_
            refine callA hk1 [0] ?_
            repeat first | refine EffG.mk (obA ?_) | refine obA ?_ | refine chkA ?_ | refine brY ?_ | refine brN ?_
            refine callA hop [] ?_
            repeat first | refine EffG.mk (obA ?_) | refine obA ?_ | refine chkA ?_ | refine brY ?_ | refine brN ?_
            refine retA [0]
          · rw [if_neg hc, if_neg hc] at hop
            rw [if_neg (by rw [decide_eq_false hc]; decide)] at hR
            repeat first | refine EffG.mk (obA ?_) | refine obA ?_ | refine chkA ?_ | refine brY ?_ | refine brN ?_
            refine callA hmay [] ?_
            repeat first | refine EffG.mk (obA ?_) | refine obA ?_ | refine chkA ?_ | refine brY ?_ | refine brN ?_
            refine callA hk1 [0] ?_
            repeat first | refine EffG.mk (obA ?_) | refine obA ?_ | refine chkA ?_ | refine brY ?_ | refine brN ?_
            refine callA hop [] ?_
            repeat first | refine EffG.mk (obA ?_) | refine obA ?_ | refine chkA ?_ | refine brY ?_ | refine brN ?_
            refine nextA (i + 1) [0, 1, 2] viewA (h1 := ⟨by omega, hR⟩)
        · rw [decide_eq_false ht] at hmay
          have hb := hit_no (ks := ks) (sa := sa) (se := se) (ch := ch) ht
          have hR : opR ks (l.drop (i + 1)) (i + 1) = R := by
            rw [opR_cons, hb] at hR; exact hR
          repeat first | refine EffG.mk (obA ?_) | refine obA ?_ | refine chkA ?_ | refine brY ?_ | refine brN ?_
          refine callA hmay [] ?_
          repeat first | refine EffG.mk (obA ?_) | refine obA ?_ | refine chkA ?_ | refine brY ?_ | refine brN ?_
          refine nextA (i + 1) [0, 1, 2] viewA (h1 := ⟨by omega, hR⟩)
    · obtain rfl : i = 8 := by have := of_decide_eq_false h; omega
      rw [List.drop_of_length_le (by omega)] at hR
      subst hR
      repeat first | refine EffG.mk (obA ?_) | refine obA ?_ | refine chkA ?_
      refine retA [0]
theorem rsopen_long_ac (ks : List (BitVec 8)) (l : List Slot) (k : Nat) (x : Option Nat) (ha : ks.length = k) (hx : x = none → k = 0) (hk : 512 < k) (hl : TabS l) :
    AC Tryd.prog 16 [tabD l, slD 0 k x] 1 [(0, some ⟨.row .cell, .u8s ks, false⟩)] ⟨.tup [.u8s (List.replicate 32 0), .i64 0, .i64 5], [], []⟩ := by
  have hT := hl.ty
  refine acA tab mix Tryd.func16 {} ?_
  refine EffG.mk (And.intro hT ?_)
  repeat first | refine EffG.mk (obA ?_) | refine obA ?_ | refine chkA ?_ | refine brY ?_ | refine brN ?_ | refine lenS rfl rfl rfl rfl hx rfl rfl ?_
  refine retA [0]
end Go.Proofs.YtodkhgofmgaafaaDoor.Av

namespace Go.Proofs.YtodkhgofmgaafaaDoor.Av
open Go
set_option linter.all false
set_option maxRecDepth 3000

/-- the turns of a table that count -/
def lightN : List Slot → Nat
  | [] => 0
  | s :: r => (bif s.used && decide (s.turns.toNat ≤ 4096) then s.turns.toNat else 0) + lightN r
theorem lightN_le : ∀ l : List Slot, lightN l ≤ 4096 * l.length
  | [] => Nat.le_refl _
  | s :: r => by
    have := lightN_le r
    rw [lightN, List.length_cons]
    cases s.used with
    | false => simp only [Bool.false_and, cond]; omega
    | true =>
      by_cases h : s.turns.toNat ≤ 4096
      · simp only [decide_eq_true h, Bool.true_and, cond]; omega
      · simp only [decide_eq_false h, Bool.and_false, cond]; omega
theorem getP_slotf {l : List Slot} {i f : Nat} {s : Slot} {v : D} (hi : i < l.length) (hs : l.getD i slot0 = s) (h : getP (slotD s) [.fld f] = some v) : getP (tabD l) [.idx i, .fld f] = some v := by
  show getP (nthD (l.map slotD) i) [.fld f] = _
  rw [nthD_slots hi, hs]; exact h
theorem okP_slotf {l : List Slot} {i f : Nat} {s : Slot} (hi : i < l.length) (hs : l.getD i slot0 = s) (h : okP (slotD s) [.fld f]) : okP (tabD l) [.idx i, .fld f] := by
  refine ⟨by rw [List.length_map]; exact hi, ?_⟩
  show okP (nthD (l.map slotD) i) [.fld f]
  rw [nthD_slots hi, hs]; exact h

set_option maxHeartbeats 1000000 in
theorem light_ac (l : List Slot) (hl : TabS l) : AC Tryd.prog 13 [tabD l] 0 [] ⟨.bool (decide ((lightN l : Int) ≤ 400)), [], []⟩ := by
  have hT := hl.ty
  have hlen := hl.len
  have hle := lightN_le l
  generalize hR : lightN l = R at hle
  refine acA tab mix Tryd.func13 {} ?_
  refine EffG.mk (And.intro hT ?_)
  repeat first | refine EffG.mk (obA ?_) | refine obA ?_ | refine chkA ?_
  refine loopG (Nat × Nat) (fun y => [(1, .ptr 0 []), (4, .i64 y.1), (3, .i64 y.2)]) (fun y => [(0, some ⟨tTab, tabD l, true⟩)]) 1
    (fun y => y.1 ≤ 8 ∧ y.2 + lightN (l.drop y.1) = R) (fun y => 8 - y.1) (0, 0) [0] ⟨Nat.zero_le _, (Nat.zero_add _).trans hR⟩ viewA ?_
  rintro ⟨i, n⟩ hI
  obtain ⟨hi, hR⟩ := hI
  have hi : i ≤ 8 := hi
  have hR : n + lightN (l.drop i) = R := hR
  repeat first | refine EffG.mk (obA ?_) | refine obA ?_ | refine chkA ?_
  refine Br.split (fun h => ?_) (fun h => ?_)
  · have hi : i < 8 := by have := of_decide_eq_true h; omega
    have hs := hl.at hi
    rw [drop_slots (by omega), lightN] at hR
    obtain ⟨⟨u, t, sa, se, ch⟩, he⟩ : ∃ s, l.getD i slot0 = s := ⟨_, rfl⟩
    rw [he] at hs hR
    have hR : n + ((bif u && decide (t.toNat ≤ 4096) then t.toNat else 0) + lightN (l.drop (i + 1))) = R := hR
    repeat first | refine EffG.mk (obA ?_) | refine obA ?_ | refine chkA ?_
    refine loadG (.bool u) rfl rfl rfl rfl rfl (getP_slotf (i := i) (by omega) he rfl) (okP_slotf (i := i) (by omega) he trivial) ?_
    cases u with
    | false =>
      simp only [Bool.false_and, cond] at hR
      repeat first | refine EffG.mk (obA ?_) | refine obA ?_ | refine chkA ?_ | refine brY ?_ | refine brN ?_
      refine nextA (i + 1, n) [0] viewA (h1 := ⟨by show i + 1 ≤ 8; omega, by show n + lightN (l.drop (i + 1)) = R; omega⟩) (h2 := by show 8 - (i + 1) < 8 - i; omega)
    | true =>
      repeat first | refine EffG.mk (obA ?_) | refine obA ?_ | refine chkA ?_ | refine brY ?_ | refine brN ?_
      refine loadG (.u16 t) rfl rfl rfl rfl rfl (getP_slotf (i := i) (by omega) he rfl) (okP_slotf (i := i) (by omega) he trivial) ?_
      repeat first | refine EffG.mk (obA ?_) | refine obA ?_ | refine chkA ?_ | refine brY ?_ | refine brN ?_
      by_cases h4 : t.toNat ≤ 4096
      · simp only [decide_eq_true h4, Bool.true_and, cond] at hR
        refine brY ?_ (h := decide_eq_true h4)
        repeat first | refine EffG.mk (obA ?_) | refine obA ?_ | refine chkA ?_ | refine brY ?_ | refine brN ?_
        refine loadG (.u16 t) rfl rfl rfl rfl rfl (getP_slotf (i := i) (by omega) he rfl) (okP_slotf (i := i) (by omega) he trivial) ?_
        repeat first | refine EffG.mk (obA ?_) | refine obA ?_ | refine chkA ?_ | refine brY ?_ | refine brN ?_
        refine nextA (i + 1, n + t.toNat) [0] viewA (h1 := ⟨by show i + 1 ≤ 8; omega, by show n + t.toNat + lightN (l.drop (i + 1)) = R; omega⟩) (h2 := by show 8 - (i + 1) < 8 - i; omega)
      · simp only [decide_eq_false h4, Bool.and_false, cond] at hR
        refine brN ?_ (h := decide_eq_false h4)
        repeat first | refine EffG.mk (obA ?_) | refine obA ?_ | refine chkA ?_ | refine brY ?_ | refine brN ?_
        refine nextA (i + 1, n) [0] viewA (h1 := ⟨by show i + 1 ≤ 8; omega, by show n + lightN (l.drop (i + 1)) = R; omega⟩) (h2 := by show 8 - (i + 1) < 8 - i; omega)
  · obtain rfl : i = 8 := by have := of_decide_eq_false h; omega
    rw [List.drop_of_length_le (by omega)] at hR
    subst hR
    repeat first | refine EffG.mk (obA ?_) | refine obA ?_ | refine chkA ?_
    refine retA []

theorem slotsopens_ac (ks : List (BitVec 8)) (l : List Slot) (k : Nat) (x : Option Nat) (ha : ks.length = k) (hx : x = none → k = 0) (hl : TabS l) :
    AC Tryd.prog 3 [tabD l, slD 0 k x] 1 ((0, some ⟨.row .cell, .u8s ks, false⟩) :: gRBK) ⟨.bool true, [], []⟩ := by
  have hT := hl.ty
  have hli := light_ac l hl
  have haw := slawake_ac
  by_cases hlt : (lightN l : Int) ≤ 400
  · rw [decide_eq_true hlt] at hli
    by_cases hk : k ≤ 512
    · have h1 := sopen_ac ks l k x ha hx hk hl
      have h2 := rsopen_ac ks l k x ha hx hk hl
      have hol := opR_length ks l 0 hl.ok
      generalize (opR ks l 0).1 = a at h1 h2 hol
      generalize (opR ks l 0).2.1 = b at h1 h2
      generalize (opR ks l 0).2.2 = c at h1 h2
      have hq : (D.u8s a).eqb (D.u8s a) = true := eqY rfl
      refine acA tab mix Tryd.func3 {} ?_
      refine EffG.mk (And.intro hT ?_)
      repeat first | refine EffG.mk (obA ?_) | refine obA ?_ | refine chkA ?_
      refine callA hli [] ?_ (hargs := by simp only [D.rens, ren_tab]; rfl)
      repeat first | refine EffG.mk (obA ?_) | refine obA ?_ | refine chkA ?_ | refine brY ?_ | refine brN ?_
      refine callA h1 [0] ?_ (hargs := by simp only [D.rens, ren_slD, ren_tab]; rfl)
      repeat first | refine EffG.mk (obA ?_) | refine obA ?_ | refine chkA ?_
      refine callA h2 [0] ?_ (hargs := by simp only [D.rens, ren_slD, ren_tab]; rfl)
      repeat first | refine EffG.mk (obA ?_) | refine obA ?_ | refine chkA ?_ | refine brY ?_ | refine brN ?_ | rw [hq]
      refine callA haw [] ?_
      repeat first | refine EffG.mk (obA ?_) | refine obA ?_ | refine chkA ?_ | refine brY ?_ | refine brN ?_
      refine retA [0]
    · have h1 := sopen_long_ac ks l k x ha hx (by omega) hl
      have h2 := rsopen_long_ac ks l k x ha hx (by omega) hl
      refine acA tab mix Tryd.func3 {} ?_
      refine EffG.mk (And.intro hT ?_)
      repeat first | refine EffG.mk (obA ?_) | refine obA ?_ | refine chkA ?_
      refine callA hli [] ?_ (hargs := by simp only [D.rens, ren_tab]; rfl)
      repeat first | refine EffG.mk (obA ?_) | refine obA ?_ | refine chkA ?_ | refine brY ?_ | refine brN ?_
      refine callA h1 [0] ?_ (hargs := by simp only [D.rens, ren_slD, ren_tab]; rfl)
      repeat first | refine EffG.mk (obA ?_) | refine obA ?_ | refine chkA ?_
      refine callA h2 [0] ?_ (hargs := by simp only [D.rens, ren_slD, ren_tab]; rfl)
      repeat first | refine EffG.mk (obA ?_) | refine obA ?_ | refine chkA ?_ | refine brY ?_ | refine brN ?_
      refine callA haw [] ?_
      repeat first | refine EffG.mk (obA ?_) | refine obA ?_ | refine chkA ?_ | refine brY ?_ | refine brN ?_
      refine retA [0]
  · rw [decide_eq_false hlt] at hli
    refine acA tab mix Tryd.func3 {} ?_
    refine EffG.mk (And.intro hT ?_)
    repeat first | refine EffG.mk (obA ?_) | refine obA ?_ | refine chkA ?_
    refine callA hli [] ?_ (hargs := by simp only [D.rens, ren_tab]; rfl)
    repeat first | refine EffG.mk (obA ?_) | refine obA ?_ | refine chkA ?_ | refine brY ?_ | refine brN ?_
    refine callA haw [] ?_
    repeat first | refine EffG.mk (obA ?_) | refine obA ?_ | refine chkA ?_ | refine brY ?_ | refine brN ?_
    refine retA [0]
end Go.Proofs.YtodkhgofmgaafaaDoor.Av

namespace Go.Proofs.YtodkhgofmgaafaaDoor.Av
open Go
set_option linter.all false
set_option maxRecDepth 3000

/-! tables as bytes -/
theorem put16_ac (n : BitVec 16) : AC Tryd.prog 62 [.u16 n] 0 [] ⟨.slice 0 [] 0 2 none, [], [(.row .cell, .u8s (nbF (n.setWidth 64) 2))]⟩ := by
  refine acA tab mix Tryd.func62 {} ?_
  repeat first | refine EffG.mk (obA ?_) | refine obA ?_ | refine chkA ?_
  refine callA (put_ac (n.setWidth 64) 2 (by decide)) [] ?_
  repeat first | refine EffG.mk (obA ?_) | refine obA ?_ | refine chkA ?_
  refine retA [0]
theorem pad_ac (bs : List (BitVec 8)) (k : Nat) (cap : Option Nat) (h : bs.length = k) (hk : k ≤ 128) :
    AC Tryd.prog 60 [.slice 0 [] 0 k cap, .i64 128] 1 [(0, some ⟨.row .cell, .u8s bs, false⟩)] ⟨.tup [.slice 1 [] 0 128 none, .i64 0], [], [(.row .cell, .u8s (bs ++ List.replicate (128 - k) 0))]⟩ := by
  refine acA tab mix Tryd.func60 {} ?_
  repeat first | refine EffG.mk (obA ?_) | refine obA ?_ | refine chkA ?_ | refine brY ?_ | refine brN ?_
  have q1 : Nat.min k 128 = k := Nat.min_eq_left hk
  have e : List.take 0 (List.replicate 128 (0 : BitVec 8)) ++ List.take (Nat.min k 128) (List.drop 0 bs) ++ List.drop (0 + Nat.min k 128) (List.replicate 128 0) = bs ++ List.replicate (128 - k) 0 := by
    rw [q1, List.drop_zero (l := bs), List.take_of_length_le (l := bs) (by omega), Nat.zero_add, List.drop_replicate]; rfl
  refine retA [0, 1] (h3 := ?_)
  (repeat' (first | exact trivial | refine And.intro ⟨_, rfl, rfl, ?_, id⟩ ?_ | refine And.intro ⟨_, rfl, rfl, ?_, fun _ => rfl⟩ ?_)) <;> first | rfl | exact congrArg D.u8s e
theorem concat5_ac (a b c d e : List (BitVec 8)) (ha : a.length = 1) (hb : b.length = 2) (hc : c.length = 16) (hd : d.length = 32) (he : e.length = 32) :
    AC Tryd.prog 61 [.slice 0 [] 0 5 (some 5)] 6 [(0, some ⟨.row .cell, .node [.slice 1 [] 0 1 (some 1), .slice 2 [] 0 2 none, .slice 3 [] 0 16 (some 16), .slice 4 [] 0 32 (some 32), .slice 5 [] 0 32 (some 32)], true⟩),
      (1, some ⟨.row .cell, .u8s a, false⟩), (2, some ⟨.row .cell, .u8s b, false⟩), (3, some ⟨.row .cell, .u8s c, false⟩), (4, some ⟨.row .cell, .u8s d, false⟩), (5, some ⟨.row .cell, .u8s e, false⟩)]
      ⟨.slice 6 [] 0 83 none, [], [(.row .cell, .u8s (a ++ b ++ c ++ d ++ e))]⟩ := by
  refine acA tab mix Tryd.func61 ⟨[], [3, 11]⟩ ?_
  repeat first | refine EffG.mk (obA ?_) | refine obA ?_ | refine chkA ?_
  refine unrG 6 ?_
  repeat first | refine EffG.mk (obA ?_) | refine obA ?_ | refine chkA ?_ | refine brY ?_ | refine brN ?_
  refine callA (grow_ac (0 + (1 : Int) + 2 + 16 + 32 + 32) (by omega) (by omega)) [] ?_
  repeat first | refine EffG.mk (obA ?_) | refine obA ?_ | refine chkA ?_
  refine unrG 6 ?_
  repeat first | refine EffG.mk (obA ?_) | refine obA ?_ | refine chkA ?_ | refine brY ?_ | refine brN ?_
  refine ⟨0, ?_⟩
  repeat first | refine EffG.mk (obA ?_) | refine obA ?_ | refine chkA ?_ | refine brY ?_ | refine brN ?_
  refine ⟨0, ?_⟩
  repeat first | refine EffG.mk (obA ?_) | refine obA ?_ | refine chkA ?_ | refine brY ?_ | refine brN ?_
  refine ⟨0, ?_⟩
  repeat first | refine EffG.mk (obA ?_) | refine obA ?_ | refine chkA ?_ | refine brY ?_ | refine brN ?_
  refine ⟨0, ?_⟩
  repeat first | refine EffG.mk (obA ?_) | refine obA ?_ | refine chkA ?_ | refine brY ?_ | refine brN ?_
  refine ⟨0, ?_⟩
  repeat first | refine EffG.mk (obA ?_) | refine obA ?_ | refine chkA ?_ | refine brY ?_ | refine brN ?_
  refine retA [0, 1, 2, 3, 4, 5, 11] (h3 := ?_)
  (repeat' (first | exact trivial | refine And.intro ⟨_, rfl, rfl, ?_, id⟩ ?_ | refine And.intro ⟨_, rfl, rfl, ?_, fun _ => rfl⟩ ?_)) <;> first | rfl | skip
  have t1 : List.take 1 a = a := List.take_of_length_le (by omega)
  have t2 : List.take 2 b = b := List.take_of_length_le (by omega)
  have t3 : List.take 16 c = c := List.take_of_length_le (by omega)
  have t4 : List.take 32 d = d := List.take_of_length_le (by omega)
  have t5 : List.take 32 e = e := List.take_of_length_le (by omega)
  have k2 : List.take 3 (a ++ b) = a ++ b := List.take_of_length_le (by simp only [List.length_append]; omega)
  have k3 : List.take 19 (a ++ b ++ c) = a ++ b ++ c := List.take_of_length_le (by simp only [List.length_append]; omega)
  have k4 : List.take 51 (a ++ b ++ c ++ d) = a ++ b ++ c ++ d := List.take_of_length_le (by simp only [List.length_append]; omega)
  exact congrArg D.u8s (show List.take 51 (List.take 19 (List.take 3 (List.take 1 (List.take 1 a) ++ List.take 2 b) ++ List.take 16 c) ++ List.take 32 d) ++ List.take 32 e = a ++ b ++ c ++ d ++ e by rw [t1, t1, t2, k2, t3, k3, t4, k4, t5])
end Go.Proofs.YtodkhgofmgaafaaDoor.Av

namespace Go.Proofs.YtodkhgofmgaafaaDoor.Av
open Go
set_option linter.all false
set_option maxRecDepth 3000

/-- a slot's bytes, a table's bytes -/
def slotB (s : Slot) : List (BitVec 8) := [bif s.used then 1 else 0] ++ nbF (s.turns.setWidth 64) 2 ++ s.salt ++ s.sealed ++ s.check ++ List.replicate 45 0
theorem slotB_length {s : Slot} (h : s.ok) : (slotB s).length = 128 := by
  have h1 := h.salt
  have h2 := h.sealed
  have h3 := h.check
  have h4 := nbF_length (s.turns.setWidth 64) 2
  unfold slotB
  simp only [List.length_append, List.length_cons, List.length_nil, List.length_replicate, h1, h2, h3, h4]
def tabI (l : List Slot) : Nat → List (BitVec 8)
  | 0 => []
  | i + 1 => tabI l i ++ slotB (l.getD i slot0)
theorem tabI_length {l : List Slot} (hl : TabS l) : ∀ i, i ≤ 8 → (tabI l i).length = 128 * i
  | 0, _ => rfl
  | i + 1, h => by rw [tabI, List.length_append, tabI_length hl i (by omega), slotB_length (hl.at (by omega))]; omega

set_option maxHeartbeats 2000000 in
theorem sput_ac (l : List Slot) (hl : TabS l) : AC Tryd.prog 23 [tabD l] 0 [] ⟨.slice 0 [] 0 1024 none, [], [(.row .cell, .u8s (tabI l 8))]⟩ := by
  have hT := hl.ty
  have hlen := hl.len
  refine acA tab mix Tryd.func23 {} ?_
  refine EffG.mk (And.intro hT ?_)
  repeat first | refine EffG.mk (obA ?_) | refine obA ?_ | refine chkA ?_
  refine loopG Nat (fun i => [(3, .slice 0 [] 0 (128 * i) none), (10, tabD l), (11, .i64 i)]) (fun i => [(0, some ⟨.row .cell, .u8s (tabI l i), true⟩)]) 1 (fun i => i ≤ 8) (fun i => 8 - i) 0 [1] (Nat.zero_le _) viewA ?_
  intro i hi
  have hpl := tabI_length hl i hi
  repeat first | refine EffG.mk (obA ?_) | refine obA ?_ | refine chkA ?_
  refine Br.split (fun h => ?_) (fun h => ?_)
  · have hi : i < 8 := by have := of_decide_eq_true h; omega
    have hs := hl.at hi
    have hput : tabI l (i + 1) = tabI l i ++ slotB (l.getD i slot0) := rfl
    have hn := nthD_slots (l := l) (i := i) (by omega)
    obtain ⟨⟨u, t, sa, se, ch⟩, he⟩ : ∃ s, l.getD i slot0 = s := ⟨_, rfl⟩
    rw [he] at hs hn hput
    have hbl := slotB_length hs
    obtain ⟨hsa, hse, hch⟩ := hs
    have hsa : sa.length = 16 := hsa
    have hse : se.length = 32 := hse
    have hch : ch.length = 32 := hch
    have hn : nthD (l.map slotD) (Int.toNat (i : Int)) = slotD ⟨u, t, sa, se, ch⟩ := hn
    have hp16 := put16_ac t
    have hnl := nbF_length (t.setWidth 64) 2
    have hcc := concat5_ac [bif u then 1 else 0] (nbF (t.setWidth 64) 2) sa se ch rfl hnl hsa hse hch
    have hcc := ((hcc.arrAt 3 16 [.fld 2] tSlot (slotD ⟨u, t, sa, se, ch⟩)).arrAt 4 32 [.fld 3] tSlot (slotD ⟨u, t, sa, se, ch⟩)).arrAt 5 32 [.fld 4] tSlot (slotD ⟨u, t, sa, se, ch⟩)
    have hpd := pad_ac ([bif u then 1 else 0] ++ nbF (t.setWidth 64) 2 ++ sa ++ se ++ ch) 83 none (by simp only [List.length_append, List.length_cons, List.length_nil, hsa, hse, hch, hnl]) (by decide)
    have hsb : slotB ⟨u, t, sa, se, ch⟩ = [bif u then 1 else 0] ++ nbF (t.setWidth 64) 2 ++ sa ++ se ++ ch ++ List.replicate 45 0 := rfl
    generalize nbF (t.setWidth 64) 2 = tb at hp16 hnl hcc hpd hsb
    rw [← hsb] at hpd
    generalize slotB ⟨u, t, sa, se, ch⟩ = sb at hput hbl hsb hpd
    repeat first | refine EffG.mk (obA ?_) | refine obA ?_ | refine chkA ?_
    refine EffG.mk (And.intro ⟨⟨⟨by omega, by omega⟩, ⟨by rw [List.length_map]; omega, trivial⟩⟩, hT⟩ ?_)
    rw [hn]
    cases u
    all_goals
      repeat first | refine EffG.mk (obA ?_) | refine obA ?_ | refine chkA ?_ | refine brY ?_ | refine brN ?_
      refine callA hp16 [] ?_
      repeat first | refine EffG.mk (obA ?_) | refine obA ?_ | refine chkA ?_ | refine brY ?_ | refine brN ?_
      refine callA hcc [4, 2, 3, 1, 1, 1] ?_
      repeat first | refine EffG.mk (obA ?_) | refine obA ?_ | refine chkA ?_ | refine brY ?_ | refine brN ?_
      refine callA hpd [5] ?_
      repeat first | refine EffG.mk (obA ?_) | refine obA ?_ | refine chkA ?_ | refine brY ?_ | refine brN ?_
      refine ⟨0, ?_⟩
      repeat first | refine EffG.mk (obA ?_) | refine obA ?_ | refine chkA ?_ | refine brY ?_ | refine brN ?_
      have e : List.take (128 * i) (tabI l i) ++ List.take 128 sb = tabI l (i + 1) := by rw [hput, List.take_of_length_le (by omega), List.take_of_length_le (by omega)]
      refine nextA (i + 1) [7] (viewA (h3 := ?_))
      (repeat' (first | exact trivial | refine And.intro ⟨_, rfl, rfl, ?_, id⟩ ?_ | refine And.intro ⟨_, rfl, rfl, ?_, fun _ => rfl⟩ ?_)) <;> first | rfl | exact congrArg D.u8s e
  · obtain rfl : i = 8 := by have := of_decide_eq_false h; omega
    repeat first | refine EffG.mk (obA ?_) | refine obA ?_ | refine chkA ?_
    refine retA [0]
end Go.Proofs.YtodkhgofmgaafaaDoor.Av

namespace Go.Proofs.YtodkhgofmgaafaaDoor.Av
open Go
set_option linter.all false
set_option maxRecDepth 3000

/-! the document's tables as bytes -/
def be2 (n : BitVec 64) : List (BitVec 8) := [(n >>> 8).setWidth 8, (n >>> 0).setWidth 8]
theorem be2_eq (n : BitVec 64) : be2 n = nbF n 2 := by
  have h : nbF n 2 = [(n >>> 8).setWidth 8, n.setWidth 8] := rfl
  rw [h, be2]
  simp only [BitVec.ushiftRight_zero]
theorem rput2_ac (n : BitVec 64) : AC Tryd.prog 63 [.u64 n, .i64 2] 0 [] ⟨.slice 0 [] 0 2 none, [], [(.row .cell, .u8s (nbF n 2))]⟩ := by
  rw [← be2_eq]
  refine acA tab mix Tryd.func63 ⟨[], [3]⟩ ?_
  repeat first | refine EffG.mk (obA ?_) | refine obA ?_ | refine chkA ?_
  refine unrG 3 ?_
  repeat first | refine EffG.mk (obA ?_) | refine obA ?_ | refine chkA ?_ | refine brY ?_ | refine brN ?_
  refine ⟨1, ?_⟩
  repeat first | refine EffG.mk (obA ?_) | refine obA ?_ | refine chkA ?_ | refine brY ?_ | refine brN ?_
  refine ⟨0, ?_⟩
  repeat first | refine EffG.mk (obA ?_) | refine obA ?_ | refine chkA ?_ | refine brY ?_ | refine brN ?_
  refine retA [3]

theorem parts_eq (P a b c d e : List (BitVec 8)) (n : Nat) (hP : P.length = n) (ha : a.length = 1) (hb : b.length = 2) (hc : c.length = 16) (hd : d.length = 32) (he : e.length = 32) :
    List.take (n + 1 + 2 + 16 + 32 + 32) (List.take (n + 1 + 2 + 16 + 32) (List.take (n + 1 + 2 + 16) (List.take (n + 1 + 2) (List.take (n + 1) (List.take n P ++ List.take 1 a) ++ List.take 2 b) ++ List.take 16 c) ++ List.take 32 d) ++ List.take 32 e) ++ List.replicate 45 0 =
      P ++ (a ++ b ++ c ++ d ++ e ++ List.replicate 45 0) := by
  rw [List.take_of_length_le (l := P) (by omega), List.take_of_length_le (l := a) (by omega), List.take_of_length_le (l := b) (by omega), List.take_of_length_le (l := c) (by omega), List.take_of_length_le (l := d) (by omega), List.take_of_length_le (l := e) (by omega),
    List.take_of_length_le (l := P ++ a) (by simp only [List.length_append]; omega), List.take_of_length_le (l := P ++ a ++ b) (by simp only [List.length_append]; omega), List.take_of_length_le (l := P ++ a ++ b ++ c) (by simp only [List.length_append]; omega),
    List.take_of_length_le (l := P ++ a ++ b ++ c ++ d) (by simp only [List.length_append]; omega), List.take_of_length_le (l := P ++ a ++ b ++ c ++ d ++ e) (by simp only [List.length_append]; omega)]
  simp only [List.append_assoc]
def outS : Nat → D
  | 0 => .nilslice
  | i + 1 => .slice 1 [] 0 (128 * (i + 1)) none
def outB (l : List Slot) : Nat → Option Ent
  | 0 => none
  | i + 1 => some ⟨.row .cell, .u8s (tabI l (i + 1)), true⟩
set_option maxHeartbeats 2000000 in
theorem rtput_ac (l : List Slot) (hl : TabS l) : AC Tryd.prog 24 [tabD l] 0 [] ⟨.slice 0 [] 0 1024 none, [], [(.row .cell, .u8s (tabI l 8))]⟩ := by
  have hT := hl.ty
  have hlen := hl.len
  refine acA tab mix Tryd.func24 {} ?_
  refine EffG.mk (And.intro hT ?_)
  repeat first | refine EffG.mk (obA ?_) | refine obA ?_ | refine chkA ?_
  refine loopG Nat (fun i => [(1, .ptr 0 []), (3, outS i), (4, .i64 i)]) (fun i => [(0, some ⟨tTab, tabD l, true⟩), (1, outB l i)]) 2 (fun i => i ≤ 8) (fun i => 8 - i) 0 [0, 7] (Nat.zero_le _) viewA ?_
  intro i hi
  cases i with
  | zero =>
    have hs := hl.at (i := 0) (by omega)
    have hput : tabI l (0 + 1) = tabI l 0 ++ slotB (l.getD 0 slot0) := rfl
    have hpl := tabI_length hl 0 (by omega)
    have hn := nthD_slots (l := l) (i := 0) (by omega)
    obtain ⟨⟨u, t, sa, se, ch⟩, he⟩ : ∃ s, l.getD 0 slot0 = s := ⟨_, rfl⟩
    rw [he] at hs hn hput
    obtain ⟨hsa, hse, hch⟩ := hs
    have hsa : sa.length = 16 := hsa
    have hse : se.length = 32 := hse
    have hch : ch.length = 32 := hch
    have hn : nthD (l.map slotD) (Int.toNat (0 : Nat)) = slotD ⟨u, t, sa, se, ch⟩ := hn
    have hp2 := rput2_ac (t.setWidth 64)
    have hnl := nbF_length (t.setWidth 64) 2
    have hsb : slotB ⟨u, t, sa, se, ch⟩ = [bif u then 1 else 0] ++ nbF (t.setWidth 64) 2 ++ sa ++ se ++ ch ++ List.replicate 45 0 := rfl
    generalize nbF (t.setWidth 64) 2 = tb at hp2 hnl hsb
    rw [hsb] at hput
    cases u
    all_goals
      repeat first | refine EffG.mk (obA ?_) | refine obA ?_ | refine chkA ?_ | refine brY ?_ | refine brN ?_
      rw [hn]
      repeat first | refine EffG.mk (obA ?_) | refine obA ?_ | refine chkA ?_ | refine brY ?_ | refine brN ?_
      refine ⟨1, ?_⟩
      repeat first | refine EffG.mk (obA ?_) | refine obA ?_ | refine chkA ?_ | refine brY ?_ | refine brN ?_
      refine callA hp2 [] ?_
      repeat first | refine EffG.mk (obA ?_) | refine obA ?_ | refine chkA ?_ | refine brY ?_ | refine brN ?_
      refine ⟨0, ?_⟩
      repeat first | refine EffG.mk (obA ?_) | refine obA ?_ | refine chkA ?_ | refine brY ?_ | refine brN ?_
      refine ⟨0, ?_⟩
      repeat first | refine EffG.mk (obA ?_) | refine obA ?_ | refine chkA ?_ | refine brY ?_ | refine brN ?_
      refine ⟨0, ?_⟩
      repeat first | refine EffG.mk (obA ?_) | refine obA ?_ | refine chkA ?_ | refine brY ?_ | refine brN ?_
      refine ⟨0, ?_⟩
      repeat first | refine EffG.mk (obA ?_) | refine obA ?_ | refine chkA ?_ | refine brY ?_ | refine brN ?_
      refine ⟨0, ?_⟩
      repeat first | refine EffG.mk (obA ?_) | refine obA ?_ | refine chkA ?_ | refine brY ?_ | refine brN ?_
      have e := (parts_eq (tabI l 0) _ tb sa se ch (128 * 0) hpl (by first | rfl | decide) hnl hsa hse hch).trans hput.symm
      refine nextA (0 + 1) [0, 10] (viewA (h3 := ?_))
      (repeat' (first | exact trivial | refine And.intro ⟨_, rfl, rfl, ?_, id⟩ ?_ | refine And.intro ⟨_, rfl, rfl, ?_, fun _ => rfl⟩ ?_)) <;> first | exact (Pure.ren _).symm | rfl | exact congrArg D.u8s e
  | succ i =>
    have hpl := tabI_length hl (i + 1) hi
    repeat first | refine EffG.mk (obA ?_) | refine obA ?_ | refine chkA ?_
    refine Br.split (fun h => ?_) (fun h => ?_)
    · have hi : i + 1 < 8 := by have := of_decide_eq_true h; omega
      have hs := hl.at (i := (i + 1)) (by omega)
      have hput : tabI l ((i + 1) + 1) = tabI l (i + 1) ++ slotB (l.getD (i + 1) slot0) := rfl
      have hpl := tabI_length hl (i + 1) (by omega)
      have hn := nthD_slots (l := l) (i := (i + 1)) (by omega)
      obtain ⟨⟨u, t, sa, se, ch⟩, he⟩ : ∃ s, l.getD (i + 1) slot0 = s := ⟨_, rfl⟩
      rw [he] at hs hn hput
      obtain ⟨hsa, hse, hch⟩ := hs
      have hsa : sa.length = 16 := hsa
      have hse : se.length = 32 := hse
      have hch : ch.length = 32 := hch
      have hn : nthD (l.map slotD) (Int.toNat ((i + 1) : Nat)) = slotD ⟨u, t, sa, se, ch⟩ := hn
      have hp2 := rput2_ac (t.setWidth 64)
      have hnl := nbF_length (t.setWidth 64) 2
      have hsb : slotB ⟨u, t, sa, se, ch⟩ = [bif u then 1 else 0] ++ nbF (t.setWidth 64) 2 ++ sa ++ se ++ ch ++ List.replicate 45 0 := rfl
      generalize nbF (t.setWidth 64) 2 = tb at hp2 hnl hsb
      rw [hsb] at hput
      cases u
      all_goals
        repeat first | refine EffG.mk (obA ?_) | refine obA ?_ | refine chkA ?_ | refine brY ?_ | refine brN ?_
        rw [hn]
        repeat first | refine EffG.mk (obA ?_) | refine obA ?_ | refine chkA ?_ | refine brY ?_ | refine brN ?_
        refine ⟨0, ?_⟩
        repeat first | refine EffG.mk (obA ?_) | refine obA ?_ | refine chkA ?_ | refine brY ?_ | refine brN ?_
        refine callA hp2 [] ?_
        repeat first | refine EffG.mk (obA ?_) | refine obA ?_ | refine chkA ?_ | refine brY ?_ | refine brN ?_
        refine ⟨0, ?_⟩
        repeat first | refine EffG.mk (obA ?_) | refine obA ?_ | refine chkA ?_ | refine brY ?_ | refine brN ?_
        refine ⟨0, ?_⟩
        repeat first | refine EffG.mk (obA ?_) | refine obA ?_ | refine chkA ?_ | refine brY ?_ | refine brN ?_
        refine ⟨0, ?_⟩
        repeat first | refine EffG.mk (obA ?_) | refine obA ?_ | refine chkA ?_ | refine brY ?_ | refine brN ?_
        refine ⟨0, ?_⟩
        repeat first | refine EffG.mk (obA ?_) | refine obA ?_ | refine chkA ?_ | refine brY ?_ | refine brN ?_
        refine ⟨0, ?_⟩
        repeat first | refine EffG.mk (obA ?_) | refine obA ?_ | refine chkA ?_ | refine brY ?_ | refine brN ?_
        have e := (parts_eq (tabI l (i + 1)) _ tb sa se ch (128 * (i + 1)) hpl (by first | rfl | decide) hnl hsa hse hch).trans hput.symm
        refine nextA ((i + 1) + 1) [0, 10] (viewA (h3 := ?_))
        (repeat' (first | exact trivial | refine And.intro ⟨_, rfl, rfl, ?_, id⟩ ?_ | refine And.intro ⟨_, rfl, rfl, ?_, fun _ => rfl⟩ ?_)) <;> first | exact (Pure.ren _).symm | rfl | exact congrArg D.u8s e
    · obtain rfl : i = 7 := by have := of_decide_eq_false h; omega
      repeat first | refine EffG.mk (obA ?_) | refine obA ?_ | refine chkA ?_
      refine retA [1]
end Go.Proofs.YtodkhgofmgaafaaDoor.Av

namespace Go.Proofs.YtodkhgofmgaafaaDoor.Av
open Go
set_option linter.all false
set_option maxRecDepth 3000

/-! a table's sum, and how many are used, by both -/
theorem ssum_ac (l : List Slot) (hl : TabS l) : AC Tryd.prog 25 [tabD l] 0 [gR] ⟨.u8s (shaF (tabI l 8)), [], []⟩ := by
  have hT := hl.ty
  have hp := sput_ac l hl
  have hb := tabI_length hl 8 (by decide)
  generalize tabI l 8 = b at hp hb ⊢
  have ho := of1_ac b 0 1024 none (by omega) (by decide) (by decide)
  rw [List.drop_zero, List.take_of_length_le (by omega)] at ho
  have hs := shaF_length b
  generalize shaF b = y at ho hs ⊢
  refine acA tab mix Tryd.func25 {} ?_
  refine EffG.mk (And.intro hT ?_)
  repeat first | refine EffG.mk (obA ?_) | refine obA ?_ | refine chkA ?_
  refine callA hp [] ?_ (hargs := by simp only [D.rens, ren_tab]; rfl)
  repeat first | refine EffG.mk (obA ?_) | refine obA ?_ | refine chkA ?_
  refine callA ho [3, 2] ?_
  repeat first | refine EffG.mk (obA ?_) | refine obA ?_ | refine chkA ?_
  refine retA []
theorem rssum_ac (l : List Slot) (hl : TabS l) : AC Tryd.prog 26 [tabD l] 0 [gK] ⟨.u8s (shaF (tabI l 8)), [], []⟩ := by
  have hT := hl.ty
  have hp := rtput_ac l hl
  have hb := tabI_length hl 8 (by decide)
  generalize tabI l 8 = b at hp hb ⊢
  have ho := rof_ac b 0 1024 none (by omega) (by decide)
  rw [List.drop_zero, List.take_of_length_le (by omega)] at ho
  have hs := shaF_length b
  generalize shaF b = y at ho hs ⊢
  refine acA tab mix Tryd.func26 {} ?_
  refine EffG.mk (And.intro hT ?_)
  repeat first | refine EffG.mk (obA ?_) | refine obA ?_ | refine chkA ?_
  refine callA hp [] ?_ (hargs := by simp only [D.rens, ren_tab]; rfl)
  repeat first | refine EffG.mk (obA ?_) | refine obA ?_ | refine chkA ?_
  refine callA ho [2] ?_
  repeat first | refine EffG.mk (obA ?_) | refine obA ?_ | refine chkA ?_
  refine retA []
theorem rused_ac (l : List Slot) (hl : TabS l) : AC Tryd.prog 28 [tabD l] 0 [] ⟨.i64 (usedN l), [], []⟩ := by
  have hT := hl.ty
  have hlen := hl.len
  have hle := usedN_le l
  generalize hR : usedN l = R at hle
  refine acA tab mix Tryd.func28 {} ?_
  refine EffG.mk (And.intro hT ?_)
  repeat first | refine EffG.mk (obA ?_) | refine obA ?_ | refine chkA ?_
  refine loopG (Nat × Nat) (fun y => [(1, .ptr 0 []), (4, .i64 y.1), (3, .i64 y.2)]) (fun y => [(0, some ⟨tTab, tabD l, true⟩)]) 1
    (fun y => y.1 ≤ 8 ∧ y.2 + usedN (l.drop y.1) = R) (fun y => 8 - y.1) (0, 0) [0] ⟨Nat.zero_le _, (Nat.zero_add _).trans hR⟩ viewA ?_
  rintro ⟨i, n⟩ hI
  obtain ⟨hi, hR⟩ := hI
  have hi : i ≤ 8 := hi
  have hR : n + usedN (l.drop i) = R := hR
  repeat first | refine EffG.mk (obA ?_) | refine obA ?_ | refine chkA ?_
  refine Br.split (fun h => ?_) (fun h => ?_)
  · have hi : i < 8 := by have := of_decide_eq_true h; omega
    rw [drop_slots (by omega), usedN] at hR
    obtain ⟨⟨u, t, sa, se, ch⟩, he⟩ : ∃ s, l.getD i slot0 = s := ⟨_, rfl⟩
    rw [he] at hR
    have hR : n + ((bif u then 1 else 0) + usedN (l.drop (i + 1))) = R := hR
    repeat first | refine EffG.mk (obA ?_) | refine obA ?_ | refine chkA ?_
    refine loadG (.bool u) rfl rfl rfl rfl rfl (getP_slotf (i := i) (by omega) he rfl) (okP_slotf (i := i) (by omega) he trivial) ?_
    cases u with
    | false =>
      simp only [cond] at hR
      repeat first | refine EffG.mk (obA ?_) | refine obA ?_ | refine chkA ?_ | refine brY ?_ | refine brN ?_
      refine nextA (i + 1, n) [0] viewA (h1 := ⟨by show i + 1 ≤ 8; omega, by show n + usedN (l.drop (i + 1)) = R; omega⟩) (h2 := by show 8 - (i + 1) < 8 - i; omega)
    | true =>
      simp only [cond] at hR
      repeat first | refine EffG.mk (obA ?_) | refine obA ?_ | refine chkA ?_ | refine brY ?_ | refine brN ?_
      refine nextA (i + 1, n + 1) [0] viewA (h1 := ⟨by show i + 1 ≤ 8; omega, by show n + 1 + usedN (l.drop (i + 1)) = R; omega⟩) (h2 := by show 8 - (i + 1) < 8 - i; omega)
  · obtain rfl : i = 8 := by have := of_decide_eq_false h; omega
    rw [List.drop_of_length_le (by omega)] at hR
    subst hR
    repeat first | refine EffG.mk (obA ?_) | refine obA ?_ | refine chkA ?_
    refine retA []

theorem slotsputs_ac (l : List Slot) (hl : TabS l) : AC Tryd.prog 6 [tabD l] 0 [gR, gK] ⟨.bool true, [], []⟩ := by
  have hT := hl.ty
  have haw := slawake_ac
  have h1 := sput_ac l hl
  have h2 := rtput_ac l hl
  have h3 := ssum_ac l hl
  have h4 := rssum_ac l hl
  have h5 := used_ac l hl
  have h6 := rused_ac l hl
  have hb := tabI_length hl 8 (by decide)
  generalize tabI l 8 = b at h1 h2 h3 h4 hb
  have hs := shaF_length b
  generalize shaF b = y at h3 h4 hs
  generalize usedN l = n at h5 h6
  have hq : (D.u8s y).eqb (D.u8s y) = true := eqY rfl
  refine acA tab mix Tryd.func6 {} ?_
  refine EffG.mk (And.intro hT ?_)
  repeat first | refine EffG.mk (obA ?_) | refine obA ?_ | refine chkA ?_
  refine callA h1 [] ?_ (hargs := by simp only [D.rens, ren_tab]; rfl)
  repeat first | refine EffG.mk (obA ?_) | refine obA ?_ | refine chkA ?_
  refine callA h2 [] ?_ (hargs := by simp only [D.rens, ren_tab]; rfl)
  repeat first | refine EffG.mk (obA ?_) | refine obA ?_ | refine chkA ?_ | refine brY ?_ | refine brN ?_
  refine callA h3 [] ?_ (hargs := by simp only [D.rens, ren_tab]; rfl)
  repeat first | refine EffG.mk (obA ?_) | refine obA ?_ | refine chkA ?_ | refine brY ?_ | refine brN ?_ | rw [hq]
  refine callA h4 [] ?_ (hargs := by simp only [D.rens, ren_tab]; rfl)
  repeat first | refine EffG.mk (obA ?_) | refine obA ?_ | refine chkA ?_ | refine brY ?_ | refine brN ?_ | rw [hq]
  refine callA h5 [] ?_ (hargs := by simp only [D.rens, ren_tab]; rfl)
  repeat first | refine EffG.mk (obA ?_) | refine obA ?_ | refine chkA ?_ | refine brY ?_ | refine brN ?_ | rw [hq]
  refine callA h6 [] ?_ (hargs := by simp only [D.rens, ren_tab]; rfl)
  repeat first | refine EffG.mk (obA ?_) | refine obA ?_ | refine chkA ?_ | refine brY ?_ | refine brN ?_
  refine callA haw [] ?_
  repeat first | refine EffG.mk (obA ?_) | refine obA ?_ | refine chkA ?_ | refine brY ?_ | refine brN ?_
  refine retA []
end Go.Proofs.YtodkhgofmgaafaaDoor.Av

namespace Go.Proofs.YtodkhgofmgaafaaDoor.Av
open Go
set_option linter.all false
set_option maxRecDepth 3000

/-! a reader -/
abbrev rdM (bs : List (BitVec 8)) (o len : Nat) (cap : Option Nat) : Mem := [(0, some ⟨.row .cell, .u8s bs, false⟩), (1, some ⟨tRd, .node [.slice 0 [] o len cap, .i64 0], true⟩)]
abbrev rdN (o len n : Nat) (cap : Option Nat) : List (Nat × Option D) := [(1, some (.node [.slice 0 [] (o + n) (len - n) (cap.map (· - n)), .i64 0]))]

theorem rnext_ac (bs : List (BitVec 8)) (o n len : Nat) (cap : Option Nat) (h : n ≤ len) :
    AC Tryd.prog 108 [.ptr 1 [], .i64 n] 2 (rdM bs o len cap) ⟨.slice 0 [] o n (some n), rdN o len n cap, []⟩ := by
  refine acA tab mix Tryd.func108 {} ?_
  repeat first | refine EffG.mk (obA ?_) | refine obA ?_ | refine chkA ?_ | refine brY ?_ | refine brN ?_
  refine retA [0, 1]
theorem readr_ac (bs : List (BitVec 8)) (o len : Nat) (cap : Option Nat) :
    AC Tryd.prog 66 [.slice 0 [] o len cap] 1 [(0, some ⟨.row .cell, .u8s bs, false⟩)] ⟨.ptr 1 [], [], [(tRd, .node [.slice 0 [] o len cap, .i64 0])]⟩ := by
  refine acA tab mix Tryd.func66 {} ?_
  repeat first | refine EffG.mk (obA ?_) | refine obA ?_ | refine chkA ?_ | refine brY ?_ | refine brN ?_
  refine retA [0, 1]

theorem num1_eq (a : BitVec 8) : ((0 : BitVec 64) <<< (8 : Nat) ||| a.setWidth 64).setWidth 8 = a := by
  apply BitVec.eq_of_getLsbD_eq
  intro i hi
  simp [BitVec.getLsbD_setWidth, hi]
theorem num2_eq (a b : BitVec 8) : (((0 : BitVec 64) <<< (8 : Nat) ||| a.setWidth 64) <<< (8 : Nat) ||| b.setWidth 64).setWidth 16 = a.setWidth 16 <<< (8 : Nat) ||| b.setWidth 16 := by
  apply BitVec.eq_of_getLsbD_eq
  intro i hi
  simp [BitVec.getLsbD_setWidth, hi]

theorem number1_ac (bs : List (BitVec 8)) (o len : Nat) (cap : Option Nat) (h : 1 ≤ len) (hb : o + len ≤ bs.length) :
    AC Tryd.prog 107 [.ptr 1 [], .i64 1] 2 (rdM bs o len cap) ⟨.u64 ((0 : BitVec 64) <<< (8 : Nat) ||| (bs.getD o 0).setWidth 64), rdN o len 1 cap, []⟩ := by
  have hn := rnext_ac bs o 1 len cap h
  refine acA tab mix Tryd.func107 ⟨[], [4]⟩ ?_
  repeat first | refine EffG.mk (obA ?_) | refine obA ?_ | refine chkA ?_ | refine brY ?_ | refine brN ?_
  refine callA hn [0, 1] ?_
  repeat first | refine EffG.mk (obA ?_) | refine obA ?_ | refine chkA ?_ | refine brY ?_ | refine brN ?_
  refine unrG 2 ?_
  repeat first | refine EffG.mk (obA ?_) | refine obA ?_ | refine chkA ?_ | refine brY ?_ | refine brN ?_
  refine retA [0, 1]
theorem number2_ac (bs : List (BitVec 8)) (o len : Nat) (cap : Option Nat) (h : 2 ≤ len) (hb : o + len ≤ bs.length) :
    AC Tryd.prog 107 [.ptr 1 [], .i64 2] 2 (rdM bs o len cap) ⟨.u64 (((0 : BitVec 64) <<< (8 : Nat) ||| (bs.getD o 0).setWidth 64) <<< (8 : Nat) ||| (bs.getD (o + 1) 0).setWidth 64), rdN o len 2 cap, []⟩ := by
  have hn := rnext_ac bs o 2 len cap h
  refine acA tab mix Tryd.func107 ⟨[], [4]⟩ ?_
  repeat first | refine EffG.mk (obA ?_) | refine obA ?_ | refine chkA ?_ | refine brY ?_ | refine brN ?_
  refine callA hn [0, 1] ?_
  repeat first | refine EffG.mk (obA ?_) | refine obA ?_ | refine chkA ?_ | refine brY ?_ | refine brN ?_
  refine unrG 3 ?_
  repeat first | refine EffG.mk (obA ?_) | refine obA ?_ | refine chkA ?_ | refine brY ?_ | refine brN ?_
  refine retA [0, 1]
theorem ru8_ac (bs : List (BitVec 8)) (o len : Nat) (cap : Option Nat) (h : 1 ≤ len) (hb : o + len ≤ bs.length) :
    AC Tryd.prog 67 [.ptr 1 []] 2 (rdM bs o len cap) ⟨.u8 (bs.getD o 0), rdN o len 1 cap, []⟩ := by
  have hn := number1_ac bs o len cap h hb
  have e := num1_eq (bs.getD o 0)
  rw [← e]; clear e
  generalize ((0 : BitVec 64) <<< (8 : Nat) ||| (bs.getD o 0).setWidth 64 : BitVec 64) = y at hn ⊢
  refine acA tab mix Tryd.func67 {} ?_
  repeat first | refine EffG.mk (obA ?_) | refine obA ?_ | refine chkA ?_ | refine brY ?_ | refine brN ?_
  refine callA hn [0, 1] ?_
  repeat first | refine EffG.mk (obA ?_) | refine obA ?_ | refine chkA ?_ | refine brY ?_ | refine brN ?_
  refine retA [0, 1]
theorem ru16_ac (bs : List (BitVec 8)) (o len : Nat) (cap : Option Nat) (h : 2 ≤ len) (hb : o + len ≤ bs.length) :
    AC Tryd.prog 68 [.ptr 1 []] 2 (rdM bs o len cap) ⟨.u16 ((bs.getD o 0).setWidth 16 <<< (8 : Nat) ||| (bs.getD (o + 1) 0).setWidth 16), rdN o len 2 cap, []⟩ := by
  have hn := number2_ac bs o len cap h hb
  rw [← num2_eq]
  generalize (((0 : BitVec 64) <<< (8 : Nat) ||| (bs.getD o 0).setWidth 64) <<< (8 : Nat) ||| (bs.getD (o + 1) 0).setWidth 64 : BitVec 64) = y at hn ⊢
  refine acA tab mix Tryd.func68 {} ?_
  repeat first | refine EffG.mk (obA ?_) | refine obA ?_ | refine chkA ?_ | refine brY ?_ | refine brN ?_
  refine callA hn [0, 1] ?_
  repeat first | refine EffG.mk (obA ?_) | refine obA ?_ | refine chkA ?_ | refine brY ?_ | refine brN ?_
  refine retA [0, 1]
theorem take_ac (bs : List (BitVec 8)) (o n len : Nat) (cap : Option Nat) (h : n ≤ len) (hb : o + len ≤ bs.length) (hk : n ≤ 70368744177664) :
    AC Tryd.prog 69 [.ptr 1 [], .i64 n] 2 (rdM bs o len cap) ⟨.slice 2 [] 0 n none, rdN o len n cap, [(.row .cell, .u8s ((bs.drop o).take n))]⟩ := by
  have hn := rnext_ac bs o n len cap h
  have hc := clone_ac bs o n (some n) (by omega) hk
  refine acA tab mix Tryd.func69 {} ?_
  repeat first | refine EffG.mk (obA ?_) | refine obA ?_ | refine chkA ?_ | refine brY ?_ | refine brN ?_
  refine callA hn [0, 1] ?_
  repeat first | refine EffG.mk (obA ?_) | refine obA ?_ | refine chkA ?_ | refine brY ?_ | refine brN ?_
  refine callA hc [0] ?_
  repeat first | refine EffG.mk (obA ?_) | refine obA ?_ | refine chkA ?_ | refine brY ?_ | refine brN ?_
  refine retA [0, 1, 2]
end Go.Proofs.YtodkhgofmgaafaaDoor.Av

namespace Go.Proofs.YtodkhgofmgaafaaDoor.Av
open Go
set_option linter.all false
set_option maxRecDepth 3000

/-! two rows of bytes -/
theorem take_succ {l : List (BitVec 8)} {i : Nat} (h : i < l.length) : l.take (i + 1) = l.take i ++ [l.getD i 0] := by
  rw [List.take_add_one, List.getElem?_eq_getElem h, List.getD_eq_getElem?_getD, List.getElem?_eq_getElem h]; rfl
theorem sequal_ac (a b : List (BitVec 8)) (k : Nat) (ca cb : Option Nat) (ha : a.length = k) (hb : b.length = k) (hk : k ≤ 4611686018427387904) :
    AC Tryd.prog 71 [.slice 0 [] 0 k ca, .slice 1 [] 0 k cb] 2 [(0, some ⟨.row .cell, .u8s a, false⟩), (1, some ⟨.row .cell, .u8s b, false⟩)] ⟨.bool (decide (a = b)), [], []⟩ := by
  generalize hR : decide (a = b) = R
  refine acA tab mix Tryd.func71 {} ?_
  repeat first | refine EffG.mk (obA ?_) | refine obA ?_ | refine chkA ?_
  refine brN ?_ (h := by show (!decide ((k : Int) = k)) = false; rw [decide_eq_true rfl]; rfl)
  repeat first | refine EffG.mk (obA ?_) | refine obA ?_ | refine chkA ?_
  refine loopG Nat (fun i => [(0, .slice 0 [] 0 k ca), (1, .slice 1 [] 0 k cb), (12, .i64 k), (13, .i64 i)]) (fun i => [(0, some ⟨.row .cell, .u8s a, false⟩), (1, some ⟨.row .cell, .u8s b, false⟩)]) 2
    (fun i => i ≤ k ∧ a.take i = b.take i) (fun i => k - i) 0 [0, 1] ⟨Nat.zero_le _, rfl⟩ viewA ?_
  intro i hI
  obtain ⟨hi, he⟩ := hI
  repeat first | refine EffG.mk (obA ?_) | refine obA ?_ | refine chkA ?_
  refine Br.split (fun h => ?_) (fun h => ?_)
  · have hi : i < k := by have := of_decide_eq_true h; omega
    have e0 : ∀ l : List (BitVec 8), l.getD (0 + i) 0 = l.getD i 0 := fun l => by rw [Nat.zero_add]
    have hta := take_succ (l := a) (i := i) (by omega)
    have htb := take_succ (l := b) (i := i) (by omega)
    by_cases hx : a.getD i 0 = b.getD i 0
    · repeat first | refine EffG.mk (obA ?_) | refine obA ?_ | refine chkA ?_
      refine brN ?_ (h := by show (!decide (a.getD (0 + i) 0 = b.getD (0 + i) 0)) = false; rw [e0, e0, decide_eq_true hx]; rfl)
      repeat first | refine EffG.mk (obA ?_) | refine obA ?_ | refine chkA ?_
      refine nextA (i + 1) [0, 1] viewA (h1 := ⟨by omega, by rw [hta, htb, he, hx]⟩)
    · repeat first | refine EffG.mk (obA ?_) | refine obA ?_ | refine chkA ?_
      refine brY ?_ (h := by show (!decide (a.getD (0 + i) 0 = b.getD (0 + i) 0)) = true; rw [e0, e0, decide_eq_false hx]; rfl)
      have : R = false := by rw [← hR]; exact decide_eq_false fun e => hx (by rw [e])
      subst this
      repeat first | refine EffG.mk (obA ?_) | refine obA ?_ | refine chkA ?_
      refine retA [0, 1]
  · obtain rfl : i = k := by have := of_decide_eq_false h; omega
    have : R = true := by
      rw [← hR]
      refine decide_eq_true ?_
      rw [List.take_of_length_le (by omega), List.take_of_length_le (by omega)] at he
      exact he
    subst this
    repeat first | refine EffG.mk (obA ?_) | refine obA ?_ | refine chkA ?_
    refine retA [0, 1]

/-! may a slot be? -/
instance : DecidableEq Slot := fun a b => decidable_of_iff (a.used = b.used ∧ a.turns = b.turns ∧ a.salt = b.salt ∧ a.sealed = b.sealed ∧ a.check = b.check)
  ⟨fun ⟨h1, h2, h3, h4, h5⟩ => by cases a; cases b; cases h1; cases h2; cases h3; cases h4; cases h5; rfl, fun h => by subst h; exact ⟨rfl, rfl, rfl, rfl, rfl⟩⟩
theorem slot_eqb (a b : Slot) : (slotD a).eqb (slotD b) = decide (a = b) := by
  rw [Bool.eq_iff_iff, decide_eq_true_iff]
  obtain ⟨a1, a2, a3, a4, a5⟩ := a
  obtain ⟨b1, b2, b3, b4, b5⟩ := b
  show (decide (a1 = b1) && (decide (a2 = b2) && (decide (a3 = b3) && (decide (a4 = b4) && (decide (a5 = b5) && true))))) = true ↔ _
  simp only [Bool.and_eq_true, decide_eq_true_iff, Bool.and_true, Slot.mk.injEq]
theorem tab_eqbs : ∀ a b : List Slot, D.eqbs (a.map slotD) (b.map slotD) = decide (a = b)
  | [], [] => rfl
  | [], _ :: _ => rfl
  | _ :: _, [] => rfl
  | x :: a, y :: b => by
    show ((slotD x).eqb (slotD y) && D.eqbs (a.map slotD) (b.map slotD)) = _
    rw [slot_eqb, tab_eqbs a b, Bool.eq_iff_iff]
    simp
theorem tab_eqb (a b : List Slot) : (tabD a).eqb (tabD b) = decide (a = b) := tab_eqbs a b
def mayB (s : Slot) : Bool := bif s.used then decide (1 ≤ s.turns.toNat ∧ s.turns.toNat ≤ 4096) else decide (s = slot0)

theorem smay_ac (s : Slot) (hs : s.ok) : AC Tryd.prog 70 [slotD s] 0 [] ⟨.bool (mayB s), [], []⟩ := by
  have hT := slot_ty hs
  obtain ⟨u, t, sa, se, ch⟩ := s
  obtain ⟨hsa, hse, hch⟩ := hs
  have hsa : sa.length = 16 := hsa
  have hse : se.length = 32 := hse
  have hch : ch.length = 32 := hch
  cases u with
  | false =>
    have hq := slot_eqb ⟨false, t, sa, se, ch⟩ slot0
    have e : mayB ⟨false, t, sa, se, ch⟩ = decide ((⟨false, t, sa, se, ch⟩ : Slot) = slot0) := rfl
    rw [e]
    generalize decide ((⟨false, t, sa, se, ch⟩ : Slot) = slot0) = y at hq
    refine acA tab mix Tryd.func70 {} ?_
    refine EffG.mk (And.intro hT ?_)
    repeat first | refine EffG.mk (obA ?_) | refine obA ?_ | refine chkA ?_ | refine brY ?_ | refine brN ?_
    refine retA [] (h1 := ?_)
    show retIs (.bool y) [.bool ((slotD ⟨false, t, sa, se, ch⟩).eqb (slotD slot0))]
    rw [hq]
    first | rfl | exact rfl
  | true =>
    have e : mayB ⟨true, t, sa, se, ch⟩ = decide (1 ≤ t.toNat ∧ t.toNat ≤ 4096) := rfl
    rw [e]
    by_cases h1 : 1 ≤ t.toNat
    · have q2 : decide (t.toNat ≤ (4096 : BitVec 16).toNat) = decide (1 ≤ t.toNat ∧ t.toNat ≤ 4096) := by
        rw [Bool.eq_iff_iff, decide_eq_true_iff, decide_eq_true_iff]
        exact ⟨fun h => ⟨h1, h⟩, fun h => h.2⟩
      rw [← q2]
      refine acA tab mix Tryd.func70 {} ?_
      refine EffG.mk (And.intro hT ?_)
      repeat first | refine EffG.mk (obA ?_) | refine obA ?_ | refine chkA ?_ | refine brY ?_ | refine brN ?_
      refine brY ?_ (h := decide_eq_true h1)
      repeat first | refine EffG.mk (obA ?_) | refine obA ?_ | refine chkA ?_ | refine brY ?_ | refine brN ?_
      refine retA []
    · rw [decide_eq_false (show ¬ (1 ≤ t.toNat ∧ t.toNat ≤ 4096) from fun h => h1 h.1)]
      refine acA tab mix Tryd.func70 {} ?_
      refine EffG.mk (And.intro hT ?_)
      repeat first | refine EffG.mk (obA ?_) | refine obA ?_ | refine chkA ?_ | refine brY ?_ | refine brN ?_
      refine brN ?_ (h := decide_eq_false h1)
      repeat first | refine EffG.mk (obA ?_) | refine obA ?_ | refine chkA ?_ | refine brY ?_ | refine brN ?_
      refine retA []
theorem rmayf_ac (s : Slot) (hs : s.ok) : AC Tryd.prog 48 [slotD s] 0 [] ⟨.bool (mayB s), [], []⟩ := by
  have hs0 := hs
  have hT := slot_ty hs
  obtain ⟨u, t, sa, se, ch⟩ := s
  obtain ⟨hsa, hse, hch⟩ := hs
  have hsa : sa.length = 16 := hsa
  have hse : se.length = 32 := hse
  have hch : ch.length = 32 := hch
  cases u with
  | false =>
    have hq := slot_eqb ⟨false, t, sa, se, ch⟩ slot0
    have e : mayB ⟨false, t, sa, se, ch⟩ = decide ((⟨false, t, sa, se, ch⟩ : Slot) = slot0) := rfl
    rw [e]
    generalize decide ((⟨false, t, sa, se, ch⟩ : Slot) = slot0) = y at hq
    refine acA tab mix Tryd.func48 {} ?_
    refine EffG.mk (And.intro hT ?_)
    repeat first | refine EffG.mk (obA ?_) | refine obA ?_ | refine chkA ?_ | refine brY ?_ | refine brN ?_
    refine retA [] (h1 := ?_)
    show retIs (.bool y) [.bool ((slotD ⟨false, t, sa, se, ch⟩).eqb (slotD slot0))]
    rw [hq]
    first | rfl | exact rfl
  | true => exact rmay_ac t sa se ch hs0
end Go.Proofs.YtodkhgofmgaafaaDoor.Av

namespace Go.Proofs.YtodkhgofmgaafaaDoor.Av
open Go
set_option linter.all false
set_option maxRecDepth 3000

/-! a table of bytes -/
def slotAt (bs : List (BitVec 8)) (j : Nat) : Slot :=
  ⟨decide (bs.getD (128 * j) 0 = 1), (bs.getD (128 * j + 1) 0).setWidth 16 <<< (8 : Nat) ||| (bs.getD (128 * j + 2) 0).setWidth 16, (bs.drop (128 * j + 3)).take 16, (bs.drop (128 * j + 19)).take 32, (bs.drop (128 * j + 51)).take 32⟩
theorem slotAt_ok {bs : List (BitVec 8)} {j : Nat} (h : 128 * j + 128 ≤ bs.length) : (slotAt bs j).ok :=
  ⟨by show ((bs.drop _).take 16).length = 16; rw [List.length_take, List.length_drop]; omega, by show ((bs.drop _).take 32).length = 32; rw [List.length_take, List.length_drop]; omega, by show ((bs.drop _).take 32).length = 32; rw [List.length_take, List.length_drop]; omega⟩
def getI (bs : List (BitVec 8)) (i : Nat) : List Slot := (List.range i).map (slotAt bs) ++ List.replicate (8 - i) slot0
theorem getI_ok {bs : List (BitVec 8)} (hb : bs.length = 1024) {i : Nat} (hi : i ≤ 8) : TabS (getI bs i) :=
  ⟨by unfold getI; simp only [List.length_append, List.length_map, List.length_range, List.length_replicate]; omega, fun s hs => by
    rcases List.mem_append.1 hs with h | h
    · obtain ⟨j, hj, rfl⟩ := List.mem_map.1 h
      have := List.mem_range.1 hj
      exact slotAt_ok (by omega)
    · rw [List.eq_of_mem_replicate h]; exact slot0_ok⟩
theorem getI_set {bs : List (BitVec 8)} {i : Nat} (hi : i < 8) : (getI bs i).set i (slotAt bs i) = getI bs (i + 1) := by
  unfold getI
  rw [List.range_succ, List.map_append, List.set_append_right (h := by simp)]
  simp only [List.length_map, List.length_range, Nat.sub_self, List.map_cons, List.map_nil, List.append_assoc]
  congr 1
  rw [show 8 - i = (8 - (i + 1)) + 1 by omega, List.replicate_succ, List.set_cons_zero]
  rfl
theorem getI_at {bs : List (BitVec 8)} {i : Nat} (hi : i < 8) : (getI bs i).getD i slot0 = slot0 := by
  unfold getI
  rw [List.getD_eq_getElem?_getD, List.getElem?_append_right (by simp)]
  simp only [List.length_map, List.length_range, Nat.sub_self]
  rw [show 8 - i = (8 - (i + 1)) + 1 by omega, List.replicate_succ]
  rfl
def goodB (bs : List (BitVec 8)) : Bool := (List.range 8).all (fun j => mayB (slotAt bs j)) && decide (tabI (getI bs 8) 8 = bs)
def getF (bs : List (BitVec 8)) : List Slot × Int := bif goodB bs then (getI bs 8, 0) else (tab0, 4)
theorem getF_bad {bs : List (BitVec 8)} {j : Nat} (hj : j < 8) (h : mayB (slotAt bs j) = false) : getF bs = (tab0, 4) := by
  have : goodB bs = false := by
    unfold goodB
    have : (List.range 8).all (fun j => mayB (slotAt bs j)) = false := by
      rw [List.all_eq_false]
      exact ⟨j, List.mem_range.2 hj, by rw [h]; decide⟩
    rw [this]; rfl
  unfold getF; rw [this]; rfl
theorem getF_end {bs : List (BitVec 8)} (h : ∀ j, j < 8 → mayB (slotAt bs j) = true) : getF bs = bif decide (tabI (getI bs 8) 8 = bs) then (getI bs 8, 0) else (tab0, 4) := by
  unfold getF goodB
  rw [List.all_eq_true.2 fun j hj => h j (List.mem_range.1 hj)]
  rfl
theorem setP_slotf {l : List Slot} {i f : Nat} {s s' : Slot} {y : D} (hi : i < l.length) (hs : l.getD i slot0 = s) (h : setP (slotD s) [.fld f] y = some (slotD s')) : setP (tabD l) [.idx i, .fld f] y = some (tabD (l.set i s')) := by
  have e : setP (nthD (l.map slotD) i) [.fld f] y = some (slotD s') := by rw [nthD_slots hi, hs]; exact h
  show (match setP (nthD (l.map slotD) i) [.fld f] y with | some d' => some (D.node ((l.map slotD).set i d')) | none => none) = _
  rw [e]
  exact congrArg (fun x => some (D.node x)) List.map_set.symm
theorem getP_slotw {l : List Slot} {i f n : Nat} {s : Slot} {v : D} (hi : i < l.length) (hs : l.getD i slot0 = s) (h : getP (slotD s) [.fld f, .win 0 n] = some v) : getP (tabD l) [.idx i, .fld f, .win 0 n] = some v := by
  show getP (nthD (l.map slotD) i) [.fld f, .win 0 n] = _
  rw [nthD_slots hi, hs]; exact h
theorem okP_slotw {l : List Slot} {i f n : Nat} {s : Slot} (hi : i < l.length) (hs : l.getD i slot0 = s) (h : okP (slotD s) [.fld f, .win 0 n]) : okP (tabD l) [.idx i, .fld f, .win 0 n] := by
  refine ⟨by rw [List.length_map]; exact hi, ?_⟩
  show okP (nthD (l.map slotD) i) [.fld f, .win 0 n]
  rw [nthD_slots hi, hs]; exact h
theorem setP_slotw {l : List Slot} {i f n : Nat} {s s' : Slot} {y : D} (hi : i < l.length) (hs : l.getD i slot0 = s) (h : setP (slotD s) [.fld f, .win 0 n] y = some (slotD s')) : setP (tabD l) [.idx i, .fld f, .win 0 n] y = some (tabD (l.set i s')) := by
  have e : setP (nthD (l.map slotD) i) [.fld f, .win 0 n] y = some (slotD s') := by rw [nthD_slots hi, hs]; exact h
  show (match setP (nthD (l.map slotD) i) [.fld f, .win 0 n] y with | some d' => some (D.node ((l.map slotD).set i d')) | none => none) = _
  rw [e]
  exact congrArg (fun x => some (D.node x)) List.map_set.symm
theorem win_all {l y : List (BitVec 8)} {n : Nat} (hl : l.length = n) : l.take 0 ++ y ++ l.drop (0 + n) = y := by
  rw [List.take_zero, List.nil_append, Nat.zero_add, List.drop_of_length_le (by omega), List.append_nil]

theorem win_put {l y : List (BitVec 8)} {n : Nat} (hl : l.length = n) (hy : y.length = n) : l.take 0 ++ (y.drop 0).take n ++ l.drop (0 + n) = y := by
  rw [List.drop_zero, List.take_of_length_le (l := y) (by omega), win_all hl]

theorem sget_len_ac (bs : List (BitVec 8)) (k : Nat) (x : Option Nat) (hx : x = none → k = 0) (hk : k ≠ 1024) :
    AC Tryd.prog 29 [slD 0 k x] 1 [(0, some ⟨.row .cell, .u8s bs, false⟩)] ⟨.tup [tabD tab0, .i64 4], [], []⟩ := by
  refine acA tab mix Tryd.func29 {} ?_
  repeat first | refine EffG.mk (obA ?_) | refine obA ?_ | refine chkA ?_ | refine lenS rfl rfl rfl rfl hx rfl rfl ?_
  refine brY ?_ (h := by show (!decide ((k : Int) = 1024)) = true; rw [decide_eq_false (by omega)]; rfl)
  repeat first | refine EffG.mk (obA ?_) | refine obA ?_ | refine chkA ?_ | refine brY ?_ | refine brN ?_
  refine retA [0]

set_option maxHeartbeats 4000000 in
theorem sget_ac (bs : List (BitVec 8)) (cap : Option Nat) (hb : bs.length = 1024) :
    AC Tryd.prog 29 [.slice 0 [] 0 1024 cap] 1 [(0, some ⟨.row .cell, .u8s bs, false⟩)] ⟨.tup [tabD (getF bs).1, .i64 (getF bs).2], [], []⟩ := by
  obtain ⟨R, hR⟩ : ∃ R, getF bs = R := ⟨_, rfl⟩
  rw [hR]
  refine acA tab mix Tryd.func29 {} ?_
  repeat first | refine EffG.mk (obA ?_) | refine obA ?_ | refine chkA ?_ | refine brY ?_ | refine brN ?_
  refine loopG Nat (fun i => [(0, .slice 0 [] 0 1024 cap), (2, .ptr 1 []), (4, .ptr 2 []), (12, .i64 i)]) (fun i => [(0, some ⟨.row .cell, .u8s bs, false⟩), (1, some ⟨tTab, tabD tab0, true⟩), (2, some ⟨tTab, tabD (getI bs i), true⟩)]) 3
    (fun i => i ≤ 8 ∧ ∀ j, j < i → mayB (slotAt bs j) = true) (fun i => 8 - i) 0 [0, 1, 2] ⟨Nat.zero_le _, fun j h => absurd h (Nat.not_lt_zero _)⟩ viewA ?_
  intro i hI
  obtain ⟨hi, hall⟩ := hI
  repeat first | refine EffG.mk (obA ?_) | refine obA ?_ | refine chkA ?_
  refine Br.split (fun h => ?_) (fun h => ?_)
  · have hi : i < 8 := by have := of_decide_eq_true h; omega
    have hok := slotAt_ok (bs := bs) (j := i) (by omega)
    have hmay := smay_ac _ hok
    have hset := getI_set (bs := bs) hi
    have hat := getI_at (bs := bs) hi
    have hl := (getI_ok hb (i := i) (by omega)).len
    have hsat : slotAt bs i = ⟨decide (bs.getD (128 * i) 0 = 1), (bs.getD (128 * i + 1) 0).setWidth 16 <<< (8 : Nat) ||| (bs.getD (128 * i + 1 + 1) 0).setWidth 16, (bs.drop (128 * i + 1 + 2)).take 16, (bs.drop (128 * i + 1 + 2 + 16)).take 32, (bs.drop (128 * i + 1 + 2 + 16 + 32)).take 32⟩ := rfl
    have hg : slotAt bs i = R.1.getD 0 slot0 → True := fun _ => trivial
    have hbad := getF_bad (bs := bs) hi
    rw [hR] at hbad
    have c1 := fun cap => readr_ac bs (128 * i) 128 cap
    have c2 := fun cap => ru8_ac bs (128 * i) 128 cap (by omega) (by omega)
    have c3 := fun cap => ru16_ac bs (128 * i + 1) 127 cap (by omega) (by omega)
    have c4 := fun cap => take_ac bs (128 * i + 1 + 2) 16 125 cap (by omega) (by omega) (by decide)
    have c5 := fun cap => take_ac bs (128 * i + 1 + 2 + 16) 32 109 cap (by omega) (by omega) (by decide)
    have c6 := fun cap => take_ac bs (128 * i + 1 + 2 + 16 + 32) 32 77 cap (by omega) (by omega) (by decide)
    obtain ⟨hsa, hse, hch⟩ := hok
    rw [hsat] at hsa hse hch
    have hsa : ((bs.drop (128 * i + 1 + 2)).take 16).length = 16 := hsa
    have hse : ((bs.drop (128 * i + 1 + 2 + 16)).take 32).length = 32 := hse
    have hch : ((bs.drop (128 * i + 1 + 2 + 16 + 32)).take 32).length = 32 := hch
    generalize (bs.drop (128 * i + 1 + 2)).take 16 = sa at c4 hsa hsat
    generalize (bs.drop (128 * i + 1 + 2 + 16)).take 32 = se at c5 hse hsat
    generalize (bs.drop (128 * i + 1 + 2 + 16 + 32)).take 32 = ch at c6 hch hsat
    generalize (bs.getD (128 * i + 1) 0).setWidth 16 <<< (8 : Nat) ||| (bs.getD (128 * i + 1 + 1) 0).setWidth 16 = tu at c3 hsat
    generalize bs.getD (128 * i) 0 = u at c2 hsat
    generalize getI bs i = l at hset hat hl ⊢
    iterate 9 (first | refine EffG.mk (obA ?_) | refine obA ?_ | refine chkA ?_)
    have e1 : 0 + ((some ((i : Int) * 128)).getD 0).toNat = 128 * i := by show 0 + ((i : Int) * 128).toNat = _; omega
    have e2 : ((some (((i : Int) + 1) * 128)).getD ((1024 : Nat) : Int)).toNat - ((some ((i : Int) * 128)).getD 0).toNat = 128 := by show (((i : Int) + 1) * 128).toNat - ((i : Int) * 128).toNat = _; omega
    rw [e1, e2]
    repeat first | refine EffG.mk (obA ?_) | refine obA ?_ | refine chkA ?_
    refine callA (c1 _) [0] ?_
    repeat first | refine EffG.mk (obA ?_) | refine obA ?_ | refine chkA ?_
    refine callA (c2 _) [0, 3] ?_
    repeat first | refine EffG.mk (obA ?_) | refine obA ?_ | refine chkA ?_
    refine callA (c3 _) [0, 3] ?_
    iterate 2 (first | refine EffG.mk (obA ?_) | refine obA ?_ | refine chkA ?_)
    refine storeG (tabD (l.set i ⟨decide (u = 1), 0, List.replicate 16 0, List.replicate 32 0, List.replicate 32 0⟩)) rfl rfl rfl rfl rfl rfl rfl (getP_slotf (by omega) hat rfl) (setP_slotf (by omega) hat rfl) (okP_slotf (by omega) hat trivial) rfl ?_
    iterate 2 (first | refine EffG.mk (obA ?_) | refine obA ?_ | refine chkA ?_)
    have hat1 : ∀ s, (l.set i s).getD i slot0 = s := fun s => by rw [getD_set (by omega), if_pos rfl]
    have hl1 : ∀ s : Slot, i < (l.set i s).length := fun s => by rw [List.length_set]; omega
    have hss : ∀ s s' : Slot, (l.set i s).set i s' = l.set i s' := fun s s' => List.set_set ..
    refine storeG (tabD ((l.set i _).set i ⟨decide (u = 1), tu, List.replicate 16 0, List.replicate 32 0, List.replicate 32 0⟩)) rfl rfl rfl rfl rfl rfl rfl (getP_slotf (hl1 _) (hat1 _) rfl) (setP_slotf (hl1 _) (hat1 _) rfl) (okP_slotf (hl1 _) (hat1 _) trivial) rfl ?_
    rw [hss]
    repeat first | refine EffG.mk (obA ?_) | refine obA ?_ | refine chkA ?_
    refine slicePG rfl rfl rfl rfl rfl rfl rfl rfl rfl (getP_slotf (hl1 _) (hat1 _) rfl) (okP_slotf (hl1 _) (hat1 _) trivial) ?_
    repeat first | refine EffG.mk (obA ?_) | refine obA ?_ | refine chkA ?_
    refine callA (c4 _) [0, 3] ?_
    refine copyG (tabD ((l.set i _).set i ⟨decide (u = 1), tu, sa, List.replicate 32 0, List.replicate 32 0⟩)) rfl rfl rfl rfl rfl rfl rfl rfl rfl rfl rfl rfl rfl rfl rfl (by decide) (getP_slotw (hl1 _) (hat1 _) rfl) rfl (setP_slotw (hl1 _) (hat1 _) ?_) ⟨by omega, trivial⟩ (okP_slotw (hl1 _) (hat1 _) ⟨show 0 + 16 ≤ (List.replicate 16 (0 : BitVec 8)).length from by decide, trivial⟩) ?_ ?_
    · exact congrArg (fun x => some (D.node [.bool (decide (u = 1)), .u16 tu, .u8s x, .u8s (List.replicate 32 0), .u8s (List.replicate 32 0)])) (win_put (l := List.replicate 16 (0 : BitVec 8)) (y := sa) (n := 16) rfl hsa)
    · show (List.take 16 (List.drop 0 sa)).length = 16
      rw [List.drop_zero, List.length_take]; omega
    rw [hss]
    repeat first | refine EffG.mk (obA ?_) | refine obA ?_ | refine chkA ?_
    refine slicePG rfl rfl rfl rfl rfl rfl rfl rfl rfl (getP_slotf (hl1 _) (hat1 _) rfl) (okP_slotf (hl1 _) (hat1 _) trivial) ?_
    repeat first | refine EffG.mk (obA ?_) | refine obA ?_ | refine chkA ?_
    refine callA (c5 _) [0, 3] ?_
    refine copyG (tabD ((l.set i _).set i ⟨decide (u = 1), tu, sa, se, List.replicate 32 0⟩)) rfl rfl rfl rfl rfl rfl rfl rfl rfl rfl rfl rfl rfl rfl rfl (by decide) (getP_slotw (hl1 _) (hat1 _) rfl) rfl (setP_slotw (hl1 _) (hat1 _) ?_) ⟨by omega, trivial⟩ (okP_slotw (hl1 _) (hat1 _) ⟨show 0 + 32 ≤ (List.replicate 32 (0 : BitVec 8)).length from by decide, trivial⟩) ?_ ?_
    · exact congrArg (fun x => some (D.node [.bool (decide (u = 1)), .u16 tu, .u8s sa, .u8s x, .u8s (List.replicate 32 0)])) (win_put (l := List.replicate 32 (0 : BitVec 8)) (y := se) (n := 32) rfl hse)
    · show (List.take 32 (List.drop 0 se)).length = 32
      rw [List.drop_zero, List.length_take]; omega
    rw [hss]
    repeat first | refine EffG.mk (obA ?_) | refine obA ?_ | refine chkA ?_
    refine slicePG rfl rfl rfl rfl rfl rfl rfl rfl rfl (getP_slotf (hl1 _) (hat1 _) rfl) (okP_slotf (hl1 _) (hat1 _) trivial) ?_
    repeat first | refine EffG.mk (obA ?_) | refine obA ?_ | refine chkA ?_
    refine callA (c6 _) [0, 3] ?_
    refine copyG (tabD ((l.set i _).set i ⟨decide (u = 1), tu, sa, se, ch⟩)) rfl rfl rfl rfl rfl rfl rfl rfl rfl rfl rfl rfl rfl rfl rfl (by decide) (getP_slotw (hl1 _) (hat1 _) rfl) rfl (setP_slotw (hl1 _) (hat1 _) ?_) ⟨by omega, trivial⟩ (okP_slotw (hl1 _) (hat1 _) ⟨show 0 + 32 ≤ (List.replicate 32 (0 : BitVec 8)).length from by decide, trivial⟩) ?_ ?_
    · exact congrArg (fun x => some (D.node [.bool (decide (u = 1)), .u16 tu, .u8s sa, .u8s se, .u8s x])) (win_put (l := List.replicate 32 (0 : BitVec 8)) (y := ch) (n := 32) rfl hch)
    · show (List.take 32 (List.drop 0 ch)).length = 32
      rw [List.drop_zero, List.length_take]; omega
    rw [hss]
    repeat first | refine EffG.mk (obA ?_) | refine obA ?_ | refine chkA ?_
    have hn : nthD ((l.set i ⟨decide (u = 1), tu, sa, se, ch⟩).map slotD) (Int.toNat (i : Int)) = slotD ⟨decide (u = 1), tu, sa, se, ch⟩ := by
      show nthD _ i = _
      rw [nthD_slots (hl1 _), hat1]
    rw [hn]
    rw [hsat] at hmay hset hbad
    rw [hset]
    cases hm : mayB ⟨decide (u = 1), tu, sa, se, ch⟩ with
    | true =>
      rw [hm] at hmay
      refine callA hmay [] ?_
      repeat first | refine EffG.mk (obA ?_) | refine obA ?_ | refine chkA ?_ | refine brY ?_ | refine brN ?_
      refine nextA (i + 1) [0, 1, 2] viewA (h1 := ⟨by omega, fun j hj => ?_⟩)
      rcases Nat.lt_or_eq_of_le (Nat.le_of_lt_succ hj) with h' | h'
      · exact hall j h'
      · rw [h', hsat]; exact hm
    | false =>
      rw [hm] at hmay
      rw [hbad hm]
      refine callA hmay [] ?_
      repeat first | refine EffG.mk (obA ?_) | refine obA ?_ | refine chkA ?_ | refine brY ?_ | refine brN ?_
      refine retA [0]
  · obtain rfl : i = 8 := by have := of_decide_eq_false h; omega
    have hend := getF_end (bs := bs) hall
    rw [hR] at hend
    have hok := getI_ok hb (i := 8) (by omega)
    have hpl := tabI_length hok 8 (by omega)
    have hp := sput_ac _ hok
    have hty := hok.ty
    generalize getI bs 8 = l at hend hok hpl hp hty ⊢
    generalize tabI l 8 = pb at hend hpl hp
    have hq := sequal_ac pb bs 1024 none cap hpl hb (by decide)
    by_cases he : pb = bs
    · rw [decide_eq_true he] at hend hq
      subst hend
      repeat first | refine EffG.mk (obA ?_) | refine obA ?_ | refine chkA ?_ | refine brY ?_ | refine brN ?_
      refine callA hp [] ?_ (hargs := by simp only [D.rens, ren_tab]; rfl)
      repeat first | refine EffG.mk (obA ?_) | refine obA ?_ | refine chkA ?_ | refine brY ?_ | refine brN ?_
      refine callA hq [3, 0] ?_
      repeat first | refine EffG.mk (obA ?_) | refine obA ?_ | refine chkA ?_ | refine brY ?_ | refine brN ?_
      refine EffG.mk (And.intro ⟨trivial, hty⟩ ?_)
      repeat first | refine EffG.mk (obA ?_) | refine obA ?_ | refine chkA ?_ | refine brY ?_ | refine brN ?_
      refine retA [0] (h1 := ?_)
      show retIs (.tup [(tabD l).ren _, .i64 0]) [tabD l, .i64 0]
      rw [ren_tab]
      first | rfl | exact ⟨rfl, rfl⟩ | exact rfl
    · rw [decide_eq_false he] at hend hq
      subst hend
      repeat first | refine EffG.mk (obA ?_) | refine obA ?_ | refine chkA ?_ | refine brY ?_ | refine brN ?_
      refine callA hp [] ?_ (hargs := by simp only [D.rens, ren_tab]; rfl)
      repeat first | refine EffG.mk (obA ?_) | refine obA ?_ | refine chkA ?_ | refine brY ?_ | refine brN ?_
      refine callA hq [3, 0] ?_
      repeat first | refine EffG.mk (obA ?_) | refine obA ?_ | refine chkA ?_ | refine brY ?_ | refine brN ?_
      refine retA [0]
end Go.Proofs.YtodkhgofmgaafaaDoor.Av

namespace Go.Proofs.YtodkhgofmgaafaaDoor.Av
open Go
set_option linter.all false
set_option maxRecDepth 3000

/-! the document's table of bytes -/
def cpN (bs : List (BitVec 8)) (o n k : Nat) : List (BitVec 8) := (bs.drop o).take k ++ List.replicate (n - k) 0
theorem cpN_length {bs : List (BitVec 8)} {o n k : Nat} (h : o + n ≤ bs.length) (hk : k ≤ n) : (cpN bs o n k).length = n := by
  unfold cpN
  rw [List.length_append, List.length_take, List.length_drop, List.length_replicate]; omega
theorem cpN_set {bs : List (BitVec 8)} {o n k : Nat} (h : o + n ≤ bs.length) (hk : k < n) : (cpN bs o n k).set k (bs.getD (o + k) 0) = cpN bs o n (k + 1) := by
  unfold cpN
  have hl : ((bs.drop o).take k).length = k := by rw [List.length_take, List.length_drop]; omega
  rw [List.set_append_right (h := by omega), hl, Nat.sub_self, take_succ (by rw [List.length_drop]; omega), getD_drop, List.append_assoc]
  congr 1
  rw [show n - k = (n - (k + 1)) + 1 by omega, List.replicate_succ, List.set_cons_zero]
  rfl
theorem cpN_zero (bs : List (BitVec 8)) (o n : Nat) : cpN bs o n 0 = List.replicate n 0 := by
  unfold cpN
  rw [List.take_zero, List.nil_append, Nat.sub_zero]
theorem cpN_all (bs : List (BitVec 8)) (o n : Nat) : cpN bs o n n = (bs.drop o).take n := by
  unfold cpN
  rw [Nat.sub_self]; exact List.append_nil _

theorem rget_len_ac (bs : List (BitVec 8)) (k : Nat) (x : Option Nat) (hx : x = none → k = 0) (hk : k ≠ 1024) :
    AC Tryd.prog 30 [slD 0 k x] 1 [(0, some ⟨.row .cell, .u8s bs, false⟩)] ⟨.tup [tabD tab0, .i64 4], [], []⟩ := by
  refine acA tab mix Tryd.func30 {} ?_
  repeat first | refine EffG.mk (obA ?_) | refine obA ?_ | refine chkA ?_ | refine lenS rfl rfl rfl rfl hx rfl rfl ?_
  refine brY ?_ (h := by show (!decide ((k : Int) = 1024)) = true; rw [decide_eq_false (by omega)]; rfl)
  repeat first | refine EffG.mk (obA ?_) | refine obA ?_ | refine chkA ?_ | refine brY ?_ | refine brN ?_
  refine retA [0]

set_option maxHeartbeats 4000000 in
theorem rget_ac (bs : List (BitVec 8)) (cap : Option Nat) (hb : bs.length = 1024) :
    AC Tryd.prog 30 [.slice 0 [] 0 1024 cap] 1 [(0, some ⟨.row .cell, .u8s bs, false⟩)] ⟨.tup [tabD (getF bs).1, .i64 (getF bs).2], [], []⟩ := by
  obtain ⟨R, hR⟩ : ∃ R, getF bs = R := ⟨_, rfl⟩
  rw [hR]
  refine acA tab mix Tryd.func30 {} ?_
  repeat first | refine EffG.mk (obA ?_) | refine obA ?_ | refine chkA ?_ | refine brY ?_ | refine brN ?_
  refine loopG Nat (fun i => [(0, .slice 0 [] 0 1024 cap), (2, .ptr 1 []), (4, .ptr 2 []), (5, .i64 i)]) (fun i => [(0, some ⟨.row .cell, .u8s bs, false⟩), (1, some ⟨tTab, tabD tab0, true⟩), (2, some ⟨tTab, tabD (getI bs i), true⟩)]) 3
    (fun i => i ≤ 8 ∧ ∀ j, j < i → mayB (slotAt bs j) = true) (fun i => 8 - i) 0 [0, 1, 2] ⟨Nat.zero_le _, fun j h => absurd h (Nat.not_lt_zero _)⟩ viewA ?_
  intro i hI
  obtain ⟨hi, hall⟩ := hI
  repeat first | refine EffG.mk (obA ?_) | refine obA ?_ | refine chkA ?_
  refine Br.split (fun h => ?_) (fun h => ?_)
  · have hi : i < 8 := by have := of_decide_eq_true h; omega
    have hok := slotAt_ok (bs := bs) (j := i) (by omega)
    have hmay := rmayf_ac _ hok
    have hset := getI_set (bs := bs) hi
    have hl := (getI_ok hb (i := i) (by omega)).len
    have hbad := getF_bad (bs := bs) hi
    rw [hR] at hbad
    have hsat : slotAt bs i = ⟨decide (bs.getD (128 * i) 0 = 1), (bs.getD (128 * i + 1) 0).setWidth 16 <<< (8 : Nat) ||| (bs.getD (128 * i + 2) 0).setWidth 16, cpN bs (128 * i + 3) 16 16, cpN bs (128 * i + 19) 32 32, cpN bs (128 * i + 51) 32 32⟩ := by
      rw [cpN_all, cpN_all, cpN_all]; rfl
    generalize getI bs i = l at hset hl ⊢
    iterate 7 (first | refine EffG.mk (obA ?_) | refine obA ?_ | refine chkA ?_)
    have e1 : 0 + ((some ((i : Int) * 128)).getD 0).toNat = 128 * i := by show 0 + ((i : Int) * 128).toNat = _; omega
    have e2 : ((some (((i : Int) + 1) * 128)).getD ((1024 : Nat) : Int)).toNat - ((some ((i : Int) * 128)).getD 0).toNat = 128 := by show (((i : Int) + 1) * 128).toNat - ((i : Int) * 128).toNat = _; omega
    rw [e1, e2]
    generalize Option.map (fun x => x - ((some ((i : Int) * 128)).getD 0).toNat) cap = cp
    repeat first | refine EffG.mk (obA ?_) | refine obA ?_ | refine chkA ?_
    have z16 := cpN_zero bs (128 * i + 3) 16
    have z32 := cpN_zero bs (128 * i + 19) 32
    have z33 := cpN_zero bs (128 * i + 51) 32
    have hl1 := fun k (hk : k ≤ 16) => cpN_length (bs := bs) (o := 128 * i + 3) (n := 16) (k := k) (by omega) hk
    have hl2 := fun k (hk : k ≤ 32) => cpN_length (bs := bs) (o := 128 * i + 19) (n := 32) (k := k) (by omega) hk
    have hl3 := fun k (hk : k ≤ 32) => cpN_length (bs := bs) (o := 128 * i + 51) (n := 32) (k := k) (by omega) hk
    have hs1 := fun k (hk : k < 16) => cpN_set (bs := bs) (o := 128 * i + 3) (n := 16) (k := k) (by omega) hk
    have hs2 := fun k (hk : k < 32) => cpN_set (bs := bs) (o := 128 * i + 19) (n := 32) (k := k) (by omega) hk
    have hs3 := fun k (hk : k < 32) => cpN_set (bs := bs) (o := 128 * i + 51) (n := 32) (k := k) (by omega) hk
    generalize cpN bs (128 * i + 3) 16 = c1 at *
    generalize cpN bs (128 * i + 19) 32 = c2 at *
    generalize cpN bs (128 * i + 51) 32 = c3 at *
    refine loopG Nat (fun k => [(0, .slice 0 [] 0 1024 cap), (2, .ptr 1 []), (4, .ptr 2 []), (5, .i64 i), (6, .slice 0 [] (128 * i) 128 cp), (7, .ptr 3 []), (8, .i64 k)])
      (fun k => [(0, some ⟨.row .cell, .u8s bs, false⟩), (1, some ⟨tTab, tabD tab0, true⟩), (2, some ⟨tTab, tabD l, true⟩),
        (3, some ⟨tSlot, slotD ⟨decide (bs.getD (128 * i) 0 = 1), (bs.getD (128 * i + 1) 0).setWidth 16 <<< (8 : Nat) ||| (bs.getD (128 * i + 2) 0).setWidth 16, c1 k, List.replicate 32 0, List.replicate 32 0⟩, true⟩)]) 4
      (fun k => k ≤ 16) (fun k => 16 - k) 0 [0, 1, 2, 3] (Nat.zero_le _) (by rw [z16]; exact viewA) ?_
    intro k hk
    have hlk := hl1 k hk
    repeat first | refine EffG.mk (obA ?_) | refine obA ?_ | refine chkA ?_
    refine Br.split (fun h => ?_) (fun h => ?_)
    · have hk : k < 16 := by have := of_decide_eq_true h; omega
      have hsk := hs1 k hk
      have e : (c1 k).set (Int.toNat (k : Int)) (bs.getD (128 * i + (3 + (k : Int)).toNat) 0) = c1 (k + 1) := by rw [← hsk]; congr 2; omega
      repeat first | refine EffG.mk (obA ?_) | refine obA ?_ | refine chkA ?_
      refine nextA (k + 1) [0, 1, 2, 3] (viewA (h3 := ?_))
      (repeat' (first | exact trivial | refine And.intro ⟨_, rfl, rfl, ?_, id⟩ ?_ | refine And.intro ⟨_, rfl, rfl, ?_, fun _ => rfl⟩ ?_)) <;> first | rfl | exact (Pure.ren _).symm | exact congrArg (fun x => D.node [_, _, .u8s x, _, _]) e
    · obtain rfl : k = 16 := by have := of_decide_eq_false h; omega
      repeat first | refine EffG.mk (obA ?_) | refine obA ?_ | refine chkA ?_
      refine loopG Nat (fun k => [(0, .slice 0 [] 0 1024 cap), (2, .ptr 1 []), (4, .ptr 2 []), (5, .i64 i), (6, .slice 0 [] (128 * i) 128 cp), (7, .ptr 3 []), (9, .i64 k)])
        (fun k => [(0, some ⟨.row .cell, .u8s bs, false⟩), (1, some ⟨tTab, tabD tab0, true⟩), (2, some ⟨tTab, tabD l, true⟩),
          (3, some ⟨tSlot, slotD ⟨decide (bs.getD (128 * i) 0 = 1), (bs.getD (128 * i + 1) 0).setWidth 16 <<< (8 : Nat) ||| (bs.getD (128 * i + 2) 0).setWidth 16, c1 16, c2 k, c3 k⟩, true⟩)]) 4
        (fun k => k ≤ 32) (fun k => 32 - k) 0 [0, 1, 2, 3] (Nat.zero_le _) (by rw [z32, z33]; exact viewA) ?_
      intro k hk
      have hlk2 := hl2 k hk
      have hlk3 := hl3 k hk
      repeat first | refine EffG.mk (obA ?_) | refine obA ?_ | refine chkA ?_
      refine Br.split (fun h => ?_) (fun h => ?_)
      · have hk : k < 32 := by have := of_decide_eq_true h; omega
        have hsk2 := hs2 k hk
        have hsk3 := hs3 k hk
        have e2 : (c2 k).set (Int.toNat (k : Int)) (bs.getD (128 * i + (19 + (k : Int)).toNat) 0) = c2 (k + 1) := by rw [← hsk2]; congr 2; omega
        have e3 : (c3 k).set (Int.toNat (k : Int)) (bs.getD (128 * i + (51 + (k : Int)).toNat) 0) = c3 (k + 1) := by rw [← hsk3]; congr 2; omega
        have e : ∀ a b c, D.node [a, b, c, .u8s ((c2 k).set (Int.toNat (k : Int)) (bs.getD (128 * i + (19 + (k : Int)).toNat) 0)), .u8s ((c3 k).set (Int.toNat (k : Int)) (bs.getD (128 * i + (51 + (k : Int)).toNat) 0))] = D.node [a, b, c, .u8s (c2 (k + 1)), .u8s (c3 (k + 1))] := fun a b c => by rw [e2, e3]
        repeat first | refine EffG.mk (obA ?_) | refine obA ?_ | refine chkA ?_
        refine nextA (k + 1) [0, 1, 2, 3] (viewA (h3 := ?_))
        (repeat' (first | exact trivial | refine And.intro ⟨_, rfl, rfl, ?_, id⟩ ?_ | refine And.intro ⟨_, rfl, rfl, ?_, fun _ => rfl⟩ ?_)) <;> first | rfl | exact (Pure.ren _).symm | exact e _ _ _
      · obtain rfl : k = 32 := by have := of_decide_eq_false h; omega
        have e4 : ((l.map slotD).set i (slotD (slotAt bs i))) = (getI bs (i + 1)).map slotD := by rw [← hset]; exact List.map_set.symm
        have hsty := slot_ty hok
        clear hset
        rw [hsat] at hmay hbad e4 hsty
        cases hm : mayB ⟨decide (bs.getD (128 * i) 0 = 1), (bs.getD (128 * i + 1) 0).setWidth 16 <<< (8 : Nat) ||| (bs.getD (128 * i + 2) 0).setWidth 16, c1 16, c2 32, c3 32⟩ with
        | true =>
          rw [hm] at hmay
          repeat first | refine EffG.mk (obA ?_) | refine obA ?_ | refine chkA ?_
          refine callA hmay [] ?_
          repeat first | refine EffG.mk (obA ?_) | refine obA ?_ | refine chkA ?_ | refine brY ?_ | refine brN ?_
          refine nextA (i + 1) [0, 1, 2] (viewA (h3 := ?_)) (h1 := ⟨by omega, fun j hj => ?_⟩)
          · (repeat' (first | exact trivial | refine And.intro ⟨_, rfl, rfl, ?_, id⟩ ?_ | refine And.intro ⟨_, rfl, rfl, ?_, fun _ => rfl⟩ ?_)) <;> first | rfl | exact (Pure.ren _).symm | exact (congrArg D.node e4).trans (Pure.ren (d := tabD (getI bs (i + 1))) _).symm
          · rcases Nat.lt_or_eq_of_le (Nat.le_of_lt_succ hj) with h' | h'
            · exact hall j h'
            · rw [h', hsat]; exact hm
        | false =>
          rw [hm] at hmay
          rw [hbad hm]
          repeat first | refine EffG.mk (obA ?_) | refine obA ?_ | refine chkA ?_
          refine callA hmay [] ?_
          repeat first | refine EffG.mk (obA ?_) | refine obA ?_ | refine chkA ?_ | refine brY ?_ | refine brN ?_
          refine retA [0]
  · obtain rfl : i = 8 := by have := of_decide_eq_false h; omega
    have hend := getF_end (bs := bs) hall
    rw [hR] at hend
    have hok := getI_ok hb (i := 8) (by omega)
    have hpl := tabI_length hok 8 (by omega)
    have hp := rtput_ac _ hok
    have hty := hok.ty
    generalize getI bs 8 = l at hend hok hpl hp hty ⊢
    generalize tabI l 8 = pb at hend hpl hp
    have q1 : List.take 1024 (List.drop 0 pb) = pb := by rw [List.drop_zero, List.take_of_length_le (by omega)]
    have q2 : List.take 1024 (List.drop 0 bs) = bs := by rw [List.drop_zero, List.take_of_length_le (by omega)]
    by_cases he : pb = bs
    · rw [decide_eq_true he] at hend
      subst hend
      repeat first | refine EffG.mk (obA ?_) | refine obA ?_ | refine chkA ?_ | refine brY ?_ | refine brN ?_
      refine callA hp [] ?_ (hargs := by simp only [D.rens, ren_tab]; rfl)
      repeat first | refine EffG.mk (obA ?_) | refine obA ?_ | refine chkA ?_
      refine brN ?_ (h := by show (!decide (List.take 1024 (List.drop 0 pb) = List.take 1024 (List.drop 0 bs))) = false; rw [q1, q2, decide_eq_true he]; rfl)
      repeat first | refine EffG.mk (obA ?_) | refine obA ?_ | refine chkA ?_
      refine EffG.mk (And.intro ⟨trivial, hty⟩ ?_)
      repeat first | refine EffG.mk (obA ?_) | refine obA ?_ | refine chkA ?_ | refine brY ?_ | refine brN ?_
      refine retA [0] (h1 := ?_)
      show retIs (.tup [(tabD l).ren _, .i64 0]) [tabD l, .i64 0]
      rw [ren_tab]
      first | rfl | exact ⟨rfl, rfl⟩ | exact rfl
    · rw [decide_eq_false he] at hend
      subst hend
      repeat first | refine EffG.mk (obA ?_) | refine obA ?_ | refine chkA ?_ | refine brY ?_ | refine brN ?_
      refine callA hp [] ?_ (hargs := by simp only [D.rens, ren_tab]; rfl)
      repeat first | refine EffG.mk (obA ?_) | refine obA ?_ | refine chkA ?_
      refine brY ?_ (h := by show (!decide (List.take 1024 (List.drop 0 pb) = List.take 1024 (List.drop 0 bs))) = true; rw [q1, q2, decide_eq_false he]; rfl)
      repeat first | refine EffG.mk (obA ?_) | refine obA ?_ | refine chkA ?_ | refine brY ?_ | refine brN ?_
      refine retA [0]
end Go.Proofs.YtodkhgofmgaafaaDoor.Av

namespace Go.Proofs.YtodkhgofmgaafaaDoor.Av
open Go
set_option linter.all false
set_option maxRecDepth 3000

theorem sget_len2_ac (bs : List (BitVec 8)) (k : Nat) (cap : Option Nat) (hk : k ≠ 1024) :
    AC Tryd.prog 29 [.slice 0 [] 0 k cap] 1 [(0, some ⟨.row .cell, .u8s bs, false⟩)] ⟨.tup [tabD tab0, .i64 4], [], []⟩ := by
  refine acA tab mix Tryd.func29 {} ?_
  repeat first | refine EffG.mk (obA ?_) | refine obA ?_ | refine chkA ?_
  refine brY ?_ (h := by show (!decide ((k : Int) = 1024)) = true; rw [decide_eq_false (by omega)]; rfl)
  repeat first | refine EffG.mk (obA ?_) | refine obA ?_ | refine chkA ?_ | refine brY ?_ | refine brN ?_
  refine retA [0]

theorem slot_fit {s : Slot} (h : s.ok) : fitE Γ 19 28 (slotD s) := by
  obtain ⟨u, t, sa, se, ch⟩ := s
  exact ⟨trivial, trivial, ⟨h.salt, trivial⟩, ⟨h.sealed, trivial⟩, ⟨h.check, trivial⟩, trivial⟩
theorem slots_fit : ∀ {l : List Slot}, (∀ s ∈ l, s.ok) → AllD (fitE Γ 19 28) (l.map slotD)
  | [], _ => trivial
  | s :: l, h => ⟨slot_fit (h s (by simp)), slots_fit fun x hx => h x (by simp [hx])⟩
theorem tab_fit {l : List Slot} (h : TabS l) : fitE Γ 20 39 (tabD l) := ⟨by rw [List.length_map, h.len], slots_fit h.ok⟩
theorem tab_fit30 {l : List Slot} (h : TabS l) : fitE Γ 20 30 (tabD l) := ⟨by rw [List.length_map, h.len], slots_fit h.ok⟩
theorem slot_same (a b : Slot) : (slotD a).same (slotD b) := ⟨trivial, trivial, trivial, trivial, trivial, trivial⟩
theorem slots_same : ∀ {a b : List Slot}, a.length = b.length → D.sames (a.map slotD) (b.map slotD)
  | [], [], _ => trivial
  | x :: a, y :: b, h => ⟨slot_same x y, slots_same (by simpa using h)⟩
  | [], _ :: _, h => by simp at h
  | _ :: _, [], h => by simp at h
theorem tab_same {a b : List Slot} (ha : TabS a) (hb : TabS b) : (tabD a).same (tabD b) := slots_same (by rw [ha.len, hb.len])
theorem getF_ok {bs : List (BitVec 8)} (hb : bs.length = 1024) : TabS (getF bs).1 := by
  unfold getF
  cases goodB bs
  · exact tab0_ok
  · exact getI_ok hb (by decide)

theorem slotsgets_ac (bs : List (BitVec 8)) (k : Nat) (x : Option Nat) (hb : bs.length = k) (hx : x = none → k = 0) (hk : k ≤ 140737488355328) :
    AC Tryd.prog 7 [slD 0 k x] 1 [(0, some ⟨.row .cell, .u8s bs, false⟩), gR] ⟨.bool true, [], []⟩ := by
  have haw := slawake_ac
  by_cases h1 : k = 1024
  · subst h1
    obtain ⟨c, rfl⟩ : ∃ c, x = some c := by
      cases x with
      | none => exact absurd (hx rfl) (by decide)
      | some c => exact ⟨c, rfl⟩
    have t1 : [] ++ List.take 1024 (List.drop 0 bs) = bs := by rw [List.drop_zero, List.take_of_length_le (by omega)]; rfl
    have t2 : decide (List.take 1024 (List.drop 0 ([] ++ List.take 1024 (List.drop 0 bs))) = List.take 1024 (List.drop 0 bs)) = true := by
      refine decide_eq_true ?_
      rw [t1]
    have hg1 := sget_ac ([] ++ List.take 1024 (List.drop 0 bs)) none (by rw [t1]; exact hb)
    rw [show getF ([] ++ List.take 1024 (List.drop 0 bs)) = getF bs by rw [t1]] at hg1
    have hg2 := rget_ac bs (some c) hb
    have hok := getF_ok hb
    generalize (getF bs).1 = l at hg1 hg2 hok
    generalize (getF bs).2 = e at hg1 hg2
    have hT := hok.ty
    have hq : (tabD l).eqb (tabD l) = true := by rw [tab_eqb]; exact decide_eq_true rfl
    have hf := tab_fit hok
    have hs := tab_same hok hok
    refine acA tab mix Tryd.func7 {} ?_
    repeat first | refine EffG.mk (obA ?_) | refine obA ?_ | refine chkA ?_ | refine brY ?_ | refine brN ?_
    refine ⟨0, ?_⟩
    repeat first | refine EffG.mk (obA ?_) | refine obA ?_ | refine chkA ?_
    refine callT hg1 [2] (.tup [tabD l, .i64 e]) ?_
    repeat first | refine EffG.mk (obA ?_) | refine obA ?_ | refine chkA ?_
    refine EffG.mk (And.intro ⟨trivial, hT⟩ ?_)
    repeat first | refine EffG.mk (obA ?_) | refine obA ?_ | refine chkA ?_
    refine callT hg2 [0] (.tup [tabD l, .i64 e]) ?_
    repeat first | refine EffG.mk (obA ?_) | refine obA ?_ | refine chkA ?_
    refine EffG.mk (And.intro ⟨trivial, hT⟩ ?_)
    repeat first | refine EffG.mk (obA ?_) | refine obA ?_ | refine chkA ?_
    refine EffG.mk (And.intro ⟨hf, hf, hs⟩ ?_)
    rw [hq]
    repeat first | refine EffG.mk (obA ?_) | refine obA ?_ | refine chkA ?_ | refine brY ?_ | refine brN ?_
    refine brY ?_ (h := t2)
    repeat first | refine EffG.mk (obA ?_) | refine obA ?_ | refine chkA ?_
    refine callA haw [] ?_
    repeat first | refine EffG.mk (obA ?_) | refine obA ?_ | refine chkA ?_ | refine brY ?_ | refine brN ?_
    refine retA [0]
  · have t2 : decide (List.take k (List.drop 0 ([] ++ List.take k (List.drop 0 bs))) = List.take k (List.drop 0 bs)) = true := by
      refine decide_eq_true ?_
      rw [List.drop_zero, List.drop_zero, List.nil_append, List.take_take, Nat.min_self]
    have hf := tab_fit tab0_ok
    have hT := tab0_ok.ty
    have hs := tab_same tab0_ok tab0_ok
    have hq : (tabD tab0).eqb (tabD tab0) = true := by rw [tab_eqb]; exact decide_eq_true rfl
    have hg2 := rget_len_ac bs k x hx h1
    cases x with
    | none =>
      obtain rfl := hx rfl
      have hg1 := sget_len2_ac [] 0 none (by decide)
      generalize tab0 = l at hg1 hg2 hf hT hs hq
      refine acA tab mix Tryd.func7 {} ?_
      repeat first | refine EffG.mk (obA ?_) | refine obA ?_ | refine chkA ?_ | refine brY ?_ | refine brN ?_
      refine ⟨0, ?_⟩
      repeat first | refine EffG.mk (obA ?_) | refine obA ?_ | refine chkA ?_
      refine callT hg1 [2] (.tup [tabD l, .i64 4]) ?_
      repeat first | refine EffG.mk (obA ?_) | refine obA ?_ | refine chkA ?_
      refine EffG.mk (And.intro ⟨trivial, hT⟩ ?_)
      repeat first | refine EffG.mk (obA ?_) | refine obA ?_ | refine chkA ?_
      refine callT hg2 [0] (.tup [tabD l, .i64 4]) ?_
      repeat first | refine EffG.mk (obA ?_) | refine obA ?_ | refine chkA ?_
      refine EffG.mk (And.intro ⟨trivial, hT⟩ ?_)
      repeat first | refine EffG.mk (obA ?_) | refine obA ?_ | refine chkA ?_
      refine EffG.mk (And.intro ⟨hf, hf, hs⟩ ?_)
      rw [hq]
      repeat first | refine EffG.mk (obA ?_) | refine obA ?_ | refine chkA ?_ | refine brY ?_ | refine brN ?_
      refine callA haw [] ?_
      repeat first | refine EffG.mk (obA ?_) | refine obA ?_ | refine chkA ?_ | refine brY ?_ | refine brN ?_
      refine retA [0]
    | some c =>
      have hg1 := sget_len2_ac ([] ++ List.take k (List.drop 0 bs)) (0 + k) none (by omega)
      generalize tab0 = l at hg1 hg2 hf hT hs hq
      refine acA tab mix Tryd.func7 {} ?_
      repeat first | refine EffG.mk (obA ?_) | refine obA ?_ | refine chkA ?_ | refine brY ?_ | refine brN ?_
      refine ⟨0, ?_⟩
      repeat first | refine EffG.mk (obA ?_) | refine obA ?_ | refine chkA ?_
      refine callT hg1 [2] (.tup [tabD l, .i64 4]) ?_
      repeat first | refine EffG.mk (obA ?_) | refine obA ?_ | refine chkA ?_
      refine EffG.mk (And.intro ⟨trivial, hT⟩ ?_)
      repeat first | refine EffG.mk (obA ?_) | refine obA ?_ | refine chkA ?_
      refine callT hg2 [0] (.tup [tabD l, .i64 4]) ?_
      repeat first | refine EffG.mk (obA ?_) | refine obA ?_ | refine chkA ?_
      refine EffG.mk (And.intro ⟨trivial, hT⟩ ?_)
      repeat first | refine EffG.mk (obA ?_) | refine obA ?_ | refine chkA ?_
      refine EffG.mk (And.intro ⟨hf, hf, hs⟩ ?_)
      rw [hq]
      repeat first | refine EffG.mk (obA ?_) | refine obA ?_ | refine chkA ?_ | refine brY ?_ | refine brN ?_
      refine brY ?_ (h := by show decide (List.take (0 + k) (List.drop 0 ([] ++ List.take k (List.drop 0 bs))) = List.take k (List.drop 0 bs)) = true; rw [Nat.zero_add]; exact t2)
      repeat first | refine EffG.mk (obA ?_) | refine obA ?_ | refine chkA ?_
      refine callA haw [] ?_
      repeat first | refine EffG.mk (obA ?_) | refine obA ?_ | refine chkA ?_ | refine brY ?_ | refine brN ?_
      refine retA [0]
end Go.Proofs.YtodkhgofmgaafaaDoor.Av

namespace Go.Proofs.YtodkhgofmgaafaaDoor.Av
open Go
set_option linter.all false
set_option maxRecDepth 3000

/-! what is laid is read as it was -/
theorem turns_eq (t : BitVec 16) : ((t.setWidth 64 >>> 8).setWidth 8).setWidth 16 <<< (8 : Nat) ||| ((t.setWidth 64).setWidth 8).setWidth 16 = t := by
  apply BitVec.eq_of_getLsbD_eq
  intro i hi
  simp only [BitVec.getLsbD_or, BitVec.getLsbD_shiftLeft, BitVec.getLsbD_setWidth, BitVec.getLsbD_ushiftRight]
  by_cases h : i < 8
  · simp [h, hi, show i < 64 by omega]
  · simp [h, hi, show i - 8 < 16 by omega, show i - 8 < 8 by omega, show 8 + (i - 8) = i by omega]
    intro hh
    have := BitVec.lt_of_getLsbD hh
    omega
theorem nb2_eq (n : BitVec 64) : nbF n 2 = [(n >>> 8).setWidth 8, n.setWidth 8] := rfl
theorem tabI_drop {l : List Slot} (hl : TabS l) : ∀ (i j : Nat), j < i → i ≤ 8 → ∃ r, (tabI l i).drop (128 * j) = slotB (l.getD j slot0) ++ r
  | 0, _, h, _ => absurd h (Nat.not_lt_zero _)
  | i + 1, j, h, hi => by
    have hlen := tabI_length hl i (by omega)
    rw [tabI]
    rcases Nat.lt_or_eq_of_le (Nat.le_of_lt_succ h) with h' | h'
    · obtain ⟨r, hr⟩ := tabI_drop hl i j h' (by omega)
      refine ⟨r ++ slotB (l.getD i slot0), ?_⟩
      rw [List.drop_append_of_le_length (by omega), hr, List.append_assoc]
    · subst h'
      refine ⟨[], ?_⟩
      rw [List.drop_append, List.drop_of_length_le (by omega), hlen, Nat.sub_self, List.append_nil]
      rfl
theorem slotAt_tab {l : List Slot} (hl : TabS l) {j : Nat} (hj : j < 8) : slotAt (tabI l 8) j = l.getD j slot0 := by
  obtain ⟨r, hr⟩ := tabI_drop hl 8 j hj (Nat.le_refl _)
  obtain ⟨h1, h2, h3⟩ := hl.at hj
  generalize l.getD j slot0 = s at hr h1 h2 h3
  obtain ⟨u, t, sa, se, ch⟩ := s
  have h1 : sa.length = 16 := h1
  have h2 : se.length = 32 := h2
  have h3 : ch.length = 32 := h3
  generalize tabI l 8 = bs at hr
  have hg : ∀ i, bs.getD (128 * j + i) 0 = (bs.drop (128 * j)).getD i 0 := fun i => getD_drop.symm
  have hd : ∀ i, bs.drop (128 * j + i) = (bs.drop (128 * j)).drop i := fun i => by rw [List.drop_drop]
  have hX : bs.drop (128 * j) = (bif u then (1 : BitVec 8) else 0) :: ((t.setWidth 64 >>> 8).setWidth 8) :: ((t.setWidth 64).setWidth 8) :: (sa ++ (se ++ (ch ++ (List.replicate 45 0 ++ r)))) := by
    rw [hr, slotB, nb2_eq]
    simp only [List.append_assoc, List.cons_append, List.nil_append]
  have e0 : bs.getD (128 * j) 0 = bif u then (1 : BitVec 8) else 0 := by
    have := hg 0
    rw [Nat.add_zero] at this
    rw [this, hX]; rfl
  have e1 : bs.getD (128 * j + 1) 0 = (t.setWidth 64 >>> 8).setWidth 8 := by rw [hg, hX]; rfl
  have e2 : bs.getD (128 * j + 2) 0 = (t.setWidth 64).setWidth 8 := by rw [hg, hX]; rfl
  have e3 : (bs.drop (128 * j + 3)).take 16 = sa := by
    rw [hd, hX]
    show (sa ++ (se ++ (ch ++ (List.replicate 45 0 ++ r)))).take 16 = sa
    rw [List.take_left' h1]
  have e4 : (bs.drop (128 * j + 19)).take 32 = se := by
    rw [hd, hX, show (19 : Nat) = 3 + 16 from rfl, ← List.drop_drop]
    show ((sa ++ (se ++ (ch ++ (List.replicate 45 0 ++ r)))).drop 16).take 32 = se
    rw [List.drop_left' h1, List.take_left' h2]
  have e5 : (bs.drop (128 * j + 51)).take 32 = ch := by
    rw [hd, hX, show (51 : Nat) = 3 + 16 + 32 from rfl, ← List.drop_drop, ← List.drop_drop]
    show (((sa ++ (se ++ (ch ++ (List.replicate 45 0 ++ r)))).drop 16).drop 32).take 32 = ch
    rw [List.drop_left' h1, List.drop_left' h2, List.take_left' h3]
  unfold slotAt
  rw [e0, e1, e2, e3, e4, e5, turns_eq]
  cases u <;> rfl
theorem getI_tab {l : List Slot} (hl : TabS l) : getI (tabI l 8) 8 = l := by
  unfold getI
  rw [Nat.sub_self, List.replicate_zero, List.append_nil]
  apply List.ext_getElem
  · rw [List.length_map, List.length_range, hl.len]
  · intro i h1 h2
    have hi : i < 8 := by simpa using h1
    rw [List.getElem_map, List.getElem_range, slotAt_tab hl hi, List.getD_eq_getElem?_getD, List.getElem?_eq_getElem h2]
    rfl
theorem all_at {l : List Slot} (hl : TabS l) : (List.range 8).all (fun j => mayB (l.getD j slot0)) = l.all mayB := by
  rw [Bool.eq_iff_iff, List.all_eq_true, List.all_eq_true]
  constructor
  · intro h s hs
    obtain ⟨i, hi, rfl⟩ := List.getElem_of_mem hs
    have := h i (List.mem_range.2 (by rw [← hl.len]; exact hi))
    rwa [List.getD_eq_getElem?_getD, List.getElem?_eq_getElem hi] at this
  · intro h j hj
    exact h _ (getD_mem (by rw [hl.len]; exact List.mem_range.1 hj))
theorem getF_tab {l : List Slot} (hl : TabS l) : getF (tabI l 8) = bif l.all mayB then (l, 0) else (tab0, 4) := by
  have h : goodB (tabI l 8) = l.all mayB := by
    unfold goodB
    rw [getI_tab hl, decide_eq_true rfl, Bool.and_true, ← all_at hl, Bool.eq_iff_iff, List.all_eq_true, List.all_eq_true]
    constructor
    · intro h j hj
      have := h j hj
      rwa [slotAt_tab hl (List.mem_range.1 hj)] at this
    · intro h j hj
      rw [slotAt_tab hl (List.mem_range.1 hj)]
      exact h j hj
  unfold getF
  rw [h, getI_tab hl]
theorem getF_say (bs : List (BitVec 8)) : ((getF bs).2 = 0 ∧ tabI (getF bs).1 8 = bs) ∨ ((getF bs).2 = 4 ∧ (getF bs).1 = tab0) := by
  unfold getF
  cases h : goodB bs with
  | false => exact .inr ⟨rfl, rfl⟩
  | true =>
    refine .inl ⟨rfl, ?_⟩
    unfold goodB at h
    exact of_decide_eq_true (Bool.and_eq_true _ _ ▸ h).2
theorem mayB_eq (s : Slot) : mayB s = (decide (s = slot0) || (s.used && decide (1 ≤ s.turns.toNat) && decide (s.turns.toNat ≤ 4096))) := by
  obtain ⟨u, t, sa, se, ch⟩ := s
  cases u with
  | false =>
    show decide _ = (decide _ || false)
    rw [Bool.or_false]
  | true =>
    have : decide ((⟨true, t, sa, se, ch⟩ : Slot) = slot0) = false := decide_eq_false fun h => by
      have := congrArg Slot.used h
      cases this
    rw [this, Bool.false_or]
    show decide (1 ≤ t.toNat ∧ t.toNat ≤ 4096) = (true && decide (1 ≤ t.toNat) && decide (t.toNat ≤ 4096))
    rw [Bool.true_and, Bool.eq_iff_iff, decide_eq_true_iff, Bool.and_eq_true, decide_eq_true_iff, decide_eq_true_iff]
end Go.Proofs.YtodkhgofmgaafaaDoor.Av

namespace Go.Proofs.YtodkhgofmgaafaaDoor.Av
open Go
set_option linter.all false
set_option maxRecDepth 3000

theorem slot_fit20 {s : Slot} (h : s.ok) : fitE Γ 20 28 (slotD s) := by
  obtain ⟨u, t, sa, se, ch⟩ := s
  exact ⟨trivial, trivial, ⟨h.salt, trivial⟩, ⟨h.sealed, trivial⟩, ⟨h.check, trivial⟩, trivial⟩
theorem all_take {l : List Slot} {i : Nat} (h : i < l.length) : (l.take (i + 1)).all mayB = ((l.take i).all mayB && mayB (l.getD i slot0)) := by
  rw [List.take_add_one, List.getElem?_eq_getElem h, List.all_append, List.getD_eq_getElem?_getD, List.getElem?_eq_getElem h]
  simp only [Option.toList_some, List.all_cons, List.all_nil, Bool.and_true, Option.getD_some]

set_option maxHeartbeats 4000000 in
theorem slotsback_ac (l : List Slot) (bs : List (BitVec 8)) (k : Nat) (x : Option Nat) (hl : TabS l) (hb : bs.length = k) (hx : x = none → k = 0) (hk : k ≤ 140737488355328) :
    AC Tryd.prog 8 [tabD l, slD 0 k x] 1 [(0, some ⟨.row .cell, .u8s bs, false⟩), gR] ⟨.bool true, [], []⟩ := by
  have haw := slawake_ac
  have hT := hl.ty
  have hlen := hl.len
  obtain ⟨xl, xe, hget, hxl, hsay⟩ : ∃ xl xe, AC Tryd.prog 29 [slD 0 k x] 1 [(0, some ⟨.row .cell, .u8s bs, false⟩)] ⟨.tup [tabD xl, .i64 xe], [], []⟩ ∧ TabS xl ∧ ((xe = 0 ∧ tabI xl 8 = bs ∧ k = 1024) ∨ (xe = 4 ∧ xl = tab0)) := by
    by_cases h1 : k = 1024
    · subst h1
      obtain ⟨c, rfl⟩ : ∃ c, x = some c := by
        cases x with
        | none => exact absurd (hx rfl) (by decide)
        | some c => exact ⟨c, rfl⟩
      refine ⟨_, _, sget_ac bs (some c) hb, getF_ok hb, ?_⟩
      rcases getF_say bs with ⟨h1, h2⟩ | h
      · exact .inl ⟨h1, h2, rfl⟩
      · exact .inr h
    · exact ⟨_, _, sget_len_ac bs k x hx h1, tab0_ok, .inr ⟨rfl, rfl⟩⟩
  have hput := sput_ac l hl
  have hbl := tabI_length hl 8 (by decide)
  have hg2 := sget_ac (tabI l 8) none hbl
  rw [getF_tab hl] at hg2
  have hg3 := sget_len2_ac ([] ++ List.take 1024 (List.drop 0 (tabI l 8))) 1025 none (by decide)
  generalize tabI l 8 = b at hput hbl hg2 hg3
  have hTx := hxl.ty
  obtain ⟨M, hM⟩ : ∃ M, l.all mayB = M := ⟨_, rfl⟩
  rw [hM] at hg2
  obtain ⟨yl, ye, hyl, hye⟩ : ∃ yl ye, (bif M then (l, (0 : Int)) else (tab0, 4)) = (yl, ye) ∧ TabS yl := by
    cases M
    · exact ⟨_, _, rfl, tab0_ok⟩
    · exact ⟨_, _, rfl, hl⟩
  rw [hyl] at hg2
  have hTy := hye.ty
  refine acA tab mix Tryd.func8 {} ?_
  refine EffG.mk (And.intro hT ?_)
  repeat first | refine EffG.mk (obA ?_) | refine obA ?_ | refine chkA ?_
  refine callT hget [0] (.tup [tabD xl, .i64 xe]) ?_
  repeat first | refine EffG.mk (obA ?_) | refine obA ?_ | refine chkA ?_
  refine EffG.mk (And.intro ⟨trivial, hTx⟩ ?_)
  rcases hsay with ⟨rfl, hsb, rfl⟩ | ⟨rfl, rfl⟩
  · have hpx := sput_ac xl hxl
    rw [hsb] at hpx
    obtain ⟨c, rfl⟩ : ∃ c, x = some c := by
      cases x with
      | none => exact absurd (hx rfl) (by decide)
      | some c => exact ⟨c, rfl⟩
    repeat first | refine EffG.mk (obA ?_) | refine obA ?_ | refine chkA ?_ | refine brY ?_ | refine brN ?_
    refine callA hpx [] ?_ (hargs := by simp only [D.rens, ren_tab]; rfl)
    repeat first | refine EffG.mk (obA ?_) | refine obA ?_ | refine chkA ?_ | refine brY ?_ | refine brN ?_
    refine callA hput [] ?_ (hargs := by simp only [D.rens, ren_tab]; rfl)
    repeat first | refine EffG.mk (obA ?_) | refine obA ?_ | refine chkA ?_ | refine brY ?_ | refine brN ?_
    refine callT hg2 [4] (.tup [tabD yl, .i64 ye]) ?_
    repeat first | refine EffG.mk (obA ?_) | refine obA ?_ | refine chkA ?_
    refine EffG.mk (And.intro ⟨trivial, hTy⟩ ?_)
    repeat first | refine EffG.mk (obA ?_) | refine obA ?_ | refine chkA ?_
    refine loopG Nat (fun i => [(2, .ptr 1 []), (7, .slice 2 [] 0 1024 none), (8, .ptr 3 []), (9, .i64 ye), (10, .bool ((l.take i).all mayB)), (11, .i64 i)])
      (fun i => [(0, some ⟨.row .cell, .u8s bs, false⟩), (1, some ⟨tTab, tabD l, true⟩), (2, some ⟨.row .cell, .u8s b, true⟩), (3, some ⟨tTab, tabD yl, true⟩), gR]) 4 (fun i => i ≤ 8) (fun i => 8 - i) 0 [0, 1, 4, 5] (Nat.zero_le _) viewA ?_
    intro i hi
    repeat first | refine EffG.mk (obA ?_) | refine obA ?_ | refine chkA ?_
    refine Br.split (fun h => ?_) (fun h => ?_)
    · have hi : i < 8 := by have := of_decide_eq_true h; omega
      have hall := all_take (l := l) (i := i) (by omega)
      obtain ⟨s, he⟩ : ∃ s, l.getD i slot0 = s := ⟨_, rfl⟩
      have hok := hl.at hi
      have hn := nthD_slots (l := l) (i := i) (by omega)
      rw [he] at hok hall hn
      have hn : nthD (l.map slotD) (Int.toNat (i : Int)) = slotD s := hn
      have hq := slot_eqb s slot0
      have hm := mayB_eq s
      have hsame := slot_same s slot0
      have hfs := slot_fit20 hok
      have hf0 := slot_fit20 slot0_ok
      cases hA0 : (l.take i).all mayB with
      | false =>
        rw [hA0, Bool.false_and] at hall
        repeat first | refine EffG.mk (obA ?_) | refine obA ?_ | refine chkA ?_ | refine brY ?_ | refine brN ?_
        refine nextA (i + 1) [0, 1, 2, 3] (by rw [hall]; exact viewA)
      | true =>
        rw [hA0, Bool.true_and] at hall
        repeat first | refine EffG.mk (obA ?_) | refine obA ?_ | refine chkA ?_ | refine brY ?_ | refine brN ?_
        rw [hn]
        refine EffG.mk (And.intro ⟨hfs, hf0, hsame⟩ ?_)
        have hil : i < l.length := by omega
        by_cases hs0 : s = slot0
        · rw [decide_eq_true hs0, Bool.true_or] at hm
          rw [hm] at hall
          repeat first | refine EffG.mk (obA ?_) | refine obA ?_ | refine chkA ?_ | refine brY ?_ | refine brN ?_
          refine brY ?_ (h := hq.trans (decide_eq_true hs0))
          repeat first | refine EffG.mk (obA ?_) | refine obA ?_ | refine chkA ?_ | refine brY ?_ | refine brN ?_
          refine nextA (i + 1) [0, 1, 2, 3] (by rw [hall]; exact viewA)
        · rw [decide_eq_false hs0, Bool.false_or] at hm
          repeat first | refine EffG.mk (obA ?_) | refine obA ?_ | refine chkA ?_ | refine brY ?_ | refine brN ?_
          refine brN ?_ (h := hq.trans (decide_eq_false hs0))
          obtain ⟨u, t, sa, se, ch⟩ := s
          cases u with
          | false =>
            have hm : mayB _ = false := hm
            rw [hm] at hall
            repeat first | refine EffG.mk (obA ?_) | refine obA ?_ | refine chkA ?_ | refine brY ?_ | refine brN ?_
            refine loadG (.bool false) rfl rfl rfl rfl rfl (getP_slotf hil he rfl) (okP_slotf hil he (by trivial)) ?_
            repeat first | refine EffG.mk (obA ?_) | refine obA ?_ | refine chkA ?_ | refine brY ?_ | refine brN ?_
            refine nextA (i + 1) [0, 1, 2, 3] (by rw [hall]; exact viewA)
          | true =>
            repeat first | refine EffG.mk (obA ?_) | refine obA ?_ | refine chkA ?_ | refine brY ?_ | refine brN ?_
            refine loadG (.bool true) rfl rfl rfl rfl rfl (getP_slotf hil he rfl) (okP_slotf hil he (by trivial)) ?_
            repeat first | refine EffG.mk (obA ?_) | refine obA ?_ | refine chkA ?_ | refine brY ?_ | refine brN ?_
            refine loadG (.u16 t) rfl rfl rfl rfl rfl (getP_slotf hil he rfl) (okP_slotf hil he (by trivial)) ?_
            by_cases h1 : 1 ≤ t.toNat
            · have hm : mayB _ = (true && decide (1 ≤ t.toNat) && decide (t.toNat ≤ 4096)) := hm
              rw [decide_eq_true h1, Bool.true_and, Bool.true_and] at hm
              rw [hm] at hall
              repeat first | refine EffG.mk (obA ?_) | refine obA ?_ | refine chkA ?_ | refine brY ?_ | refine brN ?_
              refine brY ?_ (h := decide_eq_true h1)
              repeat first | refine EffG.mk (obA ?_) | refine obA ?_ | refine chkA ?_ | refine brY ?_ | refine brN ?_
              refine loadG (.u16 t) rfl rfl rfl rfl rfl (getP_slotf hil he rfl) (okP_slotf hil he (by trivial)) ?_
              repeat first | refine EffG.mk (obA ?_) | refine obA ?_ | refine chkA ?_ | refine brY ?_ | refine brN ?_
              refine nextA (i + 1) [0, 1, 2, 3] (by rw [hall]; exact viewA)
            · have hm : mayB _ = (true && decide (1 ≤ t.toNat) && decide (t.toNat ≤ 4096)) := hm
              rw [decide_eq_false h1, Bool.and_false, Bool.false_and] at hm
              rw [hm] at hall
              repeat first | refine EffG.mk (obA ?_) | refine obA ?_ | refine chkA ?_ | refine brY ?_ | refine brN ?_
              refine brN ?_ (h := decide_eq_false h1)
              repeat first | refine EffG.mk (obA ?_) | refine obA ?_ | refine chkA ?_ | refine brY ?_ | refine brN ?_
              refine nextA (i + 1) [0, 1, 2, 3] (by rw [hall]; exact viewA)
    · obtain rfl : i = 8 := by have := of_decide_eq_false h; omega
      rw [List.take_of_length_le (by omega), hM]
      have hg4 := sget_len2_ac b 1023 none (by decide)
      have hg5 := sget_len2_ac (List.take (0 + 1024) (List.drop 0 ([] ++ List.take 1024 (List.drop 0 b))) ++ List.take 1 (List.drop 0 [(0 : BitVec 8)])) (0 + 1024 + 1) none (by decide)
      cases M with
      | true =>
        obtain ⟨rfl, rfl⟩ : l = yl ∧ (0 : Int) = ye := by cases hyl; exact ⟨rfl, rfl⟩
        have hqq : (!(tabD l).eqb (tabD l)) = false := by rw [tab_eqb, decide_eq_true rfl]; rfl
        have hfl := tab_fit30 hl
        have hsl := tab_same hl hl
        repeat first | refine EffG.mk (obA ?_) | refine obA ?_ | refine chkA ?_ | refine brY ?_ | refine brN ?_
        refine EffG.mk (And.intro ⟨hfl, hfl, hsl⟩ ?_)
        repeat first | refine EffG.mk (obA ?_) | refine obA ?_ | refine chkA ?_ | refine brY ?_ | refine brN ?_
        refine brN ?_ (h := hqq)
        repeat first | refine EffG.mk (obA ?_) | refine obA ?_ | refine chkA ?_ | refine brY ?_ | refine brN ?_
        refine ⟨0, ?_⟩
        repeat first | refine EffG.mk (obA ?_) | refine obA ?_ | refine chkA ?_ | refine brY ?_ | refine brN ?_
        refine ⟨0, ?_⟩
        repeat first | refine EffG.mk (obA ?_) | refine obA ?_ | refine chkA ?_ | refine brY ?_ | refine brN ?_
        refine callT hg5 [7] (.tup [tabD tab0, .i64 4]) ?_
        repeat first | refine EffG.mk (obA ?_) | refine obA ?_ | refine chkA ?_
        refine EffG.mk (And.intro ⟨trivial, tab0_ok.ty⟩ ?_)
        repeat first | refine EffG.mk (obA ?_) | refine obA ?_ | refine chkA ?_
        refine callT hg4 [2] (.tup [tabD tab0, .i64 4]) ?_
        repeat first | refine EffG.mk (obA ?_) | refine obA ?_ | refine chkA ?_
        refine EffG.mk (And.intro ⟨trivial, tab0_ok.ty⟩ ?_)
        repeat first | refine EffG.mk (obA ?_) | refine obA ?_ | refine chkA ?_ | refine brY ?_ | refine brN ?_
        refine callA haw [] ?_
        repeat first | refine EffG.mk (obA ?_) | refine obA ?_ | refine chkA ?_ | refine brY ?_ | refine brN ?_
        refine retA [0]
      | false =>
        obtain ⟨rfl, rfl⟩ : tab0 = yl ∧ (4 : Int) = ye := by cases hyl; exact ⟨rfl, rfl⟩
        repeat first | refine EffG.mk (obA ?_) | refine obA ?_ | refine chkA ?_ | refine brY ?_ | refine brN ?_
        refine ⟨0, ?_⟩
        repeat first | refine EffG.mk (obA ?_) | refine obA ?_ | refine chkA ?_ | refine brY ?_ | refine brN ?_
        refine ⟨0, ?_⟩
        repeat first | refine EffG.mk (obA ?_) | refine obA ?_ | refine chkA ?_ | refine brY ?_ | refine brN ?_
        refine callT hg5 [7] (.tup [tabD tab0, .i64 4]) ?_
        repeat first | refine EffG.mk (obA ?_) | refine obA ?_ | refine chkA ?_
        refine EffG.mk (And.intro ⟨trivial, tab0_ok.ty⟩ ?_)
        repeat first | refine EffG.mk (obA ?_) | refine obA ?_ | refine chkA ?_
        refine callT hg4 [2] (.tup [tabD tab0, .i64 4]) ?_
        repeat first | refine EffG.mk (obA ?_) | refine obA ?_ | refine chkA ?_
        refine EffG.mk (And.intro ⟨trivial, tab0_ok.ty⟩ ?_)
        repeat first | refine EffG.mk (obA ?_) | refine obA ?_ | refine chkA ?_ | refine brY ?_ | refine brN ?_
        refine callA haw [] ?_
        repeat first | refine EffG.mk (obA ?_) | refine obA ?_ | refine chkA ?_ | refine brY ?_ | refine brN ?_
        refine retA [0]
  · have hq : (tabD tab0).eqb (tabD tab0) = true := by rw [tab_eqb]; exact decide_eq_true rfl
    repeat first | refine EffG.mk (obA ?_) | refine obA ?_ | refine chkA ?_ | refine brY ?_ | refine brN ?_
    refine callA hput [] ?_ (hargs := by simp only [D.rens, ren_tab]; rfl)
    repeat first | refine EffG.mk (obA ?_) | refine obA ?_ | refine chkA ?_ | refine brY ?_ | refine brN ?_
    refine callT hg2 [3] (.tup [tabD yl, .i64 ye]) ?_
    repeat first | refine EffG.mk (obA ?_) | refine obA ?_ | refine chkA ?_
    refine EffG.mk (And.intro ⟨trivial, hTy⟩ ?_)
    repeat first | refine EffG.mk (obA ?_) | refine obA ?_ | refine chkA ?_
    refine loopG Nat (fun i => [(2, .ptr 1 []), (7, .slice 2 [] 0 1024 none), (8, .ptr 3 []), (9, .i64 ye), (10, .bool ((l.take i).all mayB)), (11, .i64 i)])
      (fun i => [(0, some ⟨.row .cell, .u8s bs, false⟩), (1, some ⟨tTab, tabD l, true⟩), (2, some ⟨.row .cell, .u8s b, true⟩), (3, some ⟨tTab, tabD yl, true⟩), gR]) 4 (fun i => i ≤ 8) (fun i => 8 - i) 0 [0, 1, 3, 4] (Nat.zero_le _) viewA ?_
    intro i hi
    repeat first | refine EffG.mk (obA ?_) | refine obA ?_ | refine chkA ?_
    refine Br.split (fun h => ?_) (fun h => ?_)
    · have hi : i < 8 := by have := of_decide_eq_true h; omega
      have hall := all_take (l := l) (i := i) (by omega)
      obtain ⟨s, he⟩ : ∃ s, l.getD i slot0 = s := ⟨_, rfl⟩
      have hok := hl.at hi
      have hn := nthD_slots (l := l) (i := i) (by omega)
      rw [he] at hok hall hn
      have hn : nthD (l.map slotD) (Int.toNat (i : Int)) = slotD s := hn
      have hq := slot_eqb s slot0
      have hm := mayB_eq s
      have hsame := slot_same s slot0
      have hfs := slot_fit20 hok
      have hf0 := slot_fit20 slot0_ok
      cases hA0 : (l.take i).all mayB with
      | false =>
        rw [hA0, Bool.false_and] at hall
        repeat first | refine EffG.mk (obA ?_) | refine obA ?_ | refine chkA ?_ | refine brY ?_ | refine brN ?_
        refine nextA (i + 1) [0, 1, 2, 3] (by rw [hall]; exact viewA)
      | true =>
        rw [hA0, Bool.true_and] at hall
        repeat first | refine EffG.mk (obA ?_) | refine obA ?_ | refine chkA ?_ | refine brY ?_ | refine brN ?_
        rw [hn]
        refine EffG.mk (And.intro ⟨hfs, hf0, hsame⟩ ?_)
        have hil : i < l.length := by omega
        by_cases hs0 : s = slot0
        · rw [decide_eq_true hs0, Bool.true_or] at hm
          rw [hm] at hall
          repeat first | refine EffG.mk (obA ?_) | refine obA ?_ | refine chkA ?_ | refine brY ?_ | refine brN ?_
          refine brY ?_ (h := hq.trans (decide_eq_true hs0))
          repeat first | refine EffG.mk (obA ?_) | refine obA ?_ | refine chkA ?_ | refine brY ?_ | refine brN ?_
          refine nextA (i + 1) [0, 1, 2, 3] (by rw [hall]; exact viewA)
        · rw [decide_eq_false hs0, Bool.false_or] at hm
          repeat first | refine EffG.mk (obA ?_) | refine obA ?_ | refine chkA ?_ | refine brY ?_ | refine brN ?_
          refine brN ?_ (h := hq.trans (decide_eq_false hs0))
          obtain ⟨u, t, sa, se, ch⟩ := s
          cases u with
          | false =>
            have hm : mayB _ = false := hm
            rw [hm] at hall
            repeat first | refine EffG.mk (obA ?_) | refine obA ?_ | refine chkA ?_ | refine brY ?_ | refine brN ?_
            refine loadG (.bool false) rfl rfl rfl rfl rfl (getP_slotf hil he rfl) (okP_slotf hil he (by trivial)) ?_
            repeat first | refine EffG.mk (obA ?_) | refine obA ?_ | refine chkA ?_ | refine brY ?_ | refine brN ?_
            refine nextA (i + 1) [0, 1, 2, 3] (by rw [hall]; exact viewA)
          | true =>
            repeat first | refine EffG.mk (obA ?_) | refine obA ?_ | refine chkA ?_ | refine brY ?_ | refine brN ?_
            refine loadG (.bool true) rfl rfl rfl rfl rfl (getP_slotf hil he rfl) (okP_slotf hil he (by trivial)) ?_
            repeat first | refine EffG.mk (obA ?_) | refine obA ?_ | refine chkA ?_ | refine brY ?_ | refine brN ?_
            refine loadG (.u16 t) rfl rfl rfl rfl rfl (getP_slotf hil he rfl) (okP_slotf hil he (by trivial)) ?_
            by_cases h1 : 1 ≤ t.toNat
            · have hm : mayB _ = (true && decide (1 ≤ t.toNat) && decide (t.toNat ≤ 4096)) := hm
              rw [decide_eq_true h1, Bool.true_and, Bool.true_and] at hm
              rw [hm] at hall
              repeat first | refine EffG.mk (obA ?_) | refine obA ?_ | refine chkA ?_ | refine brY ?_ | refine brN ?_
              refine brY ?_ (h := decide_eq_true h1)
              repeat first | refine EffG.mk (obA ?_) | refine obA ?_ | refine chkA ?_ | refine brY ?_ | refine brN ?_
              refine loadG (.u16 t) rfl rfl rfl rfl rfl (getP_slotf hil he rfl) (okP_slotf hil he (by trivial)) ?_
              repeat first | refine EffG.mk (obA ?_) | refine obA ?_ | refine chkA ?_ | refine brY ?_ | refine brN ?_
              refine nextA (i + 1) [0, 1, 2, 3] (by rw [hall]; exact viewA)
            · have hm : mayB _ = (true && decide (1 ≤ t.toNat) && decide (t.toNat ≤ 4096)) := hm
              rw [decide_eq_false h1, Bool.and_false, Bool.false_and] at hm
              rw [hm] at hall
              repeat first | refine EffG.mk (obA ?_) | refine obA ?_ | refine chkA ?_ | refine brY ?_ | refine brN ?_
              refine brN ?_ (h := decide_eq_false h1)
              repeat first | refine EffG.mk (obA ?_) | refine obA ?_ | refine chkA ?_ | refine brY ?_ | refine brN ?_
              refine nextA (i + 1) [0, 1, 2, 3] (by rw [hall]; exact viewA)
    · obtain rfl : i = 8 := by have := of_decide_eq_false h; omega
      rw [List.take_of_length_le (by omega), hM]
      have hg4 := sget_len2_ac b 1023 none (by decide)
      have hg5 := sget_len2_ac (List.take (0 + 1024) (List.drop 0 ([] ++ List.take 1024 (List.drop 0 b))) ++ List.take 1 (List.drop 0 [(0 : BitVec 8)])) (0 + 1024 + 1) none (by decide)
      cases M with
      | true =>
        obtain ⟨rfl, rfl⟩ : l = yl ∧ (0 : Int) = ye := by cases hyl; exact ⟨rfl, rfl⟩
        have hqq : (!(tabD l).eqb (tabD l)) = false := by rw [tab_eqb, decide_eq_true rfl]; rfl
        have hfl := tab_fit30 hl
        have hsl := tab_same hl hl
        repeat first | refine EffG.mk (obA ?_) | refine obA ?_ | refine chkA ?_ | refine brY ?_ | refine brN ?_
        refine EffG.mk (And.intro ⟨hfl, hfl, hsl⟩ ?_)
        repeat first | refine EffG.mk (obA ?_) | refine obA ?_ | refine chkA ?_ | refine brY ?_ | refine brN ?_
        refine brN ?_ (h := hqq)
        repeat first | refine EffG.mk (obA ?_) | refine obA ?_ | refine chkA ?_ | refine brY ?_ | refine brN ?_
        refine ⟨0, ?_⟩
        repeat first | refine EffG.mk (obA ?_) | refine obA ?_ | refine chkA ?_ | refine brY ?_ | refine brN ?_
        refine ⟨0, ?_⟩
        repeat first | refine EffG.mk (obA ?_) | refine obA ?_ | refine chkA ?_ | refine brY ?_ | refine brN ?_
        refine callT hg5 [7] (.tup [tabD tab0, .i64 4]) ?_
        repeat first | refine EffG.mk (obA ?_) | refine obA ?_ | refine chkA ?_
        refine EffG.mk (And.intro ⟨trivial, tab0_ok.ty⟩ ?_)
        repeat first | refine EffG.mk (obA ?_) | refine obA ?_ | refine chkA ?_
        refine callT hg4 [2] (.tup [tabD tab0, .i64 4]) ?_
        repeat first | refine EffG.mk (obA ?_) | refine obA ?_ | refine chkA ?_
        refine EffG.mk (And.intro ⟨trivial, tab0_ok.ty⟩ ?_)
        repeat first | refine EffG.mk (obA ?_) | refine obA ?_ | refine chkA ?_ | refine brY ?_ | refine brN ?_
        refine callA haw [] ?_
        repeat first | refine EffG.mk (obA ?_) | refine obA ?_ | refine chkA ?_ | refine brY ?_ | refine brN ?_
        refine retA [0]
      | false =>
        obtain ⟨rfl, rfl⟩ : tab0 = yl ∧ (4 : Int) = ye := by cases hyl; exact ⟨rfl, rfl⟩
        repeat first | refine EffG.mk (obA ?_) | refine obA ?_ | refine chkA ?_ | refine brY ?_ | refine brN ?_
        refine ⟨0, ?_⟩
        repeat first | refine EffG.mk (obA ?_) | refine obA ?_ | refine chkA ?_ | refine brY ?_ | refine brN ?_
        refine ⟨0, ?_⟩
        repeat first | refine EffG.mk (obA ?_) | refine obA ?_ | refine chkA ?_ | refine brY ?_ | refine brN ?_
        refine callT hg5 [7] (.tup [tabD tab0, .i64 4]) ?_
        repeat first | refine EffG.mk (obA ?_) | refine obA ?_ | refine chkA ?_
        refine EffG.mk (And.intro ⟨trivial, tab0_ok.ty⟩ ?_)
        repeat first | refine EffG.mk (obA ?_) | refine obA ?_ | refine chkA ?_
        refine callT hg4 [2] (.tup [tabD tab0, .i64 4]) ?_
        repeat first | refine EffG.mk (obA ?_) | refine obA ?_ | refine chkA ?_
        refine EffG.mk (And.intro ⟨trivial, tab0_ok.ty⟩ ?_)
        repeat first | refine EffG.mk (obA ?_) | refine obA ?_ | refine chkA ?_ | refine brY ?_ | refine brN ?_
        refine callA haw [] ?_
        repeat first | refine EffG.mk (obA ?_) | refine obA ?_ | refine chkA ?_ | refine brY ?_ | refine brN ?_
        refine retA [0]
end Go.Proofs.YtodkhgofmgaafaaDoor.Av

namespace Go.Proofs.YtodkhgofmgaafaaDoor.Av
open Go Go.ChangeShapes Go.WideShapes
set_option linter.all false
set_option maxRecDepth 3000

/-! from a contract to a row of a law over plain data -/

theorem calls_bool {P : Program} {f : Nat} {args : List D} (h : AC P f args 0 [] ⟨.bool true, [], []⟩) {W : World} {vals : List Value} (hv : All2 (Rep (fun _ => none)) args vals) :
    Calls P f vals.toArray W fun e W' => e = .returned (.bool true) ∧ W'.os = W.os ∧ W'.output = W.output ∧ W.heap.size ≤ W'.heap.size ∧ ∀ b, b < W.heap.size → W'.heap[b]? = W.heap[b]? := by
  refine (h.2 (fun _ => none) W vals hv ⟨(fun _ _ h => nomatch h), (fun i e h => nomatch h), (fun i j ei ej Li Lj h => nomatch h), (fun i e L h => nomatch h), fun _ _ _ => rfl, Nat.le_refl _, rfl, rfl, rfl⟩ (fun i h => absurd rfl h)).mono fun e W' ⟨v, ρ', he, _, _, hr, hI⟩ => ?_
  have hr : v = .bool true := hr
  subst hr
  exact ⟨he, hI.os, hI.out, hI.size, fun b hb => hI.ext b hb (fun ⟨i, e, L, h, _⟩ => nomatch h)⟩

/-- the same, where the code reads one of the package's variables -/
theorem calls_bool_g {P : Program} {f : Nat} {args : List D} (g : Nat) {T : Ty} {d : D} (h : AC P f args 0 [(gid g, some ⟨T, d, false⟩)] ⟨.bool true, [], []⟩) {W : World} {vals : List Value} (hv : All2 (Rep (fun _ => none)) args vals)
    {L : Loc} (hL : L.blk = g ∧ L.base = 0) (hs : SatE (fun _ => none) ⟨T, d, false⟩ L W) :
    Calls P f vals.toArray W fun e W' => e = .returned (.bool true) ∧ W'.os = W.os ∧ W'.output = W.output ∧ W.heap.size ≤ W'.heap.size ∧ ∀ b, b < W.heap.size → W'.heap[b]? = W.heap[b]? := by
  let ρ0 : Env := fun i => if i = gid g then some L else none
  have hle : Env.le (fun _ => none) ρ0 := fun i L h => by cases h
  have hget : ∀ i e, get [(gid g, some ⟨T, d, false⟩)] i = some e → i = gid g ∧ e = ⟨T, d, false⟩ := fun i e h => by
    rw [get_cons] at h
    split at h
    · rename_i e1; cases h; exact ⟨e1.symm, rfl⟩
    · cases h
  refine (h.2 ρ0 W vals (hv.mono fun a b hab => Rep.mono hle hab)
    ⟨fun g' L' h' => ?_, fun i e hi => ?_, fun i j ei ej Li Lj hi hj hne hr => ?_, fun i e L' hi hr => ?_, fun _ _ _ => rfl, Nat.le_refl _, rfl, rfl, rfl⟩ (fun i hi => ?_)).mono fun e W' ⟨v, ρ', he, _, _, hr, hI⟩ => ?_
  · have h' : (if gid g' = gid g then some L else none) = some L' := h'
    split at h'
    · rename_i e1
      cases h'
      have : g' = g := by unfold gid at e1; omega
      rw [this]; exact hL
    · cases h'
  · obtain ⟨rfl, rfl⟩ := hget i e hi
    exact ⟨L, if_pos rfl, hs.mono hle⟩
  · obtain ⟨_, rfl⟩ := hget i ei hi
    cases hr
  · obtain ⟨_, rfl⟩ := hget i e hi
    cases hr
  · have hi : (if i = gid g then some L else none) ≠ none := hi
    split at hi
    · rename_i e1
      right; rw [e1]; unfold gid; omega
    · exact absurd rfl hi
  · have hr : v = .bool true := hr
    subst hr
    refine ⟨he, hI.os, hI.out, hI.size, fun b hb => hI.ext b hb (fun ⟨i, e, L', h1, h2, _⟩ => ?_)⟩
    obtain ⟨_, rfl⟩ := hget i e h1
    cases h2

/-- a variable that is an array of bytes, as its reading says -/
theorem sat_u8s {P : Program} {W : World} {name : String} {g t e n : Nat} (hg : P.globalNamed name = some g) (hty : (P.globals[g]?).map (·.type) = some t) (ht : P.underlying t = some (.array n e)) (he : P.underlying e = some (.int .u8))
    (hc : P.cellsOf e = 1) (hs : P.cellsOf t = n) {l : List (BitVec 8)} (hl : l.length = n) (h : Lib.VarReads P W name (.agg (l.map fun b => .lit (.int .u8 b.toNat)))) :
    SatE (fun _ => none) ⟨.arr n .cell, .u8s l, false⟩ ⟨g, 0, n, .arr n .cell⟩ W := by
  obtain ⟨g', t', cs, fuel, p, q1, q2, q3, q4⟩ := h
  obtain rfl := Option.some.inj (hg.symm.trans q1)
  obtain rfl := Option.some.inj (hty.symm.trans q2)
  have hcs : cs.toList = (l.map fun b => (b.toNat : Int)).map fun z => Value.int .u8 z := by
    have q5 : DataW.trod (fun _ => ()) P W 0 (fun _ => true) false fuel t cs.toList = some (Lib.tabData .u8 (l.map fun b => (b.toNat : Int)), p) := by
      rw [q4]; unfold Lib.tabData; rw [List.map_map]; rfl
    exact Lib.cells_of_tab ht he hc hs q5
  simp only [World.var?, hg, Option.bind_some] at q3
  split at q3 <;> try contradiction
  rename_i C T fr hC
  cases q3
  have hlen : cs.size = n := by
    have := congrArg List.length hcs
    simpa [hl] using this
  refine ⟨rfl, ?_, hl, cs, T, fr, [], cs.toList, [], hC, by simp, rfl, hlen, ?_, fun h => by cases h⟩
  · exact trivial
  · rw [hcs, List.map_map]
    show All2 _ (l.map D.u8) _
    have : ∀ l : List (BitVec 8), All2 (RepS (fun _ => none)) (l.map D.u8) (l.map ((fun z => Value.int .u8 z) ∘ fun b => (b.toNat : Int))) := by
      intro l
      induction l with
      | nil => trivial
      | cons a r ih => exact ⟨rfl, ih⟩
    exact this l

theorem rep_u8 {ρ : Env} {n : Int} (h : (Lit.int .u8 n).wf = true) : Rep ρ (.u8 (BitVec.ofNat 8 n.toNat)) (.int .u8 n) := by
  simp only [Lit.wf, Bool.and_eq_true, decide_eq_true_eq] at h
  have h1 : (0 : Int) ≤ n := h.1
  have h2 : n < 256 := by
    have := h.2
    have e : IntKind.u8.max = 255 := by decide
    omega
  show Value.int _ _ = .int _ _
  congr 1
  simp; omega

theorem kept_of_same {W W' : World} (ho : W'.os = W.os) (hp : W'.output = W.output) (hs : ∀ b, b < W.heap.size → W'.heap[b]? = W.heap[b]?) (may : MemPlace → Prop) : W.keptBut W' may := by
  refine ⟨ho, hp, fun i hi => ?_⟩
  rw [hs i hi]
  split
  · rename_i h1 h2
    rw [h1] at h2; cases h2
    exact ⟨rfl, rfl, rfl, fun _ _ => rfl⟩
  · rename_i h1 h2
    rw [h1] at h2; cases h2
    exact .inr ⟨rfl, rfl⟩
  · rfl

section
variable {H : Type} {enc : TypeId × Value → H} {P : Program}
theorem post_flat {f : Func} {s : ChangeSpec} {apart fresh handsOn : Bool} {W W' : World} {args : Array Value} {v : Value} {ds gs : List (DataW H)}
    (hW : DataW.Whole enc P f.params.toList s.vars apart W args.toList ds gs [])
    (hres : ∀ (b : Nat) (sp : Nat → Bool) (hd : Bool), DataW.TrodAll enc P W' b sp hd f.resultTypes.toList (v.resultList f.resultTypes.size) (s.fn H (ds ++ gs)).results [])
    (hargs : ∀ sp : Nat → Bool, DataW.TrodAll enc P W' 0 sp true f.params.toList args.toList (s.fn H (ds ++ gs)).args [])
    (hvars : ∀ sp : Nat → Bool, DataW.TrodVars enc P W' sp s.vars (s.fn H (ds ++ gs)).vars [])
    (hk : W.keptBut W' (fun _ => False)) : s.post enc P f apart fresh handsOn false W args v W' :=
  ⟨ds, gs, [], [], [], [], hW, hres _ _ _, hargs _, hvars _, World.keptBut_mono (fun _ h => h.elim) hk, (fun h => nomatch h)⟩

theorem mapM_none {α β : Type} {f g : α → Option (β × List MemPlace)} : ∀ {l : List α} {r : List (β × List MemPlace)}, l.mapM f = some r → (∀ x y, x ∈ l → f x = some y → y.2 = [] ∧ g x = some y) → l.mapM g = some r ∧ r.flatMap (·.2) = []
  | [], r, h, _ => by
    simp at h; subst h; exact ⟨rfl, rfl⟩
  | a :: l, r, h, hfg => by
    rw [List.mapM_cons] at h ⊢
    simp only [bind, Option.bind_eq_some_iff, pure, Option.some.injEq] at h
    obtain ⟨y, hy, ys, hys, rfl⟩ := h
    obtain ⟨h1, h2⟩ := hfg a y (by simp) hy
    obtain ⟨h3, h4⟩ := mapM_none hys (fun x y hx => hfg x y (List.mem_cons_of_mem _ hx))
    rw [h2, h3]
    exact ⟨rfl, by rw [List.flatMap_cons, h1, h4]; rfl⟩

/-- an array of bytes by value: its bytes; it reads so anywhere -/
theorem open_u8s {t e : TypeId} {n : Nat} (ht : P.underlying t = some (.array n e)) (he : P.underlying e = some (.int .u8)) (hc : P.cellsOf e = 1) (hs : P.cellsOf t = n) {r : Reach} {b0 base : Nat} {W : World} {v : Value} {d : DataW H} {ps : List MemPlace}
    {sp : Nat → Bool} {held : Bool} (hval : Value.okWide P W r b0 t v) (hd : DataW.Trod enc P W base sp held t v d ps) :
    ∃ l : List (BitVec 8), l.length = n ∧ ps = [] ∧ (∀ ρ, Rep ρ (.u8s l) v) ∧ ∀ (W' : World) (base' : Nat) (sp' : Nat → Bool) (held' : Bool), DataW.Trod enc P W' base' sp' held' t v d [] := by
  simp only [Value.okWide, ht] at hval
  obtain ⟨xs, rfl, hn, _⟩ := hval
  obtain ⟨fuel, hf⟩ := hd
  have hcells : (Value.agg xs).cells.toList = xs.toList := by simp [Value.cells]
  rw [hcells] at hf
  obtain ⟨ys, m, rfl, hx, hl, hys, hi⟩ := DataW.trod_array ht hf
  have hcell : ∀ i, i < n → ∃ a, (xs.toList.drop (i * P.cellsOf e)).take (P.cellsOf e) = [.int .u8 a] ∧ (Lit.int .u8 a).wf = true := by
    intro i hin
    have h := hi i hin
    rw [List.getElem?_eq_getElem (by omega)] at h
    obtain ⟨a, h1, _, h2⟩ := DataW.trod_int he h
    exact ⟨a, h1, h2⟩
  have hget : ∀ i, i < n → ∃ a, xs.toList[i]? = some (.int .u8 a) ∧ (Lit.int .u8 a).wf = true := by
    intro i hin
    obtain ⟨a, h1, h2⟩ := hcell i hin
    rw [hc, Nat.mul_one] at h1
    refine ⟨a, ?_, h2⟩
    have := congrArg (·[0]?) h1
    simpa [List.getElem?_take, List.getElem?_drop] using this
  have hlen : xs.toList.length = n := by rw [hl, hs]
  have key : ∀ (cs : List Value), (∀ i, i < cs.length → ∃ a, cs[i]? = some (.int .u8 a) ∧ (Lit.int .u8 a).wf = true) → ∃ l : List (BitVec 8), l.length = cs.length ∧ ∀ ρ, All2 (RepS ρ) (l.map D.u8) cs := by
    intro cs
    induction cs with
    | nil => intro _; exact ⟨[], rfl, fun _ => trivial⟩
    | cons c cs ih =>
      intro h
      obtain ⟨a, h1, h2⟩ := h 0 (by simp)
      simp at h1; subst h1
      obtain ⟨l, h3, h4⟩ := ih (fun i hi => by simpa using h (i + 1) (by simpa using hi))
      exact ⟨BitVec.ofNat 8 a.toNat :: l, by simp [h3], fun ρ => ⟨rep_u8 (ρ := ρ) h2, h4 ρ⟩⟩
  obtain ⟨l, h1, h2⟩ := key xs.toList (by rw [hlen]; exact hget)
  have hstay : ∀ (W' : World) (base' : Nat) (sp' : Nat → Bool) (held' : Bool), DataW.trod enc P W' base' sp' held' (m + 1) t xs.toList = some (d, ps) ∧ ps = [] := by
    intro W' base' sp' held'
    unfold DataW.trod at hf ⊢
    rw [ht] at hf ⊢
    simp only [hl, if_true, Option.map_eq_some_iff] at hf ⊢
    obtain ⟨zs, hz, hzx⟩ := hf
    obtain ⟨h3, h4⟩ := mapM_none (g := fun i => DataW.trod enc P W' base' sp' held' m e ((xs.toList.drop (i * P.cellsOf e)).take (P.cellsOf e))) hz (fun i y _ hy => by
      obtain ⟨a, e1, e2, e3⟩ := DataW.trod_int he hy
      rw [e2]
      refine ⟨rfl, ?_⟩
      rw [e1]
      cases m with
      | zero => simp [DataW.trod] at hy
      | succ m => simp [DataW.trod, he, e3])
    refine ⟨⟨zs, h3, hzx⟩, ?_⟩
    have := congrArg Prod.snd hzx
    exact this.symm.trans h4
  refine ⟨l, by rw [h1, hlen], (hstay W 0 sp held).2, fun ρ => ⟨xs.toList, by simp, h2 ρ⟩, fun W' base' sp' held' => ?_⟩
  obtain ⟨h5, h6⟩ := hstay W' base' sp' held'
  refine ⟨m + 1, ?_⟩
  rw [hcells, h5, h6]
end
end Go.Proofs.YtodkhgofmgaafaaDoor.Av

namespace Go.Proofs.YtodkhgofmgaafaaDoor.Av
open Go Go.ChangeShapes Go.WideShapes
set_option linter.all false
set_option maxRecDepth 3000

/-! slices of bytes that came in, and are only read -/

section
variable {H : Type} {enc : TypeId × Value → H} {P : Program}

theorem shape_cells {w : World} {b row cells : Nat} (h : w.shape? b = some (row, cells)) : ∃ C t fr, w.heap[b]? = some (.cells C t fr) := by
  unfold World.shape? at h
  split at h
  · rename_i C t fr hC
    exact ⟨C, t, fr, hC⟩
  · cases h

/-- what a slice of bytes gives a walk: its bytes; a place from which it is read; it reads the same wherever its block is as it was -/
theorem open_slice {t e : TypeId} (ht : P.underlying t = some (.slice e)) (he : P.underlying e = some (.int .u8)) (hc : P.cellsOf e = 1) {r : Reach} {b0 : Nat} {W : World} {v : Value} {d : DataW H} {ps : List MemPlace}
    (hval : Value.okWide P W r b0 t v) (hd : DataW.Trod enc P W 0 (fun _ => true) true t v d ps) :
    (v = .slice none 0 0 ∧ ps = [] ∧ ∀ (W' : World) (sp : Nat → Bool), DataW.Trod enc P W' 0 sp true t v d []) ∨
    ∃ (l : List (BitVec 8)) (L : Loc) (cap : Nat), l.length ≤ cap ∧ cap < 9223372036854775808 ∧ SatE (fun _ => none) ⟨.row .cell, .u8s l, false⟩ L W ∧
      (∀ (ρ : Env) (i : Nat), ρ i = some L → Rep ρ (.slice i [] 0 l.length (some cap)) v) ∧
      (∀ (W' : World) (sp : Nat → Bool), (∀ b, b < W.heap.size → W'.heap[b]? = W.heap[b]?) → (∀ p ∈ ps, sp p.block = true) → DataW.Trod enc P W' 0 sp true t v d ps) ∧ ∃ es sp, d = .slice es sp ∧ es.length = l.length := by
  obtain ⟨fuel, hf⟩ := hd
  have hval' : Cell.okWide P W r b0 t v := by
    simp only [Value.okWide, ht] at hval; exact hval
  rcases open_ints ht he hc hf with ⟨hcs, hx⟩ | ⟨a, len, cap, zs, hcs, _, hl, hm, hz, hx, hcell, hwz⟩
  · left
    have hv : v = .slice none 0 0 := by
      cases v <;> simp_all [Value.cells]
      simp only [Cell.okWide, ht, Cell.ok] at hval'
    subst hv
    cases hx
    refine ⟨rfl, rfl, fun W' sp => ⟨1, ?_⟩⟩
    simp [DataW.trod, ht, Value.cells]
  right
  have hv : v = .slice (some a) len cap := by
    cases v <;> simp_all [Value.cells]
    simp only [Cell.okWide, ht, Cell.ok] at hval'
  subst hv
  cases hx
  simp only [if_true] at hz
  simp only [Cell.okWide, ht, Cell.ok] at hval'
  obtain ⟨_, _, _, hspot, row, cells, hsh, _⟩ := hval'
  obtain ⟨C, T, fr, hC⟩ := shape_cells hsh
  obtain ⟨ab, ao, spot⟩ := a
  have hspot : spot = none := hspot
  subst hspot
  have hC : W.heap[ab]? = some (.cells C T fr) := hC
  have hcell' : ∀ i, i < cap → C[ao + i]? = some (.int .u8 (zs.getD i 0)) := by
    intro i hi
    have := hcell i (by omega)
    rw [Addr.add_lit] at this
    simpa [World.cell?, hC] using this
  have hbd : 0 < cap → ao + cap ≤ C.size := by
    intro h0
    have := hcell' (cap - 1) (by omega)
    rcases Nat.lt_or_ge (ao + (cap - 1)) C.size with h | h
    · omega
    · rw [Array.getElem?_eq_none h] at this; cases this
  let l : List (BitVec 8) := (zs.take len).map fun n => BitVec.ofNat 8 n.toNat
  have hll : l.length = len := by simp [l]; omega
  let base : Nat := if cap = 0 then 0 else ao
  have hbase : base + len ≤ C.size := by
    by_cases h : cap = 0
    · simp only [base, if_pos h]; omega
    · simp only [base, if_neg h]
      have := hbd (by omega)
      omega
  have hreads : ∀ i, i < len → C[base + i]? = some (.int .u8 (zs.getD i 0)) := by
    intro i hi
    have h : ¬ cap = 0 := by omega
    simp only [base, if_neg h]
    exact hcell' i (by omega)
  refine ⟨l, ⟨ab, base, C.size, .row .cell⟩, cap, by omega, ?_, ⟨rfl, trivial, trivial, C, T, fr, C.toList.take base, (C.toList.drop base).take len, C.toList.drop (base + len), hC, list_win C.toList base len, ?_, rfl, ?_, fun h => by cases h⟩, fun ρ i hρ => ?_, fun W' sp hW hsp => ?_, _, _, rfl, by simp only [lits, List.length_map, List.length_take, hll]; omega⟩
  · unfold maxLen at hm; omega
  · rw [List.length_take, Array.length_toList]
    show min base C.size = base
    omega
  · show All2 _ (l.map D.u8) _
    have key : ∀ (n : Nat) (zs : List Int) (cs : List Value), n ≤ zs.length → (∀ z ∈ zs, (Lit.int .u8 z).wf = true) → (∀ i, i < n → cs[i]? = some (.int .u8 (zs.getD i 0))) → cs.length = n →
        All2 (RepS (fun _ => none)) (((zs.take n).map fun n => BitVec.ofNat 8 n.toNat).map D.u8) cs := by
      intro n
      induction n with
      | zero =>
        intro zs cs _ _ _ hlen
        have : cs = [] := List.eq_nil_of_length_eq_zero hlen
        subst this
        exact trivial
      | succ n ih =>
        intro zs cs hn hw hcs hlen
        match zs, cs, hn, hlen with
        | z :: zs, c :: cs, hn, hlen =>
          have h0 := hcs 0 (by omega)
          simp at h0
          subst h0
          refine ⟨rep_u8 (ρ := fun _ => none) (hw z (by simp)), ih zs cs (by simpa using hn) (fun x hx => hw x (List.mem_cons_of_mem _ hx)) (fun i hi => ?_) (by simpa using hlen)⟩
          simpa using hcs (i + 1) (by omega)
    refine key len zs _ (by omega) hwz (fun i hi => ?_) ?_
    · rw [List.getElem?_take, if_pos hi, List.getElem?_drop, Array.getElem?_toList]
      exact hreads i hi
    · rw [List.length_take, List.length_drop, Array.length_toList]; omega
  · refine ⟨_, hρ, .row .cell, .cell, ⟨ab, ao, none⟩, cap, rfl, rfl, by rw [hll], by omega, by unfold maxLen at hm; omega, fun k hk => by cases hk; rfl, fun h0 => ?_⟩
    have h : ¬ cap = 0 := by omega
    have := hbd h0
    simp only [base, if_neg h, offAt, Ty.size]
    exact ⟨by simp, by omega⟩
  · refine ⟨2, ?_⟩
    have hcells : (Value.slice (some ⟨ab, ao, none⟩) len cap).cells.toList = [.slice (some ⟨ab, ao, none⟩) len cap] := by simp [Value.cells]
    rw [hcells]
    have hab : ab < W.heap.size := by
      rcases Nat.lt_or_ge ab W.heap.size with h | h
      · exact h
      · rw [Array.getElem?_eq_none h] at hC; cases hC
    refine shut_ints' 0 ht he hc (Nat.zero_le _) hl hm ?_ (fun i hi => ?_) hwz
    · rw [hz]
      by_cases h : cap = 0
      · split <;> omega
      · have : sp ab = true := hsp (.cell ab ao) (MemPlace.mem_row.2 ⟨0, by omega, rfl⟩)
        rw [if_pos this]
    · have := hcell' i (by omega)
      simp only [World.cell?, hW ab hab, hC]
      simpa using this
end

section
variable {H : Type} {enc : TypeId × Value → H} {P : Program}

/-- an array of bytes among cells: its bytes; it reads so anywhere -/
theorem trod_u8s {t e : TypeId} {n : Nat} (ht : P.underlying t = some (.array n e)) (he : P.underlying e = some (.int .u8)) (hc : P.cellsOf e = 1) (hs : P.cellsOf t = n) {base : Nat} {W : World} {cs : List Value} {y : DataW H × List MemPlace}
    {sp : Nat → Bool} {held : Bool} {fuel : Nat} (hf : DataW.trod enc P W base sp held fuel t cs = some y) :
    y.2 = [] ∧ (∃ l : List (BitVec 8), l.length = n ∧ ∀ ρ, All2 (RepS ρ) (l.map D.u8) cs) ∧ ∀ (W' : World) (base' : Nat) (sp' : Nat → Bool) (held' : Bool), DataW.trod enc P W' base' sp' held' fuel t cs = some y := by
  obtain ⟨ys, m, rfl, hx, hl, hys, hi⟩ := DataW.trod_array ht hf
  have hget : ∀ i, i < n → ∃ a, cs[i]? = some (.int .u8 a) ∧ (Lit.int .u8 a).wf = true := by
    intro i hin
    have h := hi i hin
    rw [List.getElem?_eq_getElem (by omega)] at h
    obtain ⟨a, h1, _, h2⟩ := DataW.trod_int he h
    rw [hc, Nat.mul_one] at h1
    refine ⟨a, ?_, h2⟩
    have := congrArg (·[0]?) h1
    simpa [List.getElem?_take, List.getElem?_drop] using this
  have hlen : cs.length = n := by rw [hl, hs]
  have key : ∀ (cs : List Value), (∀ i, i < cs.length → ∃ a, cs[i]? = some (.int .u8 a) ∧ (Lit.int .u8 a).wf = true) → ∃ l : List (BitVec 8), l.length = cs.length ∧ ∀ ρ, All2 (RepS ρ) (l.map D.u8) cs := by
    intro cs
    induction cs with
    | nil => intro _; exact ⟨[], rfl, fun _ => trivial⟩
    | cons c cs ih =>
      intro h
      obtain ⟨a, h1, h2⟩ := h 0 (by simp)
      simp at h1; subst h1
      obtain ⟨l, h3, h4⟩ := ih (fun i hi => by simpa using h (i + 1) (by simpa using hi))
      exact ⟨BitVec.ofNat 8 a.toNat :: l, by simp [h3], fun ρ => ⟨rep_u8 (ρ := ρ) h2, h4 ρ⟩⟩
  obtain ⟨l, h1, h2⟩ := key cs (by rw [hlen]; exact hget)
  have hstay : ∀ (W' : World) (base' : Nat) (sp' : Nat → Bool) (held' : Bool), DataW.trod enc P W' base' sp' held' (m + 1) t cs = some y ∧ y.2 = [] := by
    intro W' base' sp' held'
    unfold DataW.trod at hf ⊢
    rw [ht] at hf ⊢
    simp only [hl, if_true, Option.map_eq_some_iff] at hf ⊢
    obtain ⟨zs, hz, hzx⟩ := hf
    obtain ⟨h3, h4⟩ := mapM_none (g := fun i => DataW.trod enc P W' base' sp' held' m e ((cs.drop (i * P.cellsOf e)).take (P.cellsOf e))) hz (fun i y _ hy => by
      obtain ⟨a, e1, e2, e3⟩ := DataW.trod_int he hy
      rw [e2]
      refine ⟨rfl, ?_⟩
      rw [e1]
      cases m with
      | zero => simp [DataW.trod] at hy
      | succ m => simp [DataW.trod, he, e3])
    refine ⟨⟨zs, h3, hzx⟩, ?_⟩
    rw [← hzx]; exact h4
  exact ⟨(hstay W 0 sp held).2, ⟨l, by rw [h1, hlen], h2⟩, fun W' base' sp' held' => (hstay W' base' sp' held').1⟩

/-- two arrays of bytes by value -/
theorem open_pair {t t' e : TypeId} {n : Nat} (ht : P.underlying t = some (.array 2 t')) (ht' : P.underlying t' = some (.array n e)) (he : P.underlying e = some (.int .u8)) (hc : P.cellsOf e = 1) (hs' : P.cellsOf t' = n) (hs : P.cellsOf t = n + n) {r : Reach} {b0 base : Nat} {W : World} {v : Value} {d : DataW H} {ps : List MemPlace}
    {sp : Nat → Bool} {held : Bool} (hval : Value.okWide P W r b0 t v) (hd : DataW.Trod enc P W base sp held t v d ps) :
    ∃ a b : List (BitVec 8), a.length = n ∧ b.length = n ∧ ps = [] ∧ (∀ ρ, Rep ρ (.node [.u8s a, .u8s b]) v) ∧ ∀ (W' : World) (base' : Nat) (sp' : Nat → Bool) (held' : Bool), DataW.Trod enc P W' base' sp' held' t v d [] := by
  simp only [Value.okWide, ht] at hval
  obtain ⟨xs, rfl, hn, _⟩ := hval
  obtain ⟨fuel, hf⟩ := hd
  have hcells : (Value.agg xs).cells.toList = xs.toList := by simp [Value.cells]
  rw [hcells] at hf
  obtain ⟨ys, m, rfl, hx, hl, hys, hi⟩ := DataW.trod_array ht hf
  obtain ⟨y0, y1, rfl⟩ : ∃ y0 y1, ys = [y0, y1] := by
    match ys, hys with
    | [y0, y1], _ => exact ⟨y0, y1, rfl⟩
  have i0 := hi 0 (by omega)
  have i1 := hi 1 (by omega)
  rw [hs'] at i0 i1
  simp only [Nat.zero_mul, List.drop_zero, Nat.one_mul] at i0 i1
  obtain ⟨p0, ⟨a, ha, hra⟩, st0⟩ := trod_u8s ht' he hc hs' (show DataW.trod enc P W base sp held m t' (xs.toList.take n) = some y0 from i0)
  obtain ⟨p1, ⟨b, hb, hrb⟩, st1⟩ := trod_u8s ht' he hc hs' (show DataW.trod enc P W base sp held m t' ((xs.toList.drop n).take n) = some y1 from i1)
  have hsz : xs.toList.length = n + n := by rw [hl, hs]
  have hsplit : xs.toList = xs.toList.take n ++ (xs.toList.drop n).take n := by
    rw [List.take_of_length_le (l := xs.toList.drop n) (by rw [List.length_drop]; omega), List.take_append_drop]
  have hstay : ∀ (W' : World) (base' : Nat) (sp' : Nat → Bool) (held' : Bool), DataW.trod enc P W' base' sp' held' (m + 1) t xs.toList = some (d, ps) ∧ ps = [] := by
    intro W' base' sp' held'
    unfold DataW.trod at hf ⊢
    rw [ht] at hf ⊢
    simp only [hl, if_true, Option.map_eq_some_iff] at hf ⊢
    obtain ⟨zs, hz, hzx⟩ := hf
    obtain ⟨h3, h4⟩ := mapM_none (g := fun i => DataW.trod enc P W' base' sp' held' m t' ((xs.toList.drop (i * P.cellsOf t')).take (P.cellsOf t'))) hz (fun i y _ hy => by
      obtain ⟨e1, _, e2⟩ := trod_u8s ht' he hc hs' hy
      exact ⟨e1, e2 W' base' sp' held'⟩)
    refine ⟨⟨zs, h3, hzx⟩, ?_⟩
    have := congrArg Prod.snd hzx
    exact this.symm.trans h4
  refine ⟨a, b, ha, hb, (hstay W 0 sp held).2, fun ρ => ⟨xs.toList, by simp, ?_⟩, fun W' base' sp' held' => ?_⟩
  · show All2 (RepS ρ) (a.map D.u8 ++ (b.map D.u8 ++ [])) _
    rw [hsplit, List.append_nil]
    exact (hra ρ).append (hrb ρ)
  · obtain ⟨h5, h6⟩ := hstay W' base' sp' held'
    refine ⟨m + 1, ?_⟩
    rw [hcells, h5, h6]

theorem rep_u64 {ρ : Env} {n : Int} (h : (Lit.int .u64 n).wf = true) : Rep ρ (.u64 (BitVec.ofNat 64 n.toNat)) (.int .u64 n) := by
  simp only [Lit.wf, Bool.and_eq_true, decide_eq_true_eq] at h
  have h1 : (0 : Int) ≤ n := h.1
  have h2 : n < 18446744073709551616 := by
    have := h.2
    have e : IntKind.u64.max = 18446744073709551615 := by decide
    omega
  show Value.int _ _ = .int _ _
  congr 1
  simp; omega

/-- the call of a law that reads a slice of bytes -/
theorem calls_bool_s {f : Nat} {args : List D} {T : Ty} {d : D} (h : AC P f args 1 [(0, some ⟨T, d, false⟩)] ⟨.bool true, [], []⟩) {W : World} {vals : List Value} {L : Loc} (hv : All2 (Rep (fun i => if i = 0 then some L else none)) args vals)
    (hs : SatE (fun _ => none) ⟨T, d, false⟩ L W) :
    Calls P f vals.toArray W fun e W' => e = .returned (.bool true) ∧ W'.os = W.os ∧ W'.output = W.output ∧ W.heap.size ≤ W'.heap.size ∧ ∀ b, b < W.heap.size → W'.heap[b]? = W.heap[b]? := by
  let ρ0 : Env := fun i => if i = 0 then some L else none
  have hle : Env.le (fun _ => none) ρ0 := fun i L h => by cases h
  have hget : ∀ i e, get [(0, some ⟨T, d, false⟩)] i = some e → i = 0 ∧ e = ⟨T, d, false⟩ := fun i e h => by
    rw [get_cons] at h
    split at h
    · rename_i e1; cases h; exact ⟨e1.symm, rfl⟩
    · cases h
  refine (h.2 ρ0 W vals hv ⟨fun g' L' h' => ?_, fun i e hi => ?_, fun i j ei ej Li Lj hi hj hne hr => ?_, fun i e L' hi hr => ?_, fun _ _ _ => rfl, Nat.le_refl _, rfl, rfl, rfl⟩ (fun i hi => ?_)).mono fun e W' ⟨v, ρ', he, _, _, hr, hI⟩ => ?_
  · have h' : (if gid g' = 0 then some L else none) = some L' := h'
    rw [if_neg (by unfold gid; omega)] at h'
    cases h'
  · obtain ⟨rfl, rfl⟩ := hget i e hi
    exact ⟨L, if_pos rfl, hs.mono hle⟩
  · obtain ⟨_, rfl⟩ := hget i ei hi
    cases hr
  · obtain ⟨_, rfl⟩ := hget i e hi
    cases hr
  · have hi : (if i = 0 then some L else none) ≠ none := hi
    split at hi
    · rename_i e1
      left; omega
    · exact absurd rfl hi
  · have hr : v = .bool true := hr
    subst hr
    refine ⟨he, hI.os, hI.out, hI.size, fun b hb => hI.ext b hb (fun ⟨i, e, L', h1, h2, _⟩ => ?_)⟩
    obtain ⟨_, rfl⟩ := hget i e h1
    cases h2
end

section
variable {H : Type} {enc : TypeId × Value → H} {P : Program}
theorem post_places {f : Func} {s : ChangeSpec} {apart fresh handsOn : Bool} {W W' : World} {args : Array Value} {v : Value} {ds gs : List (DataW H)} {before : List MemPlace}
    (hW : DataW.Whole enc P f.params.toList s.vars apart W args.toList ds gs before)
    (hres : ∀ (b : Nat) (sp : Nat → Bool) (hd : Bool), DataW.TrodAll enc P W' b sp hd f.resultTypes.toList (v.resultList f.resultTypes.size) (s.fn H (ds ++ gs)).results [])
    (hargs : ∀ sp : Nat → Bool, (∀ p ∈ before, sp p.block = true) → DataW.TrodAll enc P W' 0 sp true f.params.toList args.toList (s.fn H (ds ++ gs)).args before)
    (hvars : ∀ sp : Nat → Bool, DataW.TrodVars enc P W' sp s.vars (s.fn H (ds ++ gs)).vars [])
    (hk : W.keptBut W' (fun _ => False)) : s.post enc P f apart fresh handsOn false W args v W' :=
  ⟨ds, gs, before, [], before, [], hW, hres _ _ _, hargs _ (fun p hp => by simpa using hW.lt p hp), hvars _, World.keptBut_mono (fun _ h => h.elim) hk, (fun h => nomatch h)⟩
end
end Go.Proofs.YtodkhgofmgaafaaDoor.Av

namespace Go.Proofs.YtodkhgofmgaafaaDoor.Av
open Go Go.ChangeShapes Go.WideShapes
set_option linter.all false
set_option maxRecDepth 3000

/-! a law whose code reads some of the package's variables -/
theorem calls_bool_m {P : Program} {f : Nat} {args : List D} {m0 : Mem} (h : AC P f args 0 m0 ⟨.bool true, [], []⟩) {W : World} {vals : List Value} (hv : All2 (Rep (fun _ => none)) args vals)
    (hm : ∀ i e, get m0 i = some e → e.rw = false ∧ ∃ g, i = gid g ∧ ∃ L : Loc, (L.blk = g ∧ L.base = 0) ∧ SatE (fun _ => none) e L W) :
    Calls P f vals.toArray W fun e W' => e = .returned (.bool true) ∧ W'.os = W.os ∧ W'.output = W.output ∧ W.heap.size ≤ W'.heap.size ∧ ∀ b, b < W.heap.size → W'.heap[b]? = W.heap[b]? := by
  let ρ0 : Env := fun i => @dite _ (∃ e, get m0 i = some e) (Classical.propDecidable _) (fun hi => some (hm i hi.choose hi.choose_spec).2.choose_spec.2.choose) (fun _ => none)
  have hle : Env.le (fun _ => none) ρ0 := fun i L h => by cases h
  have hρ : ∀ i e, get m0 i = some e → ∃ g L, i = gid g ∧ ρ0 i = some L ∧ (L.blk = g ∧ L.base = 0) ∧ SatE (fun _ => none) e L W := fun i e hi => by
    have hx : ∃ e, get m0 i = some e := ⟨e, hi⟩
    have he : hx.choose = e := Option.some.inj (hx.choose_spec.symm.trans hi)
    have hs := (hm i hx.choose hx.choose_spec).2.choose_spec.2.choose_spec
    have hg := (hm i hx.choose hx.choose_spec).2.choose_spec.1
    refine ⟨_, _, hg, dif_pos hx, hs.1, ?_⟩
    have h2 := hs.2
    generalize (hm i hx.choose hx.choose_spec).2.choose_spec.2.choose = L at h2
    rw [he] at h2
    exact h2
  have hno : ∀ i L, ρ0 i = some L → ∃ e, get m0 i = some e := fun i L hi => by
    by_cases hx : ∃ e, get m0 i = some e
    · exact hx
    · have : ρ0 i = none := dif_neg hx
      rw [this] at hi; cases hi
  have hgi : ∀ {a b : Nat}, gid a = gid b → a = b := fun h => by unfold gid at h; omega
  refine (h.2 ρ0 W vals (hv.mono fun a b hab => Rep.mono hle hab)
    ⟨fun g L h' => ?_, fun i e hi => ?_, fun i j ei ej Li Lj hi hj hne hr => ?_, fun i e L' hi hr => ?_, fun _ _ _ => rfl, Nat.le_refl _, rfl, rfl, rfl⟩ (fun i hi => ?_)).mono fun e W' ⟨v, ρ', he, _, _, hr, hI⟩ => ?_
  · obtain ⟨e, he⟩ := hno _ _ h'
    obtain ⟨g', L', h1, h2, h3, _⟩ := hρ _ e he
    rw [h'] at h2; cases h2
    rw [hgi h1]; exact h3
  · obtain ⟨g', L', h1, h2, h3, h4⟩ := hρ i e hi
    exact ⟨L', h2, h4.mono hle⟩
  · rw [(hm i ei hi).1] at hr; cases hr
  · rw [(hm i e hi).1] at hr; cases hr
  · cases hL : ρ0 i with
    | none => exact absurd hL hi
    | some L =>
      obtain ⟨e, he⟩ := hno _ _ hL
      obtain ⟨g', L', h1, _⟩ := hρ _ e he
      right; rw [h1]; unfold gid; omega
  · have hr : v = .bool true := hr
    subst hr
    refine ⟨he, hI.os, hI.out, hI.size, fun b hb => hI.ext b hb (fun ⟨i, e, L', h1, h2, _⟩ => ?_)⟩
    rw [(hm i e h1).1] at h2; cases h2

/-- a variable that is an array of words, as its reading says -/
theorem sat_u32s {P : Program} {W : World} {name : String} {g t e n : Nat} (hg : P.globalNamed name = some g) (hty : (P.globals[g]?).map (·.type) = some t) (ht : P.underlying t = some (.array n e)) (he : P.underlying e = some (.int .u32))
    (hc : P.cellsOf e = 1) (hs : P.cellsOf t = n) {l : List (BitVec 32)} (hl : l.length = n) (h : Lib.VarReads P W name (.agg (l.map fun b => .lit (.int .u32 b.toNat)))) :
    SatE (fun _ => none) ⟨.arr n .cell, .u32s l, false⟩ ⟨g, 0, n, .arr n .cell⟩ W := by
  obtain ⟨g', t', cs, fuel, p, q1, q2, q3, q4⟩ := h
  obtain rfl := Option.some.inj (hg.symm.trans q1)
  obtain rfl := Option.some.inj (hty.symm.trans q2)
  have hcs : cs.toList = (l.map fun b => (b.toNat : Int)).map fun z => Value.int .u32 z := by
    have q5 : DataW.trod (fun _ => ()) P W 0 (fun _ => true) false fuel t cs.toList = some (Lib.tabData .u32 (l.map fun b => (b.toNat : Int)), p) := by
      rw [q4]; unfold Lib.tabData; rw [List.map_map]; rfl
    exact Lib.cells_of_tab ht he hc hs q5
  simp only [World.var?, hg, Option.bind_some] at q3
  split at q3 <;> try contradiction
  rename_i C T fr hC
  cases q3
  have hlen : cs.size = n := by
    have := congrArg List.length hcs
    simpa [hl] using this
  refine ⟨rfl, trivial, hl, cs, T, fr, [], cs.toList, [], hC, by simp, rfl, hlen, ?_, fun h => by cases h⟩
  rw [hcs, List.map_map]
  show All2 _ (l.map D.u32) _
  have : ∀ l : List (BitVec 32), All2 (RepS (fun _ => none)) (l.map D.u32) (l.map ((fun z => Value.int .u32 z) ∘ fun b => (b.toNat : Int))) := by
    intro l
    induction l with
    | nil => trivial
    | cons a r ih => exact ⟨rfl, ih⟩
  exact this l

section
variable {H : Type} {enc : TypeId × Value → H} {P : Program}
/-- three arrays of bytes -/
theorem open_triple {t t' e : TypeId} {n : Nat} (ht : P.underlying t = some (.array 3 t')) (ht' : P.underlying t' = some (.array n e)) (he : P.underlying e = some (.int .u8)) (hc : P.cellsOf e = 1) (hs' : P.cellsOf t' = n) (hs : P.cellsOf t = n + n + n) {r : Reach} {b0 base : Nat} {W : World} {v : Value} {d : DataW H} {ps : List MemPlace}
    {sp : Nat → Bool} {held : Bool} (hval : Value.okWide P W r b0 t v) (hd : DataW.Trod enc P W base sp held t v d ps) :
    ∃ a b c : List (BitVec 8), a.length = n ∧ b.length = n ∧ c.length = n ∧ ps = [] ∧ (∀ ρ, Rep ρ (.node [.u8s a, .u8s b, .u8s c]) v) ∧ ∀ (W' : World) (base' : Nat) (sp' : Nat → Bool) (held' : Bool), DataW.Trod enc P W' base' sp' held' t v d [] := by
  simp only [Value.okWide, ht] at hval
  obtain ⟨xs, rfl, hn, _⟩ := hval
  obtain ⟨fuel, hf⟩ := hd
  have hcells : (Value.agg xs).cells.toList = xs.toList := by simp [Value.cells]
  rw [hcells] at hf
  obtain ⟨ys, m, rfl, hx, hl, hys, hi⟩ := DataW.trod_array ht hf
  obtain ⟨y0, y1, y2, rfl⟩ : ∃ y0 y1 y2, ys = [y0, y1, y2] := by
    match ys, hys with
    | [y0, y1, y2], _ => exact ⟨y0, y1, y2, rfl⟩
  have i0 := hi 0 (by omega)
  have i1 := hi 1 (by omega)
  have i2 := hi 2 (by omega)
  rw [hs'] at i0 i1 i2
  simp only [Nat.zero_mul, List.drop_zero, Nat.one_mul] at i0 i1 i2
  obtain ⟨p0, ⟨a, ha, hra⟩, st0⟩ := trod_u8s ht' he hc hs' (show DataW.trod enc P W base sp held m t' (xs.toList.take n) = some y0 from i0)
  obtain ⟨p1, ⟨b, hb, hrb⟩, st1⟩ := trod_u8s ht' he hc hs' (show DataW.trod enc P W base sp held m t' ((xs.toList.drop n).take n) = some y1 from i1)
  obtain ⟨p2, ⟨c, hcl, hrc⟩, st2⟩ := trod_u8s ht' he hc hs' (show DataW.trod enc P W base sp held m t' ((xs.toList.drop (2 * n)).take n) = some y2 from i2)
  have hsz : xs.toList.length = n + n + n := by rw [hl, hs]
  have hsplit : xs.toList = xs.toList.take n ++ ((xs.toList.drop n).take n ++ (xs.toList.drop (2 * n)).take n) := by
    rw [List.take_of_length_le (l := xs.toList.drop (2 * n)) (by rw [List.length_drop]; omega), show 2 * n = n + n by omega, ← List.drop_drop, List.take_append_drop, List.take_append_drop]
  have hstay : ∀ (W' : World) (base' : Nat) (sp' : Nat → Bool) (held' : Bool), DataW.trod enc P W' base' sp' held' (m + 1) t xs.toList = some (d, ps) ∧ ps = [] := by
    intro W' base' sp' held'
    unfold DataW.trod at hf ⊢
    rw [ht] at hf ⊢
    simp only [hl, if_true, Option.map_eq_some_iff] at hf ⊢
    obtain ⟨zs, hz, hzx⟩ := hf
    obtain ⟨h3, h4⟩ := mapM_none (g := fun i => DataW.trod enc P W' base' sp' held' m t' ((xs.toList.drop (i * P.cellsOf t')).take (P.cellsOf t'))) hz (fun i y _ hy => by
      obtain ⟨e1, _, e2⟩ := trod_u8s ht' he hc hs' hy
      exact ⟨e1, e2 W' base' sp' held'⟩)
    refine ⟨⟨zs, h3, hzx⟩, ?_⟩
    have := congrArg Prod.snd hzx
    exact this.symm.trans h4
  refine ⟨a, b, c, ha, hb, hcl, (hstay W 0 sp held).2, fun ρ => ⟨xs.toList, by simp, ?_⟩, fun W' base' sp' held' => ?_⟩
  · show All2 (RepS ρ) (a.map D.u8 ++ (b.map D.u8 ++ (c.map D.u8 ++ []))) _
    rw [hsplit, List.append_nil]
    exact (hra ρ).append ((hrb ρ).append (hrc ρ))
  · obtain ⟨h5, h6⟩ := hstay W' base' sp' held'
    refine ⟨m + 1, ?_⟩
    rw [hcells, h5, h6]
end
end Go.Proofs.YtodkhgofmgaafaaDoor.Av

namespace Go.Proofs.YtodkhgofmgaafaaDoor.Av
open Go Go.ChangeShapes Go.WideShapes
set_option linter.all false
set_option maxRecDepth 3000

/-! plain data of any shape: its values, told by its type alone -/
def canEs (F : TypeId → D → Prop) : List TypeId → List D → Prop
  | [], [] => True
  | t :: ts, d :: ds => F t d ∧ canEs F ts ds
  | _, _ => False

def oddB (P : Program) (e : TypeId) : Nat := match P.underlying e with
  | some (.int .u8) => 1
  | some (.int .u32) => 2
  | some (.int .u64) => 2
  | _ => 0
theorem oddB_one {P : Program} {e : TypeId} (h : oddB P e = 1) : P.underlying e = some (.int .u8) := by
  unfold oddB at h
  split at h
  · assumption
  all_goals omega
def canE (P : Program) : Nat → TypeId → D → Prop
  | 0, _, _ => False
  | n + 1, t, x => match P.underlying t with
    | some .bool => ∃ b, x = .bool b
    | some (.int .u8) => ∃ b, x = .u8 b
    | some (.int .u16) => ∃ b, x = .u16 b
    | some (.int .u32) => ∃ b, x = .u32 b
    | some (.int .u64) => ∃ b, x = .u64 b
    | some (.int .i64) => ∃ b : Int, x = .i64 b ∧ -9223372036854775808 ≤ b ∧ b < 9223372036854775808
    | some (.array c e) => match oddB P e with
      | 1 => ∃ l, x = .u8s l ∧ l.length = c
      | _ => ∃ l, x = .node l ∧ l.length = c ∧ AllD (canE P n e) l
    | some (.struct fs) => ∃ l, x = .node l ∧ canEs (canE P n) (fs.toList.map (·.type)) l
    | _ => False

theorem rep_u16 {ρ : Env} {n : Int} (h : (Lit.int .u16 n).wf = true) : Rep ρ (.u16 (BitVec.ofNat 16 n.toNat)) (.int .u16 n) := by
  simp only [Lit.wf, Bool.and_eq_true, decide_eq_true_eq] at h
  have h1 : (0 : Int) ≤ n := h.1
  have h2 : n < 65536 := by
    have := h.2
    have e : IntKind.u16.max = 65535 := by decide
    omega
  show Value.int _ _ = .int _ _
  congr 1
  simp; omega
theorem rep_u32 {ρ : Env} {n : Int} (h : (Lit.int .u32 n).wf = true) : Rep ρ (.u32 (BitVec.ofNat 32 n.toNat)) (.int .u32 n) := by
  simp only [Lit.wf, Bool.and_eq_true, decide_eq_true_eq] at h
  have h1 : (0 : Int) ≤ n := h.1
  have h2 : n < 4294967296 := by
    have := h.2
    have e : IntKind.u32.max = 4294967295 := by decide
    omega
  show Value.int _ _ = .int _ _
  congr 1
  simp; omega
theorem rep_i64 {n : Int} (h : (Lit.int .i64 n).wf = true) : -9223372036854775808 ≤ n ∧ n < 9223372036854775808 := by
  simp only [Lit.wf, Bool.and_eq_true, decide_eq_true_eq] at h
  have h1 : IntKind.i64.min ≤ n := h.1
  have e1 : IntKind.i64.min = -9223372036854775808 := by decide
  have e : IntKind.i64.max = 9223372036854775807 := by decide
  have h2 : n ≤ IntKind.i64.max := h.2
  omega

/-- fields one behind the other, from o on -/
def inRow (P : Program) : List Field → Nat → Nat → Bool
  | [], o, e => o == e
  | f :: fs, o, e => f.offset == o && inRow P fs (o + P.cellsOf f.type) e

def flatT (P : Program) : Nat → TypeId → Bool
  | 0, _ => false
  | n + 1, t => match P.underlying t with
    | some .bool => true
    | some (.int .u8) => true
    | some (.int .u16) => true
    | some (.int .u32) => true
    | some (.int .u64) => true
    | some (.int .i64) => true
    | some (.array c e) => match oddB P e with
      | 0 => P.cellsOf t == c * P.cellsOf e && flatT P n e
      | 1 => P.cellsOf e == 1 && P.cellsOf t == c
      | _ => false
    | some (.struct fs) => inRow P fs.toList 0 (P.cellsOf t) && fs.toList.all (fun f => flatT P n f.type)
    | _ => false

section
variable {H : Type} {enc : TypeId × Value → H} {P : Program}

theorem mapM_rows {α : Type} (F : TypeId → D → Prop) (g g' : α → Option (DataW H × List MemPlace)) (ty : α → TypeId) (chunk : α → List Value) : ∀ (l : List α) (r : List (DataW H × List MemPlace)), l.mapM g = some r →
    (∀ a ∈ l, ∀ y, g a = some y → y.2 = [] ∧ g' a = some y ∧ ∃ d, F (ty a) d ∧ ∀ ρ, All2 (RepS ρ) d.flat (chunk a)) →
    l.mapM g' = some r ∧ r.flatMap (·.2) = [] ∧ ∃ ds : List D, ds.length = l.length ∧ canEs F (l.map ty) ds ∧ ∀ ρ, All2 (RepS ρ) (D.flats ds) (l.flatMap chunk)
  | [], r, h, _ => by
    simp at h; subst h
    exact ⟨rfl, rfl, [], rfl, trivial, fun _ => trivial⟩
  | a :: l, r, h, hg => by
    rw [List.mapM_cons] at h ⊢
    simp only [bind, Option.bind_eq_some_iff, pure, Option.some.injEq] at h
    obtain ⟨y, hy, ys, hys, rfl⟩ := h
    obtain ⟨h1, h2, d, h3, h4⟩ := hg a (by simp) y hy
    obtain ⟨k1, k2, ds, k3, k4, k5⟩ := mapM_rows F g g' ty chunk l ys hys (fun b hb => hg b (by simp [hb]))
    rw [h2, k1]
    refine ⟨rfl, by rw [List.flatMap_cons, h1, k2]; rfl, d :: ds, by simp [k3], ⟨h3, k4⟩, fun ρ => ?_⟩
    rw [List.flatMap_cons]
    exact (h4 ρ).append (k5 ρ)

theorem inRow_cells (cs : List Value) : ∀ (fs : List Field) (o e : Nat), inRow P fs o e = true → e = cs.length → fs.flatMap (fun f => (cs.drop f.offset).take (P.cellsOf f.type)) = cs.drop o
  | [], o, e, h, he => by
    simp only [inRow, beq_iff_eq] at h
    rw [h, he, List.drop_length]; rfl
  | f :: fs, o, e, h, he => by
    simp only [inRow, Bool.and_eq_true, beq_iff_eq] at h
    rw [List.flatMap_cons, inRow_cells cs fs _ e h.2 he, h.1, ← List.drop_drop, List.take_append_drop]

theorem canEs_rep (F : TypeId → D → Prop) (e : TypeId) : ∀ (n : Nat) (ds : List D), canEs F (List.replicate n e) ds → ds.length = n ∧ AllD (F e) ds
  | 0, [], _ => ⟨rfl, trivial⟩
  | n + 1, d :: ds, h => by
    obtain ⟨h1, h2⟩ := canEs_rep F e n ds h.2
    exact ⟨by simp [h1], h.1, h2⟩
  | 0, _ :: _, h => h.elim
  | n + 1, [], h => h.elim

theorem range_chunks {α : Type} (c : Nat) : ∀ (n : Nat) (cs : List α), cs.length = n * c → (List.range n).flatMap (fun i => (cs.drop (i * c)).take c) = cs
  | 0, cs, h => by
    have : cs = [] := List.length_eq_zero_iff.1 (by omega)
    rw [this]; rfl
  | n + 1, cs, h => by
    rw [List.range_succ_eq_map, List.flatMap_cons, List.flatMap_map]
    have e := range_chunks c n (cs.drop c) (by rw [List.length_drop, h, Nat.add_mul]; omega)
    have : (fun i => ((cs.drop c).drop (i * c)).take c) = (fun i => (cs.drop ((i + 1) * c)).take c) := by
      funext i
      rw [List.drop_drop]
      congr 2
      rw [Nat.add_mul]; omega
    rw [this] at e
    rw [Nat.zero_mul, List.drop_zero, e, List.take_append_drop]

theorem trod_flat : ∀ (n : Nat) {t : TypeId} (_ : flatT P n t = true) {W : World} {base fuel : Nat} {sp : Nat → Bool} {held : Bool} {cs : List Value} {y : DataW H × List MemPlace}, DataW.trod enc P W base sp held fuel t cs = some y →
    y.2 = [] ∧ (∃ d, canE P n t d ∧ ∀ ρ, All2 (RepS ρ) d.flat cs) ∧ ∀ (W' : World) (base' : Nat) (sp' : Nat → Bool) (held' : Bool), DataW.trod enc P W' base' sp' held' fuel t cs = some y := by
  intro n
  induction n with
  | zero => intro t h; cases h
  | succ n ih =>
    intro t h W base fuel sp held cs y hd
    cases hu : P.underlying t with
    | none => simp [flatT, hu] at h
    | some T =>
      have int : ∀ {k : IntKind} (_ : T = .int k) (_ : ∀ z, (Lit.int k z).wf = true → ∃ d, canE P (n + 1) t d ∧ ∀ ρ, All2 (RepS ρ) d.flat [.int k z]),
          y.2 = [] ∧ (∃ d, canE P (n + 1) t d ∧ ∀ ρ, All2 (RepS ρ) d.flat cs) ∧ ∀ (W' : World) (base' : Nat) (sp' : Nat → Bool) (held' : Bool), DataW.trod enc P W' base' sp' held' fuel t cs = some y := by
        intro k hT h1
        subst hT
        obtain ⟨a, rfl, rfl, e3⟩ := DataW.trod_int hu hd
        refine ⟨rfl, h1 a e3, fun W' base' sp' held' => ?_⟩
        cases fuel with
        | zero => simp [DataW.trod] at hd
        | succ m => simp [DataW.trod, hu, e3]
      cases T with
      | bool =>
        obtain ⟨b, rfl, rfl⟩ := DataW.trod_bool hu hd
        refine ⟨rfl, ⟨.bool b, by simp only [canE, hu]; exact ⟨b, rfl⟩, fun ρ => ⟨rfl, trivial⟩⟩, fun W' base' sp' held' => ?_⟩
        cases fuel with
        | zero => simp [DataW.trod] at hd
        | succ m => simp [DataW.trod, hu]
      | int k =>
        cases k with
        | u8 => exact int rfl fun z hz => ⟨.u8 (BitVec.ofNat 8 z.toNat), by simp only [canE, hu]; exact ⟨_, rfl⟩, fun ρ => ⟨rep_u8 (ρ := ρ) hz, trivial⟩⟩
        | u16 => exact int rfl fun z hz => ⟨.u16 (BitVec.ofNat 16 z.toNat), by simp only [canE, hu]; exact ⟨_, rfl⟩, fun ρ => ⟨rep_u16 (ρ := ρ) hz, trivial⟩⟩
        | u32 => exact int rfl fun z hz => ⟨.u32 (BitVec.ofNat 32 z.toNat), by simp only [canE, hu]; exact ⟨_, rfl⟩, fun ρ => ⟨rep_u32 (ρ := ρ) hz, trivial⟩⟩
        | u64 => exact int rfl fun z hz => ⟨.u64 (BitVec.ofNat 64 z.toNat), by simp only [canE, hu]; exact ⟨_, rfl⟩, fun ρ => ⟨rep_u64 (ρ := ρ) hz, trivial⟩⟩
        | i64 => exact int rfl fun z hz => ⟨.i64 z, by simp only [canE, hu]; exact ⟨_, rfl, (rep_i64 hz).1, (rep_i64 hz).2⟩, fun ρ => ⟨(show Value.int .i64 z = .int .i64 z ∧ _ from ⟨rfl, rep_i64 hz⟩), trivial⟩⟩
        | _ => simp [flatT, hu] at h
      | array c e =>
        by_cases he : oddB P e = 1
        · simp only [flatT, hu, he, Bool.and_eq_true, beq_iff_eq] at h
          obtain ⟨h1, ⟨l, h2, h3⟩, h4⟩ := trod_u8s hu (oddB_one he) h.1 h.2 hd
          exact ⟨h1, ⟨.u8s l, by simp only [canE, hu, he]; exact ⟨l, rfl, h2⟩, h3⟩, h4⟩
        · have he0 : oddB P e = 0 := by
            simp only [flatT, hu] at h
            split at h
            · assumption
            · contradiction
            · cases h
          simp only [flatT, hu, he0, Bool.and_eq_true, beq_iff_eq] at h
          cases fuel with
          | zero => simp [DataW.trod] at hd
          | succ m =>
            have hd0 := hd
            unfold DataW.trod at hd
            rw [hu] at hd
            simp only at hd
            split at hd
            rotate_left
            · cases hd
            rename_i hlen
            rw [Option.map_eq_some_iff] at hd
            obtain ⟨xs, hx, rfl⟩ := hd
            have hs : cs.length = c * P.cellsOf e := by rw [hlen, h.1]
            obtain ⟨_, k2, ds, k3, k4, k5⟩ := mapM_rows (canE P n) _ (fun i => DataW.trod enc P W base sp held m e ((cs.drop (i * P.cellsOf e)).take (P.cellsOf e))) (fun _ => e) (fun i => (cs.drop (i * P.cellsOf e)).take (P.cellsOf e)) _ _ hx (fun i _ z hz => by
              obtain ⟨h1, h2, h3⟩ := ih h.2 hz
              exact ⟨h1, hz, h2⟩)
            rw [List.map_const', List.length_range] at k4
            obtain ⟨k6, k7⟩ := canEs_rep (canE P n) e c ds k4
            refine ⟨k2, ⟨.node ds, ?_, fun ρ => ?_⟩, fun W' base' sp' held' => ?_⟩
            · simp only [canE, hu, he0]
              exact ⟨ds, rfl, k6, k7⟩
            · have := k5 ρ
              rw [range_chunks _ _ cs hs] at this
              exact this
            · obtain ⟨j1, _⟩ := mapM_rows (canE P n) _ (fun i => DataW.trod enc P W' base' sp' held' m e ((cs.drop (i * P.cellsOf e)).take (P.cellsOf e))) (fun _ => e) (fun i => (cs.drop (i * P.cellsOf e)).take (P.cellsOf e)) _ _ hx (fun i _ z hz => by
                obtain ⟨h1, h2, h3⟩ := ih h.2 hz
                exact ⟨h1, h3 W' base' sp' held', h2⟩)
              unfold DataW.trod
              rw [hu]
              simp only
              rw [if_pos hlen, j1]
              rfl
      | struct fs =>
        simp only [flatT, hu, Bool.and_eq_true, List.all_eq_true] at h
        cases fuel with
        | zero => simp [DataW.trod] at hd
        | succ m =>
          have hd0 := hd
          unfold DataW.trod at hd
          rw [hu] at hd
          simp only at hd
          split at hd
          rotate_left
          · cases hd
          rename_i hlen
          rw [Option.map_eq_some_iff] at hd
          obtain ⟨xs, hx, rfl⟩ := hd
          obtain ⟨_, k2, ds, k3, k4, k5⟩ := mapM_rows (canE P n) _ (fun f => DataW.trod enc P W base sp held m f.type ((cs.drop f.offset).take (P.cellsOf f.type))) (fun f => f.type) (fun f => (cs.drop f.offset).take (P.cellsOf f.type)) _ _ hx (fun f hf z hz => by
            obtain ⟨h1, h2, h3⟩ := ih (h.2 f hf) hz
            exact ⟨h1, hz, h2⟩)
          refine ⟨k2, ⟨.node ds, ?_, fun ρ => ?_⟩, fun W' base' sp' held' => ?_⟩
          · unfold canE
            rw [hu]
            exact ⟨ds, rfl, k4⟩
          · have := k5 ρ
            rw [inRow_cells cs fs.toList 0 _ h.1 hlen.symm] at this
            exact this
          · obtain ⟨j1, _⟩ := mapM_rows (canE P n) _ (fun f => DataW.trod enc P W' base' sp' held' m f.type ((cs.drop f.offset).take (P.cellsOf f.type))) (fun f => f.type) (fun f => (cs.drop f.offset).take (P.cellsOf f.type)) _ _ hx (fun f hf z hz => by
              obtain ⟨h1, h2, h3⟩ := ih (h.2 f hf) hz
              exact ⟨h1, h3 W' base' sp' held', h2⟩)
            unfold DataW.trod
            rw [hu]
            simp only
            rw [if_pos hlen, j1]
            rfl
      | _ => simp [flatT, hu] at h

/-- plain data by value: what it holds; it reads so anywhere -/
theorem open_flat (n : Nat) {t : TypeId} (ht : flatT P n t = true) {r : Reach} {b0 base : Nat} {W : World} {v : Value} {d : DataW H} {ps : List MemPlace} {sp : Nat → Bool} {held : Bool} (hval : Value.okWide P W r b0 t v)
    (hagg : (match P.underlying t with | some (.array _ _) => true | some (.struct _) => true | _ => false) = true) (hd : DataW.Trod enc P W base sp held t v d ps) :
    ∃ x, canE P n t x ∧ ps = [] ∧ (∀ ρ, All2 (RepS ρ) x.flat v.cells.toList ∧ ∃ xs, v = .agg xs) ∧ ∀ (W' : World) (base' : Nat) (sp' : Nat → Bool) (held' : Bool), DataW.Trod enc P W' base' sp' held' t v d [] := by
  obtain ⟨fuel, hf⟩ := hd
  obtain ⟨h1, ⟨x, h2, h3⟩, h4⟩ := trod_flat n ht hf
  have hps : ps = [] := h1
  subst hps
  have : ∃ xs, v = .agg xs := by
    cases hu : P.underlying t with
    | none => simp [hu] at hagg
    | some T =>
      cases T <;> simp [hu] at hagg
      all_goals
        simp only [Value.okWide, hu] at hval
        obtain ⟨xs, rfl, _⟩ := hval
        exact ⟨xs, rfl⟩
  exact ⟨x, h2, rfl, fun ρ => ⟨h3 ρ, this⟩, fun W' base' sp' held' => ⟨fuel, h4 W' base' sp' held'⟩⟩
end
end Go.Proofs.YtodkhgofmgaafaaDoor.Av
