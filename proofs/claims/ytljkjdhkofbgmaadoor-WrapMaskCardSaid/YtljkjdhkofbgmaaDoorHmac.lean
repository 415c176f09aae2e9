import Derived.Test.YtljkjdhkofbgmaaDoorShd
namespace Go.Proofs.YtljkjdhkofbgmaaDoor.Av
open Go
set_option linter.all false
set_option maxRecDepth 3000

theorem writeM_ac (m X bs : List (BitVec 8)) (x o k : Nat) (cap : Option Nat) (hX : (X.drop x).take (m.length % 64) = reF m) (hx : x + m.length % 64 ≤ X.length) (h : o + k ≤ bs.length) (h0 : 0 < k) (hk : k ≤ 35184372088832) (hm : m.length < 4611686018427387904) :
    AC Tryd.prog 66 [.ptr 0 [], .slice 1 [] o k cap] 3 [(0, some ⟨tH, .node [.u32s (stF m), .slice 2 [] x (m.length % 64) none, .i64 m.length], true⟩), (1, some ⟨.row .cell, .u8s bs, false⟩), (2, some ⟨.row .cell, .u8s X, true⟩), gR]
      ⟨.i64 0, [(0, some (.node [.u32s (stF (m ++ (bs.drop o).take k)), .slice 3 [] (64 * ((m.length % 64 + k) / 64)) ((m.length + k) % 64) none, .i64 (m.length + k : Nat)]))], [(.row .cell, .u8s (reF m ++ (bs.drop o).take k))]⟩ := by
  have hl : ((bs.drop o).take k).length = k := by rw [List.length_take, List.length_drop]; omega
  have h1 := write_ac (stF m) m.length X bs x (m.length % 64) o k none cap (stF_length m) ⟨by omega, by omega⟩ hx h h0 (by omega)
  have hr := reF_length m
  rw [hX, stF_app m _ (by rw [List.length_append, hl, hr]; congr 1; omega), show m.length % 64 + k - 64 * ((m.length % 64 + k) / 64) = (m.length + k) % 64 by omega, show (m.length : Int) + k = ((m.length + k : Nat) : Int) by omega] at h1
  exact h1
theorem writeM_rest (m b : List (BitVec 8)) {k : Nat} (hb : b.length = k) : ((reF m ++ b).drop (64 * ((m.length % 64 + k) / 64))).take ((m.length + k) % 64) = reF (m ++ b) := by
  have hr := reF_length m
  rw [reF_step m b (by rw [List.length_append, hb, hr]; congr 1; omega), List.take_of_length_le]
  rw [reF_length, List.length_append, hb]; omega
theorem writeM_room (m b : List (BitVec 8)) {k : Nat} (hb : b.length = k) : 64 * ((m.length % 64 + k) / 64) + (m.length + k) % 64 ≤ (reF m ++ b).length := by
  rw [List.length_append, reF_length, hb]; omega
theorem sumM_ac (m X : List (BitVec 8)) (x : Nat) (hX : (X.drop x).take (m.length % 64) = reF m) (hx : x + m.length % 64 ≤ X.length) (hm : m.length < 4611686018427387904) :
    AC Tryd.prog 67 [.ptr 0 []] 2 [(0, some ⟨tH, .node [.u32s (stF m), .slice 1 [] x (m.length % 64) none, .i64 m.length], true⟩), (1, some ⟨.row .cell, .u8s X, true⟩), gR] ⟨.u8s (shaF m), [], []⟩ := by
  have h1 := sum_ac (stF m) m.length X x (m.length % 64) none (stF_length m) ⟨by omega, by omega⟩ hx (by omega)
  rw [hX, sumF_eq] at h1
  exact h1
theorem write0_ac (bs : List (BitVec 8)) (o k : Nat) (cap : Option Nat) (h : o + k ≤ bs.length) (h0 : 0 < k) (hk : k ≤ 70368744177664) :
    AC Tryd.prog 66 [.ptr 0 [], .slice 1 [] o k cap] 2 [(0, some ⟨tH, .node [.u32s H0, .nilslice, .i64 0], true⟩), (1, some ⟨.row .cell, .u8s bs, false⟩), gR]
      ⟨.i64 0, [(0, some (.node [.u32s (stF ((bs.drop o).take k)), .slice 2 [] (64 * (k / 64)) (k % 64) none, .i64 (k : Nat)]))], [(.row .cell, .u8s ((bs.drop o).take k))]⟩ := by
  have hl : ((bs.drop o).take k).length = k := by rw [List.length_take, List.length_drop]; omega
  have h1 := write_nil_ac H0 0 bs o k cap rfl (by decide) h h0 hk
  have e : shaI H0 ((bs.drop o).take k) (k / 64) = stF ((bs.drop o).take k) := by rw [stF, hl]
  rw [e, show k - 64 * (k / 64) = k % 64 by omega, Int.zero_add] at h1
  exact h1
theorem reF_eq (m : List (BitVec 8)) : (m.drop (64 * (m.length / 64))).take (m.length % 64) = reF m := List.take_of_length_le (by rw [List.length_drop]; omega)

/-- two parts' sum -/
theorem of2_ac (ss bs : List (BitVec 8)) (p k q l : Nat) (c d : Option Nat) (ha : p + k ≤ ss.length) (hb : q + l ≤ bs.length) (hk0 : 0 < k) (hl0 : 0 < l) (hk : k ≤ 35184372088832) (hl : l ≤ 35184372088832) :
    AC Tryd.prog 64 [.slice 0 [] 0 2 (some 2)] 4 [(0, some ⟨.row .cell, .node [.slice 1 [] p k c, .slice 2 [] q l d], true⟩), (1, some ⟨.row .cell, .u8s ss, false⟩), (2, some ⟨.row .cell, .u8s bs, false⟩), gR]
      ⟨.u8s (shaF ((ss.drop p).take k ++ (bs.drop q).take l)), [], []⟩ := by
  have hal : ((ss.drop p).take k).length = k := by rw [List.length_take, List.length_drop]; omega
  have hbl : ((bs.drop q).take l).length = l := by rw [List.length_take, List.length_drop]; omega
  refine acA tab mix Tryd.func64 ⟨[], [3]⟩ ?_
  repeat first | refine EffG.mk (obA ?_) | refine obA ?_ | refine chkA ?_
  refine callA shanew_ac [] ?_
  have hH : H0.length = 8 := rfl
  have hw := write0_ac ss p k c ha hk0 (by omega)
  generalize H0 = h0 at hw hH
  repeat first | refine EffG.mk (obA ?_) | refine obA ?_ | refine chkA ?_
  refine unrG 3 ?_
  repeat first | refine EffG.mk (obA ?_) | refine obA ?_ | refine chkA ?_ | refine brY ?_ | refine brN ?_
  refine callA hw [5, 1] ?_
  repeat first | refine EffG.mk (obA ?_) | refine obA ?_ | refine chkA ?_ | refine brY ?_ | refine brN ?_
  have hr := reF_eq ((ss.drop p).take k)
  generalize (ss.drop p).take k = M at hal hr ⊢
  have hw2 := writeM_ac M M bs (64 * (M.length / 64)) q l d hr (by omega) hb hl0 hl (by omega)
  have hr2 := writeM_rest M ((bs.drop q).take l) hbl
  have hm2 := writeM_room M ((bs.drop q).take l) hbl
  have hMl : (M ++ (bs.drop q).take l).length = k + l := by rw [List.length_append, hal, hbl]
  generalize (bs.drop q).take l = N at hw2 hr2 hm2 hMl ⊢
  have hs2 := sumM_ac (M ++ N) (reF M ++ N) (64 * ((M.length % 64 + l) / 64)) (by rw [hMl, ← hal]; exact hr2) (by rw [hMl, ← hal]; exact hm2) (by omega)
  rw [hMl] at hs2
  rw [hal] at hw2 hs2
  have hsl := shaF_length (M ++ N)
  generalize shaF (M ++ N) = y at hs2 hsl ⊢
  refine callA hw2 [5, 2, 6] ?_
  repeat first | refine EffG.mk (obA ?_) | refine obA ?_ | refine chkA ?_ | refine brY ?_ | refine brN ?_
  refine callA hs2 [5, 7] ?_
  repeat first | refine EffG.mk (obA ?_) | refine obA ?_ | refine chkA ?_ | refine brY ?_ | refine brN ?_
  refine retA [0, 1, 2, 3]

/-! sums with a key -/
abbrev tM : Ty := .st [.cell, .arr 64 .cell]
def keyP (key : List (BitVec 8)) : List (BitVec 8) := key ++ List.replicate (64 - key.length) 0
def xsI (base key : List (BitVec 8)) (c : BitVec 8) : Nat → List (BitVec 8)
  | 0 => base
  | i + 1 => (xsI base key c i).set i (key.getD i 0 ^^^ c)
theorem xsI_length (base key : List (BitVec 8)) (c : BitVec 8) : ∀ i, (xsI base key c i).length = base.length
  | 0 => rfl
  | i + 1 => by rw [xsI, List.length_set, xsI_length base key c i]
def ipF (key : List (BitVec 8)) : List (BitVec 8) := xsI (keyP key) (keyP key) 0x36 64
def opF (key : List (BitVec 8)) : List (BitVec 8) := xsI (List.replicate 64 0) (keyP key) 0x5c 64
theorem keyP_length {key : List (BitVec 8)} (h : key.length ≤ 64) : (keyP key).length = 64 := by rw [keyP, List.length_append, List.length_replicate]; omega
theorem ipF_length {key : List (BitVec 8)} (h : key.length ≤ 64) : (ipF key).length = 64 := by rw [ipF, xsI_length, keyP_length h]
theorem opF_length (key : List (BitVec 8)) : (opF key).length = 64 := by rw [opF, xsI_length]; rfl

theorem hnew_ac (bs : List (BitVec 8)) (o k : Nat) (cap : Option Nat) (h : o + k ≤ bs.length) (hk : k ≤ 64) :
    AC Tryd.prog 51 [.slice 0 [] o k cap] 1 [(0, some ⟨.row .cell, .u8s bs, false⟩), gR]
      ⟨.ptr 1 [], [], [(tM, .node [.ptr 2 [], .u8s (opF ((bs.drop o).take k))]), (tH, .node [.u32s (stF (ipF ((bs.drop o).take k))), .slice 3 [] 64 0 none, .i64 64]), (.row .cell, .u8s (ipF ((bs.drop o).take k)))]⟩ := by
  have hl : ((bs.drop o).take k).length = k := by rw [List.length_take, List.length_drop]; omega
  refine acA tab mix Tryd.func51 {} ?_
  repeat first | refine EffG.mk (obA ?_) | refine obA ?_ | refine chkA ?_ | refine brY ?_ | refine brN ?_
  refine callA shanew_ac [] ?_
  have hH : H0.length = 8 := rfl
  have hw := fun bs h => write0_ac bs 0 64 (some 64) h (by decide) (by decide)
  generalize H0 = h0 at hw hH
  have q1 : Nat.min k ((Option.getD none ((64 : Nat) : Int)).toNat - (Option.getD none (0 : Int)).toNat) = k := by rw [natMin]; simp only [Option.getD]; omega
  repeat first | rw [q1] | refine EffG.mk (obA ?_) | refine obA ?_ | refine chkA ?_
  have hKP : List.take (Option.getD none (0 : Int)).toNat (List.replicate 64 (0 : BitVec 8)) ++ List.take k (List.drop o bs) ++ List.drop ((Option.getD none (0 : Int)).toNat + k) (List.replicate 64 0) = keyP ((bs.drop o).take k) := by
    rw [keyP, hl, List.drop_replicate]
    show List.take 0 _ ++ _ ++ List.replicate (64 - (0 + k)) _ = _
    rw [Nat.zero_add]; rfl
  have hkl := keyP_length (key := (bs.drop o).take k) (by omega)
  have hip : ipF ((bs.drop o).take k) = xsI (keyP ((bs.drop o).take k)) (keyP ((bs.drop o).take k)) 0x36 64 := rfl
  have hop : opF ((bs.drop o).take k) = xsI (List.replicate 64 0) (keyP ((bs.drop o).take k)) 0x5c 64 := rfl
  generalize opF ((bs.drop o).take k) = O at hop ⊢
  generalize ipF ((bs.drop o).take k) = N at hip ⊢
  generalize keyP ((bs.drop o).take k) = K at hKP hkl hip hop
  refine loopG Nat (fun i => [(4, .ptr 1 []), (5, .ptr 3 []), (21, .u8s K), (22, .i64 i)]) (fun i => [(0, some ⟨.row .cell, .u8s bs, false⟩), (1, some ⟨.arr 64 .cell, .u8s (xsI K K 0x36 i), true⟩), (2, some ⟨tH, .node [.u32s h0, .nilslice, .i64 0], true⟩),
    (3, some ⟨tM, .node [.ptr 2 [], .u8s (xsI (List.replicate 64 0) K 0x5c i)], true⟩), gR]) 4 (fun i => i ≤ 64) (fun i => 64 - i) 0 [0, 1, 2, 3] (Nat.zero_le _) (viewA (h2 := ?_) (h3 := ?_)) ?_
  · exact ⟨rfl, rfl, congrArg (fun x => some (D.u8s x)) hKP, rfl, trivial⟩
  · exact ⟨⟨_, rfl, rfl, rfl, id⟩, ⟨_, rfl, rfl, congrArg D.u8s hKP, id⟩, ⟨_, rfl, rfl, rfl, id⟩, ⟨_, rfl, rfl, rfl, id⟩, ⟨_, rfl, rfl, rfl, id⟩, trivial⟩
  intro i hi
  have h1 := xsI_length K K 0x36 i
  have h2 := xsI_length (List.replicate 64 0) K 0x5c i
  rw [List.length_replicate] at h2
  repeat first | refine EffG.mk (obA ?_) | refine obA ?_ | refine chkA ?_
  refine Br.split (fun h => ?_) (fun h => ?_)
  · have hi : i < 64 := by have := of_decide_eq_true h; omega
    repeat first | refine EffG.mk (obA ?_) | refine obA ?_ | refine chkA ?_
    refine nextA (i + 1) [0, 1, 2, 3] viewA
  · obtain rfl : i = 64 := by have := of_decide_eq_false h; omega
    rw [← hip, ← hop]
    rw [← hip] at h1
    rw [← hop] at h2
    have hw := hw N (by omega)
    rw [List.drop_zero, List.take_of_length_le (by omega)] at hw
    repeat first | refine EffG.mk (obA ?_) | refine obA ?_ | refine chkA ?_
    refine callA (hw.arr 1 64) [2, 1] ?_
    repeat first | refine EffG.mk (obA ?_) | refine obA ?_ | refine chkA ?_
    refine retA [0, 3, 2, 4]

theorem macwrite_ac (O m X bs : List (BitVec 8)) (x o k : Nat) (cap : Option Nat) (hX : (X.drop x).take (m.length % 64) = reF m) (hx : x + m.length % 64 ≤ X.length) (h : o + k ≤ bs.length) (h0 : 0 < k) (hk : k ≤ 35184372088832) (hm : m.length < 4611686018427387904) :
    AC Tryd.prog 52 [.ptr 0 [], .slice 2 [] o k cap] 4 [(0, some ⟨tM, .node [.ptr 1 [], .u8s O], true⟩), (1, some ⟨tH, .node [.u32s (stF m), .slice 3 [] x (m.length % 64) none, .i64 m.length], true⟩), (2, some ⟨.row .cell, .u8s bs, false⟩), (3, some ⟨.row .cell, .u8s X, true⟩), gR]
      ⟨.i64 0, [(1, some (.node [.u32s (stF (m ++ (bs.drop o).take k)), .slice 4 [] (64 * ((m.length % 64 + k) / 64)) ((m.length + k) % 64) none, .i64 (m.length + k : Nat)]))], [(.row .cell, .u8s (reF m ++ (bs.drop o).take k))]⟩ := by
  have hw := writeM_ac m X bs x o k cap hX hx h h0 hk hm
  generalize (bs.drop o).take k = b at hw ⊢
  refine acA tab mix Tryd.func52 {} ?_
  repeat first | refine EffG.mk (obA ?_) | refine obA ?_ | refine chkA ?_ | refine brY ?_ | refine brN ?_
  refine callA hw [1, 2, 3] ?_
  repeat first | refine EffG.mk (obA ?_) | refine obA ?_ | refine chkA ?_
  refine retA [0, 1, 2, 3, 4]
theorem macsum_ac (O m X : List (BitVec 8)) (x : Nat) (hX : (X.drop x).take (m.length % 64) = reF m) (hx : x + m.length % 64 ≤ X.length) (hm : m.length < 4611686018427387904) (hO : O.length = 64) :
    AC Tryd.prog 53 [.ptr 0 []] 3 [(0, some ⟨tM, .node [.ptr 1 [], .u8s O], true⟩), (1, some ⟨tH, .node [.u32s (stF m), .slice 2 [] x (m.length % 64) none, .i64 m.length], true⟩), (2, some ⟨.row .cell, .u8s X, true⟩), gR]
      ⟨.u8s (shaF (O ++ shaF m)), [], []⟩ := by
  have hs := sumM_ac m X x hX hx hm
  have hl := shaF_length m
  generalize shaF m = y at hs hl ⊢
  have ho := (of2_ac O y 0 64 0 32 (some 64) (some 32) (by omega) (by omega) (by decide) (by decide) (by decide) (by decide))
  have hl2 := shaF_length (O ++ y)
  rw [List.drop_zero, List.take_of_length_le (by omega), List.drop_zero, List.take_of_length_le (by omega)] at ho
  generalize shaF (O ++ y) = z at ho hl2 ⊢
  refine acA tab mix Tryd.func53 {} ?_
  repeat first | refine EffG.mk (obA ?_) | refine obA ?_ | refine chkA ?_ | refine brY ?_ | refine brN ?_
  refine callA hs [1, 2] ?_
  repeat first | refine EffG.mk (obA ?_) | refine obA ?_ | refine chkA ?_
  refine callA ((ho.arrAt 1 64 [.fld 1] tM (.node [.ptr 3 [], .u8s O])).arr 2 32) [5, 0, 4, 1] ?_
  repeat first | refine EffG.mk (obA ?_) | refine obA ?_ | refine chkA ?_
  refine retA [0, 1, 2]
end Go.Proofs.YtljkjdhkofbgmaaDoor.Av
