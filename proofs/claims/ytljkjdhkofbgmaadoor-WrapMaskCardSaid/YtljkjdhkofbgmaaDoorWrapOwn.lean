import Derived.Test.YtljkjdhkofbgmaaDoorWrapLaw
namespace Go.Proofs.YtljkjdhkofbgmaaDoor.Av
open Go
set_option linter.all false
set_option maxRecDepth 3000

/-- sealed by one key, and opened: all that the laws need of it -/
theorem seal_ex (b k : List (BitVec 8)) (hb : b.length = 32) (hk : k.length = 32) : ∃ s c : List (BitVec 8), s = maskF b k ∧ c = chkF b s ∧ s.length = 32 ∧ c.length = 32 ∧ s ≠ k ∧
    AC Tryd.prog 18 [.u8s b, .u8s k] 0 [gR] ⟨.tup [.u8s s, .u8s c], [], []⟩ ∧ AC Tryd.prog 23 [.u8s b, .u8s s, .u8s c] 0 [gR] ⟨.tup [.u8s k, .i64 0], [], []⟩ ∧
    AC Tryd.prog 20 [.u8s b, .u8s s] 0 [gR] ⟨.u8s c, [], []⟩ := by
  have h2 := open_ac b (maskF b k) (chkF b (maskF b k)) hb ((maskF_length b k).trans hk) (chkF_length _ _)
  rw [if_pos rfl, if_pos rfl, mask_mask b k hk] at h2
  exact ⟨_, _, rfl, rfl, (maskF_length b k).trans hk, chkF_length _ _, mask_ne b k hk, seal_ac b k hb hk, h2, check_ac b _ hb ((maskF_length b k).trans hk)⟩

theorem wawake_ac : AC Tryd.prog 22 [] 0 [gR] ⟨.bool true, [], []⟩ := by
  obtain ⟨s, c, -, -, hs, hc, hne, h1, h2, h3⟩ := seal_ex ((List.replicate 32 0).set 0 1) ((List.replicate 32 0).set 0 2) rfl rfl
  refine acA tab mix Tryd.func22 {} ?_
  repeat first | refine EffG.mk (obA ?_) | refine obA ?_ | refine chkA ?_
  refine callA h1 [] ?_
  repeat first | refine EffG.mk (obA ?_) | refine obA ?_ | refine chkA ?_
  refine callA h2 [] ?_
  repeat first | refine EffG.mk (obA ?_) | refine obA ?_ | refine chkA ?_
  refine Br.yes (neY hne) ?_
  repeat first | refine EffG.mk (obA ?_) | refine obA ?_ | refine chkA ?_ | refine brY ?_ | refine brN ?_
  refine callA h3 [] ?_
  have hq : (D.u8s c).eqb (D.u8s c) = true := eqY rfl
  repeat first | refine EffG.mk (obA ?_) | refine obA ?_ | refine chkA ?_ | refine brY ?_ | refine brN ?_ | rw [hq]
  refine retA []

theorem wrapback_ac (b k l : List (BitVec 8)) (hb : b.length = 32) (hk : k.length = 32) (hl : l.length = 32) : AC Tryd.prog 7 [.u8s b, .u8s k, .u8s l] 0 [gR] ⟨.bool true, [], []⟩ := by
  obtain ⟨s, c, hs1, -, hs, hc, -, h1, h2, -⟩ := seal_ex b k hb hk
  obtain ⟨t, d, ht1, -, ht, hd, -, h3, -, -⟩ := seal_ex b l hb hl
  have hi : s = t ↔ k = l := by rw [hs1, ht1]; exact mask_inj hk hl
  have hq : (D.u8s s).eqb (D.u8s t) = (D.u8s k).eqb (D.u8s l) := decide_eq_decide.2 hi
  clear hs1 ht1
  have haw := wawake_ac
  refine acA tab mix Tryd.func7 {} ?_
  repeat first | refine EffG.mk (obA ?_) | refine obA ?_ | refine chkA ?_
  refine callA h1 [] ?_
  repeat first | refine EffG.mk (obA ?_) | refine obA ?_ | refine chkA ?_
  refine callA h3 [] ?_
  repeat first | refine EffG.mk (obA ?_) | refine obA ?_ | refine chkA ?_
  refine callA h2 [] ?_
  repeat first | refine EffG.mk (obA ?_) | refine obA ?_ | refine chkA ?_ | refine brY ?_ | refine brN ?_
  refine callA haw [] ?_
  repeat first | refine EffG.mk (obA ?_) | refine obA ?_ | refine chkA ?_ | refine brY ?_ | refine brN ?_
  refine retA []

theorem wrapmask_ac (b k l : List (BitVec 8)) (hb : b.length = 32) (hk : k.length = 32) (hl : l.length = 32) : AC Tryd.prog 9 [.u8s b, .u8s k, .u8s l] 0 [gR] ⟨.bool true, [], []⟩ := by
  have hx : ∀ i, i < 32 → (maskF b k).getD i 0 ^^^ (maskF b l).getD i 0 = k.getD i 0 ^^^ l.getD i 0 := fun i hi => by
    rw [maskF_at b k hk i hi, maskF_at b l hl i hi, BitVec.xor_assoc, BitVec.xor_comm (mkB b i), BitVec.xor_assoc, BitVec.xor_self, BitVec.xor_zero]
  obtain ⟨s, c, hs1, -, hs, hc, -, h1, -, -⟩ := seal_ex b k hb hk
  obtain ⟨t, d, ht1, -, ht, hd, -, h3, -, -⟩ := seal_ex b l hb hl
  rw [← hs1, ← ht1] at hx
  clear hs1 ht1
  have haw := wawake_ac
  refine acA tab mix Tryd.func9 {} ?_
  repeat first | refine EffG.mk (obA ?_) | refine obA ?_ | refine chkA ?_
  refine callA h1 [] ?_
  repeat first | refine EffG.mk (obA ?_) | refine obA ?_ | refine chkA ?_
  refine callA h3 [] ?_
  repeat first | refine EffG.mk (obA ?_) | refine obA ?_ | refine chkA ?_
  refine loopG Nat (fun i => [(4, .ptr 1 []), (5, .ptr 2 []), (7, .ptr 3 []), (9, .ptr 4 []), (11, .i64 i)]) (fun i => [(1, some ⟨t32, .u8s k, true⟩), (2, some ⟨t32, .u8s l, true⟩), (3, some ⟨t32, .u8s s, true⟩), (4, some ⟨t32, .u8s t, true⟩), gR]) 5 (fun i => i ≤ 32) (fun i => 32 - i) 0 [0, 1, 2, 3, 5] (Nat.zero_le _) viewA ?_
  intro i hi
  repeat first | refine EffG.mk (obA ?_) | refine obA ?_ | refine chkA ?_
  refine Br.split (fun h => ?_) (fun h => ?_)
  · have hi : i < 32 := by have := of_decide_eq_true h; omega
    have hq := hx i hi
    repeat first | refine EffG.mk (obA ?_) | refine obA ?_ | refine chkA ?_
    refine Br.no ?_ ?_
    · show (!decide (s.getD i 0 ^^^ t.getD i 0 = k.getD i 0 ^^^ l.getD i 0)) = false
      rw [decide_eq_true hq]; rfl
    repeat first | refine EffG.mk (obA ?_) | refine obA ?_ | refine chkA ?_
    refine nextA (i + 1) [0, 1, 2, 3, 4] viewA
  · obtain rfl : i = 32 := by have := of_decide_eq_false h; omega
    repeat first | refine EffG.mk (obA ?_) | refine obA ?_ | refine chkA ?_
    refine callA haw [] ?_
    repeat first | refine EffG.mk (obA ?_) | refine obA ?_ | refine chkA ?_
    refine retA []

theorem set_ne {l : List (BitVec 8)} {i : Nat} {t : BitVec 8} (hi : i < l.length) (ht : t ≠ 0) : l ≠ l.set i (l.getD i 0 ^^^ t) := by
  intro h
  have h2 := congrArg (fun x => x.getD i 0) h
  simp only [getD_set hi, if_true] at h2
  have : t = 0 := by
    rw [← xor_cancel (l.getD i 0) t, ← h2, BitVec.xor_self]; rfl
  exact ht this
theorem open_no (b s c : List (BitVec 8)) (hb : b.length = 32) (hs : s.length = 32) (hc : c.length = 32) (h : ¬ chkF b s = c) : AC Tryd.prog 23 [.u8s b, .u8s s, .u8s c] 0 [gR] ⟨.tup [.u8s (List.replicate 32 0), .i64 30], [], []⟩ := by
  have := open_ac b s c hb hs hc
  rw [if_neg h, if_neg h] at this
  exact this
theorem open_any (b s c : List (BitVec 8)) (hb : b.length = 32) (hs : s.length = 32) (hc : c.length = 32) : ∃ (y : List (BitVec 8)) (f : Int), y.length = 32 ∧ AC Tryd.prog 23 [.u8s b, .u8s s, .u8s c] 0 [gR] ⟨.tup [.u8s y, .i64 f], [], []⟩ ∧
    ((f = 30 ∧ y = List.replicate 32 0) ∨ (f = 0 ∧ AC Tryd.prog 20 [.u8s b, .u8s s] 0 [gR] ⟨.u8s c, [], []⟩)) := by
  by_cases h : chkF b s = c
  · have := open_ac b s c hb hs hc
    rw [if_pos h, if_pos h] at this
    have h2 := check_ac b s hb hs
    rw [h] at h2
    exact ⟨_, _, (maskF_length b s).trans hs, this, .inr ⟨rfl, h2⟩⟩
  · exact ⟨_, _, rfl, open_no b s c hb hs hc h, .inl ⟨rfl, rfl⟩⟩

set_option maxHeartbeats 1000000 in
theorem wrapturned_ac (b o k : List (BitVec 8)) (at_ turn : BitVec 8) (hb : b.length = 32) (ho : o.length = 32) (hk : k.length = 32) : AC Tryd.prog 8 [.node [.u8s b, .u8s o, .u8s k], .u8 at_, .u8 turn] 0 [gR] ⟨.bool true, [], []⟩ := by
  obtain ⟨s, c, hs1, hc1, hs, hc, -, h1, -, -⟩ := seal_ex b k hb hk
  have haw := wawake_ac
  have hq : (at_ % BitVec.ofNat 8 (Int.toNat 32)).toNat < 32 := by rw [BitVec.toNat_umod]; exact Nat.mod_lt _ (by decide)
  by_cases h0 : turn = 0
  · refine acA tab mix Tryd.func8 {} ?_
    repeat first | refine EffG.mk (obA ?_) | refine obA ?_ | refine chkA ?_
    refine callA h1 [] ?_
    repeat first | refine EffG.mk (obA ?_) | refine obA ?_ | refine chkA ?_
    refine Br.yes (decide_eq_true h0) ?_
    repeat first | refine EffG.mk (obA ?_) | refine obA ?_ | refine chkA ?_
    refine callA haw [] ?_
    repeat first | refine EffG.mk (obA ?_) | refine obA ?_ | refine chkA ?_
    refine retA []
  have hn : decide (turn = BitVec.ofNat 8 (Int.toNat 0)) = false := decide_eq_false h0
  have hd := open_no b s (c.set (at_ % BitVec.ofNat 8 (Int.toNat 32)).toNat (c.getD (at_ % BitVec.ofNat 8 (Int.toNat 32)).toNat 0 ^^^ turn)) hb hs (by rw [List.length_set, hc]) (by rw [← hc1]; exact set_ne (by omega) h0)
  have hsl : (s.set (at_ % BitVec.ofNat 8 (Int.toNat 32)).toNat (s.getD (at_ % BitVec.ofNat 8 (Int.toNat 32)).toNat 0 ^^^ turn)).length = 32 := by rw [List.length_set, hs]
  obtain ⟨y, f, hy, hf, hyf⟩ := open_any b _ c hb hsl hc
  obtain ⟨z, g, hz, hg, hzg⟩ := open_any o s c ho hs hc
  clear hs1 hc1 hsl
  rcases hyf with ⟨rfl, rfl⟩ | ⟨rfl, hcy⟩ <;> rcases hzg with ⟨rfl, rfl⟩ | ⟨rfl, hcz⟩
  all_goals
    refine acA tab mix Tryd.func8 {} ?_
    repeat first | refine EffG.mk (obA ?_) | refine obA ?_ | refine chkA ?_
    refine callA h1 [] ?_
    repeat first | refine EffG.mk (obA ?_) | refine obA ?_ | refine chkA ?_
    refine Br.no hn ?_
    repeat first | refine EffG.mk (obA ?_) | refine obA ?_ | refine chkA ?_
    refine callA hd [] ?_
    repeat first | refine EffG.mk (obA ?_) | refine obA ?_ | refine chkA ?_
    refine callA hf [] ?_
    repeat first | refine EffG.mk (obA ?_) | refine obA ?_ | refine chkA ?_
    refine callA hg [] ?_
    repeat first | refine EffG.mk (obA ?_) | refine obA ?_ | refine chkA ?_ | refine brY ?_ | refine brN ?_
  · refine callA haw [] ?_
    repeat first | refine EffG.mk (obA ?_) | refine obA ?_ | refine chkA ?_
    refine retA []
  · refine callA hcz [] ?_
    repeat first | refine EffG.mk (obA ?_) | refine obA ?_ | refine chkA ?_ | refine brY ?_ | refine brN ?_
    refine callA haw [] ?_
    repeat first | refine EffG.mk (obA ?_) | refine obA ?_ | refine chkA ?_
    refine retA []
  · refine callA hcy [] ?_
    repeat first | refine EffG.mk (obA ?_) | refine obA ?_ | refine chkA ?_ | refine brY ?_ | refine brN ?_
    refine callA haw [] ?_
    repeat first | refine EffG.mk (obA ?_) | refine obA ?_ | refine chkA ?_
    refine retA []
  · refine callA hcy [] ?_
    repeat first | refine EffG.mk (obA ?_) | refine obA ?_ | refine chkA ?_ | refine brY ?_ | refine brN ?_
    refine callA hcz [] ?_
    repeat first | refine EffG.mk (obA ?_) | refine obA ?_ | refine chkA ?_ | refine brY ?_ | refine brN ?_
    refine callA haw [] ?_
    repeat first | refine EffG.mk (obA ?_) | refine obA ?_ | refine chkA ?_
    refine retA []
end Go.Proofs.YtljkjdhkofbgmaaDoor.Av
