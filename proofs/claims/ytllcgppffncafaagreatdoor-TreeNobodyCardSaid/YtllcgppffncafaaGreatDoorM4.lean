import Derived.Test.YtllcgppffncafaaGreatDoorM3
import Derived.Test.YtllcgppffncafaaGreatDoorRows
namespace Go.Proofs.YtllcgppffncafaaGreatDoor.Av
open Go
set_option linter.all false
set_option maxRecDepth 3000
section
variable {P : Program} {X : Ctx} {ρ : Env} {m : Mem} {w : World} {nx : Nat}
theorem xV (hI : Inv X ρ m w) {f : Nat} {np : Nat} {m0 : Mem} {args0 : List D} {o : Out} {σ : List Nat} (hac : ACd P f args0 np m0 o)
  (hres : ρ 999999 = none) (hnx : ∀ i, nx ≤ i → i < nx + o.nw.length → ρ i = none) (hlim : nx + o.nw.length ≤ 999999) (hnp : np + o.nw.length ≤ 999999)
  (hmatch : bQ (sig np nx o.nw.length σ) m m0) (hnames : bS np (sig np nx o.nw.length σ) m0 m0 = true) (hwr : wrB m0 o.wr = true)
  {vals : List Value} (hargs : All2 (Rep ρ) (D.rens (sig np nx o.nw.length σ) args0) vals) :
  ∀ (n : Nat) (u : FrameMode), CallsDIn (FW none) n P f vals.toArray u w fun e u' w' => u' = u ∧ ∃ v ρ', e = .returned v ∧ ρ.le ρ' ∧ Dom X nx o.nw.length ρ ρ' ∧ Rep ρ' (o.ret.ren (sig np nx o.nw.length σ)) v ∧
   Inv X ρ' (upM (sig np nx o.nw.length σ) nx m0 o ++ m) w' := by
 generalize hs : sig np nx o.nw.length σ = s at *
 -- what the names stand for
 have s_gid : ∀ i, 1000000 ≤ i → ¬ i < np → s i = i := by
  intro i h1 h2
  rw [← hs]
  unfold sig
  have e1 : Nat.blt i np = false := by rw [cD]; simp; omega
  have e2 : Nat.ble 1000000 i = true := by simpa using h1
  rw [e1, e2]
 have s_new : ∀ i, np ≤ i → i < np + o.nw.length → s i = nx + (i - np) := by
  intro i h1 h2
  rw [← hs]
  unfold sig
  have e1 : Nat.blt i np = false := by rw [cD]; simp; omega
  have e2 : Nat.ble 1000000 i = false := by
   cases hb : Nat.ble 1000000 i with
   |false => rfl
   |true => have := Nat.le_of_ble_eq_true hb; omega
  have e3 : Nat.blt (i - np) o.nw.length = true := by rw [cD]; simp; omega
  rw [e1, e2, e3]
 have hsz : ∀ i, 2000000 ≤ i → s i = i := fun i h => s_gid i (by omega) (by omega)
 let ρ0 : Env := fun i => if i < np ∨ 1000000 ≤ i then ρ (s i) else none
 have hρ0 : ∀ i, Use np i → ρ0 i = ρ (s i) := fun i h => if_pos h
 have hρs : ∀ i, ρ (s i) ≠ none → Use np i := by
  intro i h
  by_cases h1 : i < np
  ·exact .inl h1
  ·by_cases h2 : 1000000 ≤ i
   ·exact .inr h2
   ·exfalso
    by_cases h3 : i < np + o.nw.length
    ·rw [s_new i (by omega) h3] at h
     exact h (hnx _ (by omega) (by omega))
    ·have : s i = 999999 := by
      rw [← hs]
      unfold sig
      have e1 : Nat.blt i np = false := by rw [cD]; simp; omega
      have e2 : Nat.ble 1000000 i = false := by
       cases hb : Nat.ble 1000000 i with
       |false => rfl
       |true => have := Nat.le_of_ble_eq_true hb; omega
      have e3 : Nat.blt (i - np) o.nw.length = false := by rw [cD]; simp; omega
      rw [e1, e2, e3]
     rw [this] at h
     exact h hres
 have hle0 : Env.le (fun i => ρ (s i)) ρ0 := by
  intro i L h
  have h : ρ (s i) = some L := h
  have hf := hρs i (by rw [h]; simp)
  rw [hρ0 i hf]; exact h
 have hget0 : ∀ i e, get m0 i = some e → Fix np i ∧ ∃ e', get m (s i) = some e' ∧ e'.ty = e.ty ∧ e'.d = e.d.ren s ∧ (e.rw = true → e'.rw = true) := fun i e h =>
  ⟨(bL hnames (cC h)).1, dQ hmatch (cC h)⟩
 have hapart : ∀ i j ei ej, get m0 i = some ei → get m0 j = some ej → i ≠ j → (ei.rw = true ∨ ej.rw = true) → s i ≠ s j := fun i j ei ej hi hj hne hr =>
  cZ (bL hnames (cC hi)).2 (cC hj) hne hr
 -- the callee's view
 have hI0 : Inv ⟨w, eT ρ0 m0⟩ ρ0 m0 w := by
  refine ⟨fun g L hg1 h => ?_, fun i e h => ?_, fun i j ei ej Li Lj hi hj hne hr h1 h2 => ?_, fun i e L h hr h1 => .inl ⟨i, e, L, h, hr, h1, rfl⟩, fun _ _ _ => rfl, Nat.le_refl _, rfl, rfl, rfl, fun b L h => ?_⟩
  ·by_cases hg : gid g < np
   ·unfold gid at hg; omega
   ·have hf : Use np (gid g) := .inr (by unfold gid; omega)
    rw [hρ0 _ hf, s_gid _ (by unfold gid; omega) hg] at h
    exact hI.glob g L hg1 h
  ·obtain ⟨hf, e', h1, h2, h3, h4⟩ := hget0 i e h
   obtain ⟨L, h5, h6⟩ := hI.sat (s i) e' h1
   refine ⟨L, by rw [hρ0 i hf.use]; exact h5, ?_⟩
   obtain ⟨q1, q2, q3, C, t, fr, pre, front, tail, q4, q5, q6, q7, q8, q9⟩ := h6
   refine ⟨by rw [q1, h2], by rw [← h2]; exact q2, ?_, C, t, fr, pre, front, tail, q4, q5, q6, q7, ?_, fun hr => q9 (h4 hr)⟩
   ·rw [h2, h3, dE] at q3; exact q3
   ·rw [h3, eI] at q8
    exact ((All2.map_iff (fun a b => eF hsz)).1 q8).mono fun _ _ => RepS.mono hle0
  ·obtain ⟨hfi, ei', g1, g2, g3, g4⟩ := hget0 i ei hi
   obtain ⟨hfj, ej', k1, k2, k3, k4⟩ := hget0 j ej hj
   rw [hρ0 i hfi.use] at h1
   rw [hρ0 j hfj.use] at h2
   exact hI.inj (s i) (s j) ei' ej' Li Lj g1 k1 (hapart i j ei ej hi hj hne (.inl hr)) (g4 hr) h1 h2
  ·rw [hρ0 _ (.inr (by unfold fzn; omega)), hsz _ (by unfold fzn; omega)] at h
   obtain ⟨h1, h2, h3⟩ := hI.fz b L h
   refine ⟨h1, h2, fun i e Li hi hr hLi => ?_⟩
   obtain ⟨hf, e', g1, g2, g3, g4⟩ := hget0 i e hi
   rw [hρ0 i hf.use] at hLi
   exact h3 (s i) e' Li g1 (g4 hr) hLi
 have hargs0 : All2 (Rep ρ0) args0 vals := by
  rw [fD] at hargs
  exact ((All2.map_iff (fun a b => gT hsz)).1 hargs).mono fun _ _ => Rep.mono hle0
 have hdom0 : ∀ i, ρ0 i ≠ none → Use np i := by
  intro i h
  by_cases hf : Use np i
  ·exact hf
  ·exact absurd (if_neg hf) h
 intro n u
 refine CallsDIn.mono (hac.2 ρ0 w vals hargs0 hI0 hdom0 n u) ?_
 rintro e u' w' ⟨hu, v, ρ1, rfl, hfix, hdom, hret, hI1⟩
 refine ⟨hu, ?_⟩
 -- the caller's names behind the call
 let ρ2 : Env := fun j => if nx ≤ j ∧ j < nx + o.nw.length then ρ1 (np + (j - nx)) else if 2000000 ≤ j then ρ1 j else ρ j
 have hρ2old : ∀ j, ρ j ≠ none → ρ2 j = ρ j := by
  intro j h
  have e1 : ρ2 j = if 2000000 ≤ j then ρ1 j else ρ j := if_neg fun hh => h (hnx j hh.1 hh.2)
  rw [e1]
  split
  ·rename_i hj
   cases hL : ρ j with
   |none => exact absurd hL h
   |some L => exact hfix.mono j L hj (by rw [hρ0 j (.inr (by omega)), hsz j hj]; exact hL)
  ·rfl
 have hρ2fz : ∀ j, 2000000 ≤ j → ρ2 j = ρ1 j := by
  intro j hj
  have e1 : ρ2 j = if 2000000 ≤ j then ρ1 j else ρ j := if_neg (by omega)
  rw [e1, if_pos hj]
 have hρ2no : ∀ j, ¬ (nx ≤ j ∧ j < nx + o.nw.length) → j < 2000000 → ρ2 j = ρ j := by
  intro j h1 h2
  have e1 : ρ2 j = if 2000000 ≤ j then ρ1 j else ρ j := if_neg h1
  rw [e1, if_neg (by omega)]
 have hρ2new : ∀ k, k < o.nw.length → ρ2 (nx + k) = ρ1 (np + k) := by
  intro k hk
  have : ρ2 (nx + k) = ρ1 (np + (nx + k - nx)) := if_pos ⟨by omega, by omega⟩
  rw [this, Nat.add_sub_cancel_left]
 have hle2 : ρ.le ρ2 := fun j L h => by rw [hρ2old j (by rw [h]; simp)]; exact h
 have hle1 : ρ1.le (fun i => ρ2 (s i)) := by
  intro i L h
  have hd := hdom i (by rw [h]; simp)
  by_cases hz : 2000000 ≤ i
  ·show ρ2 (s i) = some L
   rw [hsz i hz, hρ2fz i hz]; exact h
  by_cases hf : Fix np i
  ·rw [hfix.fix i hf, hρ0 i hf.use] at h
   show ρ2 (s i) = some L
   rw [hρ2old _ (by rw [h]; simp)]; exact h
  ·have h1 : np ≤ i := by unfold Fix at hf; omega
   have h2 : i < np + o.nw.length := by unfold Fix at hf; unfold Use at hd; omega
   show ρ2 (s i) = some L
   rw [s_new i h1 h2, hρ2new _ (by omega), show np + (i - np) = i by omega]; exact h
 have hrep : ∀ {d : D} {v : Value}, Rep ρ1 d v → Rep ρ2 (d.ren s) v := fun h => (gT hsz).2 (h.mono hle1)
 have hrepS : ∀ {l : List D} {vs : List Value}, All2 (RepS ρ1) l vs → All2 (RepS ρ2) (l.map (D.ren s)) vs := fun h => (All2.map_iff (fun a b => eF hsz)).2 (h.mono fun _ _ => RepS.mono hle1)
 have hsat : ∀ {e : Ent} {L : Loc}, SatE ρ1 e L w' → SatE ρ2 ⟨e.ty, e.d.ren s, e.rw⟩ L w' := by
  intro e L h
  obtain ⟨q1, q2, q3, C, t, fr, pre, front, tail, q4, q5, q6, q7, q8, q9⟩ := h
  exact ⟨q1, q2, (dE s _ _).2 q3, C, t, fr, pre, front, tail, q4, q5, q6, q7, by rw [eI]; exact hrepS q8, q9⟩
 -- what each of the caller's blocks is now
 have hkeys : ∀ j, j ∈ (jB nx (pF s o.nw)).map (·.1) ↔ nx ≤ j ∧ j < nx + o.nw.length := by
  intro j; rw [eM, fE]
 have hup : ∀ j e, get (upM s nx m0 o ++ m) j = some e →
   (∃ k x, k < o.nw.length ∧ j = nx + k ∧ o.nw[k]? = some x ∧ e = ⟨x.1, x.2.ren s, true⟩) ∨
   (∃ i e0 d, get m0 i = some e0 ∧ e0.rw = true ∧ lkw o.wr i = some (some d) ∧ s i = j ∧ e = ⟨e0.ty, d.ren s, true⟩) ∨
   (get m j = some e ∧ ∀ i d, (i, d) ∈ o.wr → s i ≠ j) := by
  intro j e h
  unfold upM at h
  rw [List.append_assoc, eO] at h
  by_cases hn : nx ≤ j ∧ j < nx + o.nw.length
  ·rw [if_pos ((hkeys j).2 hn), kG, if_pos hn.1, n3] at h
   cases hx : o.nw[j - nx]? with
   |none => simp [hx] at h
   |some x =>
    simp only [hx, Option.map_some, Option.some.injEq] at h
    exact .inl ⟨j - nx, x, by omega, by omega, hx, h.symm⟩
  ·rw [if_neg (fun hh => hn ((hkeys j).1 hh))] at h
   rcases xJ (s := s) (m := m) hwr j with ⟨i, d, h1, h2, h3, h4⟩ | ⟨h1, h2⟩
   ·rw [h4] at h
    cases d with
    |none => simp at h
    |some d =>
     obtain ⟨e0, he0, hr0⟩ := jS hwr h1
     simp only [he0, Option.map_some, Option.some.injEq] at h
     exact .inr (.inl ⟨i, e0, d, he0, hr0, h2, h3, h.symm⟩)
   ·rw [h2] at h
    exact .inr (.inr ⟨h, h1⟩)
 -- the caller's block that a written one stands for
 have hcaller : ∀ i e0, get m0 i = some e0 → e0.rw = true → ∃ e' L, get m (s i) = some e' ∧ e'.rw = true ∧ ρ (s i) = some L ∧ L.blk < w.heap.size ∧ ρ0 i = some L ∧ (X.wp L.blk ∨ X.w0.heap.size ≤ L.blk) := by
  intro i e0 h hr
  obtain ⟨hf, e', h1, h2, h3, h4⟩ := hget0 i e0 h
  obtain ⟨L, h5, h6⟩ := hI.sat (s i) e' h1
  exact ⟨e', L, h1, h4 hr, h5, h6.lt, by rw [hρ0 i hf.use]; exact h5, hI.own (s i) e' L h1 (h4 hr) h5⟩
 have hnewget : ∀ k x, o.nw[k]? = some x → get (o.mem np m0) (np + k) = some ⟨x.1, x.2, true⟩ := by
  intro k x hx
  have hk : k < o.nw.length := by
   rcases Nat.lt_or_ge k o.nw.length with h | h
   ·exact h
   ·simp [List.getElem?_eq_none h] at hx
  rw [eZ, if_pos ⟨by omega, by omega⟩, Nat.add_sub_cancel_left, hx]
  rfl
 have hoget : ∀ i, Fix np i → get (o.mem np m0) i = match lkw o.wr i with | some none => none | some (some d) => (get m0 i).map fun e => ⟨e.ty, d, true⟩ | none => get m0 i := by
  intro i hf
  rw [eZ, if_neg (by unfold Fix at hf; omega)]
  cases lkw o.wr i with
  |none => rfl
  |some d => cases d <;> rfl
 -- where a block lies that the call has made, or been given
 have hnewloc : ∀ k x L, o.nw[k]? = some x → ρ1 (np + k) = some L → eT ρ0 m0 L.blk ∨ w.heap.size ≤ L.blk := fun k x L hx hL => hI1.own (np + k) _ L (hnewget k x hx) rfl hL
 have hkk : ∀ {k : Nat} {x : Ty × D}, o.nw[k]? = some x → k < o.nw.length := by
  intro k x hx
  rcases Nat.lt_or_ge k o.nw.length with h | h
  ·exact h
  ·simp [List.getElem?_eq_none h] at hx
 -- a block of the caller's that is there still: its place is as it was; and no other one's
 have hold : ∀ j e, get (upM s nx m0 o ++ m) j = some e → ¬ (nx ≤ j ∧ j < nx + o.nw.length) → ∃ e' L, get m j = some e' ∧ (e.rw = true → e'.rw = true) ∧ ρ j = some L ∧ ρ2 j = some L ∧ L.blk < w.heap.size ∧
   SatE ρ2 e L w' ∧ (∀ k x L', o.nw[k]? = some x → ρ1 (np + k) = some L' → L'.blk ≠ L.blk) ∧ (e.rw = true → ∀ b, ρ1 (fzn b) ≠ none → L.blk ≠ b) := by
  intro j e h hn
  -- of a block that stands for a written one of the callee's, and is not given up
  have hvia : ∀ i e0 d, get m0 i = some e0 → e0.rw = true → get (o.mem np m0) i = some ⟨e0.ty, d, true⟩ → s i = j → e = ⟨e0.ty, d.ren s, true⟩ →
    ∃ e' L, get m j = some e' ∧ (e.rw = true → e'.rw = true) ∧ ρ j = some L ∧ ρ2 j = some L ∧ L.blk < w.heap.size ∧ SatE ρ2 e L w' ∧ (∀ k x L', o.nw[k]? = some x → ρ1 (np + k) = some L' → L'.blk ≠ L.blk) ∧ (e.rw = true → ∀ b, ρ1 (fzn b) ≠ none → L.blk ≠ b) := by
   intro i e0 d h1 h2 h3 h4 h5
   obtain ⟨e', L, g1, g2, g3, g4, g5, g6⟩ := hcaller i e0 h1 h2
   have hf := (hget0 i e0 h1).1
   rw [h4] at g1 g3
   obtain ⟨L1, k1, k2⟩ := hI1.sat i _ h3
   have e1 : ρ1 i = some L := by rw [hfix.fix i hf]; exact g5
   rw [e1] at k1; cases k1
   refine ⟨e', L, g1, fun _ => g2, g3, by rw [hρ2old j (by rw [g3]; simp)]; exact g3, g4, by rw [h5]; exact hsat k2, fun k x L' hx hL' => ?_, fun _ b hb => ?_⟩
   rotate_left
   ·cases hb1 : ρ1 (fzn b) with
    |none => exact absurd hb1 hb
    |some Lb => exact (hI1.fz b Lb hb1).2.2 i _ L h3 rfl e1
   have := hkk hx
   exact hI1.inj (np + k) i _ _ L' L (hnewget k x hx) h3 (by unfold Fix at hf; omega) rfl hL' e1
  rcases hup j e h with ⟨k, x, hk, hj, hx, he⟩ | ⟨i, e0, d, h1, h2, h3, h4, h5⟩ | ⟨h1, h2⟩
  ·exact absurd ⟨by omega, by omega⟩ hn
  ·refine hvia i e0 d h1 h2 ?_ h4 h5
   rw [hoget i (hget0 i e0 h1).1, h3]
   simp [h1]
  ·by_cases hw0 : ∃ i e0, get m0 i = some e0 ∧ e0.rw = true ∧ s i = j
   ·obtain ⟨i, e0, g1, g2, g3⟩ := hw0
    obtain ⟨hf, e', k1, k2, k3, k4⟩ := hget0 i e0 g1
    rw [g3, h1] at k1; cases k1
    have hlk : lkw o.wr i = none := by
     cases hl : lkw o.wr i with
     |none => rfl
     |some d => exact absurd g3 (h2 i d (xF hl))
    refine hvia i e0 e0.d g1 g2 ?_ g3 ?_
    ·rw [hoget i hf, hlk]
     simp only [g1]
     cases e0; simp only at g2; rw [g2]
    ·have hr := k4 g2
     cases e; simp only at k2 k3 hr; rw [k2, k3, hr]
   ·obtain ⟨L, g1, g2⟩ := hI.sat j e h1
    have hnw : ¬ eT ρ0 m0 L.blk := by
     rintro ⟨i, e0, L0, k1, k2, k3, k4⟩
     obtain ⟨e', L', q1, q2, q3, q4, q5, q6⟩ := hcaller i e0 k1 k2
     rw [k3] at q5; cases q5
     by_cases hij : s i = j
     ·exact hw0 ⟨i, e0, k1, k2, hij⟩
     ·exact hI.inj (s i) j e' e _ L q1 h1 hij q2 q3 g1 k4
    refine ⟨e, L, h1, id, g1, by rw [hρ2old j (by rw [g1]; simp)]; exact g1, g2.lt, (g2.mono hle2).same (hI1.ext L.blk g2.lt hnw), fun k x L' hx hL' heq => ?_, fun hrw b hb hbb => ?_⟩
    ·rcases hnewloc k x L' hx hL' with h | h
     ·rw [heq] at h; exact hnw h
     ·have := g2.lt; omega
    ·rcases hfix.new b hb with h4 | h4 | h4
     ·rw [hρ0 _ (.inr (by unfold fzn; omega)), hsz _ (by unfold fzn; omega)] at h4
      cases h5 : ρ (fzn b) with
      |none => exact h4 h5
      |some Lb => exact (hI.fz b Lb h5).2.2 j e L h1 hrw g1 hbb
     ·rw [hbb] at hnw; exact hnw h4
     ·have := g2.lt; have h4 : w.heap.size ≤ b := h4; omega
 have hnew : ∀ j e, get (upM s nx m0 o ++ m) j = some e → (nx ≤ j ∧ j < nx + o.nw.length) → ∃ k x L, j = nx + k ∧ o.nw[k]? = some x ∧ ρ1 (np + k) = some L ∧ ρ2 j = some L ∧ SatE ρ2 e L w' := by
  intro j e h hn
  rcases hup j e h with ⟨k, x, hk, hj, hx, he⟩ | ⟨i, e0, d, h1, h2, h3, h4, h5⟩ | ⟨h1, h2⟩
  ·obtain ⟨L, g1, g2⟩ := hI1.sat (np + k) _ (hnewget k x hx)
   exact ⟨k, x, L, hj, hx, g1, by rw [hj, hρ2new k hk]; exact g1, by rw [he]; exact hsat g2⟩
  ·obtain ⟨e', L, g1, g2, g3, _⟩ := hcaller i e0 h1 h2
   rw [h4] at g3
   rw [hnx j hn.1 hn.2] at g3; cases g3
  ·obtain ⟨L, g1, g2⟩ := hI.sat j e h1
   rw [hnx j hn.1 hn.2] at g1; cases g1
 refine ⟨v, ρ2, rfl, hle2, fun j h => ?_, hrep hret, ⟨fun g L hg1 h => ?_, fun j e h => ?_, fun j k ej ek Lj Lk hj hk hne hr h1 h2 => ?_, fun j e L h hr h1 => ?_, fun b hb hn => ?_, ?_, ?_, ?_, ?_, fun b L h => ?_⟩⟩
 ·by_cases hn : nx ≤ j ∧ j < nx + o.nw.length
  ·exact .inr (.inl hn)
  ·by_cases hz : 2000000 ≤ j
   ·rw [hρ2fz j hz] at h
    obtain ⟨b, rfl⟩ : ∃ b, j = fzn b := ⟨j - 2000000, by unfold fzn; omega⟩
    rcases hfix.new b h with h4 | h4 | h4
    ·left; rw [hρ0 _ (.inr (by unfold fzn; omega)), hsz _ hz] at h4; exact h4
    ·right; right
     obtain ⟨i, e0, L0, q1, q2, q3, q4⟩ := h4
     obtain ⟨e', L', k1, k2, k3, k4, k5, k6⟩ := hcaller i e0 q1 q2
     rw [q3] at k5; cases k5
     exact ⟨b, rfl, by rw [← q4]; exact k6⟩
    ·exact .inr (.inr ⟨b, rfl, .inr (Nat.le_trans hI.size h4)⟩)
   ·left
    rw [hρ2no j hn (by omega)] at h; exact h
 ·rw [hρ2no _ (by unfold gid; omega) (by unfold gid; omega)] at h
  exact hI.glob g L hg1 h
 ·by_cases hn : nx ≤ j ∧ j < nx + o.nw.length
  ·obtain ⟨k, x, L, _, _, _, g1, g2⟩ := hnew j e h hn
   exact ⟨L, g1, g2⟩
  ·obtain ⟨e', L, _, _, _, g1, _, g2, _⟩ := hold j e h hn
   exact ⟨L, g1, g2⟩
 ·by_cases hnj : nx ≤ j ∧ j < nx + o.nw.length
  ·obtain ⟨kj, xj, L1, a1, a2, a3, a4, _⟩ := hnew j ej hj hnj
   rw [h1] at a4; cases a4
   by_cases hnk : nx ≤ k ∧ k < nx + o.nw.length
   ·obtain ⟨kk, xk, L2, b1, b2, b3, b4, _⟩ := hnew k ek hk hnk
    rw [h2] at b4; cases b4
    exact hI1.inj (np + kj) (np + kk) _ _ _ _ (hnewget kj xj a2) (hnewget kk xk b2) (by omega) rfl a3 b3
   ·obtain ⟨e', L2, _, _, _, b1, _, _, b2, _⟩ := hold k ek hk hnk
    rw [h2] at b1; cases b1
    exact b2 kj xj _ a2 a3
  ·obtain ⟨e', L1, a1, a2, a3, a4, _, _, a5, _⟩ := hold j ej hj hnj
   rw [h1] at a4; cases a4
   by_cases hnk : nx ≤ k ∧ k < nx + o.nw.length
   ·obtain ⟨kk, xk, L2, b1, b2, b3, b4, _⟩ := hnew k ek hk hnk
    rw [h2] at b4; cases b4
    exact Ne.symm (a5 kk xk _ b2 b3)
   ·obtain ⟨e2, L2, b1, b2, b3, b4, _⟩ := hold k ek hk hnk
    rw [h2] at b4; cases b4
    exact hI.inj j k e' e2 _ _ a1 b1 hne (a2 hr) a3 b3
 ·by_cases hn : nx ≤ j ∧ j < nx + o.nw.length
  ·obtain ⟨k, x, L', _, g1, g2, g3, _⟩ := hnew j e h hn
   rw [h1] at g3; cases g3
   rcases hnewloc k x _ g1 g2 with ⟨i, e0, L0, q1, q2, q3, q4⟩ | h'
   ·obtain ⟨e', L', k1, k2, k3, k4, k5, k6⟩ := hcaller i e0 q1 q2
    rw [q3] at k5; cases k5
    rw [← q4]; exact k6
   ·exact .inr (Nat.le_trans hI.size h')
  ·obtain ⟨e', L', g1, g2, g3, g4, _⟩ := hold j e h hn
   rw [h1] at g4; cases g4
   exact hI.own j e' _ g1 (g2 hr) g3
 ·have hbl : b < w.heap.size := Nat.lt_of_lt_of_le hb hI.size
  have hnw : ¬ eT ρ0 m0 b := by
   rintro ⟨i, e0, L0, q1, q2, q3, q4⟩
   obtain ⟨e', L', k1, k2, k3, k4, k5, k6⟩ := hcaller i e0 q1 q2
   rw [q3] at k5; cases k5
   rw [q4] at k6
   rcases k6 with h | h
   ·exact hn h
   ·omega
  rw [hI1.ext b hbl hnw]
  exact hI.ext b hb hn
 ·exact Nat.le_trans hI.size hI1.size
 ·rw [hI1.os]; exact hI.os
 ·rw [hI1.out]; exact hI.out
 ·rw [hI1.tape]; exact hI.tape
 ·rw [hρ2fz _ (by unfold fzn; omega)] at h
  obtain ⟨h1, h2, h3⟩ := hI1.fz b L h
  refine ⟨h1, h2, fun j ej Lj hj hr hLj => ?_⟩
  by_cases hn : nx ≤ j ∧ j < nx + o.nw.length
  ·obtain ⟨k, x, L', _, g1, g2, g3, _⟩ := hnew j ej hj hn
   rw [hLj] at g3; cases g3
   exact h3 (np + k) _ _ (hnewget k x g1) rfl g2
  ·obtain ⟨e', L', g1, g2, g3, g4, _, _, _, g5⟩ := hold j ej hj hn
   rw [hLj] at g4; cases g4
   exact g5 hr b (by rw [h]; simp)
end
theorem fJ {ro : Option Nat} {n : Nat} {P : Program} {Γ : Tab} (hΓ : b8 P Γ) {N : Nat} {X : CtxK} {ρ0 : Env} {np : Nat} {Q : Exit → Act → World → Prop} {K : TM → Mem → Nat → Prop}
  (ops tl : List Oper) (hK : ∀ k tm m nx ρ a w, ops.drop k = tl → K tm m nx → StOk X ρ0 np N tm m nx ρ a w → wpOpsIn (FW ro) n P ops.toArray Q (List.range' k tl.length) a w) :
  ∀ (r : List Oper) (k : Nat) (tm : TM) (m : Mem) (nx : Nat) (ρ : Env) (a : Act) (w : World), ops.drop k = r ++ tl → aE4 P Γ N ops r tm m nx K → StOk X ρ0 np N tm m nx ρ a w →
   wpOpsIn (FW ro) n P ops.toArray Q (List.range' k (r ++ tl).length) a w
 |[], k, tm, m, nx, ρ, a, w, hd, h, H => hK k tm m nx ρ a w hd h H
 |o :: r, k, tm, m, nx, ρ, a, w, hd, h, H => by
  have hget : ops.toArray[k]? = some o := by
   rw [List.getElem?_toArray, ← List.head?_drop, hd]; rfl
  have hd' : ops.drop (k + 1) = r ++ tl := by rw [← List.tail_drop, hd]; rfl
  simp only [List.cons_append, List.length_cons, List.range'_succ, wpOpsIn, hget]
  rw [tL] at h
  obtain ⟨tm', hsame, hw⟩ := qM h H
  have H' := H.same hsame
  rcases hw with ⟨hw, h⟩ | ⟨hw, h⟩
  ·rw [if_pos hw]
   obtain ⟨v, up, nw, foot, hR, hdoes, _⟩ := kS hΓ (X := X.c) h
   unfold aFo at hR
   split at hR <;> try contradiction
   rename_i hlim
   have hlim : nx + nw ≤ 999998 := Nat.le_of_ble_eq_true hlim
   refine hdoes ρ m w a H'.inv (fun _ _ => rfl) (fun t _ d ht => H'.tmps t d ht) (Inv.fresh H' (by have := H'.lim; omega) (by omega)) (fun i h1 h2 => Inv.fresh H' h1 (by omega)) ro n _ Q ?_
   intro ρ' v' w' hle hdom hv hinv hkeep
   have H1 : StOk X ρ0 np N tm' (up ++ m) (nx + nw) ρ' a w' := by
    refine ⟨hinv, fun t d ht => (H'.tmps t d ht).mono hle, H'.size, H'.defs.step hkeep rfl, H'.fix.step hle hdom H'.le (by omega), hdom.used H'.used, hlim, by have := H'.le; omega⟩
   obtain ⟨tm2, hk2, H2⟩ := H1.put hR hv
   exact fJ hΓ ops tl hK r (k + 1) tm2 _ _ ρ' _ w' hd' hk2 H2
  ·rw [if_neg (by rw [hw]; simp)]
   refine ⟨fun _ _ => trivial, ?_⟩
   obtain ⟨tm2, hk2, H2⟩ := H'.put (v' := undef) h ⟨[], rfl, trivial⟩
   exact fJ hΓ ops tl hK r (k + 1) tm2 _ _ ρ _ w hd' hk2 H2
noncomputable def preP (P : Program) (Γ : Tab) (N : Nat) (pl : Pl) (np : Nat) : List Code → TM → Mem → Nat → (TM → Mem → Nat → Prop) → (TM → Mem → Nat → Prop) → Prop
 |[], tm, m, nx, K, _ => K tm m nx
 |c :: cs, tm, m, nx, K, R => gG P Γ N pl c false np tm m nx (fun tm m nx => preP P Γ N pl np cs tm m nx K R) (fun _ _ _ _ => False) R
def seqs : List Code → Code → Code
 |[], c => c
 |p :: ps, c => p.seq (seqs ps c)
theorem tZ {ro : Option Nat} {n : Nat} {P : Program} {Γ : Tab} (hΓ : b8 P Γ) (hmix : P.follows .mixedOrders = true) {N : Nat} {pl : Pl} {X : CtxK} {ρ0 : Env} {np : Nat} {Q : Exit → Act → World → Prop} {K R : TM → Mem → Nat → Prop} {body : Code}
  (hK : ∀ tm m nx ρ a w, K tm m nx → StOk X ρ0 np N tm m nx ρ a w → body.wpIn (FW ro) n P Q a w) (hR : ∀ tm m nx ρ a w, R tm m nx → StOk X ρ0 np N tm m nx ρ a w → Q .ret a w) :
  ∀ (pres : List Code) (tm : TM) (m : Mem) (nx : Nat) (ρ : Env) (a : Act) (w : World), preP P Γ N pl np pres tm m nx K R → StOk X ρ0 np N tm m nx ρ a w → (seqs pres body).wpIn (FW ro) n P Q a w
 |[], tm, m, nx, ρ, a, w, h, H => hK tm m nx ρ a w h H
 |c :: cs, tm, m, nx, ρ, a, w, h, H => by
  refine wpIn_seq (iU hΓ hmix c false ro n (fun h => nomatch h) X (fun h => nomatch h) ρ0 np tm m nx ρ a w _ _ R _ ?_ ?_ ?_ h H)
  ·intro tm m nx ρ a w h H; exact tZ hΓ hmix hK hR cs tm m nx ρ a w h H
  ·intro i tm m nx ρ a w h _; exact h.elim
  ·exact hR
structure DCallG (P : Program) (f : Nat) (args : List D) (m : Mem) (nx : Nat) (R : Mem → Nat → Prop) : Prop where
 out : ∃ (np : Nat) (m0 : Mem) (args0 : List D) (o : Out) (σ : List Nat), ACd P f args0 np m0 o ∧ (nx + o.nw.length ≤ 999998 ∧ np + o.nw.length ≤ 999998) ∧ args = D.rens (sig np nx o.nw.length σ) args0 ∧
  bQ (sig np nx o.nw.length σ) m m0 ∧ bS np (sig np nx o.nw.length σ) m0 m0 = true ∧ wrB m0 o.wr = true ∧ R (upM (sig np nx o.nw.length σ) nx m0 o ++ m) (nx + o.nw.length)
theorem uM {P : Program} {fn : Func} {X : Ctx} {ρ : Env} {m : Mem} {tmps : Array Value} {n : Nat} {R : Ending → World → Prop} {base : List Deferred} (hbase : ∀ w, Inv X ρ m w → LeavesInM (FW none) n P fn tmps R base .returning w) :
  ∀ (ds : List Deferred) (w : World), Inv X ρ m w → (∀ d ∈ ds, ∃ r, d = { target := .collected r, args := #[] } ∧ w.heap[r]? = some (.deferred (some [])) ∧ X.w0.heap.size ≤ r) → ds.Pairwise (· ≠ ·) → LeavesInM (FW none) n P fn tmps R (ds ++ base) .returning w
 |[], w, hI, _, _ => hbase w hI
 |d :: ds, w, hI, hm, hp => by
  obtain ⟨r, rfl, h1, h2⟩ := hm d (by simp)
  rw [List.pairwise_cons] at hp
  refine ⟨(fun h => by cases h), .inl ⟨r, _, rfl, run_takeDeferred h1, uM hbase ds _ (n8 hI (grownBy_putObj' w r _) (B := r) (fun r' e => ?_) h2) (fun d' hd' => ?_) hp.2⟩⟩
  ·cases e; exact ⟨Nat.le_refl _, _, h1, rfl⟩
  ·obtain ⟨r', k1, k2, k3⟩ := hm d' (by simp [hd'])
   refine ⟨r', k1, (World.putObj_heap_other fun e => ?_).trans k2, k3⟩
   subst e
   exact hp.1 d' hd' k1.symm
theorem StOk.behind {X X' : CtxK} {ρ0 ρ1 : Env} {np np1 N : Nat} {tm : TM} {m m' : Mem} {nx nw : Nat} {ρ ρ' : Env} {a : Act} {w w' : World} (H : StOk X ρ1 np1 N tm m nx ρ a w) (hp : np ≤ np1) (h0 : Keep X.c np ρ0 ρ1)
  (hc : X'.c = X.c) (hb : X'.base = []) (hk : X'.k0 = w') (hle : ρ.le ρ') (hdom : Dom X.c nx nw ρ ρ') (hinv : Inv X.c ρ' m' w') (hlim : nx + nw ≤ 999998) :
  StOk X' ρ0 np N tm m' (nx + nw) ρ' { a with defers := [] } w' := by
 refine ⟨by rw [hc]; exact hinv, fun t d ht => (H.tmps t d ht).mono hle, H.size, ⟨⟨[], by rw [hb]; rfl, (fun _ h => nomatch h), List.Pairwise.nil⟩, by rw [hk]; exact KeepsOthers.refl w', fun _ => hb.symm⟩, by rw [hc]; exact (h0.trans H.fix hp).step hle hdom (Nat.le_trans hp H.le) (by omega), hdom.used H.used, hlim, ?_⟩
 have := H.le; omega
theorem yW {ρ : Env} {d : D} {v : Value} (h : RepB ρ d v) : Rep ρ d v := by cases d <;> first | exact h | exact h.elim
def aDF (P : Program) (Γ : Tab) (rs : List ResultVar) (np : Nat) (m0 : Mem) (o : Out) (g : Nat) (bs cs : List D) (tm : TM) (m : Mem) (nx : Nat) : Prop :=
 DCallG P g (bs ++ cs) m nx (fun m' nx' => aAH Γ rs np m0 o tm m' nx')
theorem aFU {P : Program} {Γ : Tab} (hΓ : b8 P Γ) {fn : Func} {X : CtxK} {ρ0 ρ1 : Env} {np np1 : Nat} {tm : TM} {m m0 : Mem} {nx : Nat} {ρ : Env} {a : Act} {w : World} {o : Out} (hnp : np + o.nw.length ≤ 999998) {g : Nat} {bs cs : List D} {us vs : List Value}
  (hr : aDF P Γ fn.results.toList np m0 o g bs cs tm m nx) (H : StOk X ρ1 np1 fn.ntmps tm m nx ρ a w) (hbase : X.base = [{ target := .fn (.func g) vs.toArray, args := us.toArray }])
  (hp : np ≤ np1) (h0 : Keep X.c np ρ0 ρ1) (hbs : All2 (RepB ρ) bs us) (hcs : All2 (RepB ρ) cs vs) :
  LeavesInM (FW none) 1 P fn a.tmps (fun e w' => ∃ v ρ', e = .returned v ∧ Keep X.c np ρ0 ρ' ∧ (∀ i, ρ' i ≠ none → Use (np + o.nw.length) i) ∧ Rep ρ' o.ret v ∧ Inv X.c ρ' (o.mem np m0) w') a.defers .returning w := by
 obtain ⟨ms, hm1, hm2, hm3⟩ := H.defs.marks
 rw [hm1, hbase]
 refine uM (X := X.c) (ρ := ρ) (m := m) (fun w1 hI1 => ?_) ms w H.inv hm2 hm3
 obtain ⟨np2, m2, args0, o2, σ, hac, ⟨hl1, hl2⟩, hargs, hm, hn, hw, hR⟩ := hr.out
 have hvals : All2 (Rep ρ) (D.rens (sig np2 nx o2.nw.length σ) args0) (us ++ vs) := by
  rw [← hargs]
  exact (hbs.mono fun _ _ => yW).append (hcs.mono fun _ _ => yW)
 have hsound := xV (X := X.c) hI1 hac (Inv.fresh H (by have := H.lim; omega) (Nat.le_refl _)) (fun i h1 h2 => Inv.fresh H h1 (by omega)) (by omega) (by omega) hm hn hw hvals
 obtain ⟨fn2, hfn, hbody, hname⟩ := hac.1
 refine ⟨(fun h => by cases h), .inr ⟨(fun h => nomatch h), .func g, vs.toArray, g, (us ++ vs).toArray, rfl, ?_, (fun _ _ => trivial), ?_⟩⟩
 ·simp only [invoke]
  rw [show us.toArray ++ vs.toArray = (us ++ vs).toArray by simp]
  simp only [callFunc, Sem.run_bind, run_program, Result.andThen_ok, hfn, hname, Bool.false_eq_true, if_false, hbody, Sem.run_pure]
 ·refine CallsDIn.mono (hsound 0 .returning) ?_
  rintro e u' w' ⟨rfl, v, ρ', rfl, q1, q2, q3, q4⟩
  show LeavesInM (FW none) 1 P fn a.tmps _ [] .returning w'
  have H1 : StOk X ρ1 np1 fn.ntmps tm m nx ρ a w := H
  have H2 := StOk.behind (X' := ⟨X.c, w', [], false⟩) (ρ0 := ρ0) (np := np) H1 hp h0 rfl rfl rfl q1 q2 q4 hl1
  obtain ⟨v', ρ2, r1, r2⟩ := yT hΓ hnp hR H2
  exact ⟨v', r1, v', ρ2, rfl, r2⟩
theorem aEX {P : Program} {Γ : Tab} (hΓ : b8 P Γ) (hmix : P.follows .mixedOrders = true) {f : Nat} {fn : Func} {c : Code} (hf : P.funcs[f]? = some fn) (hb : fn.body = some c) (hname : (fn.name == "runtime.NumGoroutine") = false)
  {args : List D} {np : Nat} {m0 : Mem} {o : Out} (hsz : Nat.ble args.length fn.ntmps = true) (hnp : Nat.ble (np + o.nw.length) 999998 = true) (pl : Pl)
  (pres : List Code) (rid : Nat) (ops : List Oper) (dop : Oper) (dc : Call) (fv : Operand) (rest : Code) (hc : c = seqs pres ((Code.region rid (ops ++ [dop]).toArray false).seq rest))
  (hd : dop.op = .defer dc) (hg : dop.guard = none) (hdst : dop.dst = none) (hcal : dc.callee = .value fv) (hargs : dc.args = #[])
  (h : preP P Γ fn.ntmps pl np pres (nR 0 args) m0 np (fun tm m nx => aE4 P Γ fn.ntmps (ops ++ [dop]) ops tm m nx (fun tm m nx => ∃ g bs cs, opd tm (get m) fv = some (.fn g bs cs) ∧
   gG P Γ fn.ntmps pl rest true nx tm m nx (aDF P Γ fn.results.toList np m0 o g bs cs) (fun _ _ _ _ => False) (aDF P Γ fn.results.toList np m0 o g bs cs))) (aAH Γ fn.results.toList np m0 o)) : AC P f args np m0 o := by
 have hsz := Nat.le_of_ble_eq_true hsz
 have hnp := Nat.le_of_ble_eq_true hnp
 refine ⟨⟨fn, hf, by rw [hb]; rfl, hname⟩, fun ρ0 w0 vals hv hI hdm => ?_⟩
 refine lI.1 (callsIn_of_wp_marks (F := FW none) (n := 1) hf hb trivial ?_ rfl)
 have hl : vals.length = args.length := hv.length.symm
 rw [hc]
 let X0 : CtxK := ⟨⟨w0, eT ρ0 m0⟩, w0, [], true⟩
 refine tZ (ro := none) (n := 1) hΓ hmix (X := X0) (ρ0 := ρ0) (np := np) ?_ ?_ pres (nR 0 args) m0 np ρ0 _ w0 h ?_
 ·intro tm m nx ρ a w hk H
  refine wpIn_seq (wpIn_region ?_)
  have hseq := fJ (ro := none) (n := 1) (Q := Exit.then (rest.wpIn (FW none) 1 P (bodyPostM (FW none) 1 P fn (fun e w' => ∃ v ρ', e = .returned v ∧ Keep ⟨w0, eT ρ0 m0⟩ np ρ0 ρ' ∧ (∀ i, ρ' i ≠ none → Use (np + o.nw.length) i) ∧ Rep ρ' o.ret v ∧ Inv ⟨w0, eT ρ0 m0⟩ ρ' (o.mem np m0) w')))
   (bodyPostM (FW none) 1 P fn (fun e w' => ∃ v ρ', e = .returned v ∧ Keep ⟨w0, eT ρ0 m0⟩ np ρ0 ρ' ∧ (∀ i, ρ' i ≠ none → Use (np + o.nw.length) i) ∧ Rep ρ' o.ret v ∧ Inv ⟨w0, eT ρ0 m0⟩ ρ' (o.mem np m0) w'))) hΓ (X := X0) (ρ0 := ρ0) (np := np) (ops ++ [dop]) [dop] ?_ ops 0 tm m nx ρ a w rfl hk H
  ·rw [List.range_eq_range']
   simpa using hseq
  ·rintro k tm m nx ρ a w hdrop ⟨g, bs, cs, hop, hrest⟩ H
   have hget : (ops ++ [dop]).toArray[k]? = some dop := by
    rw [List.getElem?_toArray, ← List.head?_drop, hdrop]; rfl
   simp only [List.length_cons, List.length_nil, List.range'_succ, List.range'_zero, wpOpsIn, hget]
   rw [if_pos (by simp [Region.wanted, hg])]
   obtain ⟨us, vs, hfv, hbs, hcs⟩ := aCE H hop
   refine ⟨fun _ _ => trivial, ?_⟩
   have hex : (Oper.semAt (FW none).round a.eval dop).run P w = .ok (.defer { target := .fn (.func g) vs.toArray, args := us.toArray }) w := by
    show (Oper.semAt none a.eval dop).run P w = _
    rw [Oper.semAt_none]
    simp only [execOp, hd, resolve, hcal, hargs, hfv, Deferred.ofValue, Sem.run_bind, Sem.run_pure, Result.andThen_ok]
    simp
   rw [hex, Oper.uponIn_defer, hdst]
   have hdef : a.defers = [] := H.defs.bare rfl
   simp only [Act.put]
   show rest.wpIn (FW none) 1 P _ _ w
   let X1 : CtxK := ⟨⟨w0, eT ρ0 m0⟩, w, [{ target := .fn (.func g) vs.toArray, args := us.toArray }], false⟩
   have hret : ∀ tm' m' nx' ρ' a' w', aDF P Γ fn.results.toList np m0 o g bs cs tm' m' nx' → StOk X1 ρ nx fn.ntmps tm' m' nx' ρ' a' w' → LeavesInM (FW none) 1 P fn a'.tmps (fun e w' => ∃ v ρ', e = .returned v ∧ Keep ⟨w0, eT ρ0 m0⟩ np ρ0 ρ' ∧ (∀ i, ρ' i ≠ none → Use (np + o.nw.length) i) ∧ Rep ρ' o.ret v ∧ Inv ⟨w0, eT ρ0 m0⟩ ρ' (o.mem np m0) w') a'.defers .returning w' := by
    intro tm' m' nx' ρ' a' w' hr H'
    have hle : ρ.le ρ' := H'.fix.le H.used
    exact aFU hΓ hnp hr H' rfl H.le H.fix (hbs.mono fun _ _ => RepB.mono hle) (hcs.mono fun _ _ => RepB.mono hle)
   refine iU hΓ hmix rest true none 1 (fun _ => ⟨rfl, Nat.le_refl _⟩) X1 (fun _ => rfl) ρ nx tm m nx ρ _ w _ _ _ _ (fun tm m nx ρ a w hr H => hret tm m nx ρ a w hr H) (fun i tm m nx ρ a w h => h.elim) (fun tm m nx ρ a w hr H => hret tm m nx ρ a w hr H) hrest ?_
   exact ⟨H.inv, H.tmps, H.size, ⟨⟨[], by rw [hdef]; rfl, (fun _ h => nomatch h), List.Pairwise.nil⟩, KeepsOthers.refl w, fun h => nomatch h⟩, Keep.refl _ _ _, H.used, H.lim, Nat.le_refl _⟩
 ·intro tm m nx ρ a w hr H
  have hdef : a.defers = [] := H.defs.bare rfl
  obtain ⟨v, ρ', h1, h2⟩ := yT hΓ hnp hr H
  show LeavesInM (FW none) 1 P fn a.tmps _ a.defers .returning w
  rw [hdef]
  exact ⟨v, h1, v, ρ', rfl, h2⟩
 ·refine ⟨hI, fun t d hd => ?_, ?_, ⟨⟨[], rfl, (fun _ h => nomatch h), List.Pairwise.nil⟩, KeepsOthers.refl w0, fun _ => rfl⟩, Keep.refl _ _ _, fun i hi => hdm i hi, by omega, Nat.le_refl _⟩
  ·obtain ⟨_, h1⟩ := rQ hd
   obtain ⟨v, h2, h3⟩ := hv.get t h1
   have hlt : t < vals.length := by
    rcases Nat.lt_or_ge t vals.length with h' | h'
    ·exact h'
    ·rw [List.getElem?_eq_none h'] at h2; cases h2
   have : (vals.toArray ++ Array.replicate (fn.ntmps - vals.toArray.size) undef).getD t undef = v := by
    rw [Array.getD_eq_getD_getElem?, Array.getElem?_append_left (by simpa using hlt), List.getElem?_toArray, h2]
    rfl
   rw [this]; exact h3
  ·simp; omega
theorem acdA {P : Program} {Γ : Tab} (hΓ : b8 P Γ) (hmix : P.follows .mixedOrders = true) {f : Nat} {fn : Func} {c : Code} (hf : P.funcs[f]? = some fn)
  {args : List D} {np : Nat} {m0 : Mem} {o : Out} (pl : Pl) (h : gG P Γ fn.ntmps pl c false np (nR 0 args) m0 np (aAH Γ fn.results.toList np m0 o) (fun _ _ _ _ => False) (aAH Γ fn.results.toList np m0 o))
  (hb : fn.body = some c := by rfl) (hname : (fn.name == "runtime.NumGoroutine") = false := by kernel_rfl)
  (hsz : Nat.ble args.length fn.ntmps = true := by kernel_rfl) (hnp : Nat.ble (np + o.nw.length) 999998 = true := by kernel_rfl) : ACd P f args np m0 o := acd_of hΓ hmix hf hb hname hsz hnp pl h
theorem dL {P : Program} {f : Nat} {args : List D} {m : Mem} {nx : Nat} {R : Mem → Nat → Prop} {np : Nat} {m0 : Mem} {args0 : List D} {o : Out} (hac : ACd P f args0 np m0 o) (σ : List Nat)
  (hR : R (upM (sig np nx o.nw.length σ) nx m0 o ++ m) (nx + o.nw.length))
  (hl : (match Nat.ble (nx + o.nw.length) 999998 with | true => Nat.ble (np + o.nw.length) 999998 | false => false) = true := by rfl) (hargs : args = D.rens (sig np nx o.nw.length σ) args0 := by first | rfl | (simp only [D.rens, cV]; rfl))
  (hm : bQ (sig np nx o.nw.length σ) m m0 := by ((repeat' (first | exact trivial | refine And.intro ⟨_, rfl, rfl, ?_, id⟩ ?_ | refine And.intro ⟨_, rfl, rfl, ?_, fun _ => rfl⟩ ?_)) <;> (first | rfl | exact (Pure.ren _).symm | exact (Pure.ren _).trans (Pure.ren _).symm | (simp only [Nat.zero_add]; rfl) | (simp only [D.ren, D.rens, cV]; rfl))))
  (hn : bS np (sig np nx o.nw.length σ) m0 m0 = true := by rfl) (hw : wrB m0 o.wr = true := by rfl) : DCallG P f args m nx R := by
 refine ⟨⟨np, m0, args0, o, σ, hac, ?_, hargs, hm, hn, hw, hR⟩⟩
 split at hl <;> try contradiction
 rename_i h
 exact ⟨Nat.le_of_ble_eq_true h, Nat.le_of_ble_eq_true hl⟩
theorem kN {α β : Type} {R S T : α → β → Prop} (h : ∀ a u b, R a u → S a b → T a b) : ∀ {rs : List α} {us bs : List β}, All2 R rs us → All2 S rs bs → All2 T rs bs
 |[], [], [], _, _ => trivial
 |_ :: _, _ :: _, _ :: _, h1, h2 => ⟨h _ _ _ h1.1 h2.1, kN h h1.2 h2.2⟩
 |[], [], _ :: _, _, h2 => h2.elim
 |[], _ :: _, _, h1, _ => h1.elim
 |_ :: _, [], _, h1, _ => h1.elim
 |_ :: _, _ :: _, [], _, h2 => h2.elim
section
variable {ρ0 ρ ρ' : Env} (h : ∀ i, ρ0 i ≠ none → ρ' i = ρ i) (hz : ∀ b L, ρ (fzn b) = some L → ρ' (fzn b) = some L)
include h hz
theorem nO (d : D) (v0 v : Value) (h0 : RepB ρ0 d v0) (H : RepB ρ d v) : RepB ρ' d v := by
 cases d <;> first
  |exact H
  |(obtain ⟨b, L, o, h1, h2⟩ := H; exact ⟨b, L, o, hz _ _ h1, h2⟩)
  |(obtain ⟨L0, h3, _⟩ := h0; obtain ⟨L, h1, h2⟩ := H; exact ⟨L, by rw [h _ (by rw [h3]; simp)]; exact h1, h2⟩)
theorem aBm (d : D) (v0 v : Value) (h0 : RepS ρ0 d v0) (H : RepS ρ d v) : RepS ρ' d v := by
 cases hd : d.isFn with
 |false => rw [i4 hd] at h0 H ⊢; exact nO h hz d v0 v h0 H
 |true =>
  cases d <;> simp [D.isFn] at hd
  obtain ⟨us0, vs0, _, h1, h2⟩ := h0
  obtain ⟨us, vs, h3, h4, h5⟩ := H
  exact ⟨us, vs, h3, kN (nO h hz) h1 h4, kN (nO h hz) h2 h5⟩
theorem aBf {e : Ent} {L0 L : Loc} {w0 w : World} (h0 : SatE ρ0 e L0 w0) (H : SatE ρ e L w) : SatE ρ' e L w := by
 obtain ⟨_, _, _, _, _, _, _, front0, _, _, _, _, _, h1, _⟩ := h0
 obtain ⟨q1, q2, q3, C, t, fr, pre, front, tail, q4, q5, q6, q7, q8, q9⟩ := H
 exact ⟨q1, q2, q3, C, t, fr, pre, front, tail, q4, q5, q6, q7, kN (aBm h hz) h1 q8, q9⟩
end
theorem aBV {ρ ρ' : Env} {l : B8} {vs : List Value} (h : All2 (RepS ρ) (D.flat (.u8s l)) vs) : All2 (RepS ρ') (D.flat (.u8s l)) vs :=
 (All2.map_left D.u8).2 (((All2.map_left D.u8).1 h).mono fun _ _ h => h)
theorem AC.freeze {P : Program} {f : Nat} {args : List D} {np : Nat} {m0 : Mem} {n : Nat} {cap : Option Nat} {bs : B8} (hac : AC P f args np m0 ⟨.slice np [] 0 n cap, [], [(.row .cell, .u8s bs)]⟩)
  (hn : bs.length = n) (hnp : np < 999999 := by decide) : AC P f args np m0 ⟨.fz bs cap, [], []⟩ := by
 subst hn
 refine ⟨hac.1, fun ρ0 w0 vals hv hI hd => (hac.2 ρ0 w0 vals hv hI hd).mono ?_⟩
 rintro e w' ⟨v, ρ', rfl, hk, hdom, hret, hI'⟩
 have hgn : get (Out.mem np m0 ⟨.slice np [] 0 bs.length cap, [], [(.row .cell, .u8s bs)]⟩) np = some ⟨.row .cell, .u8s bs, true⟩ := by
  show get ((np, _) :: _) np = _
  rw [aK, if_pos rfl]
 have hgo : ∀ i, i ≠ np → get (Out.mem np m0 ⟨.slice np [] 0 bs.length cap, [], [(.row .cell, .u8s bs)]⟩) i = get m0 i := fun i hi => by
  show get ((np, _) :: m0) i = _
  rw [aK, if_neg (fun e => hi e.symm)]
 obtain ⟨L, hL, hs⟩ := hI'.sat np _ hgn
 obtain ⟨L', hL', hsl⟩ : ∃ L', ρ' np = some L' ∧ jP L' [] 0 bs.length cap v := hret
 rw [hL] at hL'; cases hL'
 have hty : L.ty = .row .cell := hs.ty
 let Lz : Loc := ⟨L.blk, L.base, L.n, Ty.ofBytes bs⟩
 have hbz : Lz.ty.bytes = bs := Ty.bytes_of bs
 have hrz : Lz.rowed = L := by
  obtain ⟨a, b, c, d⟩ := L
  simp only at hty; subst hty; rfl
 have hzn : ρ' (fzn L.blk) = none := by
  cases h : ρ' (fzn L.blk) with
  |none => rfl
  |some Lb => exact absurd rfl ((hI'.fz L.blk Lb h).2.2 np _ L hgn rfl hL)
 let ρz : Env := fun i => if i = np then none else if i = fzn L.blk then some Lz else ρ' i
 have hne : ∀ b, fzn b ≠ np := fun b => by unfold fzn; omega
 have ez : ρz (fzn L.blk) = some Lz := by
  show (if _ then _ else if _ then _ else _) = _
  rw [if_neg (hne _), if_pos rfl]
 have eo : ∀ i, i ≠ np → i ≠ fzn L.blk → ρz i = ρ' i := fun i h1 h2 => by
  show (if _ then _ else if _ then _ else _) = _
  rw [if_neg h1, if_neg h2]
 have h0n : ∀ i, ρ0 i ≠ none → i ≠ np := fun i hi e => by
  subst e
  have := hd _ hi; unfold Use at this; omega
 have hle0 := hk.le hd
 have h0z : ∀ i, ρ0 i ≠ none → i ≠ fzn L.blk := fun i hi e => by
  subst e
  cases h : ρ0 (fzn L.blk) with
  |none => exact hi h
  |some L1 => rw [hle0 _ _ h] at hzn; cases hzn
 have haway : ∀ i, ρ0 i ≠ none → ρz i = ρ' i := fun i hi => eo i (h0n i hi) (h0z i hi)
 have hzz : ∀ b L, ρ' (fzn b) = some L → ρz (fzn b) = some L := fun b Lb hb => by
  rw [eo _ (hne b) (fun e => by rw [e, hzn] at hb; cases hb)]; exact hb
 have hdm : ∀ i e, get m0 i = some e → ρ0 i ≠ none := fun i e h => by
  obtain ⟨L1, h1, _⟩ := hI.sat i e h
  rw [h1]; simp
 refine ⟨v, ρz, rfl, ⟨fun i hi => ?_, fun i L1 hi h => ?_, fun b hb => ?_⟩, fun i hi => ?_, ?_, ?_⟩
 ·rw [eo i (by unfold Fix at hi; omega) (by unfold Fix at hi; unfold fzn; omega)]; exact hk.fix i hi
 ·rw [haway i (by rw [h]; simp)]; exact hk.mono i L1 hi h
 ·by_cases hb' : b = L.blk
  ·subst hb'; exact .inr (hI'.own np _ L hgn rfl hL)
  ·rw [eo _ (hne b) (by unfold fzn; omega)] at hb; exact hk.new b hb
 ·by_cases h1 : i = np
  ·subst h1
   exact absurd (if_pos rfl : ρz i = none) hi
  ·by_cases h2 : i = fzn L.blk
   ·subst h2; right; unfold fzn; omega
   ·rw [eo i h1 h2] at hi
    have := hdom i hi
    unfold Use at this ⊢
    simp only [List.length_cons, List.length_nil] at this ⊢
    omega
 ·exact ⟨L.blk, Lz, 0, ez, by rw [hbz, List.drop_zero, List.take_length], by rw [hbz]; omega, by rw [hrz]; exact hsl⟩
 ·refine ⟨fun g L1 hg1 h => ?_, fun i e h => ?_, fun i j ei ej Li Lj hi hj hne' hr h1 h2 => ?_, fun i e Li h hr h1 => ?_, hI'.ext, hI'.size, hI'.os, hI'.out, hI'.tape, fun b Lb h => ?_⟩
  ·rw [eo _ (by unfold gid; omega) (by unfold gid fzn; omega)] at h
   exact hI'.glob g L1 hg1 h
  ·have h : get m0 i = some e := h
   have hn := hdm i e h
   obtain ⟨L0, k1, k2⟩ := hI.sat i e h
   obtain ⟨L1, k3, k4⟩ := hI'.sat i e (by rw [hgo i (h0n i hn)]; exact h)
   exact ⟨L1, by rw [haway i hn]; exact k3, aBf haway hzz k2 k4⟩
  ·have hi : get m0 i = some ei := hi
   have hj : get m0 j = some ej := hj
   rw [haway i (hdm i ei hi)] at h1
   rw [haway j (hdm j ej hj)] at h2
   exact hI'.inj i j ei ej Li Lj (by rw [hgo i (h0n i (hdm i ei hi))]; exact hi) (by rw [hgo j (h0n j (hdm j ej hj))]; exact hj) hne' hr h1 h2
  ·have h : get m0 i = some e := h
   rw [haway i (hdm i e h)] at h1
   exact hI'.own i e Li (by rw [hgo i (h0n i (hdm i e h))]; exact h) hr h1
  ·by_cases hb' : b = L.blk
   ·subst hb'
    rw [ez] at h; cases h
    refine ⟨rfl, ?_, fun i e Li hi hr hLi => ?_⟩
    ·obtain ⟨q1, q2, q3, C, t, fr, pre, front, tail, q4, q5, q6, q7, q8, q9⟩ := hs
     rw [show FzAt Lz w' = SatE (fun _ => none) ⟨.row .cell, .u8s Lz.ty.bytes, false⟩ Lz.rowed w' from rfl, hrz, hbz]
     exact ⟨q1, q2, trivial, C, t, fr, pre, front, tail, q4, q5, q6, q7, aBV q8, fun h => by cases h⟩
    ·have hi : get m0 i = some e := hi
     rw [haway i (hdm i e hi)] at hLi
     exact hI'.inj i np e _ Li L (by rw [hgo i (h0n i (hdm i e hi))]; exact hi) hgn (h0n i (hdm i e hi)) hr hLi hL
   ·rw [eo _ (hne b) (by unfold fzn; omega)] at h
    obtain ⟨h1, h2, h3⟩ := hI'.fz b Lb h
    refine ⟨h1, h2, fun i e Li hi hr hLi => ?_⟩
    have hi : get m0 i = some e := hi
    rw [haway i (hdm i e hi)] at hLi
    exact h3 i e Li (by rw [hgo i (h0n i (hdm i e hi))]; exact hi) hr hLi
def cut (k i : Nat) : Nat := match Nat.beq i k with
 |true => 999999
 |false => i
theorem cut_k (k : Nat) : cut k k = 999999 := by unfold cut; rw [Nat.beq_refl]
theorem cut_o {k i : Nat} (h : i ≠ k) : cut k i = i := by unfold cut; rw [aCq h]
def NoK (k : Nat) : Mem → Prop
 |[] => True
 |(_, some e) :: r => e.d.ren (cut k) = e.d ∧ NoK k r
 |(_, none) :: r => NoK k r
theorem NoK.mem {k : Nat} : ∀ {m : Mem} {i : Nat} {e : Ent}, NoK k m → (i, some e) ∈ m → e.d.ren (cut k) = e.d
 |(_, some e') :: r, i, e, h, hm => by
  rcases List.mem_cons.1 hm with h' | h'
  ·cases h'; exact h.1
  ·exact NoK.mem h.2 h'
 |(_, none) :: r, i, e, h, hm => by
  rcases List.mem_cons.1 hm with h' | h'
  ·cases h'
  ·exact NoK.mem (m := r) h h'
theorem aEo {k : Nat} {ρ ρ' : Env} (h9 : ρ 999999 = none) (h : ∀ i, i ≠ k → ρ' i = ρ i) : Env.le (fun i => ρ (cut k i)) ρ' := fun i L hi => by
 have hi : ρ (cut k i) = some L := hi
 by_cases hk : i = k
 ·rw [hk, cut_k, h9] at hi; cases hi
 ·rw [cut_o hk] at hi; rw [h i hk]; exact hi
theorem aEp {k : Nat} (hk : k < 999999) : ∀ i, 2000000 ≤ i → cut k i = i := fun i hi => cut_o (by omega)
theorem aBl {k : Nat} (hk : k < 999999) {ρ ρ' : Env} (h9 : ρ 999999 = none) (h : ∀ i, i ≠ k → ρ' i = ρ i) {d : D} {v : Value} (hd : d.ren (cut k) = d) (H : Rep ρ d v) : Rep ρ' d v := by
 rw [← hd] at H
 exact ((gT (aEp hk)).1 H).mono (aEo h9 h)
theorem aBe {k : Nat} (hk : k < 999999) {ρ ρ' : Env} (h9 : ρ 999999 = none) (h : ∀ i, i ≠ k → ρ' i = ρ i) {e : Ent} {L : Loc} {w : World} (hd : e.d.ren (cut k) = e.d) (H : SatE ρ e L w) : SatE ρ' e L w := by
 obtain ⟨q1, q2, q3, C, t, fr, pre, front, tail, q4, q5, q6, q7, q8, q9⟩ := H
 rw [← hd, eI] at q8
 exact ⟨q1, q2, q3, C, t, fr, pre, front, tail, q4, q5, q6, q7, ((All2.map_iff (fun a b => eF (aEp hk))).1 q8).mono fun _ _ => RepS.mono (aEo h9 h), q9⟩
theorem rG {k : Nat} (hk : k < 999999) {ρ ρ' : Env} (h9 : ρ 999999 = none) (h : ∀ i, i ≠ k → ρ' i = ρ i) : ∀ {ds : List D} {vs : List Value}, D.rens (cut k) ds = ds → All2 (Rep ρ) ds vs → All2 (Rep ρ') ds vs
 |[], [], _, _ => trivial
 |d :: ds, v :: vs, hd, H => by
  simp only [D.rens, List.cons.injEq] at hd
  exact ⟨aBl hk h9 h hd.1 H.1, rG hk h9 h hd.2 H.2⟩
 |[], _ :: _, _, H => H.elim
 |_ :: _, [], _, H => H.elim
theorem AC.thaw {P : Program} {f : Nat} {a1 a2 : List D} {bs : B8} {cap : Option Nat} {k : Nat} {m0 m1 : Mem} {o : Out} (hac : AC P f (a1 ++ .slice k [] 0 bs.length cap :: a2) (k + 1) m1 o)
  (hm : ∀ i, get m1 i = if i = k then some ⟨.row .cell, .u8s bs, false⟩ else get m0 i) (hm0 : get m0 k = none) (hk : k + 1 + o.nw.length ≤ 999998)
  (h1 : D.rens (cut k) a1 = a1) (h2 : D.rens (cut k) a2 = a2) (h3 : NoK k m0) (h4 : o.ret.ren (cut k) = o.ret) (h5 : NoK k (l8 (k + 1) m0 o)) : AC P f (a1 ++ .fz bs cap :: a2) (k + 1) m0 o := by
 have hk9 : k < 999999 := by omega
 refine ⟨hac.1, fun ρ0 w0 vals hv hI hd => ?_⟩
 obtain ⟨v1, vr, rfl, hv1, hvr⟩ := hv.split_left
 cases vr with
 |nil => exact hvr.elim
 |cons v v2 =>
 obtain ⟨hvz, hv2⟩ := hvr
 obtain ⟨b, L, q, hL, hbs, hql, hsl⟩ : ∃ b L q, ρ0 (fzn b) = some L ∧ bs = (L.ty.bytes.drop q).take bs.length ∧ q + bs.length ≤ L.ty.bytes.length ∧ jP L.rowed [] q bs.length cap v := hvz
 obtain ⟨hLb, hLz, hLw⟩ := hI.fz b L hL
 let Lk : Loc := ⟨L.blk, L.base + q, L.n, .row .cell⟩
 let ρ1 : Env := fun i => if i = k then some Lk else ρ0 i
 have h9 : ρ0 999999 = none := by
  cases h : ρ0 999999 with
  |none => rfl
  |some L9 => have := hd 999999 (by rw [h]; simp); unfold Use at this; omega
 have ek : ρ1 k = some Lk := if_pos rfl
 have eo : ∀ i, i ≠ k → ρ1 i = ρ0 i := fun i hi => if_neg hi
 have hgk : get m1 k = some ⟨.row .cell, .u8s bs, false⟩ := by rw [hm, if_pos rfl]
 have hgo : ∀ i, i ≠ k → get m1 i = get m0 i := fun i hi => by rw [hm, if_neg hi]
 have hcell : ∀ i e, get m1 i = some e → (i = k ∧ e = ⟨.row .cell, .u8s bs, false⟩) ∨ (i ≠ k ∧ get m0 i = some e) := by
  intro i e h
  by_cases hi : i = k
  ·subst hi; rw [hgk] at h; cases h; exact .inl ⟨rfl, rfl⟩
  ·rw [hgo i hi] at h; exact .inr ⟨hi, h⟩
 have hwp : ∀ b, eT ρ1 m1 b ↔ eT ρ0 m0 b := by
  intro b
  constructor
  ·rintro ⟨i, e, Li, g1, g2, g3, g4⟩
   rcases hcell i e g1 with ⟨rfl, rfl⟩ | ⟨hi, g5⟩
   ·cases g2
   ·exact ⟨i, e, Li, g5, g2, by rw [← eo i hi]; exact g3, g4⟩
  ·rintro ⟨i, e, Li, g1, g2, g3, g4⟩
   have hi : i ≠ k := fun e => by subst e; rw [hm0] at g1; cases g1
   exact ⟨i, e, Li, by rw [hgo i hi]; exact g1, g2, by rw [eo i hi]; exact g3, g4⟩
 have hI1 : Inv ⟨w0, eT ρ1 m1⟩ ρ1 m1 w0 := by
  refine ⟨fun g L1 hg1 h => ?_, fun i e h => ?_, fun i j ei ej Li Lj hi hj hne hr g1 g2 => ?_, fun i e Li h hr g1 => .inl ⟨i, e, Li, h, hr, g1, rfl⟩, fun _ _ _ => rfl, Nat.le_refl _, rfl, rfl, rfl, fun b' Lb h => ?_⟩
  ·rw [eo _ (by unfold gid; omega)] at h
   exact hI.glob g L1 hg1 h
  ·rcases hcell i e h with ⟨rfl, rfl⟩ | ⟨hi, h⟩
   ·refine ⟨Lk, ek, rfl, trivial, trivial, ?_⟩
    obtain ⟨q1, q2, q3, C, t, fr, pre, front, tail, q4, q5, q6, q7, q8, q9⟩ := hLz
    have e1 : L.ty.bytes = L.ty.bytes.take q ++ (bs ++ L.ty.bytes.drop (q + bs.length)) := by
     conv => lhs; rw [← List.take_append_drop q L.ty.bytes, ← List.take_append_drop bs.length (L.ty.bytes.drop q), ← hbs, List.drop_drop]
    have q8' : All2 (RepS fun _ => none) (L.ty.bytes.map D.u8) front := q8
    rw [e1, List.map_append, List.map_append] at q8'
    obtain ⟨f1, f2, e2, k1, k2⟩ := q8'.split_left
    obtain ⟨f3, f4, e3, k3, k4⟩ := k2.split_left
    have hf1 : f1.length = q := by rw [← k1.length, List.length_map, List.length_take]; omega
    exact ⟨C, t, fr, pre ++ f1, f3, f4 ++ tail, q4, by rw [q5, e2, e3]; simp, by rw [List.length_append, q6, hf1]; rfl, q7, aBV k3, fun h => by cases h⟩
   ·obtain ⟨Li, g1, g2⟩ := hI.sat i e h
    exact ⟨Li, by rw [eo i hi]; exact g1, aBe hk9 h9 eo (h3.mem (cC h)) g2⟩
  ·rcases hcell i ei hi with ⟨rfl, rfl⟩ | ⟨hi', hi⟩
   ·cases hr
   rw [eo i hi'] at g1
   rcases hcell j ej hj with ⟨rfl, rfl⟩ | ⟨hj', hj⟩
   ·rw [ek] at g2; cases g2
    show Li.blk ≠ L.blk
    rw [hLb]; exact hLw i ei Li hi hr g1
   ·rw [eo j hj'] at g2
    exact hI.inj i j ei ej Li Lj hi hj hne hr g1 g2
  ·rw [eo _ (by unfold fzn; omega)] at h
   obtain ⟨g1, g2, g3⟩ := hI.fz b' Lb h
   refine ⟨g1, g2, fun i e Li hi hr hLi => ?_⟩
   rcases hcell i e hi with ⟨rfl, rfl⟩ | ⟨hi', hi⟩
   ·cases hr
   ·rw [eo i hi'] at hLi
    exact g3 i e Li hi hr hLi
 have hrk : Rep ρ1 (.slice k [] 0 bs.length cap) v := by
  obtain ⟨T, t, a, c, s1, s2, s3, s4, s5, s6, s7⟩ := hsl
  refine ⟨Lk, ek, T, t, a, c, s1, s2, s3, s4, s5, s6, fun hc => ?_⟩
  have s1 : some (Ty.row .cell) = some T := s1
  cases s1
  have s2 : some Ty.cell = some t := s2
  cases s2
  obtain ⟨s8, s9⟩ := s7 hc
  refine ⟨by rw [s8]; show (⟨L.blk, L.base + 0 + q * 1, none⟩ : Addr) = ⟨L.blk, L.base + q + 0 + 0 * 1, none⟩; congr 1; omega, ?_⟩
  have s9 : L.base + 0 + (q + c) * 1 ≤ L.n := s9
  show L.base + q + 0 + (0 + c) * 1 ≤ L.n
  omega
 have hvals : All2 (Rep ρ1) (a1 ++ .slice k [] 0 bs.length cap :: a2) (v1 ++ v :: v2) := (rG hk9 h9 eo h1 hv1).append ⟨hrk, rG hk9 h9 eo h2 hv2⟩
 have hd1 : ∀ i, ρ1 i ≠ none → Use (k + 1) i := fun i hi => by
  by_cases h : i = k
  ·subst h; exact .inl (by omega)
  ·rw [eo i h] at hi; exact hd i hi
 refine (hac.2 ρ1 w0 _ hvals hI1 hd1).mono ?_
 rintro e w' ⟨v', ρ', rfl, hkp, hdom, hret, hI'⟩
 have h9' : ρ' 999999 = none := by
  cases h : ρ' 999999 with
  |none => rfl
  |some L9 => have := hdom 999999 (by rw [h]; simp); unfold Use at this; omega
 let ρ2 : Env := fun i => if i = k then ρ0 k else ρ' i
 have ek2 : ρ2 k = ρ0 k := if_pos rfl
 have eo2 : ∀ i, i ≠ k → ρ2 i = ρ' i := fun i hi => if_neg hi
 have hmem : ∀ i e, get (o.mem (k + 1) m0) i = some e → i ≠ k ∧ get (o.mem (k + 1) m1) i = some e := by
  intro i e h
  by_cases hi : i = k
  ·subst hi
   rw [eZ, if_neg (by omega)] at h
   split at h
   ·cases h
   ·rw [hm0] at h; cases h
   ·rw [hm0] at h; cases h
  ·refine ⟨hi, ?_⟩
   rw [eZ] at h ⊢
   rw [hgo i hi]; exact h
 refine ⟨v', ρ2, rfl, ⟨fun i hi => ?_, fun i L1 hi h => ?_, fun b' hb => ?_⟩, fun i hi => ?_, aBl hk9 h9' eo2 h4 hret, ?_⟩
 ·by_cases h : i = k
  ·rw [h, ek2]
  ·rw [eo2 i h, hkp.fix i hi, eo i h]
 ·rw [eo2 i (by omega)]
  exact hkp.mono i L1 hi (by rw [eo i (by omega)]; exact h)
 ·rw [eo2 _ (by unfold fzn; omega)] at hb
  rcases hkp.new b' hb with h | h | h
  ·rw [eo _ (by unfold fzn; omega)] at h; exact .inl h
  ·exact .inr (.inl ((hwp b').1 h))
  ·exact .inr (.inr h)
 ·by_cases h : i = k
  ·subst h; exact .inl (by omega)
  ·rw [eo2 i h] at hi; exact hdom i hi
 ·refine ⟨fun g L1 hg1 h => ?_, fun i e h => ?_, fun i j ei ej Li Lj hi hj hne hr g1 g2 => ?_, fun i e Li h hr g1 => ?_, fun b' hb hn => hI'.ext b' hb (fun h => hn ((hwp b').1 h)), hI'.size, hI'.os, hI'.out, hI'.tape, fun b' Lb h => ?_⟩
  ·rw [eo2 _ (by unfold gid; omega)] at h
   exact hI'.glob g L1 hg1 h
  ·obtain ⟨hi, h'⟩ := hmem i e h
   obtain ⟨Li, g1, g2⟩ := hI'.sat i e h'
   exact ⟨Li, by rw [eo2 i hi]; exact g1, aBe hk9 h9' eo2 (h5.mem (f9 h)) g2⟩
  ·obtain ⟨hi', hi⟩ := hmem i ei hi
   obtain ⟨hj', hj⟩ := hmem j ej hj
   rw [eo2 i hi'] at g1
   rw [eo2 j hj'] at g2
   exact hI'.inj i j ei ej Li Lj hi hj hne hr g1 g2
  ·obtain ⟨hi', h⟩ := hmem i e h
   rw [eo2 i hi'] at g1
   rcases hI'.own i e Li h hr g1 with h | h
   ·exact .inl ((hwp _).1 h)
   ·exact .inr h
  ·rw [eo2 _ (by unfold fzn; omega)] at h
   obtain ⟨g1, g2, g3⟩ := hI'.fz b' Lb h
   refine ⟨g1, g2, fun i e Li hi hr hLi => ?_⟩
   obtain ⟨hi', hi⟩ := hmem i e hi
   rw [eo2 i hi'] at hLi
   exact g3 i e Li hi hr hLi
theorem AC.thawA {P : Program} {f : Nat} {a1 a2 : List D} {bs : B8} {cap : Option Nat} {n k : Nat} {m0 m1 : Mem} {o : Out} (hac : AC P f (a1 ++ .slice k [] 0 n cap :: a2) (k + 1) m1 o) (hn : bs.length = n)
  (hm : ∀ i, get m1 i = if i = k then some ⟨.row .cell, .u8s bs, false⟩ else get m0 i)
  (hm0 : get m0 k = none := by rfl) (hk : Nat.ble (k + 1 + o.nw.length) 999998 = true := by rfl) (h1 : D.rens (cut k) a1 = a1 := by rfl) (h2 : D.rens (cut k) a2 = a2 := by rfl)
  (h3 : NoK k m0 := by ((repeat' (first | exact trivial | refine And.intro ?_ ?_)) <;> (first | rfl | exact Pure.ren _)))
  (h4 : o.ret.ren (cut k) = o.ret := by first | rfl | exact Pure.ren _)
  (h5 : NoK k (l8 (k + 1) m0 o) := by ((repeat' (first | exact trivial | refine And.intro ?_ ?_)) <;> (first | rfl | exact Pure.ren _))) : AC P f (a1 ++ .fz bs cap :: a2) (k + 1) m0 o := by
 subst hn
 exact AC.thaw hac hm hm0 (Nat.le_of_ble_eq_true hk) h1 h2 h3 h4 h5
theorem AC.lift {P : Program} {f : Nat} {args : List D} {np : Nat} {m0 : Mem} {r : D} (hac : AC P f args np m0 ⟨r, [], []⟩) (σ : List Nat) (np' : Nat) (m' : Mem) (hm : bQ (sig np np' 0 σ) m' m0)
  (hn : bS np (sig np np' 0 σ) m0 m0 = true := by rfl) (h1 : np ≤ 999999 := by decide) (h2 : np' ≤ 999999 := by decide) : AC P f (D.rens (sig np np' 0 σ) args) np' m' ⟨r.ren (sig np np' 0 σ), [], []⟩ := by
 refine ⟨hac.1, fun ρ1 w0 vals hvals hI hd => ?_⟩
 have hres : ρ1 999999 = none := by
  cases h : ρ1 999999 with
  |none => rfl
  |some L =>
   have := hd 999999 (by rw [h]; simp)
   rcases this with h | h <;> omega
 refine (qV (X := ⟨w0, eT ρ1 m'⟩) hI hac (nx := np') (σ := σ) hres (fun i h1 h2 => absurd h2 (by show ¬ i < np' + 0; omega)) (by show np' + 0 ≤ 999999; omega) (by show np + 0 ≤ 999999; omega) hm hn rfl hvals).mono ?_
 rintro e w' ⟨v, ρ', he, hle, hnew, hrep, hinv⟩
 exact ⟨v, ρ', he, (Keep.refl _ np' ρ1).step hle hnew (Nat.le_refl _) (by show np' + 0 ≤ 999999; omega), hnew.used hd, hrep, hinv⟩
theorem AC.view {P : Program} {f : Nat} {args : List D} {np : Nat} {m0 : Mem} {o : Out} (hac : AC P f args np m0 o) (o' : Out) (σ : List Nat) (h1 : o'.ret.ren (sig (np + o'.nw.length) 0 0 σ) = o.ret) (h2 : lE σ np = true)
  (h3 : bQ (sig (np + o'.nw.length) 0 0 σ) (o.mem np m0) (l8 np m0 o')) (h4 : bS (np + o'.nw.length) (sig (np + o'.nw.length) 0 0 σ) (l8 np m0 o') (l8 np m0 o') = true)
  (hl : np + o.nw.length ≤ 999998) (hl' : np + o'.nw.length ≤ 999998) : AC P f args np m0 o' := by
 refine ⟨hac.1, fun ρ0 w0 vals hv hI hd => (hac.2 ρ0 w0 vals hv hI hd).mono ?_⟩
 rintro e w ⟨v, ρ, rfl, hk, hdom, hret, hI'⟩
 generalize hs : sig (np + o'.nw.length) 0 0 σ = s at *
 have s_gid : ∀ i, 1000000 ≤ i → s i = i := by
  intro i hi
  rw [← hs]
  unfold sig
  have e1 : Nat.blt i (np + o'.nw.length) = false := by rw [cD]; simp; omega
  have e2 : Nat.ble 1000000 i = true := by simpa using hi
  rw [e1, e2]
 have s_np : ∀ i, i < np → s i = i := by
  intro i hi
  rw [← hs]
  unfold sig
  have e1 : Nat.blt i (np + o'.nw.length) = true := by rw [cD]; simp; omega
  rw [e1]
  exact iR h2 i hi
 have hres : ρ 999999 = none := by
  cases h : ρ 999999 with
  |none => rfl
  |some L => have := hdom 999999 (by rw [h]; simp); unfold Use at this; omega
 rw [← h1] at hret
 refine ⟨v, fun i => ρ (s i), rfl, ⟨fun i hi => ?_, fun i L hi h => ?_, fun b h => ?_⟩, fun i hi => ?_, (gT (fun i h => s_gid i (by omega)) (ρ := ρ)).1 hret, aBr hI' s_gid (fun i e h => dQ h3 (f9 h)) fun i j ei ej hi hj hne hr => ?_⟩
 ·show ρ (s i) = ρ0 i
  rcases hi with hi | hi
  ·rw [s_np i hi]; exact hk.fix i (.inl hi)
  ·rw [s_gid i hi.1]; exact hk.fix i (.inr hi)
 ·show ρ (s i) = some L
  rw [s_gid i (by omega)]; exact hk.mono i L hi h
 ·have h : ρ (s (fzn b)) ≠ none := h
  rw [s_gid _ (by unfold fzn; omega)] at h
  exact hk.new b h
 ·by_cases hf : Use (np + o'.nw.length) i
  ·exact hf
  ·have h' : ρ (s i) ≠ none := hi
   rw [← hs, rE hf] at h'
   exact absurd hres h'
 ·exact cZ (bL h4 (f9 hi)).2 (f9 hj) hne (.inl hr)
theorem AC.viewA {P : Program} {f : Nat} {args : List D} {np : Nat} {m0 : Mem} {o : Out} (hac : AC P f args np m0 o) (o' : Out) (σ : List Nat)
  (h3 : bQ (sig (np + o'.nw.length) 0 0 σ) (o.mem np m0) (l8 np m0 o') := by ((repeat' (first | exact trivial | refine And.intro ⟨_, rfl, rfl, ?_, id⟩ ?_ | refine And.intro ⟨_, rfl, rfl, ?_, fun _ => rfl⟩ ?_)) <;> (first | rfl | exact (Pure.ren _).symm | exact (Pure.ren _).trans (Pure.ren _).symm | (simp only [Nat.zero_add]; rfl) | (simp only [D.ren, D.rens, cV]; rfl))))
  (h1 : o'.ret.ren (sig (np + o'.nw.length) 0 0 σ) = o.ret := by first | rfl | exact Pure.ren _) (h2 : lE σ np = true := by rfl)
  (h4 : bS (np + o'.nw.length) (sig (np + o'.nw.length) 0 0 σ) (l8 np m0 o') (l8 np m0 o') = true := by rfl)
  (hl : Nat.ble (np + o.nw.length) 999998 = true := by rfl) (hl' : Nat.ble (np + o'.nw.length) 999998 = true := by rfl) : AC P f args np m0 o' :=
 AC.view hac o' σ h1 h2 h3 h4 (Nat.le_of_ble_eq_true hl) (Nat.le_of_ble_eq_true hl')
def aDu : List Oper → List Oper
 |[] => []
 |[_] => []
 |x :: y :: r => x :: aDu (y :: r)
def aFs : List Oper → Option Oper
 |[] => none
 |[x] => some x
 |_ :: y :: r => aFs (y :: r)
theorem aCX : ∀ {l : List Oper} {d : Oper}, aFs l = some d → l = aDu l ++ [d]
 |[], _, h => by cases h
 |[_], _, h => by cases h; rfl
 |x :: y :: r, d, h => congrArg (x :: ·) (aCX (l := y :: r) h)
structure DefG (P : Program) (Γ : Tab) (N : Nat) (pl : Pl) (fv : Operand) (rest : Code) (rs : List ResultVar) (np : Nat) (m0 : Mem) (o : Out) (tm : TM) (m : Mem) (nx : Nat) : Prop where
 out : ∃ g bs cs, opd tm (get m) fv = some (.fn g bs cs) ∧ gG P Γ N pl rest true nx tm m nx (aDF P Γ rs np m0 o g bs cs) (fun _ _ _ _ => False) (aDF P Γ rs np m0 o g bs cs)
theorem acD {P : Program} {Γ : Tab} (hΓ : b8 P Γ) (hmix : P.follows .mixedOrders = true) {f : Nat} {fn : Func} {c1 c2 c3 c4 rest : Code} {rid : Nat} {arr : Array Oper} {dop : Oper} {dc : Call} {fv : Operand} (hf : P.funcs[f]? = some fn)
  {args : List D} {np : Nat} {m0 : Mem} {o : Out} (pl : Pl)
  (h : preP P Γ fn.ntmps pl np [c1, c2, c3, c4] (nR 0 args) m0 np (fun tm m nx => aE4 P Γ fn.ntmps arr.toList (aDu arr.toList) tm m nx (DefG P Γ fn.ntmps pl fv rest fn.results.toList np m0 o)) (aAH Γ fn.results.toList np m0 o))
  (hb : fn.body = some (c1.seq (c2.seq (c3.seq (c4.seq ((Code.region rid arr false).seq rest))))) := by rfl) (hname : (fn.name == "runtime.NumGoroutine") = false := by kernel_rfl)
  (hl : aFs arr.toList = some dop := by rfl) (hd : dop.op = .defer dc := by rfl) (hg : dop.guard = none := by rfl) (hdst : dop.dst = none := by rfl) (hcal : dc.callee = .value fv := by rfl) (hargs : dc.args = #[] := by rfl)
  (hsz : Nat.ble args.length fn.ntmps = true := by kernel_rfl) (hnp : Nat.ble (np + o.nw.length) 999998 = true := by kernel_rfl) : AC P f args np m0 o := by
 have e := aCX hl
 refine aEX hΓ hmix hf hb hname hsz hnp pl [c1, c2, c3, c4] rid (aDu arr.toList) dop dc fv rest ?_ hd hg hdst hcal hargs ?_
 ·rw [← e]; rfl
 ·rw [← e]
  have hm : ∀ (tm : TM) (m : Mem) (nx : Nat), DefG P Γ fn.ntmps pl fv rest fn.results.toList np m0 o tm m nx = (∃ g bs cs, opd tm (get m) fv = some (.fn g bs cs) ∧ gG P Γ fn.ntmps pl rest true nx tm m nx (aDF P Γ fn.results.toList np m0 o g bs cs) (fun _ _ _ _ => False) (aDF P Γ fn.results.toList np m0 o g bs cs)) :=
   fun tm m nx => propext ⟨fun h => h.out, fun h => ⟨h⟩⟩
  have hf2 : DefG P Γ fn.ntmps pl fv rest fn.results.toList np m0 o = fun (tm : TM) (m : Mem) (nx : Nat) => (∃ g bs cs, opd tm (get m) fv = some (.fn g bs cs) ∧ gG P Γ fn.ntmps pl rest true nx tm m nx (aDF P Γ fn.results.toList np m0 o g bs cs) (fun _ _ _ _ => False) (aDF P Γ fn.results.toList np m0 o g bs cs)) := by
   funext tm m nx; exact hm tm m nx
  rw [hf2] at h
  exact h
def Γ : Tab := (.n (.n (.n (.n (.n (.n (.n (.n .z 1 ⟨.fn, .cell, .nilfn, 8, false⟩
 .z) 2 ⟨.int .i64, .cell, .i64 0, 8, false⟩
 (.n .z 3 ⟨.int .i64, .cell, .i64 0, 8, false⟩
 .z)) 4 ⟨.bool, .cell, .bool false, 1, false⟩
 (.n (.n .z 5 ⟨.int .u8, .cell, .u8 0, 1, false⟩
 .z) 9 ⟨.str, .cell, .str [], 16, false⟩
 (.n .z 12 ⟨.int .u64, .cell, .u64 0, 8, false⟩
 .z))) 22 ⟨.int .u32, .cell, .u32 0, 4, false⟩
 (.n (.n (.n .z 23 ⟨.arr 32 5, .arr 32 (.cell), .u8s (List.replicate 32 0), 32, true⟩
 .z) 24 ⟨.arr 32 5, .arr 32 (.cell), .u8s (List.replicate 32 0), 32, true⟩
 (.n .z 25 ⟨.st [22, 24], .st [.cell, .arr 32 (.cell)], .node [.u32 0, .u8s (List.replicate 32 0)], 36, true⟩
 .z)) 26 ⟨.st [22, 24], .st [.cell, .arr 32 (.cell)], .node [.u32 0, .u8s (List.replicate 32 0)], 36, true⟩
 (.n (.n .z 27 ⟨.ptr 100, .cell, .nilptr, 8, false⟩
 .z) 28 ⟨.fn, .cell, .nilfn, 8, false⟩
 (.n .z 29 ⟨.ptr 141, .cell, .nilptr, 8, false⟩
 .z)))) 30 ⟨.fn, .cell, .nilfn, 8, false⟩
 (.n (.n (.n (.n .z 31 ⟨.st [3, 3], .st [.cell, .cell], .node [.i64 0, .i64 0], 16, true⟩
 .z) 32 ⟨.st [3, 3], .st [.cell, .cell], .node [.i64 0, .i64 0], 16, true⟩
 (.n .z 33 ⟨.fn, .cell, .nilfn, 8, false⟩
 .z)) 34 ⟨.arr 32 5, .arr 32 (.cell), .u8s (List.replicate 32 0), 32, true⟩
 (.n (.n .z 35 ⟨.ptr 104, .cell, .nilptr, 8, false⟩
 .z) 36 ⟨.fn, .cell, .nilfn, 8, false⟩
 (.n .z 37 ⟨.slice 5, .cell, .nilslice, 24, false⟩
 .z))) 38 ⟨.int .i64, .cell, .i64 0, 8, false⟩
 (.n (.n (.n .z 40 ⟨.fn, .cell, .nilfn, 8, false⟩
 .z) 42 ⟨.fn, .cell, .nilfn, 8, false⟩
 (.n .z 43 ⟨.slice 26, .cell, .nilslice, 24, false⟩
 .z)) 45 ⟨.fn, .cell, .nilfn, 8, false⟩
 (.n (.n .z 46 ⟨.fn, .cell, .nilfn, 8, false⟩
 .z) 47 ⟨.fn, .cell, .nilfn, 8, false⟩
 (.n .z 48 ⟨.slice 53, .cell, .nilslice, 24, false⟩
 .z))))) 49 ⟨.fn, .cell, .nilfn, 8, false⟩
 (.n (.n (.n (.n (.n .z 50 ⟨.slice 51, .cell, .nilslice, 24, false⟩
 .z) 51 ⟨.arr 64 3, .arr 64 (.cell), .node (List.replicate 64 (.i64 0)), 512, true⟩
 (.n .z 52 ⟨.st [5, 37, 5], .st [.cell, .cell, .cell], .node [.u8 0, .nilslice, .u8 0], 40, false⟩
 .z)) 53 ⟨.st [5, 37, 5], .st [.cell, .cell, .cell], .node [.u8 0, .nilslice, .u8 0], 40, false⟩
 (.n (.n .z 54 ⟨.arr 64 4, .arr 64 (.cell), .node (List.replicate 64 (.bool false)), 64, true⟩
 .z) 55 ⟨.slice 58, .cell, .nilslice, 24, false⟩
 (.n .z 56 ⟨.fn, .cell, .nilfn, 8, false⟩
 .z))) 57 ⟨.st [3, 37], .st [.cell, .cell], .node [.i64 0, .nilslice], 32, false⟩
 (.n (.n (.n .z 58 ⟨.st [3, 37], .st [.cell, .cell], .node [.i64 0, .nilslice], 32, false⟩
 .z) 59 ⟨.fn, .cell, .nilfn, 8, false⟩
 (.n .z 60 ⟨.fn, .cell, .nilfn, 8, false⟩
 .z)) 61 ⟨.arr 101 4, .arr 101 (.cell), .node (List.replicate 101 (.bool false)), 101, true⟩
 (.n (.n .z 62 ⟨.fn, .cell, .nilfn, 8, false⟩
 .z) 63 ⟨.fn, .cell, .nilfn, 8, false⟩
 (.n .z 64 ⟨.fn, .cell, .nilfn, 8, false⟩
 .z)))) 65 ⟨.arr 8 4, .arr 8 (.cell), .node (List.replicate 8 (.bool false)), 8, true⟩
 (.n (.n (.n (.n .z 66 ⟨.fn, .cell, .nilfn, 8, false⟩
 .z) 67 ⟨.fn, .cell, .nilfn, 8, false⟩
 (.n .z 68 ⟨.fn, .cell, .nilfn, 8, false⟩
 .z)) 69 ⟨.slice 92, .cell, .nilslice, 24, false⟩
 (.n (.n .z 70 ⟨.fn, .cell, .nilfn, 8, false⟩
 .z) 71 ⟨.arr 16 5, .arr 16 (.cell), .u8s (List.replicate 16 0), 16, true⟩
 (.n .z 72 ⟨.arr 15 71, .arr 15 (.arr 16 (.cell)), .node (List.replicate 15 (.u8s (List.replicate 16 0))), 240, true⟩
 .z))) 73 ⟨.st [72, 72], .st [.arr 15 (.arr 16 (.cell)), .arr 15 (.arr 16 (.cell))], .node [.node (List.replicate 15 (.u8s (List.replicate 16 0))), .node (List.replicate 15 (.u8s (List.replicate 16 0)))], 480, true⟩
 (.n (.n (.n .z 74 ⟨.st [72, 72], .st [.arr 15 (.arr 16 (.cell)), .arr 15 (.arr 16 (.cell))], .node [.node (List.replicate 15 (.u8s (List.replicate 16 0))), .node (List.replicate 15 (.u8s (List.replicate 16 0)))], 480, true⟩
 .z) 75 ⟨.st [32, 74, 34], .st [.st [.cell, .cell], .st [.arr 15 (.arr 16 (.cell)), .arr 15 (.arr 16 (.cell))], .arr 32 (.cell)], .node [.node [.i64 0, .i64 0], .node [.node (List.replicate 15 (.u8s (List.replicate 16 0))), .node (List.replicate 15 (.u8s (List.replicate 16 0)))], .u8s (List.replicate 32 0)], 528, true⟩
 (.n .z 76 ⟨.st [32, 74, 34], .st [.st [.cell, .cell], .st [.arr 15 (.arr 16 (.cell)), .arr 15 (.arr 16 (.cell))], .arr 32 (.cell)], .node [.node [.i64 0, .i64 0], .node [.node (List.replicate 15 (.u8s (List.replicate 16 0))), .node (List.replicate 15 (.u8s (List.replicate 16 0)))], .u8s (List.replicate 32 0)], 528, true⟩
 .z)) 77 ⟨.slice 281, .cell, .nilslice, 24, false⟩
 (.n (.n .z 78 ⟨.st [3, 9, 9, 77, 3, 4, 4, 3, 4], .st [.cell, .cell, .cell, .cell, .cell, .cell, .cell, .cell, .cell], .node [.i64 0, .str [], .str [], .nilslice, .i64 0, .bool false, .bool false, .i64 0, .bool false], 96, false⟩
 .z) 79 ⟨.st [3, 9, 9, 77, 3, 4, 4, 3, 4], .st [.cell, .cell, .cell, .cell, .cell, .cell, .cell, .cell, .cell], .node [.i64 0, .str [], .str [], .nilslice, .i64 0, .bool false, .bool false, .i64 0, .bool false], 96, false⟩
 (.n .z 80 ⟨.slice 22, .cell, .nilslice, 24, false⟩
 .z)))))) 81 ⟨.st [3, 80], .st [.cell, .cell], .node [.i64 0, .nilslice], 32, false⟩
 (.n (.n (.n (.n (.n (.n .z 82 ⟨.st [3, 80], .st [.cell, .cell], .node [.i64 0, .nilslice], 32, false⟩
 .z) 83 ⟨.st [76, 79, 82], .st [.st [.st [.cell, .cell], .st [.arr 15 (.arr 16 (.cell)), .arr 15 (.arr 16 (.cell))], .arr 32 (.cell)], .st [.cell, .cell, .cell, .cell, .cell, .cell, .cell, .cell, .cell], .st [.cell, .cell]], .node [.node [.node [.i64 0, .i64 0], .node [.node (List.replicate 15 (.u8s (List.replicate 16 0))), .node (List.replicate 15 (.u8s (List.replicate 16 0)))], .u8s (List.replicate 32 0)], .node [.i64 0, .str [], .str [], .nilslice, .i64 0, .bool false, .bool false, .i64 0, .bool false], .node [.i64 0, .nilslice]], 656, false⟩
 (.n .z 84 ⟨.st [76, 79, 82], .st [.st [.st [.cell, .cell], .st [.arr 15 (.arr 16 (.cell)), .arr 15 (.arr 16 (.cell))], .arr 32 (.cell)], .st [.cell, .cell, .cell, .cell, .cell, .cell, .cell, .cell, .cell], .st [.cell, .cell]], .node [.node [.node [.i64 0, .i64 0], .node [.node (List.replicate 15 (.u8s (List.replicate 16 0))), .node (List.replicate 15 (.u8s (List.replicate 16 0)))], .u8s (List.replicate 32 0)], .node [.i64 0, .str [], .str [], .nilslice, .i64 0, .bool false, .bool false, .i64 0, .bool false], .node [.i64 0, .nilslice]], 656, false⟩
 .z)) 85 ⟨.st [29, 27, 35, 84, 43], .st [.cell, .cell, .cell, .st [.st [.st [.cell, .cell], .st [.arr 15 (.arr 16 (.cell)), .arr 15 (.arr 16 (.cell))], .arr 32 (.cell)], .st [.cell, .cell, .cell, .cell, .cell, .cell, .cell, .cell, .cell], .st [.cell, .cell]], .cell], .node [.nilptr, .nilptr, .nilptr, .node [.node [.node [.i64 0, .i64 0], .node [.node (List.replicate 15 (.u8s (List.replicate 16 0))), .node (List.replicate 15 (.u8s (List.replicate 16 0)))], .u8s (List.replicate 32 0)], .node [.i64 0, .str [], .str [], .nilslice, .i64 0, .bool false, .bool false, .i64 0, .bool false], .node [.i64 0, .nilslice]], .nilslice], 704, false⟩
 (.n (.n .z 86 ⟨.st [29, 27, 35, 84, 43], .st [.cell, .cell, .cell, .st [.st [.st [.cell, .cell], .st [.arr 15 (.arr 16 (.cell)), .arr 15 (.arr 16 (.cell))], .arr 32 (.cell)], .st [.cell, .cell, .cell, .cell, .cell, .cell, .cell, .cell, .cell], .st [.cell, .cell]], .cell], .node [.nilptr, .nilptr, .nilptr, .node [.node [.node [.i64 0, .i64 0], .node [.node (List.replicate 15 (.u8s (List.replicate 16 0))), .node (List.replicate 15 (.u8s (List.replicate 16 0)))], .u8s (List.replicate 32 0)], .node [.i64 0, .str [], .str [], .nilslice, .i64 0, .bool false, .bool false, .i64 0, .bool false], .node [.i64 0, .nilslice]], .nilslice], 704, false⟩
 .z) 87 ⟨.fn, .cell, .nilfn, 8, false⟩
 (.n .z 88 ⟨.fn, .cell, .nilfn, 8, false⟩
 .z))) 89 ⟨.slice 168, .cell, .nilslice, 24, false⟩
 (.n (.n (.n .z 90 ⟨.int .u16, .cell, .u16 0, 2, false⟩
 .z) 91 ⟨.st [5, 5, 89, 5, 4, 90], .st [.cell, .cell, .cell, .cell, .cell, .cell], .node [.u8 0, .u8 0, .nilslice, .u8 0, .bool false, .u16 0], 40, false⟩
 (.n .z 92 ⟨.st [5, 5, 89, 5, 4, 90], .st [.cell, .cell, .cell, .cell, .cell, .cell], .node [.u8 0, .u8 0, .nilslice, .u8 0, .bool false, .u16 0], 40, false⟩
 .z)) 93 ⟨.fn, .cell, .nilfn, 8, false⟩
 (.n (.n .z 94 ⟨.fn, .cell, .nilfn, 8, false⟩
 .z) 95 ⟨.fn, .cell, .nilfn, 8, false⟩
 (.n .z 96 ⟨.ptr 147, .cell, .nilptr, 8, false⟩
 .z)))) 97 ⟨.fn, .cell, .nilfn, 8, false⟩
 (.n (.n (.n (.n .z 98 ⟨.fn, .cell, .nilfn, 8, false⟩
 .z) 99 ⟨.st [29, 32, 96, 34], .st [.cell, .st [.cell, .cell], .cell, .arr 32 (.cell)], .node [.nilptr, .node [.i64 0, .i64 0], .nilptr, .u8s (List.replicate 32 0)], 64, false⟩
 (.n .z 100 ⟨.st [29, 32, 96, 34], .st [.cell, .st [.cell, .cell], .cell, .arr 32 (.cell)], .node [.nilptr, .node [.i64 0, .i64 0], .nilptr, .u8s (List.replicate 32 0)], 64, false⟩
 .z)) 101 ⟨.fn, .cell, .nilfn, 8, false⟩
 (.n (.n .z 102 ⟨.slice 118, .cell, .nilslice, 24, false⟩
 .z) 103 ⟨.st [3, 3, 102], .st [.cell, .cell, .cell], .node [.i64 0, .i64 0, .nilslice], 40, false⟩
 (.n .z 104 ⟨.st [3, 3, 102], .st [.cell, .cell, .cell], .node [.i64 0, .i64 0, .nilslice], 40, false⟩
 .z))) 105 ⟨.slice 3, .cell, .nilslice, 24, false⟩
 (.n (.n (.n .z 106 ⟨.arr 8 26, .arr 8 (.st [.cell, .arr 32 (.cell)]), .node (List.replicate 8 (.node [.u32 0, .u8s (List.replicate 32 0)])), 288, true⟩
 .z) 107 ⟨.arr 8 26, .arr 8 (.st [.cell, .arr 32 (.cell)]), .node (List.replicate 8 (.node [.u32 0, .u8s (List.replicate 32 0)])), 288, true⟩
 (.n .z 109 ⟨.fn, .cell, .nilfn, 8, false⟩
 .z)) 110 ⟨.fn, .cell, .nilfn, 8, false⟩
 (.n (.n .z 111 ⟨.fn, .cell, .nilfn, 8, false⟩
 .z) 112 ⟨.ptr 114, .cell, .nilptr, 8, false⟩
 (.n .z 113 ⟨.st [27, 35, 80], .st [.cell, .cell, .cell], .node [.nilptr, .nilptr, .nilslice], 40, false⟩
 .z))))) 114 ⟨.st [27, 35, 80], .st [.cell, .cell, .cell], .node [.nilptr, .nilptr, .nilslice], 40, false⟩
 (.n (.n (.n (.n (.n .z 115 ⟨.fn, .cell, .nilfn, 8, false⟩
 .z) 116 ⟨.fn, .cell, .nilfn, 8, false⟩
 (.n .z 117 ⟨.fn, .cell, .nilfn, 8, false⟩
 .z)) 118 ⟨.int .u64, .cell, .u64 0, 8, false⟩
 (.n (.n .z 119 ⟨.fn, .cell, .nilfn, 8, false⟩
 .z) 120 ⟨.fn, .cell, .nilfn, 8, false⟩
 (.n .z 121 ⟨.fn, .cell, .nilfn, 8, false⟩
 .z))) 122 ⟨.fn, .cell, .nilfn, 8, false⟩
 (.n (.n (.n .z 123 ⟨.ptr 86, .cell, .nilptr, 8, false⟩
 .z) 124 ⟨.fn, .cell, .nilfn, 8, false⟩
 (.n .z 126 ⟨.fn, .cell, .nilfn, 8, false⟩
 .z)) 128 ⟨.fn, .cell, .nilfn, 8, false⟩
 (.n (.n .z 129 ⟨.fn, .cell, .nilfn, 8, false⟩
 .z) 130 ⟨.fn, .cell, .nilfn, 8, false⟩
 (.n .z 131 ⟨.fn, .cell, .nilfn, 8, false⟩
 .z)))) 132 ⟨.slice 169, .cell, .nilslice, 24, false⟩
 (.n (.n (.n (.n .z 134 ⟨.fn, .cell, .nilfn, 8, false⟩
 .z) 136 ⟨.fn, .cell, .nilfn, 8, false⟩
 (.n .z 137 ⟨.fn, .cell, .nilfn, 8, false⟩
 .z)) 138 ⟨.slice 260, .cell, .nilslice, 24, false⟩
 (.n (.n .z 139 ⟨.ptr 270, .cell, .nilptr, 8, false⟩
 .z) 140 ⟨.st [3, 37, 37, 138, 3, 4, 139], .st [.cell, .cell, .cell, .cell, .cell, .cell, .cell], .node [.i64 0, .nilslice, .nilslice, .nilslice, .i64 0, .bool false, .nilptr], 104, false⟩
 (.n .z 141 ⟨.st [3, 37, 37, 138, 3, 4, 139], .st [.cell, .cell, .cell, .cell, .cell, .cell, .cell], .node [.i64 0, .nilslice, .nilslice, .nilslice, .i64 0, .bool false, .nilptr], 104, false⟩
 .z))) 142 ⟨.fn, .cell, .nilfn, 8, false⟩
 (.n (.n (.n .z 143 ⟨.fn, .cell, .nilfn, 8, false⟩
 .z) 144 ⟨.ptr 182, .cell, .nilptr, 8, false⟩
 (.n .z 145 ⟨.fn, .cell, .nilfn, 8, false⟩
 .z)) 146 ⟨.st [144, 144], .st [.cell, .cell], .node [.nilptr, .nilptr], 16, false⟩
 (.n (.n .z 147 ⟨.st [144, 144], .st [.cell, .cell], .node [.nilptr, .nilptr], 16, false⟩
 .z) 148 ⟨.fn, .cell, .nilfn, 8, false⟩
 (.n .z 149 ⟨.fn, .cell, .nilfn, 8, false⟩
 .z))))))) 150 ⟨.fn, .cell, .nilfn, 8, false⟩
 (.n (.n (.n (.n (.n (.n (.n .z 151 ⟨.fn, .cell, .nilfn, 8, false⟩
 .z) 152 ⟨.fn, .cell, .nilfn, 8, false⟩
 (.n .z 153 ⟨.fn, .cell, .nilfn, 8, false⟩
 .z)) 154 ⟨.fn, .cell, .nilfn, 8, false⟩
 (.n (.n .z 156 ⟨.fn, .cell, .nilfn, 8, false⟩
 .z) 157 ⟨.fn, .cell, .nilfn, 8, false⟩
 (.n .z 158 ⟨.fn, .cell, .nilfn, 8, false⟩
 .z))) 159 ⟨.fn, .cell, .nilfn, 8, false⟩
 (.n (.n (.n .z 160 ⟨.fn, .cell, .nilfn, 8, false⟩
 .z) 161 ⟨.fn, .cell, .nilfn, 8, false⟩
 (.n .z 163 ⟨.fn, .cell, .nilfn, 8, false⟩
 .z)) 164 ⟨.fn, .cell, .nilfn, 8, false⟩
 (.n (.n .z 165 ⟨.fn, .cell, .nilfn, 8, false⟩
 .z) 166 ⟨.fn, .cell, .nilfn, 8, false⟩
 (.n .z 167 ⟨.fn, .cell, .nilfn, 8, false⟩
 .z)))) 169 ⟨.st [3, 37], .st [.cell, .cell], .node [.i64 0, .nilslice], 32, false⟩
 (.n (.n (.n (.n .z 170 ⟨.fn, .cell, .nilfn, 8, false⟩
 .z) 171 ⟨.fn, .cell, .nilfn, 8, false⟩
 (.n .z 172 ⟨.fn, .cell, .nilfn, 8, false⟩
 .z)) 173 ⟨.fn, .cell, .nilfn, 8, false⟩
 (.n (.n .z 174 ⟨.fn, .cell, .nilfn, 8, false⟩
 .z) 175 ⟨.slice 37, .cell, .nilslice, 24, false⟩
 (.n .z 176 ⟨.ptr 217, .cell, .nilptr, 8, false⟩
 .z))) 177 ⟨.fn, .cell, .nilfn, 8, false⟩
 (.n (.n (.n .z 178 ⟨.fn, .cell, .nilfn, 8, false⟩
 .z) 179 ⟨.fn, .cell, .nilfn, 8, false⟩
 (.n .z 180 ⟨.fn, .cell, .nilfn, 8, false⟩
 .z)) 181 ⟨.st [72], .st [.arr 15 (.arr 16 (.cell))], .node [.node (List.replicate 15 (.u8s (List.replicate 16 0)))], 240, true⟩
 (.n (.n .z 182 ⟨.st [72], .st [.arr 15 (.arr 16 (.cell))], .node [.node (List.replicate 15 (.u8s (List.replicate 16 0)))], 240, true⟩
 .z) 183 ⟨.ptr 226, .cell, .nilptr, 8, false⟩
 (.n .z 184 ⟨.fn, .cell, .nilfn, 8, false⟩
 .z))))) 185 ⟨.fn, .cell, .nilfn, 8, false⟩
 (.n (.n (.n (.n (.n .z 186 ⟨.fn, .cell, .nilfn, 8, false⟩
 .z) 187 ⟨.fn, .cell, .nilfn, 8, false⟩
 (.n .z 188 ⟨.fn, .cell, .nilfn, 8, false⟩
 .z)) 189 ⟨.fn, .cell, .nilfn, 8, false⟩
 (.n (.n .z 190 ⟨.fn, .cell, .nilfn, 8, false⟩
 .z) 191 ⟨.fn, .cell, .nilfn, 8, false⟩
 (.n .z 192 ⟨.fn, .cell, .nilfn, 8, false⟩
 .z))) 193 ⟨.fn, .cell, .nilfn, 8, false⟩
 (.n (.n (.n .z 194 ⟨.fn, .cell, .nilfn, 8, false⟩
 .z) 195 ⟨.ptr 235, .cell, .nilptr, 8, false⟩
 (.n .z 196 ⟨.fn, .cell, .nilfn, 8, false⟩
 .z)) 197 ⟨.ptr 26, .cell, .nilptr, 8, false⟩
 (.n (.n .z 198 ⟨.fn, .cell, .nilfn, 8, false⟩
 .z) 199 ⟨.fn, .cell, .nilfn, 8, false⟩
 (.n .z 200 ⟨.fn, .cell, .nilfn, 8, false⟩
 .z)))) 201 ⟨.fn, .cell, .nilfn, 8, false⟩
 (.n (.n (.n (.n .z 202 ⟨.fn, .cell, .nilfn, 8, false⟩
 .z) 203 ⟨.fn, .cell, .nilfn, 8, false⟩
 (.n .z 204 ⟨.fn, .cell, .nilfn, 8, false⟩
 .z)) 205 ⟨.fn, .cell, .nilfn, 8, false⟩
 (.n (.n .z 206 ⟨.fn, .cell, .nilfn, 8, false⟩
 .z) 208 ⟨.fn, .cell, .nilfn, 8, false⟩
 (.n .z 210 ⟨.fn, .cell, .nilfn, 8, false⟩
 .z))) 211 ⟨.fn, .cell, .nilfn, 8, false⟩
 (.n (.n (.n .z 212 ⟨.fn, .cell, .nilfn, 8, false⟩
 .z) 213 ⟨.arr 8 22, .arr 8 (.cell), .u32s (List.replicate 8 0), 32, true⟩
 (.n .z 214 ⟨.arr 8 22, .arr 8 (.cell), .u32s (List.replicate 8 0), 32, true⟩
 .z)) 215 ⟨.fn, .cell, .nilfn, 8, false⟩
 (.n (.n .z 216 ⟨.st [214, 37, 3], .st [.arr 8 (.cell), .cell, .cell], .node [.u32s (List.replicate 8 0), .nilslice, .i64 0], 64, false⟩
 .z) 217 ⟨.st [214, 37, 3], .st [.arr 8 (.cell), .cell, .cell], .node [.u32s (List.replicate 8 0), .nilslice, .i64 0], 64, false⟩
 (.n .z 218 ⟨.fn, .cell, .nilfn, 8, false⟩
 .z)))))) 219 ⟨.arr 240 5, .arr 240 (.cell), .u8s (List.replicate 240 0), 240, true⟩
 (.n (.n (.n (.n (.n (.n .z 220 ⟨.arr 4 5, .arr 4 (.cell), .u8s (List.replicate 4 0), 4, true⟩
 .z) 221 ⟨.arr 256 5, .arr 256 (.cell), .u8s (List.replicate 256 0), 256, true⟩
 (.n .z 222 ⟨.fn, .cell, .nilfn, 8, false⟩
 .z)) 223 ⟨.fn, .cell, .nilfn, 8, false⟩
 (.n (.n .z 224 ⟨.arr 64 5, .arr 64 (.cell), .u8s (List.replicate 64 0), 64, true⟩
 .z) 225 ⟨.st [176, 224], .st [.cell, .arr 64 (.cell)], .node [.nilptr, .u8s (List.replicate 64 0)], 72, false⟩
 (.n .z 226 ⟨.st [176, 224], .st [.cell, .arr 64 (.cell)], .node [.nilptr, .u8s (List.replicate 64 0)], 72, false⟩
 .z))) 227 ⟨.fn, .cell, .nilfn, 8, false⟩
 (.n (.n (.n .z 228 ⟨.fn, .cell, .nilfn, 8, false⟩
 .z) 229 ⟨.arr 16 5, .arr 16 (.cell), .u8s (List.replicate 16 0), 16, true⟩
 (.n .z 230 ⟨.fn, .cell, .nilfn, 8, false⟩
 .z)) 231 ⟨.fn, .cell, .nilfn, 8, false⟩
 (.n (.n .z 232 ⟨.fn, .cell, .nilfn, 8, false⟩
 .z) 233 ⟨.fn, .cell, .nilfn, 8, false⟩
 (.n .z 234 ⟨.st [37, 38], .st [.cell, .cell], .node [.nilslice, .i64 0], 32, false⟩
 .z)))) 235 ⟨.st [37, 38], .st [.cell, .cell], .node [.nilslice, .i64 0], 32, false⟩
 (.n (.n (.n (.n .z 236 ⟨.fn, .cell, .nilfn, 8, false⟩
 .z) 237 ⟨.fn, .cell, .nilfn, 8, false⟩
 (.n .z 238 ⟨.arr 60 220, .arr 60 (.arr 4 (.cell)), .node (List.replicate 60 (.u8s (List.replicate 4 0))), 240, true⟩
 .z)) 239 ⟨.fn, .cell, .nilfn, 8, false⟩
 (.n (.n .z 240 ⟨.fn, .cell, .nilfn, 8, false⟩
 .z) 242 ⟨.fn, .cell, .nilfn, 8, false⟩
 (.n .z 243 ⟨.fn, .cell, .nilfn, 8, false⟩
 .z))) 244 ⟨.fn, .cell, .nilfn, 8, false⟩
 (.n (.n (.n .z 245 ⟨.int .u64, .cell, .u64 0, 8, false⟩
 .z) 246 ⟨.fn, .cell, .nilfn, 8, false⟩
 (.n .z 248 ⟨.fn, .cell, .nilfn, 8, false⟩
 .z)) 249 ⟨.fn, .cell, .nilfn, 8, false⟩
 (.n (.n .z 250 ⟨.fn, .cell, .nilfn, 8, false⟩
 .z) 251 ⟨.ptr 214, .cell, .nilptr, 8, false⟩
 (.n .z 252 ⟨.arr 64 22, .arr 64 (.cell), .u32s (List.replicate 64 0), 256, true⟩
 .z))))) 253 ⟨.fn, .cell, .nilfn, 8, false⟩
 (.n (.n (.n (.n (.n .z 254 ⟨.fn, .cell, .nilfn, 8, false⟩
 .z) 255 ⟨.fn, .cell, .nilfn, 8, false⟩
 (.n .z 256 ⟨.fn, .cell, .nilfn, 8, false⟩
 .z)) 257 ⟨.fn, .cell, .nilfn, 8, false⟩
 (.n (.n .z 258 ⟨.arr 512 5, .arr 512 (.cell), .u8s (List.replicate 512 0), 512, true⟩
 .z) 259 ⟨.st [3, 3, 258], .st [.cell, .cell, .arr 512 (.cell)], .node [.i64 0, .i64 0, .u8s (List.replicate 512 0)], 528, true⟩
 (.n .z 260 ⟨.st [3, 3, 258], .st [.cell, .cell, .arr 512 (.cell)], .node [.i64 0, .i64 0, .u8s (List.replicate 512 0)], 528, true⟩
 .z))) 261 ⟨.fn, .cell, .nilfn, 8, false⟩
 (.n (.n (.n .z 262 ⟨.fn, .cell, .nilfn, 8, false⟩
 .z) 263 ⟨.fn, .cell, .nilfn, 8, false⟩
 (.n .z 265 ⟨.fn, .cell, .nilfn, 8, false⟩
 .z)) 267 ⟨.fn, .cell, .nilfn, 8, false⟩
 (.n (.n .z 268 ⟨.fn, .cell, .nilfn, 8, false⟩
 .z) 269 ⟨.st [3, 4], .st [.cell, .cell], .node [.i64 0, .bool false], 16, true⟩
 (.n .z 270 ⟨.st [3, 4], .st [.cell, .cell], .node [.i64 0, .bool false], 16, true⟩
 .z)))) 271 ⟨.fn, .cell, .nilfn, 8, false⟩
 (.n (.n (.n (.n .z 272 ⟨.fn, .cell, .nilfn, 8, false⟩
 .z) 273 ⟨.arr 32 71, .arr 32 (.arr 16 (.cell)), .node (List.replicate 32 (.u8s (List.replicate 16 0))), 512, true⟩
 (.n .z 274 ⟨.fn, .cell, .nilfn, 8, false⟩
 .z)) 275 ⟨.slice 71, .cell, .nilslice, 24, false⟩
 (.n (.n .z 276 ⟨.fn, .cell, .nilfn, 8, false⟩
 .z) 277 ⟨.fn, .cell, .nilfn, 8, false⟩
 (.n .z 278 ⟨.fn, .cell, .nilfn, 8, false⟩
 .z))) 279 ⟨.fn, .cell, .nilfn, 8, false⟩
 (.n (.n (.n .z 280 ⟨.st [3, 9, 3], .st [.cell, .cell, .cell], .node [.i64 0, .str [], .i64 0], 32, true⟩
 .z) 281 ⟨.st [3, 9, 3], .st [.cell, .cell, .cell], .node [.i64 0, .str [], .i64 0], 32, true⟩
 (.n .z 282 ⟨.fn, .cell, .nilfn, 8, false⟩
 .z)) 283 ⟨.fn, .cell, .nilfn, 8, false⟩
 (.n (.n .z 291 ⟨.fn, .cell, .nilfn, 8, false⟩
 .z) 292 ⟨.ptr 5, .cell, .nilptr, 8, false⟩
 .z)))))))
set_option maxRecDepth 100000 in
theorem tab : b8 Tryz.prog Γ := tab_ok (by kernel_rfl)
theorem mix : Tryz.prog.follows .mixedOrders = true := by kernel_rfl
def debl : B8 := [0, 1, 56, 2, 57, 49, 28, 3, 61, 58, 42, 50, 38, 29, 17, 4, 62, 47, 59, 36, 45, 43, 51, 22, 53, 39, 33, 30, 24, 18, 12, 5, 63, 55, 48, 27, 60, 41, 37, 16, 46, 35, 44, 21, 52, 32, 23, 11, 54, 26, 40, 15, 34, 20, 31, 10, 25, 14, 19, 9, 13, 8, 7, 6]
theorem xR : debl.length = 64 := rfl
abbrev gDb : Nat × Option Ent := (gid 2, some ⟨.arr 64 .cell, .u8s debl, false⟩)
def tzI (x : BitVec 64) : Nat := (((x &&& -x) * BitVec.ofNat 64 (Int.toNat 285870213051353865)) >>> (BitVec.ofNat 64 (Int.toNat 58)).toNat).toNat
def tzF (x : BitVec 64) : Nat := (debl.getD (Int.toNat (tzI x)) 0).toNat
theorem aEZ (x : BitVec 64) : tzI x = (((x &&& -x) * 285870213051353865#64) >>> 58).toNat := by
 have e : (BitVec.ofNat 64 (Int.toNat 58)).toNat = 58 := rfl
 have e2 : BitVec.ofNat 64 (Int.toNat 285870213051353865) = 285870213051353865#64 := rfl
 unfold tzI
 rw [e, e2]
theorem tzI_lt (x : BitVec 64) : tzI x < 64 := by
 rw [aEZ, BitVec.toNat_ushiftRight, Nat.shiftRight_eq_div_pow]
 have := (((x &&& -x) * 285870213051353865#64)).isLt
 omega
theorem tz_ac' (d : B8) (hl : d.length = 64) (x : BitVec 64) (hx : x ≠ 0) (h : (((x &&& -x) * BitVec.ofNat 64 (Int.toNat 285870213051353865)) >>> (BitVec.ofNat 64 (Int.toNat 58)).toNat).toNat < 64) :
  AC Tryz.prog 138 [.u64 x] 0 [(gid 2, some ⟨.arr 64 .cell, .u8s d, false⟩)] ⟨.i64 ((d.getD (Int.toNat (((x &&& -x) * BitVec.ofNat 64 (Int.toNat 285870213051353865)) >>> (BitVec.ofNat 64 (Int.toNat 58)).toNat).toNat) 0).toNat : Nat), [], []⟩ := by
 refine acA tab mix Tryz.func138 {} ?_
 refine go ?_
 refine Br.no (decide_eq_false hx) ?_
 refine go ?_
 refine aF []
theorem tz_ac (x : BitVec 64) (hx : x ≠ 0) : AC Tryz.prog 138 [.u64 x] 0 [gDb] ⟨.i64 (tzF x : Nat), [], []⟩ := tz_ac' debl xR x hx (tzI_lt x)
abbrev sK : Ty := .st [.cell, .cell, .cell]
abbrev aBK (T U n : Nat) (cp : Option Nat) : D := .node [.i64 T, .i64 U, .slice 1 [] 0 n cp]
abbrev qW (m : BitVec 32) : Nat := (m / BitVec.ofNat 32 (Int.toNat 64)).toNat
abbrev rW (m : BitVec 32) : Nat := (m % BitVec.ofNat 32 (Int.toNat 64)).toNat
theorem aF3 (m : BitVec 32) : qW m = m.toNat / 64 := by
 show (m / 64#32).toNat = _
 rw [BitVec.toNat_udiv]; rfl
theorem aF2 (m : BitVec 32) : rW m = m.toNat % 64 := by
 show (m % 64#32).toNat = _
 rw [BitVec.toNat_umod]; rfl
theorem vP (T U n : Nat) (cp : Option Nat) (m : BitVec 32) (hm : m.toNat < T) (hT : T ≤ 65536) :
  AC Tryz.prog 41 [.ptr 0 [], .u32 m] 2 [(0, some ⟨sK, aBK T U n cp, false⟩)] ⟨.i64 0, [], []⟩ := by
 refine acA tab mix Tryz.func41 {} ?_
 refine gob ?_
 refine aF [0, 1]
abbrev oneW : BitVec 64 := BitVec.ofNat 64 (Int.toNat 1)
def aFv (W : List (BitVec 64)) (m : BitVec 32) : Bool := !decide ((W.getD (0 + Int.toNat (qW m)) 0 >>> rW m) &&& oneW = BitVec.ofNat 64 (Int.toNat 0))
theorem aAE (T U n : Nat) (cp : Option Nat) (W : List (BitVec 64)) (hW : W.length = n) (m : BitVec 32) (hm : m.toNat < T) (hT : T ≤ 65536) (hn : qW m < n) :
  AC Tryz.prog 20 [.ptr 0 [], .u32 m] 2 [(0, some ⟨sK, aBK T U n cp, false⟩), (1, some ⟨.row .cell, .u64s W, false⟩)] ⟨.bool (aFv W m), [], []⟩ := by
 unfold aFv
 have hn : (m / BitVec.ofNat 32 (Int.toNat 64)).toNat < n := hn
 refine acA tab mix Tryz.func20 {} ?_
 refine gob ?_
 refine aF [0, 1]
def putW (W : List (BitVec 64)) (m : BitVec 32) : List (BitVec 64) := W.set (0 + Int.toNat (qW m)) (W.getD (0 + Int.toNat (qW m)) 0 ||| oneW <<< rW m)
def cutW (W : List (BitVec 64)) (m : BitVec 32) : List (BitVec 64) := W.set (0 + Int.toNat (qW m)) (W.getD (0 + Int.toNat (qW m)) 0 &&& ~~~(oneW <<< rW m))
section
variable (T U n : Nat) (cp : Option Nat) (W : List (BitVec 64)) (hW : W.length = n) (m : BitVec 32) (hm : m.toNat < T) (hT : T ≤ 65536) (hU : U < T) (hn : qW m < n)
include T U n cp W hW m hm hT hU hn
theorem aCt (hh : aFv W m = false) :
  AC Tryz.prog 22 [.ptr 0 [], .u32 m] 2 [(0, some ⟨sK, aBK T U n cp, true⟩), (1, some ⟨.row .cell, .u64s W, true⟩)] ⟨.i64 0, [(0, some (aBK T (U + 1) n cp)), (1, some (.u64s (putW W m)))], []⟩ := by
 have h1 := vP T U n cp m hm hT
 have h2 := aAE T U n cp W hW m hm hT hn
 rw [hh] at h2
 unfold putW
 have hn : (m / BitVec.ofNat 32 (Int.toNat 64)).toNat < n := hn
 refine acA tab mix Tryz.func22 {} ?_
 refine gob ?_
 refine aB h1 [0, 1] ?_
 refine aB h2 [0, 1] ?_
 refine aF [0, 1]
theorem aBI (hh : aFv W m = true) :
  AC Tryz.prog 23 [.ptr 0 [], .u32 m] 2 [(0, some ⟨sK, aBK T (U + 1) n cp, true⟩), (1, some ⟨.row .cell, .u64s W, true⟩)] ⟨.i64 0, [(0, some (aBK T U n cp)), (1, some (.u64s (cutW W m)))], []⟩ := by
 have h1 := vP T (U + 1) n cp m hm hT
 have h2 := aAE T (U + 1) n cp W hW m hm hT hn
 rw [hh] at h2
 unfold cutW
 have hn : (m / BitVec.ofNat 32 (Int.toNat 64)).toNat < n := hn
 have e : (U : Int) = ((U + 1 : Nat) : Int) - 1 := by omega
 unfold aBK
 rw [e]
 refine acA tab mix Tryz.func23 {} ?_
 refine gob ?_
 refine aB h1 [0, 1] ?_
 refine aB h2 [0, 1] ?_
 refine aF [0, 1]
end
abbrev allW : BitVec 64 := BitVec.ofNat 64 (Int.toNat 18446744073709551615)
theorem aCu (T n : Nat) (cp : Option Nat) (hT : T ≤ 65536) :
  AC Tryz.prog 101 [.ptr 0 []] 2 [(0, some ⟨sK, aBK T T n cp, false⟩)] ⟨.tup [.u32 0, .i64 21], [], []⟩ := by
 refine acA tab mix Tryz.func101 {} ?_
 refine gob ?_
 refine aF [0, 1]
def rK (W : List (BitVec 64)) (i : Nat) : BitVec 32 := BitVec.ofInt 32 ((i : Int) * 64 + (tzF (~~~(W.getD (0 + Int.toNat (i : Int)) 0)) : Nat))
theorem tzF_lt (x : BitVec 64) : tzF x < 256 := (debl.getD (Int.toNat (tzI x)) 0).isLt
theorem aCs (T U n : Nat) (cp : Option Nat) (W : List (BitVec 64)) (hW : W.length = n) (i : Nat) (hi : i < n) (hb : ∀ j, j < i → W.getD j 0 = allW) (hi2 : W.getD i 0 ≠ allW) (hm : (rK W i).toNat < T) (hT : T ≤ 65536) (hU : U < T) (hn : qW (rK W i) < n) (hh : aFv W (rK W i) = false) (hn2 : n ≤ 1024) :
  AC Tryz.prog 101 [.ptr 0 []] 2 [(0, some ⟨sK, aBK T U n cp, true⟩), (1, some ⟨.row .cell, .u64s W, true⟩), gDb] ⟨.tup [.u32 (rK W i), .i64 0], [(0, some (aBK T (U + 1) n cp)), (1, some (.u64s (putW W (rK W i))))], []⟩ := by
 have h1 := aCt T U n cp W hW (rK W i) hm hT hU hn hh
 have hx : ~~~(W.getD (0 + Int.toNat (i : Int)) 0) ≠ 0 := by
  intro e
  apply hi2
  have e2 := congrArg (~~~ ·) e
  simp only [BitVec.not_not] at e2
  rw [Int.toNat_natCast, Nat.zero_add] at e2
  rw [e2]; rfl
 have h2 := tz_ac (~~~(W.getD (0 + Int.toNat (i : Int)) 0)) hx
 have hlt := tzF_lt (~~~(W.getD (0 + Int.toNat (i : Int)) 0))
 unfold rK at h1 hm hn hh ⊢
 generalize tzF (~~~(W.getD (0 + Int.toNat (i : Int)) 0)) = k at h1 h2 hm hn hh hlt ⊢
 generalize putW W (BitVec.ofInt 32 ((i : Int) * 64 + (k : Nat))) = W2 at h1 ⊢
 refine acA tab mix Tryz.func101 {} ?_
 refine gob ?_
 refine aT Nat (fun x => [(0, .ptr 0 []), (23, .slice 1 [] 0 n cp), (24, .i64 (n : Nat)), (25, .i64 (x : Nat))]) (fun x => [(0, some ⟨sK, aBK T U n cp, true⟩), (1, some ⟨.row .cell, .u64s W, true⟩), gDb]) 2
  (fun x => x ≤ i) (fun x => i - x) 0 [0, 1] (Nat.zero_le _) viewA ?_
 intro x hxi
 refine gob ?_
 refine Br.split (fun h => ?_) (fun h => ?_)
 ·have h : (!decide (W.getD (0 + Int.toNat (x : Int)) 0 = allW)) = true := h
  have hxe : x = i := by
   rcases Nat.lt_or_ge x i with h3 | h3
   ·have h4 := hb x h3
    rw [Int.toNat_natCast, Nat.zero_add, decide_eq_true h4] at h
    cases h
   ·omega
  subst hxe
  refine gob ?_
  refine aB h2 [] ?_
  refine aB h1 [0, 1] ?_
  refine aF [0, 1]
 ·have h : (!decide (W.getD (0 + Int.toNat (x : Int)) 0 = allW)) = false := h
  have hxi2 : x < i := by
   rcases Nat.lt_or_ge x i with h3 | h3
   ·exact h3
   ·have h4 : x = i := by omega
    subst h4
    rw [Int.toNat_natCast, Nat.zero_add, decide_eq_false hi2] at h
    cases h
  refine gob ?_
  exact aQ (x + 1) [0, 1] viewA
def aCo (p : Nat → Bool) (b : Nat) : Nat → BitVec 64
 |0 => 0#64
 |k + 1 => aCo p b k ||| (if p (b + k) then BitVec.twoPow 64 k else 0#64)
def kQ (p : Nat → Bool) (i : Nat) : BitVec 64 := aCo p (64 * i) 64
def cJ (p : Nat → Bool) (n : Nat) : List (BitVec 64) := (List.range n).map (kQ p)
def iH (p : Nat → Bool) (m : Nat) (b : Bool) : Nat → Bool := fun j => if j = m then b else p j
theorem vO (p : Nat → Bool) (b : Nat) : ∀ (k j : Nat), k ≤ 64 → (aCo p b k).getLsbD j = (decide (j < k) && p (b + j))
 |0, j, _ => by simp [aCo]
 |k + 1, j, h => by
  rw [aCo, BitVec.getLsbD_or, vO p b k j (by omega)]
  by_cases hj : j = k
  ·subst hj
   cases hp : p (b + j) <;> simp [hp, BitVec.getLsbD_twoPow] <;> omega
  ·have e : (if p (b + k) then BitVec.twoPow 64 k else 0#64).getLsbD j = false := by
    split
    ·rw [BitVec.getLsbD_twoPow]
     have : ¬ k = j := fun e => hj e.symm
     simp [this]
    ·simp
   rw [e, Bool.or_false]
   by_cases h1 : j < k
   ·simp [h1, Nat.lt_succ_of_lt h1]
   ·have : ¬ j < k + 1 := by omega
    simp [h1, this]
section
variable (p : Nat → Bool)
include p
theorem bW (i j : Nat) (h : j < 64) : (kQ p i).getLsbD j = p (64 * i + j) := by
 rw [kQ, vO p _ 64 j (Nat.le_refl _)]
 simp [h]
theorem fY (n : Nat) : (cJ p n).length = n := by simp [cJ]
theorem eK {n i : Nat} (h : i < n) : (cJ p n).getD i 0 = kQ p i := by
 rw [List.getD_eq_getElem?_getD, cJ, List.getElem?_map, List.getElem?_range h]
 rfl
end
theorem aC4 (m : BitVec 32) : 0 + Int.toNat ((qW m : Nat) : Int) = m.toNat / 64 := by rw [Int.toNat_natCast, Nat.zero_add, aF3]
theorem aFx {x y : BitVec 64} (h : ∀ j, j < 64 → x.getLsbD j = y.getLsbD j) : x = y := BitVec.eq_of_getLsbD_eq fun j hj => h j hj
theorem aCG (j : Nat) : oneW.getLsbD j = decide (j = 0) := by
 show (1#64).getLsbD j = _
 cases j <;> simp
theorem aB9 (r j : Nat) (h : j < 64) : (oneW <<< r).getLsbD j = decide (j = r) := by
 rw [BitVec.getLsbD_shiftLeft, aCG]
 by_cases h1 : j < r
 ·have : ¬ j = r := by omega
  simp [h1, this]
 ·by_cases h2 : j = r
  ·subst h2; simp [h]
  ·have : ¬ j - r = 0 := by omega
   simp [h1, h2, this]
theorem aC6 (p : Nat → Bool) {n : Nat} (m : BitVec 32) (h : m.toNat / 64 < n) : aFv (cJ p n) m = p m.toNat := by
 unfold aFv
 rw [aC4, eK p h, aF2]
 have hr : m.toNat % 64 < 64 := Nat.mod_lt _ (by decide)
 have e : (kQ p (m.toNat / 64)).getLsbD (m.toNat % 64) = p m.toNat := by
  rw [bW p _ _ hr, Nat.div_add_mod]
 have e2 : (kQ p (m.toNat / 64) >>> (m.toNat % 64)) &&& oneW = if p m.toNat then 1#64 else 0#64 := by
  refine aFx fun j hj => ?_
  rw [BitVec.getLsbD_and, BitVec.getLsbD_ushiftRight, aCG]
  by_cases h0 : j = 0
  ·subst h0
   rw [Nat.add_zero, e]
   cases p m.toNat <;> simp
  ·cases p m.toNat <;> simp [h0]
 rw [e2]
 cases p m.toNat <;> rfl
theorem pK (p q : Nat → Bool) (n i : Nat) (w : BitVec 64) (h : i < n) (hw : w = kQ q i) (ho : ∀ k, k ≠ i → kQ q k = kQ p k) : (cJ p n).set i w = cJ q n := by
 refine List.ext_getElem? fun k => ?_
 rw [List.getElem?_set]
 by_cases hk : i = k
 ·subst hk
  rw [if_pos rfl, fY, if_pos h, cJ, List.getElem?_map, List.getElem?_range h, hw]
  rfl
 ·rw [if_neg hk, cJ, cJ, List.getElem?_map, List.getElem?_map]
  cases hr : (List.range n)[k]? with
  |none => rfl
  |some x =>
   have : x = k := by
    rw [List.getElem?_eq_some_iff] at hr
    obtain ⟨h1, h2⟩ := hr
    simpa using h2.symm
   subst this
   simp only [Option.map_some, ho x (fun e => hk e.symm)]
section
variable (p : Nat → Bool)
include p
theorem yE (m : Nat) (b : Bool) (k : Nat) (h : k ≠ m / 64) : kQ (iH p m b) k = kQ p k := by
 refine aFx fun j hj => ?_
 rw [bW _ _ _ hj, bW _ _ _ hj, iH, if_neg (by omega)]
section
variable {n : Nat} (m : BitVec 32) (h : m.toNat / 64 < n)
include n m h
theorem aF5 : putW (cJ p n) m = cJ (iH p m.toNat true) n := by
 unfold putW
 rw [aC4, eK p h, aF2]
 refine pK p _ n _ _ h ?_ (fun k hk => yE p _ _ k hk)
 refine aFx fun j hj => ?_
 rw [BitVec.getLsbD_or, aB9 _ _ hj, bW _ _ _ hj, bW _ _ _ hj, iH]
 by_cases h1 : j = m.toNat % 64
 ·rw [if_pos (by omega)]; simp [h1]
 ·rw [if_neg (by omega)]; simp [h1]
theorem aGE : cutW (cJ p n) m = cJ (iH p m.toNat false) n := by
 unfold cutW
 rw [aC4, eK p h, aF2]
 refine pK p _ n _ _ h ?_ (fun k hk => yE p _ _ k hk)
 refine aFx fun j hj => ?_
 rw [BitVec.getLsbD_and, BitVec.getLsbD_not, aB9 _ _ hj, bW _ _ _ hj, bW _ _ _ hj, iH]
 by_cases h1 : j = m.toNat % 64
 ·rw [if_pos (by omega)]; simp [h1]
 ·rw [if_neg (by omega)]; simp [h1, hj]
end
end
theorem aFn (x : BitVec 64) (r : Nat) (hr : r < 64) (h1 : x.getLsbD r = true) (h0 : ∀ j, j < r → x.getLsbD j = false) : x &&& -x = BitVec.twoPow 64 r := by
 refine aFx fun j hj => ?_
 rw [BitVec.getLsbD_and, BitVec.getLsbD_neg, BitVec.getLsbD_twoPow]
 by_cases hjr : j < r
 ·rw [h0 j hjr]
  have : ¬ r = j := by omega
  simp [this]
 ·by_cases he : j = r
  ·subst he
   have hno : ¬ ∃ k, k < j ∧ x.getLsbD k = true := by
    rintro ⟨k, hk, hk2⟩; rw [h0 k hk] at hk2; cases hk2
   simp [h1, hj, hno]
  ·have hex : ∃ k, k < j ∧ x.getLsbD k = true := ⟨r, by omega, h1⟩
   have : ¬ r = j := fun e => he e.symm
   simp [hj, hex, this]
theorem tz_all : ∀ r : Fin 64, (debl.getD (((BitVec.twoPow 64 r.val) * 285870213051353865#64) >>> 58).toNat 0).toNat = r.val := by decide +kernel
theorem tzF_eq (x : BitVec 64) (r : Nat) (hr : r < 64) (h1 : x.getLsbD r = true) (h0 : ∀ j, j < r → x.getLsbD j = false) : tzF x = r := by
 have h := tz_all ⟨r, hr⟩
 rw [tzF, Int.toNat_natCast, aEZ, aFn x r hr h1 h0]
 exact h
theorem aAG (j : Nat) (h : j < 64) : allW.getLsbD j = true := by
 have e : allW = BitVec.allOnes 64 := by decide
 rw [e, BitVec.getLsbD_allOnes]; simp [h]
structure Low (p : Nat → Bool) (f : Nat) : Prop where
 free : p f = false
 used : ∀ j, j < f → p j = true
section
variable {p : Nat → Bool} {f n : Nat} (h : Low p f) (hf : f < 64 * n)
include p f n h hf
theorem Low.below (j : Nat) (hj : j < f / 64) : (cJ p n).getD j 0 = allW := by
 rw [eK p (by omega)]
 refine aFx fun k hk => ?_
 rw [bW p _ _ hk, aAG k hk]
 exact h.used _ (by omega)
theorem Low.word : (cJ p n).getD (f / 64) 0 ≠ allW := by
 rw [eK p (by omega)]
 intro e
 have h1 := bW p (f / 64) (f % 64) (Nat.mod_lt _ (by decide))
 rw [e, aAG _ (Nat.mod_lt _ (by decide)), Nat.div_add_mod, h.free] at h1
 cases h1
theorem Low.num : rK (cJ p n) (f / 64) = BitVec.ofNat 32 f := by
 unfold rK
 rw [Int.toNat_natCast, Nat.zero_add, eK p (by omega)]
 have hr : f % 64 < 64 := Nat.mod_lt _ (by decide)
 rw [tzF_eq (~~~(kQ p (f / 64))) (f % 64) hr]
 ·have e : ((f / 64 : Nat) : Int) * 64 + ((f % 64 : Nat) : Int) = (f : Int) := by omega
  rw [e]; rfl
 ·rw [BitVec.getLsbD_not, bW p _ _ hr, Nat.div_add_mod, h.free]
  simp [hr]
 ·intro j hj
  rw [BitVec.getLsbD_not, bW p _ _ (by omega), h.used _ (by omega)]
  simp
end
abbrev alP (T U : Nat) (cp : Option Nat) : D := aBK T U ((T + 63) / 64) cp
abbrev qY (p : Nat → Bool) (T : Nat) : D := .u64s (cJ p ((T + 63) / 64))
theorem eU {f T : Nat} (h : f < T) (hT : T ≤ 65536) : (BitVec.ofNat 32 f).toNat = f := by rw [BitVec.toNat_ofNat]; omega
section
variable (p : Nat → Bool) (T U f : Nat) (cp : Option Nat)
include p T U f cp
theorem aDO (hl : Low p f) (hf : f < T) (hT : T ≤ 65536) (hU : U < T) :
  AC Tryz.prog 101 [.ptr 0 []] 2 [(0, some ⟨sK, alP T U cp, true⟩), (1, some ⟨.row .cell, qY p T, true⟩), gDb] ⟨.tup [.u32 (BitVec.ofNat 32 f), .i64 0], [(0, some (alP T (U + 1) cp)), (1, some (qY (iH p f true) T))], []⟩ := by
 have hn : f < 64 * ((T + 63) / 64) := by omega
 have hq : f / 64 < (T + 63) / 64 := by omega
 have e := hl.num hn
 have e2 := eU hf hT
 have h := aCs T U ((T + 63) / 64) cp (cJ p ((T + 63) / 64)) (fY _ _) (f / 64) hq (hl.below hn) (hl.word hn) (by rw [e, e2]; exact hf) hT hU (by rw [e, aF3, e2]; exact hq)
  (by rw [e, aC6 p _ (by rw [e2]; exact hq), e2]; exact hl.free) (by omega)
 rw [e, aF5 p _ (by rw [e2]; exact hq), e2] at h
 exact h
theorem aCl (hp : p f = true) (hf : f < T) (hT : T ≤ 65536) (hU : U < T) :
  AC Tryz.prog 23 [.ptr 0 [], .u32 (BitVec.ofNat 32 f)] 2 [(0, some ⟨sK, alP T (U + 1) cp, true⟩), (1, some ⟨.row .cell, qY p T, true⟩)] ⟨.i64 0, [(0, some (alP T U cp)), (1, some (qY (iH p f false) T))], []⟩ := by
 have hq : f / 64 < (T + 63) / 64 := by omega
 have e2 := eU hf hT
 have h := aBI T U ((T + 63) / 64) cp (cJ p ((T + 63) / 64)) (fY _ _) (BitVec.ofNat 32 f) (by rw [e2]; exact hf) hT hU (by rw [aF3, e2]; exact hq) (by rw [aC6 p _ (by rw [e2]; exact hq), e2]; exact hp)
 rw [aGE p _ (by rw [e2]; exact hq), e2] at h
 exact h
end
theorem v9 (n : Nat) : cJ (fun _ => false) n = List.replicate n 0 := by
 refine List.ext_getElem? fun k => ?_
 rw [cJ, List.getElem?_map, List.getElem?_replicate]
 by_cases h : k < n
 ·rw [List.getElem?_range h, if_pos h]
  show some (kQ _ _) = _
  congr 1
  refine aFx fun j hj => ?_
  rw [bW _ _ _ hj]; simp
 ·rw [if_neg h, List.getElem?_eq_none (by simpa using h)]; rfl
theorem aCv (T : Nat) (hT : T ≤ 65536) : AC Tryz.prog 12 [.i64 (T : Nat)] 0 [] ⟨.ptr 0 [], [], [(sK, alP T 0 none), (.row .cell, qY (fun _ => false) T)]⟩ := by
 unfold qY
 rw [v9]
 have e1 : max (0 : Int) (min (T : Int) 65536) = (T : Int) := by omega
 have e2 : Int.tdiv ((T : Int) + 64 - 1) 64 = (((T + 63) / 64 : Nat) : Int) := by
  have e3 : (T : Int) + 64 - 1 = ((T + 63 : Nat) : Int) := by omega
  rw [e3]; rfl
 refine acA tab mix Tryz.func12 {} ?_
 refine gob ?_
 rw [e1]
 refine valG (.i64 (((T + 63) / 64 : Nat) : Int)) rfl ?_ ?_ ?_
 ·exact congrArg D.i64 e2
 ·rw [e2]; exact ⟨by decide, by unfold inI; omega⟩
 refine gob ?_
 refine aF [1, 0]
def rotF (x : BitVec 32) (k : Int) : BitVec 32 := x <<< (BitVec.ofInt 64 k &&& 31#64).toNat ||| x >>> (32#64 - (BitVec.ofInt 64 k &&& 31#64)).toNat
theorem tR (x : BitVec 32) (k : Int) : AC Tryz.prog 174 [.u32 x, .i64 k] 0 [] ⟨.u32 (rotF x k), [], []⟩ := by
 refine acA tab mix Tryz.func174 {} ?_
 refine go ?_
 refine aF []
def rsF (x : BitVec 32) (a b c : Int) : BitVec 32 := rotF x (-a) ^^^ rotF x (-b) ^^^ rotF x (-c)
def aCP (x : BitVec 32) (a b c : Int) : BitVec 32 := rotF x (-a) ^^^ rotF x (-b) ^^^ x >>> c.toNat
section
variable (x : BitVec 32) (a b c : Int) (ha : 0 ≤ a ∧ a < 64) (hb : 0 ≤ b ∧ b < 64) (hc : 0 ≤ c ∧ c < 64)
include x a b c ha hb hc
theorem yR : AC Tryz.prog 158 [.u32 x, .i64 a, .i64 b, .i64 c] 0 [] ⟨.u32 (rsF x a b c), [], []⟩ := by
 refine acA tab mix Tryz.func158 {} ?_
 refine go ?_
 refine cM (tR x (-a)) [] ?_
 refine cM (tR x (-b)) [] ?_
 refine cM (tR x (-c)) [] ?_
 refine aF []
theorem aEe : AC Tryz.prog 157 [.u32 x, .i64 a, .i64 b, .i64 c] 0 [] ⟨.u32 (aCP x a b c), [], []⟩ := by
 refine acA tab mix Tryz.func157 {} ?_
 refine go ?_
 refine cM (tR x (-a)) [] ?_
 refine cM (tR x (-b)) [] ?_
 refine aF []
end
abbrev tRd : Ty := .st [.cell, .cell]
theorem aF1 (off len : Nat) (cap : Option Nat) : AC Tryz.prog 104 [.slice 0 [] off len cap] 1 [] ⟨.ptr 1 [], [], [(tRd, .node [.slice 0 [] off len cap, .i64 0])]⟩ := by
 refine acA tab mix Tryz.func104 {} ?_
 refine go ?_
 refine aF [0, 1]
theorem aFh (bs : B8) (o l k : Nat) (cap : Option Nat) (h : k ≤ l) (hl : l < 9223372036854775808) (ho : o + l ≤ bs.length) :
  AC Tryz.prog 141 [.ptr 0 [], .i64 k] 2 [(0, some ⟨tRd, .node [.slice 1 [] o l cap, .i64 0], true⟩), (1, some ⟨.row .cell, .u8s bs, false⟩)]
   ⟨.slice 1 [] o k (some k), [(0, some (.node [.slice 1 [] (o + k) (l - k) (cap.map (· - k)), .i64 0]))], []⟩ := by
 refine acA tab mix Tryz.func141 {} ?_
 refine gob ?_
 refine aF [0, 1]
def rdI (bs : B8) (o : Nat) : Nat → BitVec 64
 |0 => 0
 |i + 1 => rdI bs o i <<< 8 ||| (bs.getD (o + i) 0).setWidth 64
theorem aCI (bs : B8) (o l k : Nat) (cap : Option Nat) (h : k ≤ l) (hl : l < 9223372036854775808) (ho : o + l ≤ bs.length) :
  AC Tryz.prog 140 [.ptr 0 [], .i64 k] 2 [(0, some ⟨tRd, .node [.slice 1 [] o l cap, .i64 0], true⟩), (1, some ⟨.row .cell, .u8s bs, false⟩)]
   ⟨.u64 (rdI bs o k), [(0, some (.node [.slice 1 [] (o + k) (l - k) (cap.map (· - k)), .i64 0]))], []⟩ := by
 refine acA tab mix Tryz.func140 {} ?_
 refine go ?_
 refine cM (aFh bs o l k cap h hl ho) [0, 1] ?_
 refine aT Nat (fun i => [(0, .ptr 0 []), (6, .u64 (rdI bs o i)), (13, .slice 1 [] o k (some k)), (14, .i64 k), (15, .i64 i)])
  (fun _ => [(0, some ⟨tRd, .node [.slice 1 [] (o + k) (l - k) (cap.map (· - k)), .i64 0], true⟩), (1, some ⟨.row .cell, .u8s bs, false⟩)]) 2 (fun i => i ≤ k) (fun i => k - i) 0 [0, 1] (Nat.zero_le _) viewA ?_
 intro i hi
 refine go ?_
 refine Br.split (fun h => ?_) (fun h => ?_)
 ·have hi : i < k := by have := of_decide_eq_true h; omega
  refine go ?_
  refine aQ (i + 1) [0, 1] viewA
 ·obtain rfl : i = k := by have := of_decide_eq_false h; omega
  refine go ?_
  refine aF [0, 1]
theorem u32_ac (bs : B8) (o l : Nat) (cap : Option Nat) (h : 4 ≤ l) (hl : l < 9223372036854775808) (ho : o + l ≤ bs.length) :
  AC Tryz.prog 105 [.ptr 0 []] 2 [(0, some ⟨tRd, .node [.slice 1 [] o l cap, .i64 0], true⟩), (1, some ⟨.row .cell, .u8s bs, false⟩)]
   ⟨.u32 ((rdI bs o 4).setWidth 32), [(0, some (.node [.slice 1 [] (o + 4) (l - 4) (cap.map (· - 4)), .i64 0]))], []⟩ := by
 refine acA tab mix Tryz.func105 {} ?_
 refine go ?_
 refine cM (aCI bs o l 4 cap h hl ho) [0, 1] ?_
 refine aF [0, 1]
def K256 : List (BitVec 32) := [0x428a2f98, 0x71374491, 0xb5c0fbcf, 0xe9b5dba5, 0x3956c25b, 0x59f111f1, 0x923f82a4, 0xab1c5ed5, 0xd807aa98, 0x12835b01, 0x243185be, 0x550c7dc3, 0x72be5d74, 0x80deb1fe, 0x9bdc06a7, 0xc19bf174, 0xe49b69c1, 0xefbe4786, 0x0fc19dc6, 0x240ca1cc, 0x2de92c6f, 0x4a7484aa, 0x5cb0a9dc, 0x76f988da, 0x983e5152, 0xa831c66d, 0xb00327c8, 0xbf597fc7, 0xc6e00bf3, 0xd5a79147, 0x06ca6351, 0x14292967, 0x27b70a85, 0x2e1b2138, 0x4d2c6dfc, 0x53380d13, 0x650a7354, 0x766a0abb, 0x81c2c92e, 0x92722c85, 0xa2bfe8a1, 0xa81a664b, 0xc24b8b70, 0xc76c51a3, 0xd192e819, 0xd6990624, 0xf40e3585, 0x106aa070, 0x19a4c116, 0x1e376c08, 0x2748774c, 0x34b0bcb5, 0x391c0cb3, 0x4ed8aa4a, 0x5b9cca4f, 0x682e6ff3, 0x748f82ee, 0x78a5636f, 0x84c87814, 0x8cc70208, 0x90befffa, 0xa4506ceb, 0xbef9a3f7, 0xc67178f2]
theorem jQ : K256.length = 64 := rfl
abbrev gR : Nat × Option Ent := (gid 1, some ⟨.arr 64 .cell, .u32s K256, false⟩)
def wI (bs : B8) (o : Nat) : Nat → List (BitVec 32)
 |0 => List.replicate 64 0
 |t + 1 => (wI bs o t).set t (if t < 16 then (rdI bs (o + 4 * t) 4).setWidth 32 else
   aCP ((wI bs o t).getD ((t : Int) - 2).toNat 0) 17 19 10 + (wI bs o t).getD ((t : Int) - 7).toNat 0 + aCP ((wI bs o t).getD ((t : Int) - 15).toNat 0) 7 18 3 + (wI bs o t).getD ((t : Int) - 16).toNat 0)
theorem fO (bs : B8) (o : Nat) : ∀ t, (wI bs o t).length = 64
 |0 => rfl
 |t + 1 => by rw [wI, List.length_set, fO bs o t]
def oneF (v : List (BitVec 32)) (k w : BitVec 32) : BitVec 32 := v.getD 7 0 + rsF (v.getD 4 0) 6 11 25 + (v.getD 4 0 &&& v.getD 5 0 ||| ~~~(v.getD 4 0) &&& v.getD 6 0) + k + w
def twoF (v : List (BitVec 32)) : BitVec 32 := rsF (v.getD 0 0) 2 13 22 + (v.getD 0 0 &&& v.getD 1 0 ||| v.getD 2 0 &&& (v.getD 0 0 ||| v.getD 1 0))
def vS (v : List (BitVec 32)) (k w : BitVec 32) : List (BitVec 32) :=
 [oneF v k w + twoF v, v.getD 0 0, v.getD 1 0, v.getD 2 0, v.getD 3 0 + oneF v k w, v.getD 4 0, v.getD 5 0, v.getD 6 0]
def vI (w s : List (BitVec 32)) : Nat → List (BitVec 32)
 |0 => s
 |t + 1 => vS (vI w s t) (K256.getD t 0) (w.getD t 0)
theorem sY (w s : List (BitVec 32)) (hs : s.length = 8) : ∀ t, (vI w s t).length = 8
 |0 => hs
 |t + 1 => rfl
def aE2 (s v : List (BitVec 32)) : Nat → List (BitVec 32)
 |0 => s
 |i + 1 => (aE2 s v i).set i ((aE2 s v i).getD i 0 + v.getD i 0)
theorem i2 (s v : List (BitVec 32)) : ∀ i, (aE2 s v i).length = s.length
 |0 => rfl
 |i + 1 => by rw [aE2, List.length_set, i2 s v i]
def sbF (s : List (BitVec 32)) (bs : B8) (o : Nat) : List (BitVec 32) := aE2 s (vI (wI bs o 64) s 64) 8
theorem aAY (s : List (BitVec 32)) (bs : B8) (o : Nat) : (sbF s bs o).length = s.length := i2 _ _ _
theorem len8 {α : Type} {l : List α} (h : l.length = 8) : ∃ a b c d e f g i, l = [a, b, c, d, e, f, g, i] := by
 match l, h with
 |[a, b, c, d, e, f, g, i], _ => exact ⟨a, b, c, d, e, f, g, i, rfl⟩
abbrev t8 : Ty := .arr 8 .cell
abbrev tH : Ty := .st [t8, .cell, .cell]
abbrev AddC (s : List (BitVec 32)) (bs : B8) (o : Nat) (T : Ty) (p : cK) (wr : D → D) : Prop :=
 AC Tryz.prog 126 [.ptr 0 p, .slice 1 [] o 64 (some 64)] 3 [(0, some ⟨T, wr (.u32s s), true⟩), (1, some ⟨.row .cell, .u8s bs, false⟩), gR] ⟨.tup [], [(0, some (wr (.u32s (aE2 s (vI (wI bs o 64) s 64) 8))))], []⟩
set_option maxHeartbeats 2000000 in
theorem xY (s : List (BitVec 32)) (bs : B8) (o : Nat) (hs : s.length = 8) (ho : o + 64 ≤ bs.length) (hl : bs.length < 9223372036854775808) (n : Int) (ro rl : Nat) (rc : Option Nat) :
  (let T := t8; let p : cK := []; let wr : D → D := fun x => x; AddC s bs o T p wr) ∧
  (let T := tH; let p : cK := [.fld 0]; let wr : D → D := fun x => .node [x, .nilslice, .i64 n]; AddC s bs o T p wr) ∧
  (let T := tH; let p : cK := [.fld 0]; let wr : D → D := fun x => .node [x, .slice 2 [] ro rl rc, .i64 n]; AddC s bs o T p wr) := by
 have hK := jQ
 refine ⟨?_, ?_, ?_⟩
 all_goals
  intro T p wr
  refine acA tab mix Tryz.func126 {} ?_
  refine go ?_
  refine cM (aF1 o 64 (some 64)) [1] ?_
  refine aT Nat (fun t => [(0, .ptr 0 p), (4, .ptr 3 []), (5, .ptr 4 []), (15, .i64 t)]) (fun t => [(0, some ⟨T, wr (.u32s s), true⟩), (1, some ⟨.row .cell, .u8s bs, false⟩), (3, some ⟨.arr 64 .cell, .u32s (wI bs o t), true⟩),
   (4, some ⟨tRd, .node [.slice 1 [] (o + 4 * min t 16) (64 - 4 * min t 16) (some (64 - 4 * min t 16)), .i64 0], true⟩), gR]) 5 (fun t => t ≤ 64) (fun t => 64 - t) 0 [0, 1, 2, 3, 4] (Nat.zero_le _) viewA ?_
  intro t ht
  have hw := fO bs o t
  refine go ?_
  refine Br.split (fun h => ?_) (fun h => ?_)
  ·have ht : t < 64 := by have := of_decide_eq_true h; omega
   have hm := fO bs o (t + 1)
   refine go ?_
   refine Br.split (fun h => ?_) (fun h => ?_)
   ·have ht : t < 16 := by have := of_decide_eq_true h; omega
    have e : wI bs o (t + 1) = (wI bs o t).set t ((rdI bs (o + 4 * t) 4).setWidth 32) := by rw [wI, if_pos ht]
    have e1 : min t 16 = t := by omega
    have e2 : min (t + 1) 16 = t + 1 := by omega
    rw [e1]
    refine go ?_
    refine cM (u32_ac bs (o + 4 * t) (64 - 4 * t) (some (64 - 4 * t)) (by omega) (by omega) (by omega)) [4, 1] ?_
    refine aQ (t + 1) [0, 1, 2, 3, 4] (viewA (h3 := ?_))
    rw [e, e2, show o + 4 * (t + 1) = o + 4 * t + 4 by omega, show 64 - 4 * (t + 1) = 64 - 4 * t - 4 by omega]
    exact ⟨⟨_, rfl, rfl, rfl, id⟩, ⟨_, rfl, rfl, rfl, id⟩, ⟨_, rfl, rfl, rfl, id⟩, ⟨_, rfl, rfl, rfl, id⟩, ⟨_, rfl, rfl, rfl, id⟩, trivial⟩
   ·have ht : ¬ t < 16 := by have := of_decide_eq_false h; omega
    have e : wI bs o (t + 1) = (wI bs o t).set t (aCP ((wI bs o t).getD ((t : Int) - 2).toNat 0) 17 19 10 + (wI bs o t).getD ((t : Int) - 7).toNat 0 + aCP ((wI bs o t).getD ((t : Int) - 15).toNat 0) 7 18 3 + (wI bs o t).getD ((t : Int) - 16).toNat 0) := by
     rw [wI, if_neg ht]
    have e1 : min t 16 = 16 := by omega
    have e2 : min (t + 1) 16 = 16 := by omega
    rw [e1]
    refine go ?_
    refine cM (aEe _ 17 19 10 (by decide) (by decide) (by decide)) [] ?_
    refine cM (aEe _ 7 18 3 (by decide) (by decide) (by decide)) [] ?_
    refine aQ (t + 1) [0, 1, 2, 3, 4] (viewA (h3 := ?_))
    rw [e, e2]
    exact ⟨⟨_, rfl, rfl, rfl, id⟩, ⟨_, rfl, rfl, rfl, id⟩, ⟨_, rfl, rfl, rfl, id⟩, ⟨_, rfl, rfl, rfl, id⟩, ⟨_, rfl, rfl, rfl, id⟩, trivial⟩
  ·obtain rfl : t = 64 := by have := of_decide_eq_false h; omega
   generalize wI bs o 64 = w at hw ⊢
   refine go ?_
   refine aT Nat (fun t => [(0, .ptr 0 p), (4, .ptr 3 []), (7, .ptr 4 []), (51, .i64 t)]) (fun t => [(0, some ⟨T, wr (.u32s s), true⟩), (1, some ⟨.row .cell, .u8s bs, false⟩), (3, some ⟨.arr 64 .cell, .u32s w, true⟩),
    (4, some ⟨t8, .u32s (vI w s t), true⟩), gR]) 5 (fun t => t ≤ 64) (fun t => 64 - t) 0 [0, 1, 2, 3, 5] (Nat.zero_le _) viewA ?_
   intro t ht
   have hv := sY w s hs t
   refine go ?_
   refine Br.split (fun h => ?_) (fun h => ?_)
   ·have ht : t < 64 := by have := of_decide_eq_true h; omega
    have e : vI w s (t + 1) = vS (vI w s t) (K256.getD t 0) (w.getD t 0) := rfl
    generalize vI w s t = v at hv e ⊢
    obtain ⟨v0, v1, v2, v3, v4, v5, v6, v7, rfl⟩ := len8 hv
    refine go ?_
    refine cM (yR _ 6 11 25 (by decide) (by decide) (by decide)) [] ?_
    refine cM (yR _ 2 13 22 (by decide) (by decide) (by decide)) [] ?_
    refine aQ (t + 1) [0, 1, 2, 3, 4] (viewA (h3 := ?_))
    rw [e]
    exact ⟨⟨_, rfl, rfl, rfl, id⟩, ⟨_, rfl, rfl, rfl, id⟩, ⟨_, rfl, rfl, rfl, id⟩, ⟨_, rfl, rfl, rfl, id⟩, ⟨_, rfl, rfl, rfl, id⟩, trivial⟩
   ·obtain rfl : t = 64 := by have := of_decide_eq_false h; omega
    generalize vI w s 64 = v at hv ⊢
    refine go ?_
    refine aT Nat (fun i => [(0, .ptr 0 p), (112, .u32s v), (113, .i64 i)]) (fun i => [(0, some ⟨T, wr (.u32s (aE2 s v i)), true⟩), (1, some ⟨.row .cell, .u8s bs, false⟩), gR]) 3 (fun i => i ≤ 8) (fun i => 8 - i) 0 [0, 1, 2] (Nat.zero_le _) viewA ?_
    intro i hi
    have hs2 := i2 s v i
    refine go ?_
    refine Br.split (fun h => ?_) (fun h => ?_)
    ·have hi : i < 8 := by have := of_decide_eq_true h; omega
     refine go ?_
     refine aQ (i + 1) [0, 1, 2] viewA
    ·obtain rfl : i = 8 := by have := of_decide_eq_false h; omega
     refine go ?_
     refine aF [0, 1, 2]
def nbI (n : BitVec 64) (k : Nat) : Nat → B8 × BitVec 64
 |0 => (List.replicate k 0, n)
 |i + 1 => ((nbI n k i).1.set ((k : Int) - 1 - (i : Int)).toNat ((nbI n k i).2.setWidth 8), (nbI n k i).2 >>> 8)
theorem kY (n : BitVec 64) (k : Nat) : ∀ i, (nbI n k i).1.length = k
 |0 => List.length_replicate
 |i + 1 => by rw [nbI, List.length_set, kY n k i]
def nbF (n : BitVec 64) (k : Nat) : B8 := (nbI n k k).1
theorem aR (n : BitVec 64) (k : Nat) : (nbF n k).length = k := kY n k k
theorem aBv (n : BitVec 64) (k : Nat) (hk : k ≤ 1000) : AC Tryz.prog 124 [.u64 n, .i64 k] 0 [] ⟨.slice 0 [] 0 k none, [], [(.row .cell, .u8s (nbF n k))]⟩ := by
 refine acA tab mix Tryz.func124 {} ?_
 refine go ?_
 refine aT Nat (fun i => [(0, .u64 (nbI n k i).2), (1, .i64 k), (5, .slice 0 [] 0 k none), (10, .i64 k), (11, .i64 i)]) (fun i => [(0, some ⟨.row .cell, .u8s (nbI n k i).1, true⟩)]) 1 (fun i => i ≤ k) (fun i => k - i) 0 [0] (Nat.zero_le _) viewA ?_
 intro i hi
 have hl := kY n k i
 refine go ?_
 refine Br.split (fun h => ?_) (fun h => ?_)
 ·have hi : i < k := by have := of_decide_eq_true h; omega
  refine go ?_
  refine aQ (i + 1) [0] viewA
 ·obtain rfl : i = k := by have := of_decide_eq_false h; omega
  refine go ?_
  refine aF [0]
theorem dX (n : BitVec 32) : AC Tryz.prog 103 [.u32 n] 0 [] ⟨.slice 0 [] 0 4 none, [], [(.row .cell, .u8s (nbF (n.setWidth 64) 4))]⟩ := by
 refine acA tab mix Tryz.func103 {} ?_
 refine go ?_
 refine cM (aBv (n.setWidth 64) 4 (by decide)) [] ?_
 refine aF [0]
theorem aD8 (n : BitVec 64) : AC Tryz.prog 127 [.u64 n] 0 [] ⟨.slice 0 [] 0 8 none, [], [(.row .cell, .u8s (nbF n 8))]⟩ := by
 refine acA tab mix Tryz.func127 {} ?_
 refine go ?_
 refine cM (aBv n 8 (by decide)) [] ?_
 refine aF [0]
theorem mX (bs : B8) (o k : Nat) (cap : Option Nat) (h : o + k ≤ bs.length) (hk : k ≤ 70368744177664) :
  AC Tryz.prog 55 [.slice 0 [] o k cap] 1 [(0, some ⟨.row .cell, .u8s bs, false⟩)] ⟨.slice 1 [] 0 k none, [], [(.row .cell, .u8s ((bs.drop o).take k))]⟩ := by
 refine acA tab mix Tryz.func55 {} ?_
 refine gob ?_
 refine ⟨0, ?_⟩
 refine go ?_
 refine aF [0, 2]
theorem oB (k : Int) (h0 : 0 < k) (hk : k ≤ 140737488355328) : AC Tryz.prog 123 [.nilslice, .i64 k] 0 [] ⟨.slice 0 [] 0 0 none, [], [(.row .cell, .u8s (List.replicate (k - (0 - 0)).toNat 0))]⟩ := by
 refine acA tab mix Tryz.func123 {} ?_
 refine gob ?_
 refine ⟨0, ?_⟩
 refine go ?_
 refine aF [0]
theorem sB (bs : B8) (o k : Nat) (cap : Option Nat) (h : o + k ≤ bs.length) (h0 : 0 < k) (hk : k ≤ 70368744177664) :
  AC Tryz.prog 82 [.slice 0 [] 0 2 (some 2)] 2 [(0, some ⟨.row .cell, .node [.nilslice, .slice 1 [] o k cap], true⟩), (1, some ⟨.row .cell, .u8s bs, false⟩)] ⟨.slice 2 [] 0 k none, [], [(.row .cell, .u8s ((bs.drop o).take k))]⟩ := by
 refine acA tab mix Tryz.func82 ⟨[], [3, 11]⟩ ?_
 refine go ?_
 refine o0 3 ?_
 refine gob ?_
 refine cM (oB (0 + 0 + (k : Int)) (by omega) (by omega)) [] ?_
 refine o0 3 ?_
 refine gob ?_
 refine ⟨0, ?_⟩
 refine gob ?_
 refine ⟨0, ?_⟩
 refine gob ?_
 refine aF [0, 1, 4]
theorem aCk (ss bs : B8) (r a o k : Nat) (rc cap : Option Nat) (ha : r + a ≤ ss.length) (h : o + k ≤ bs.length) (h0 : 0 < k) (hk : a + k ≤ 70368744177664) :
  AC Tryz.prog 82 [.slice 0 [] 0 2 (some 2)] 3 [(0, some ⟨.row .cell, .node [.slice 2 [] r a rc, .slice 1 [] o k cap], true⟩), (1, some ⟨.row .cell, .u8s bs, false⟩), (2, some ⟨.row .cell, .u8s ss, false⟩)]
   ⟨.slice 3 [] 0 (a + k) none, [], [(.row .cell, .u8s ((ss.drop r).take a ++ (bs.drop o).take k))]⟩ := by
 have hl : ((ss.drop r).take a).length = a := by rw [List.length_take, List.length_drop]; omega
 have ht : (List.take a ((ss.drop r).take a)) = (ss.drop r).take a := List.take_of_length_le (by omega)
 refine acA tab mix Tryz.func82 ⟨[], [3, 11]⟩ ?_
 refine go ?_
 refine o0 3 ?_
 refine gob ?_
 refine cM (oB (0 + a + (k : Int)) (by omega) (by omega)) [] ?_
 refine o0 3 ?_
 refine gob ?_
 refine ⟨0, ?_⟩
 refine gob ?_
 refine ⟨0, ?_⟩
 refine gob ?_
 refine aF [0, 1, 2, 5] (h3 := ?_)
 refine ⟨⟨_, rfl, rfl, congrArg D.u8s ?_, id⟩, ⟨_, rfl, rfl, rfl, id⟩, ⟨_, rfl, rfl, rfl, id⟩, ⟨_, rfl, rfl, rfl, id⟩, trivial⟩
 exact congrArg (· ++ (bs.drop o).take k) ((congrArg (fun n => List.take n ((ss.drop r).take a)) (Nat.zero_add a)).trans ht)
def fZ (s : List (BitVec 32)) (c : B8) : Nat → List (BitVec 32)
 |0 => s
 |j + 1 => sbF (fZ s c j) c (64 * j)
theorem cU (s : List (BitVec 32)) (c : B8) : ∀ j, (fZ s c j).length = s.length
 |0 => rfl
 |j + 1 => by rw [fZ, aAY, cU s c j]
def H0 : List (BitVec 32) := [0x6a09e667, 0xbb67ae85, 0x3c6ef372, 0xa54ff53a, 0x510e527f, 0x9b05688c, 0x1f83d9ab, 0x5be0cd19]
theorem u2 : AC Tryz.prog 125 [] 0 [] ⟨.u32s H0, [], []⟩ := by
 refine acA tab mix Tryz.func125 {} ?_
 refine go ?_
 refine aF []
theorem nI : AC Tryz.prog 84 [] 0 [] ⟨.ptr 0 [], [], [(tH, .node [.u32s H0, .nilslice, .i64 0])]⟩ := by
 refine acA tab mix Tryz.func84 {} ?_
 refine go ?_
 refine eD u2 [] ?_
 have h : H0.length = 8 := rfl
 generalize H0 = s at h ⊢
 refine go ?_
 refine aF [0]
theorem sO (s : List (BitVec 32)) (n : Int) (bs : B8) (o k : Nat) (cap : Option Nat) (hs : s.length = 8) (hn : 0 ≤ n ∧ n < 4611686018427387904) (h : o + k ≤ bs.length) (h0 : 0 < k) (hk : k ≤ 70368744177664) :
  AC Tryz.prog 85 [.ptr 0 [], .slice 1 [] o k cap] 2 [(0, some ⟨tH, .node [.u32s s, .nilslice, .i64 n], true⟩), (1, some ⟨.row .cell, .u8s bs, false⟩), gR]
   ⟨.i64 0, [(0, some (.node [.u32s (fZ s ((bs.drop o).take k) (k / 64)), .slice 2 [] (64 * (k / 64)) (k - 64 * (k / 64)) none, .i64 (n + k)]))], [(.row .cell, .u8s ((bs.drop o).take k))]⟩ := by
 have hl : ((bs.drop o).take k).length = k := by rw [List.length_take, List.length_drop]; omega
 refine acA tab mix Tryz.func85 {} ?_
 refine gob ?_
 refine eD (sB bs o k cap h h0 hk) [2, 1] ?_
 generalize (bs.drop o).take k = c at hl ⊢
 refine go ?_
 refine aT Nat (fun j => [(0, .ptr 0 []), (1, .slice 2 [] (64 * j) (k - 64 * j) none)]) (fun j => [(0, some ⟨tH, .node [.u32s (fZ s c j), .nilslice, .i64 (n + k)], true⟩), (1, some ⟨.row .cell, .u8s bs, false⟩), (2, some ⟨.row .cell, .u8s c, true⟩), gR]) 3
  (fun j => j ≤ k / 64) (fun j => k / 64 - j) 0 [0, 1, 3] (Nat.zero_le _) viewA ?_
 intro j hj
 have hsl := cU s c j
 rw [hs] at hsl
 refine go ?_
 refine Br.split (fun h => ?_) (fun h => ?_)
 ·have hj : 64 * j + 64 ≤ k := by have := of_decide_eq_true h; omega
  have e : fZ s c (j + 1) = sbF (fZ s c j) c (64 * j) := rfl
  have ha := (xY (fZ s c j) c (64 * j) hsl (by omega) (by omega) (n + k) 0 0 none).2.1
  generalize fZ s c j = x at hsl e ha ⊢
  refine go ?_
  refine cM ha [0, 2] ?_
  refine aQ (j + 1) [0, 1, 2] (viewA (h2 := ?_) (h3 := ?_))
  ·rw [show 64 * (j + 1) = 64 * j + 64 by omega, show k - (64 * j + 64) = k - 64 * j - 64 by omega]
   exact ⟨rfl, rfl, trivial⟩
  ·rw [e]
   exact ⟨⟨_, rfl, rfl, rfl, id⟩, ⟨_, rfl, rfl, rfl, id⟩, ⟨_, rfl, rfl, rfl, id⟩, ⟨_, rfl, rfl, rfl, id⟩, trivial⟩
 ·obtain rfl : j = k / 64 := by have := of_decide_eq_false h; omega
  refine go ?_
  refine aF [0, 1, 2]
theorem aDH (s : List (BitVec 32)) (n : Int) (ss bs : B8) (r a o k : Nat) (rc cap : Option Nat) (hs : s.length = 8) (hn : 0 ≤ n ∧ n < 4611686018427387904) (ha : r + a ≤ ss.length) (h : o + k ≤ bs.length) (h0 : 0 < k) (hk : a + k ≤ 70368744177664) :
  AC Tryz.prog 85 [.ptr 0 [], .slice 1 [] o k cap] 3 [(0, some ⟨tH, .node [.u32s s, .slice 2 [] r a rc, .i64 n], true⟩), (1, some ⟨.row .cell, .u8s bs, false⟩), (2, some ⟨.row .cell, .u8s ss, true⟩), gR]
   ⟨.i64 0, [(0, some (.node [.u32s (fZ s ((ss.drop r).take a ++ (bs.drop o).take k) ((a + k) / 64)), .slice 3 [] (64 * ((a + k) / 64)) (a + k - 64 * ((a + k) / 64)) none, .i64 (n + k)]))],
    [(.row .cell, .u8s ((ss.drop r).take a ++ (bs.drop o).take k))]⟩ := by
 have hl : ((ss.drop r).take a ++ (bs.drop o).take k).length = a + k := by rw [List.length_append, List.length_take, List.length_drop, List.length_take, List.length_drop]; omega
 refine acA tab mix Tryz.func85 {} ?_
 refine gob ?_
 refine eD (aCk ss bs r a o k rc cap ha h h0 hk) [3, 1, 2] ?_
 generalize (ss.drop r).take a ++ (bs.drop o).take k = c at hl ⊢
 refine go ?_
 refine aT Nat (fun j => [(0, .ptr 0 []), (1, .slice 3 [] (64 * j) (a + k - 64 * j) none)]) (fun j => [(0, some ⟨tH, .node [.u32s (fZ s c j), .slice 2 [] r a rc, .i64 (n + k)], true⟩), (1, some ⟨.row .cell, .u8s bs, false⟩),
  (2, some ⟨.row .cell, .u8s ss, true⟩), (3, some ⟨.row .cell, .u8s c, true⟩), gR]) 4
  (fun j => j ≤ (a + k) / 64) (fun j => (a + k) / 64 - j) 0 [0, 1, 2, 4] (Nat.zero_le _) viewA ?_
 intro j hj
 have hsl := cU s c j
 rw [hs] at hsl
 refine go ?_
 refine Br.split (fun h => ?_) (fun h => ?_)
 ·have hj : 64 * j + 64 ≤ a + k := by have := of_decide_eq_true h; omega
  have e : fZ s c (j + 1) = sbF (fZ s c j) c (64 * j) := rfl
  have ha := (xY (fZ s c j) c (64 * j) hsl (by omega) (by omega) (n + k) r a rc).2.2
  generalize fZ s c j = x at hsl e ha ⊢
  refine go ?_
  refine cM ha [0, 3, 2] ?_
  refine aQ (j + 1) [0, 1, 2, 3] (viewA (h2 := ?_) (h3 := ?_))
  ·rw [show 64 * (j + 1) = 64 * j + 64 by omega, show a + k - (64 * j + 64) = a + k - 64 * j - 64 by omega]
   exact ⟨rfl, rfl, trivial⟩
  ·rw [e]
   exact ⟨⟨_, rfl, rfl, rfl, id⟩, ⟨_, rfl, rfl, rfl, id⟩, ⟨_, rfl, rfl, rfl, id⟩, ⟨_, rfl, rfl, rfl, id⟩, ⟨_, rfl, rfl, rfl, id⟩, trivial⟩
 ·obtain rfl : j = (a + k) / 64 := by have := of_decide_eq_false h; omega
  refine go ?_
  refine aF [0, 1, 2, 3]
def w8 (s : List (BitVec 32)) : Nat → B8
 |0 => List.replicate 32 0
 |i + 1 => (w8 s i).take (4 * i) ++ nbF ((s.getD i 0).setWidth 64) 4 ++ (w8 s i).drop (4 * i + 4)
theorem i9 (s : List (BitVec 32)) : ∀ i, i ≤ 8 → (w8 s i).length = 32
 |0, _ => rfl
 |i + 1, h => by rw [w8, List.length_append, List.length_append, List.length_take, List.length_drop, i9 s i (by omega), aR]; omega
def zN (a : Nat) : Nat := (119 - a % 64) % 64
def aBM (c : B8) (j : Nat) : B8 := c ++ 128 :: List.replicate j 0
def sM (c : B8) (n : Int) : B8 := aBM c (zN c.length) ++ nbF (BitVec.ofInt 64 n * 8) 8
theorem aEY (a : Nat) : (a + 1 + zN a) % 64 = 56 := by unfold zN; omega
theorem nS (c : B8) (j : Nat) : (aBM c j).length = c.length + 1 + j := by
 simp only [aBM, List.length_append, List.length_cons, List.length_replicate]; omega
theorem aCB (c : B8) (j : Nat) : aBM c (j + 1) = aBM c j ++ [0] := by
 simp only [aBM, List.replicate_succ', List.cons_append, List.append_assoc]
theorem nT (c : B8) (n : Int) : (sM c n).length = c.length + 9 + zN c.length := by
 rw [sM, List.length_append, nS, aR]; omega
def sumF (s : List (BitVec 32)) (c : B8) (n : Int) : B8 := w8 (fZ s (sM c n) ((sM c n).length / 64)) 8
theorem sum_ac (s : List (BitVec 32)) (n : Int) (ss : B8) (r a : Nat) (rc : Option Nat) (hs : s.length = 8) (hn : 0 ≤ n ∧ n < 4611686018427387904) (ha : r + a ≤ ss.length) (hk : a ≤ 35184372088832) :
  AC Tryz.prog 86 [.ptr 0 []] 2 [(0, some ⟨tH, .node [.u32s s, .slice 1 [] r a rc, .i64 n], true⟩), (1, some ⟨.row .cell, .u8s ss, true⟩), gR] ⟨.u8s (sumF s ((ss.drop r).take a) n), [], []⟩ := by
 have hl : ((ss.drop r).take a).length = a := by rw [List.length_take, List.length_drop]; omega
 have hS : sumF s ((ss.drop r).take a) n = w8 (fZ s (sM ((ss.drop r).take a) n) ((sM ((ss.drop r).take a) n).length / 64)) 8 := rfl
 have hP : sM ((ss.drop r).take a) n = aBM ((ss.drop r).take a) (zN a) ++ nbF (BitVec.ofInt 64 n * 8) 8 := by rw [sM, hl]
 have hPl := nT ((ss.drop r).take a) n
 rw [hl] at hPl
 have hz := aEY a
 have hz2 : zN a < 64 := Nat.mod_lt _ (by decide)
 refine acA tab mix Tryz.func86 {} ?_
 refine gob ?_
 refine eD (mX ss r a rc ha (by omega)) [1] ?_
 generalize (ss.drop r).take a = c at *
 have ht : List.take a c = c := List.take_of_length_le (by omega)
 refine go ?_
 refine ⟨0, ?_⟩
 refine go ?_
 refine aT Nat (fun j => [(0, .ptr 0 []), (2, .ptr 2 []), (3, .ptr 3 []), (4, .slice 4 [] 0 (a + 1 + j) none)]) (fun j => [(0, some ⟨tH, .node [.u32s s, .slice 1 [] r a rc, .i64 n], true⟩), (1, some ⟨.row .cell, .u8s ss, true⟩),
  (2, some ⟨.arr 32 .cell, .u8s (List.replicate 32 0), true⟩), (3, some ⟨.arr 32 .cell, .u8s (List.replicate 32 0), true⟩), (4, some ⟨.row .cell, .u8s (aBM c j), true⟩), gR]) 5
  (fun j => j ≤ zN a) (fun j => zN a - j) 0 [0, 1, 2, 3, 6] (Nat.zero_le _) (viewA (h3 := ?_)) ?_
 ·exact ⟨⟨_, rfl, rfl, rfl, id⟩, ⟨_, rfl, rfl, rfl, id⟩, ⟨_, rfl, rfl, rfl, id⟩, ⟨_, rfl, rfl, rfl, id⟩, ⟨_, rfl, rfl, congrArg (fun x => D.u8s (x ++ [128])) ht, id⟩, ⟨_, rfl, rfl, rfl, id⟩, trivial⟩
 intro j hj
 have hpl := nS c j
 rw [hl] at hpl
 have q : Int.tmod ((a + 1 + j : Nat) : Int) 64 = (((a + 1 + j) % 64 : Nat) : Int) := (Int.ofNat_tmod (a + 1 + j) 64).symm
 repeat first | rw [q] | refine go1 ?_
 refine Br.split (fun h => ?_) (fun h => ?_)
 ·have hj : j < zN a := by
   have h1 : ¬ (((a + 1 + j) % 64 : Nat) : Int) = 56 := by simpa only [Bool.not_eq_true', decide_eq_false_iff_not] using h
   rcases Nat.lt_or_ge j (zN a) with h | h
   ·exact h
   ·exfalso; obtain rfl : j = zN a := by omega
    omega
  have e := aCB c j
  generalize aBM c j = x at hpl e ⊢
  refine go ?_
  refine ⟨0, ?_⟩
  refine go ?_
  refine aQ (j + 1) [0, 1, 2, 3, 6] (viewA (h3 := ?_))
  rw [e]
  exact ⟨⟨_, rfl, rfl, rfl, id⟩, ⟨_, rfl, rfl, rfl, id⟩, ⟨_, rfl, rfl, rfl, id⟩, ⟨_, rfl, rfl, rfl, id⟩, ⟨_, rfl, rfl, congrArg (fun x => D.u8s (x ++ [0])) (show List.take (a + 1 + j) x = x from List.take_of_length_le (by omega)), id⟩, ⟨_, rfl, rfl, rfl, id⟩, trivial⟩
 ·obtain rfl : j = zN a := by
   have h1 : (((a + 1 + j) % 64 : Nat) : Int) = 56 := by simpa only [Bool.not_eq_false', decide_eq_true_eq] using h
   unfold zN at hj hz ⊢; omega
  refine go ?_
  refine eD (aD8 (BitVec.ofInt 64 n * 8)) [] ?_
  have hpp := aR (BitVec.ofInt 64 n * 8) 8
  refine go ?_
  refine ⟨0, ?_⟩
  refine go ?_
  have hC : List.take (a + 1 + zN a) (aBM c (zN a)) ++ List.take 8 (nbF (BitVec.ofInt 64 n * 8) 8) = sM c n := by rw [hP, List.take_of_length_le (by omega), List.take_of_length_le (by omega)]
  have hz3 : (a + 1 + zN a + 8) % 64 = 0 := by omega
  generalize sM c n = P at hC hPl hS
  rw [show a + 9 + zN a = a + 1 + zN a + 8 by omega] at hPl
  refine aT Nat (fun j => [(2, .ptr 2 []), (3, .ptr 3 []), (4, .slice 4 [] (64 * j) (a + 1 + zN a + 8 - 64 * j) none), (5, .ptr 5 [])]) (fun j => [(0, some ⟨tH, .node [.u32s s, .slice 1 [] r a rc, .i64 n], true⟩), (1, some ⟨.row .cell, .u8s ss, true⟩),
   (2, some ⟨.arr 32 .cell, .u8s (List.replicate 32 0), true⟩), (3, some ⟨.arr 32 .cell, .u8s (List.replicate 32 0), true⟩), (4, some ⟨.row .cell, .u8s P, true⟩), (5, some ⟨t8, .u32s (fZ s P j), true⟩), gR]) 6
   (fun j => j ≤ P.length / 64) (fun j => P.length / 64 - j) 0 [0, 1, 2, 3, 6, 7] (Nat.zero_le _) (viewA (h3 := ?_)) ?_
  ·exact ⟨⟨_, rfl, rfl, rfl, id⟩, ⟨_, rfl, rfl, rfl, id⟩, ⟨_, rfl, rfl, rfl, id⟩, ⟨_, rfl, rfl, rfl, id⟩, ⟨_, rfl, rfl, congrArg D.u8s hC, id⟩, ⟨_, rfl, rfl, rfl, id⟩, ⟨_, rfl, rfl, rfl, id⟩, trivial⟩
  have hL : a + 1 + zN a + 8 < 70368744177664 := by omega
  generalize a + 1 + zN a + 8 = L at hPl hz3 hL ⊢
  intro j hj
  have hsl := cU s P j
  rw [hs] at hsl
  refine go ?_
  refine Br.split (fun h => ?_) (fun h => ?_)
  ·have hj : 64 * j + 64 ≤ L := by have := of_decide_eq_true h; omega
   have e : fZ s P (j + 1) = sbF (fZ s P j) P (64 * j) := rfl
   have ha := (xY (fZ s P j) P (64 * j) hsl (by omega) (by omega) 0 0 0 none).1
   generalize fZ s P j = x at hsl e ha ⊢
   refine go ?_
   refine cM ha [5, 4] ?_
   refine aQ (j + 1) [0, 1, 2, 3, 4, 5] (viewA (h2 := ?_) (h3 := ?_))
   ·rw [show 64 * (j + 1) = 64 * j + 64 by omega, show L - (64 * j + 64) = L - 64 * j - 64 by omega]
    exact ⟨rfl, rfl, rfl, rfl, trivial⟩
   ·rw [e]
    exact ⟨⟨_, rfl, rfl, rfl, id⟩, ⟨_, rfl, rfl, rfl, id⟩, ⟨_, rfl, rfl, rfl, id⟩, ⟨_, rfl, rfl, rfl, id⟩, ⟨_, rfl, rfl, rfl, id⟩, ⟨_, rfl, rfl, rfl, id⟩, ⟨_, rfl, rfl, rfl, id⟩, trivial⟩
  ·obtain rfl : j = P.length / 64 := by have := of_decide_eq_false h; omega
   generalize fZ s P (P.length / 64) = x at hsl hS ⊢
   refine go ?_
   refine aT Nat (fun i => [(2, .ptr 2 []), (3, .ptr 3 []), (46, .u32s x), (47, .i64 i)]) (fun i => [(0, some ⟨tH, .node [.u32s s, .slice 1 [] r a rc, .i64 n], true⟩), (1, some ⟨.row .cell, .u8s ss, true⟩),
    (2, some ⟨.arr 32 .cell, .u8s (List.replicate 32 0), true⟩), (3, some ⟨.arr 32 .cell, .u8s (w8 x i), true⟩), gR]) 4 (fun i => i ≤ 8) (fun i => 8 - i) 0 [0, 1, 2, 3] (Nat.zero_le _) viewA ?_
   intro i hi
   have hol := i9 x i hi
   refine go ?_
   refine Br.split (fun h => ?_) (fun h => ?_)
   ·have hi : i < 8 := by have := of_decide_eq_true h; omega
    have e : w8 x (i + 1) = (w8 x i).take (4 * i) ++ nbF ((x.getD i 0).setWidth 64) 4 ++ (w8 x i).drop (4 * i + 4) := rfl
    have hpp := aR ((x.getD i 0).setWidth 64) 4
    refine go ?_
    refine eD (dX (x.getD i 0)) [] ?_
    have q1 : Nat.min 4 ((Option.getD none ((32 : Nat) : Int)).toNat - ((some (4 * (i : Int))).getD 0).toNat) = 4 := by rw [aCN]; simp only [Option.getD]; omega
    have q2 : ((some (4 * (i : Int))).getD 0).toNat = 4 * i := by simp only [Option.getD]; omega
    generalize nbF ((x.getD i 0).setWidth 64) 4 = y at e hpp ⊢
    generalize w8 x i = z at e hol ⊢
    repeat first | rw [q1, q2] | refine go1 ?_
    refine aQ (i + 1) [0, 1, 2, 3] (viewA (h3 := ?_))
    rw [e]
    exact ⟨⟨_, rfl, rfl, rfl, id⟩, ⟨_, rfl, rfl, rfl, id⟩, ⟨_, rfl, rfl, rfl, id⟩, ⟨_, rfl, rfl, congrArg (fun l => D.u8s (z.take (4 * i) ++ l ++ z.drop (4 * i + 4))) (show List.take 4 y = y from List.take_of_length_le (by omega)), id⟩, ⟨_, rfl, rfl, rfl, id⟩, trivial⟩
   ·obtain rfl : i = 8 := by have := of_decide_eq_false h; omega
    refine go ?_
    refine aF [0, 1] (h1 := congrArg D.u8s hS.symm)
theorem tU {bs cs : B8} {o p : Nat} : ∀ {k : Nat}, (∀ i, i < k → bs.getD (o + i) 0 = cs.getD (p + i) 0) → rdI bs o k = rdI cs p k
 |0, _ => rfl
 |k + 1, h => by rw [rdI, rdI, tU (k := k) (fun i hi => h i (by omega)), h k (by omega)]
theorem yB {bs cs : B8} {o p : Nat} (h : ∀ i, i < 64 → bs.getD (o + i) 0 = cs.getD (p + i) 0) : ∀ t, wI bs o t = wI cs p t
 |0 => rfl
 |t + 1 => by
  rw [wI, wI, yB h t]
  split
  ·rw [tU (bs := bs) (cs := cs) (o := o + 4 * t) (p := p + 4 * t) (fun i hi => by rw [Nat.add_assoc, Nat.add_assoc]; exact h (4 * t + i) (by omega))]
  ·rfl
theorem tN {bs cs : B8} {o p : Nat} (s : List (BitVec 32)) (h : ∀ i, i < 64 → bs.getD (o + i) 0 = cs.getD (p + i) 0) : sbF s bs o = sbF s cs p := by
 unfold sbF; rw [yB h]
theorem yM (s : List (BitVec 32)) (c d : B8) : ∀ j, 64 * j ≤ c.length → fZ s (c ++ d) j = fZ s c j
 |0, _ => rfl
 |j + 1, h => by
  rw [fZ, fZ, yM s c d j (by omega)]
  exact tN _ fun i hi => mA (by omega)
theorem tI (s : List (BitVec 32)) (c : B8) (q : Nat) : ∀ j, fZ (fZ s c q) (c.drop (64 * q)) j = fZ s c (q + j)
 |0 => rfl
 |j + 1 => by
  rw [fZ, tI s c q j, ← Nat.add_assoc, fZ]
  exact tN _ fun i _ => by rw [aCa, Nat.mul_add, Nat.add_assoc]
def stF (m : B8) : List (BitVec 32) := fZ H0 m (m.length / 64)
def reF (m : B8) : B8 := m.drop (64 * (m.length / 64))
theorem pS (m : B8) : (stF m).length = 8 := cU _ _ _
theorem fQ (m : B8) : (reF m).length = m.length - 64 * (m.length / 64) := List.length_drop
theorem rI (m b : B8) : reF m ++ b = (m ++ b).drop (64 * (m.length / 64)) := by
 rw [List.drop_append_of_le_length (by omega)]; rfl
section
variable (m b : B8) {q : Nat} (hq : q = (reF m ++ b).length / 64)
include m b q hq
theorem aBZ : fZ (stF m) (reF m ++ b) q = stF (m ++ b) := by
 rw [rI, stF, ← yM H0 m b (m.length / 64) (by omega), tI, stF]
 congr 1
 rw [hq, rI, List.length_drop, List.length_append]; omega
theorem aD7 : (reF m ++ b).drop (64 * q) = reF (m ++ b) := by
 rw [rI, List.drop_drop, reF]
 congr 1
 rw [hq, rI, List.length_drop, List.length_append]; omega
end
def j0 (m : B8) : B8 := w8 (fZ H0 (sM m m.length) ((sM m m.length).length / 64)) 8
theorem bE (m : B8) : (j0 m).length = 32 := i9 _ 8 (Nat.le_refl _)
theorem aFB (m : B8) : sumF (stF m) (reF m) m.length = j0 m := by
 have hz : zN (reF m).length = zN m.length := by rw [fQ]; unfold zN; omega
 have hp : sM (reF m) m.length = reF m ++ (128 :: List.replicate (zN m.length) 0 ++ nbF (BitVec.ofInt 64 m.length * 8) 8) := by
  rw [sM, aBM, hz]; simp only [List.append_assoc]
 have hp2 : sM m m.length = m ++ (128 :: List.replicate (zN m.length) 0 ++ nbF (BitVec.ofInt 64 m.length * 8) 8) := by
  rw [sM, aBM]; simp only [List.append_assoc]
 have hm := aEY m.length
 rw [sumF, j0, hp, hp2]
 generalize hb : (128 :: List.replicate (zN m.length) 0 ++ nbF (BitVec.ofInt 64 m.length * 8) 8 : B8) = b
 rw [aBZ m b rfl]
 rfl
theorem sP (m X bs : B8) (x o k : Nat) (cap : Option Nat) (hX : (X.drop x).take (m.length % 64) = reF m) (hx : x + m.length % 64 ≤ X.length) (h : o + k ≤ bs.length) (h0 : 0 < k) (hk : k ≤ 35184372088832) (hm : m.length < 4611686018427387904) :
  AC Tryz.prog 85 [.ptr 0 [], .slice 1 [] o k cap] 3 [(0, some ⟨tH, .node [.u32s (stF m), .slice 2 [] x (m.length % 64) none, .i64 m.length], true⟩), (1, some ⟨.row .cell, .u8s bs, false⟩), (2, some ⟨.row .cell, .u8s X, true⟩), gR]
   ⟨.i64 0, [(0, some (.node [.u32s (stF (m ++ (bs.drop o).take k)), .slice 3 [] (64 * ((m.length % 64 + k) / 64)) ((m.length + k) % 64) none, .i64 (m.length + k : Nat)]))], [(.row .cell, .u8s (reF m ++ (bs.drop o).take k))]⟩ := by
 have hl : ((bs.drop o).take k).length = k := by rw [List.length_take, List.length_drop]; omega
 have h1 := aDH (stF m) m.length X bs x (m.length % 64) o k none cap (pS m) ⟨by omega, by omega⟩ hx h h0 (by omega)
 have hr := fQ m
 rw [hX, aBZ m _ (by rw [List.length_append, hl, hr]; congr 1; omega), show m.length % 64 + k - 64 * ((m.length % 64 + k) / 64) = (m.length + k) % 64 by omega, show (m.length : Int) + k = ((m.length + k : Nat) : Int) by omega] at h1
 exact h1
section
variable (m b : B8) {k : Nat} (hb : b.length = k)
include m b k hb
theorem dO : ((reF m ++ b).drop (64 * ((m.length % 64 + k) / 64))).take ((m.length + k) % 64) = reF (m ++ b) := by
 have hr := fQ m
 rw [aD7 m b (by rw [List.length_append, hb, hr]; congr 1; omega), List.take_of_length_le]
 rw [fQ, List.length_append, hb]; omega
theorem dN : 64 * ((m.length % 64 + k) / 64) + (m.length + k) % 64 ≤ (reF m ++ b).length := by
 rw [List.length_append, fQ, hb]; omega
end
theorem wE (m X : B8) (x : Nat) (hX : (X.drop x).take (m.length % 64) = reF m) (hx : x + m.length % 64 ≤ X.length) (hm : m.length < 4611686018427387904) :
  AC Tryz.prog 86 [.ptr 0 []] 2 [(0, some ⟨tH, .node [.u32s (stF m), .slice 1 [] x (m.length % 64) none, .i64 m.length], true⟩), (1, some ⟨.row .cell, .u8s X, true⟩), gR] ⟨.u8s (j0 m), [], []⟩ := by
 have h1 := sum_ac (stF m) m.length X x (m.length % 64) none (pS m) ⟨by omega, by omega⟩ hx (by omega)
 rw [hX, aFB] at h1
 exact h1
theorem m9 (bs : B8) (o k : Nat) (cap : Option Nat) (h : o + k ≤ bs.length) (h0 : 0 < k) (hk : k ≤ 70368744177664) :
  AC Tryz.prog 85 [.ptr 0 [], .slice 1 [] o k cap] 2 [(0, some ⟨tH, .node [.u32s H0, .nilslice, .i64 0], true⟩), (1, some ⟨.row .cell, .u8s bs, false⟩), gR]
   ⟨.i64 0, [(0, some (.node [.u32s (stF ((bs.drop o).take k)), .slice 2 [] (64 * (k / 64)) (k % 64) none, .i64 (k : Nat)]))], [(.row .cell, .u8s ((bs.drop o).take k))]⟩ := by
 have hl : ((bs.drop o).take k).length = k := by rw [List.length_take, List.length_drop]; omega
 have h1 := sO H0 0 bs o k cap rfl (by decide) h h0 hk
 have e : fZ H0 ((bs.drop o).take k) (k / 64) = stF ((bs.drop o).take k) := by rw [stF, hl]
 rw [e, show k - 64 * (k / 64) = k % 64 by omega, Int.zero_add] at h1
 exact h1
theorem aE9 (m : B8) : (m.drop (64 * (m.length / 64))).take (m.length % 64) = reF m := List.take_of_length_le (by rw [List.length_drop]; omega)
theorem aEb (ss bs : B8) (p k q l : Nat) (c d : Option Nat) (ha : p + k ≤ ss.length) (hb : q + l ≤ bs.length) (hk0 : 0 < k) (hl0 : 0 < l) (hk : k ≤ 35184372088832) (hl : l ≤ 35184372088832) :
  AC Tryz.prog 57 [.slice 0 [] 0 2 (some 2)] 4 [(0, some ⟨.row .cell, .node [.slice 1 [] p k c, .slice 2 [] q l d], true⟩), (1, some ⟨.row .cell, .u8s ss, false⟩), (2, some ⟨.row .cell, .u8s bs, false⟩), gR]
   ⟨.u8s (j0 ((ss.drop p).take k ++ (bs.drop q).take l)), [], []⟩ := by
 have hal : ((ss.drop p).take k).length = k := by rw [List.length_take, List.length_drop]; omega
 have hbl : ((bs.drop q).take l).length = l := by rw [List.length_take, List.length_drop]; omega
 refine acA tab mix Tryz.func57 ⟨[], [3]⟩ ?_
 refine go ?_
 refine eD nI [] ?_
 have hH : H0.length = 8 := rfl
 have hw := m9 ss p k c ha hk0 (by omega)
 generalize H0 = h0 at hw hH
 refine go ?_
 refine o0 3 ?_
 refine gob ?_
 refine aB hw [5, 1] ?_
 have hr := aE9 ((ss.drop p).take k)
 generalize (ss.drop p).take k = M at hal hr ⊢
 have hw2 := sP M M bs (64 * (M.length / 64)) q l d hr (by omega) hb hl0 hl (by omega)
 have hr2 := dO M ((bs.drop q).take l) hbl
 have hm2 := dN M ((bs.drop q).take l) hbl
 have hMl : (M ++ (bs.drop q).take l).length = k + l := by rw [List.length_append, hal, hbl]
 generalize (bs.drop q).take l = N at hw2 hr2 hm2 hMl ⊢
 have hs2 := wE (M ++ N) (reF M ++ N) (64 * ((M.length % 64 + l) / 64)) (by rw [hMl, ← hal]; exact hr2) (by rw [hMl, ← hal]; exact hm2) (by omega)
 rw [hMl] at hs2
 rw [hal] at hw2 hs2
 have hsl := bE (M ++ N)
 generalize j0 (M ++ N) = y at hs2 hsl ⊢
 refine aB hw2 [5, 2, 6] ?_
 refine aB hs2 [5, 7] ?_
 refine aF [0, 1, 2, 3]
abbrev tM : Ty := .st [.cell, .arr 64 .cell]
def aC0 (key : B8) : B8 := key ++ List.replicate (64 - key.length) 0
def xsI (base key : B8) (c : BitVec 8) : Nat → B8
 |0 => base
 |i + 1 => (xsI base key c i).set i (key.getD i 0 ^^^ c)
theorem fN (base key : B8) (c : BitVec 8) : ∀ i, (xsI base key c i).length = base.length
 |0 => rfl
 |i + 1 => by rw [xsI, List.length_set, fN base key c i]
def ipF (key : B8) : B8 := xsI (aC0 key) (aC0 key) 0x36 64
def opF (key : B8) : B8 := xsI (List.replicate 64 0) (aC0 key) 0x5c 64
theorem n7 {key : B8} (h : key.length ≤ 64) : (aC0 key).length = 64 := by rw [aC0, List.length_append, List.length_replicate]; omega
theorem qG {key : B8} (h : key.length ≤ 64) : (ipF key).length = 64 := by rw [ipF, fN, n7 h]
theorem qA (key : B8) : (opF key).length = 64 := by rw [opF, fN]; rfl
theorem aC5 (bs : B8) (o k : Nat) (cap : Option Nat) (h : o + k ≤ bs.length) (hk : k ≤ 64) :
  AC Tryz.prog 88 [.slice 0 [] o k cap] 1 [(0, some ⟨.row .cell, .u8s bs, false⟩), gR]
   ⟨.ptr 1 [], [], [(tM, .node [.ptr 2 [], .u8s (opF ((bs.drop o).take k))]), (tH, .node [.u32s (stF (ipF ((bs.drop o).take k))), .slice 3 [] 64 0 none, .i64 64]), (.row .cell, .u8s (ipF ((bs.drop o).take k)))]⟩ := by
 have hl : ((bs.drop o).take k).length = k := by rw [List.length_take, List.length_drop]; omega
 refine acA tab mix Tryz.func88 {} ?_
 refine gob ?_
 refine eD nI [] ?_
 have hH : H0.length = 8 := rfl
 have hw := fun bs h => m9 bs 0 64 (some 64) h (by decide) (by decide)
 generalize H0 = h0 at hw hH
 have q1 : Nat.min k ((Option.getD none ((64 : Nat) : Int)).toNat - (Option.getD none (0 : Int)).toNat) = k := by rw [aCN]; simp only [Option.getD]; omega
 repeat first | rw [q1] | refine go1 ?_
 have hKP : List.take (Option.getD none (0 : Int)).toNat (List.replicate 64 (0 : BitVec 8)) ++ List.take k (List.drop o bs) ++ List.drop ((Option.getD none (0 : Int)).toNat + k) (List.replicate 64 0) = aC0 ((bs.drop o).take k) := by
  rw [aC0, hl, List.drop_replicate]
  show List.take 0 _ ++ _ ++ List.replicate (64 - (0 + k)) _ = _
  rw [Nat.zero_add]; rfl
 have hkl := n7 (key := (bs.drop o).take k) (by omega)
 have hip : ipF ((bs.drop o).take k) = xsI (aC0 ((bs.drop o).take k)) (aC0 ((bs.drop o).take k)) 0x36 64 := rfl
 have hop : opF ((bs.drop o).take k) = xsI (List.replicate 64 0) (aC0 ((bs.drop o).take k)) 0x5c 64 := rfl
 generalize opF ((bs.drop o).take k) = O at hop ⊢
 generalize ipF ((bs.drop o).take k) = N at hip ⊢
 generalize aC0 ((bs.drop o).take k) = K at hKP hkl hip hop
 refine aT Nat (fun i => [(4, .ptr 1 []), (5, .ptr 3 []), (21, .u8s K), (22, .i64 i)]) (fun i => [(0, some ⟨.row .cell, .u8s bs, false⟩), (1, some ⟨.arr 64 .cell, .u8s (xsI K K 0x36 i), true⟩), (2, some ⟨tH, .node [.u32s h0, .nilslice, .i64 0], true⟩),
  (3, some ⟨tM, .node [.ptr 2 [], .u8s (xsI (List.replicate 64 0) K 0x5c i)], true⟩), gR]) 4 (fun i => i ≤ 64) (fun i => 64 - i) 0 [0, 1, 2, 3] (Nat.zero_le _) (viewA (h2 := ?_) (h3 := ?_)) ?_
 ·exact ⟨rfl, rfl, congrArg (fun x => some (D.u8s x)) hKP, rfl, trivial⟩
 ·exact ⟨⟨_, rfl, rfl, rfl, id⟩, ⟨_, rfl, rfl, congrArg D.u8s hKP, id⟩, ⟨_, rfl, rfl, rfl, id⟩, ⟨_, rfl, rfl, rfl, id⟩, ⟨_, rfl, rfl, rfl, id⟩, trivial⟩
 intro i hi
 have h1 := fN K K 0x36 i
 have h2 := fN (List.replicate 64 0) K 0x5c i
 rw [List.length_replicate] at h2
 refine go ?_
 refine Br.split (fun h => ?_) (fun h => ?_)
 ·have hi : i < 64 := by have := of_decide_eq_true h; omega
  refine go ?_
  refine aQ (i + 1) [0, 1, 2, 3] viewA
 ·obtain rfl : i = 64 := by have := of_decide_eq_false h; omega
  rw [← hip, ← hop]
  rw [← hip] at h1
  rw [← hop] at h2
  have hw := hw N (by omega)
  rw [List.drop_zero, List.take_of_length_le (by omega)] at hw
  refine go ?_
  refine cM (hw.arr 1 64) [2, 1] ?_
  refine aF [0, 3, 2, 4]
theorem eX (O m X bs : B8) (x o k : Nat) (cap : Option Nat) (hX : (X.drop x).take (m.length % 64) = reF m) (hx : x + m.length % 64 ≤ X.length) (h : o + k ≤ bs.length) (h0 : 0 < k) (hk : k ≤ 35184372088832) (hm : m.length < 4611686018427387904) :
  AC Tryz.prog 89 [.ptr 0 [], .slice 2 [] o k cap] 4 [(0, some ⟨tM, .node [.ptr 1 [], .u8s O], true⟩), (1, some ⟨tH, .node [.u32s (stF m), .slice 3 [] x (m.length % 64) none, .i64 m.length], true⟩), (2, some ⟨.row .cell, .u8s bs, false⟩), (3, some ⟨.row .cell, .u8s X, true⟩), gR]
   ⟨.i64 0, [(1, some (.node [.u32s (stF (m ++ (bs.drop o).take k)), .slice 4 [] (64 * ((m.length % 64 + k) / 64)) ((m.length + k) % 64) none, .i64 (m.length + k : Nat)]))], [(.row .cell, .u8s (reF m ++ (bs.drop o).take k))]⟩ := by
 have hw := sP m X bs x o k cap hX hx h h0 hk hm
 generalize (bs.drop o).take k = b at hw ⊢
 refine acA tab mix Tryz.func89 {} ?_
 refine gob ?_
 refine cM hw [1, 2, 3] ?_
 refine aF [0, 1, 2, 3, 4]
theorem uJ (O m X : B8) (x : Nat) (hX : (X.drop x).take (m.length % 64) = reF m) (hx : x + m.length % 64 ≤ X.length) (hm : m.length < 4611686018427387904) (hO : O.length = 64) :
  AC Tryz.prog 90 [.ptr 0 []] 3 [(0, some ⟨tM, .node [.ptr 1 [], .u8s O], true⟩), (1, some ⟨tH, .node [.u32s (stF m), .slice 2 [] x (m.length % 64) none, .i64 m.length], true⟩), (2, some ⟨.row .cell, .u8s X, true⟩), gR]
   ⟨.u8s (j0 (O ++ j0 m)), [], []⟩ := by
 have hs := wE m X x hX hx hm
 have hl := bE m
 generalize j0 m = y at hs hl ⊢
 have ho := (aEb O y 0 64 0 32 (some 64) (some 32) (by omega) (by omega) (by decide) (by decide) (by decide) (by decide))
 have hl2 := bE (O ++ y)
 rw [List.drop_zero, List.take_of_length_le (by omega), List.drop_zero, List.take_of_length_le (by omega)] at ho
 generalize j0 (O ++ y) = z at ho hl2 ⊢
 refine acA tab mix Tryz.func90 {} ?_
 refine gob ?_
 refine cM hs [1, 2] ?_
 refine cM ((ho.arrAt 1 64 [.fld 1] tM (.node [.ptr 3 [], .u8s O])).arr 2 32) [5, 0, 4, 1] ?_
 refine aF [0, 1, 2]
theorem of1_ac (ss : B8) (p k : Nat) (c : Option Nat) (ha : p + k ≤ ss.length) (hk0 : 0 < k) (hk : k ≤ 35184372088832) :
  AC Tryz.prog 57 [.slice 0 [] 0 1 (some 1)] 2 [(0, some ⟨.row .cell, .node [.slice 1 [] p k c], true⟩), (1, some ⟨.row .cell, .u8s ss, false⟩), gR] ⟨.u8s (j0 ((ss.drop p).take k)), [], []⟩ := by
 have hal : ((ss.drop p).take k).length = k := by rw [List.length_take, List.length_drop]; omega
 refine acA tab mix Tryz.func57 ⟨[], [3]⟩ ?_
 refine go ?_
 refine eD nI [] ?_
 have hH : H0.length = 8 := rfl
 have hw := m9 ss p k c ha hk0 (by omega)
 generalize H0 = h0 at hw hH
 refine go ?_
 refine o0 2 ?_
 refine gob ?_
 refine aB hw [3, 1] ?_
 have hr := aE9 ((ss.drop p).take k)
 generalize (ss.drop p).take k = M at hal hr ⊢
 have hs2 := wE M M (64 * (M.length / 64)) hr (by omega) (by omega)
 rw [hal] at hs2
 have hsl := bE M
 generalize j0 M = y at hs2 hsl ⊢
 refine aB hs2 [3, 4] ?_
 refine aF [0, 1]
def bX (a : BitVec 8) : BitVec 8 := if a &&& 128 = 0 then a <<< 1 else (a <<< 1) ^^^ 27
theorem yL (a : BitVec 8) : AC Tryz.prog 159 [.u8 a] 0 [] ⟨.u8 (bX a), [], []⟩ := by
 refine fM tab mix Tryz.func159 rfl (by kernel_rfl) (by kernel_rfl) (by kernel_rfl) {} ?_
 repeat first | refine EffG.mk (And.intro trivial ?_) | refine And.intro trivial ?_ | refine mC (by kernel_rfl) ?_ | refine Br.yes rfl ?_ | refine Br.no rfl ?_
 refine Br.split (fun h => ?_) (fun h => ?_)
 ·repeat first | refine EffG.mk (And.intro trivial ?_) | refine And.intro trivial ?_ | refine mC (by kernel_rfl) ?_ | refine Br.yes rfl ?_ | refine Br.no rfl ?_
  refine oX [] ?_ rfl trivial rfl
  refine congrArg D.u8 ?_
  have h : ¬ (a &&& 128 = 0) := by simpa using h
  exact (if_neg h).symm
 ·repeat first | refine EffG.mk (And.intro trivial ?_) | refine And.intro trivial ?_ | refine mC (by kernel_rfl) ?_ | refine Br.yes rfl ?_ | refine Br.no rfl ?_
  refine oX [] ?_ rfl trivial rfl
  refine congrArg D.u8 ?_
  have h : (a &&& 128 = 0) := by simpa using h
  exact (if_pos h).symm
theorem fX (a : BitVec 8) : AC Tryz.prog 161 [.u8 a] 0 [] ⟨.u8 (bX a), [], []⟩ := by
 refine fM tab mix Tryz.func161 rfl (by kernel_rfl) (by kernel_rfl) (by kernel_rfl) {} ?_
 repeat first | refine EffG.mk (And.intro trivial ?_) | refine And.intro trivial ?_ | refine mC (by kernel_rfl) ?_ | refine Br.yes rfl ?_ | refine Br.no rfl ?_
 refine Br.split (fun h => ?_) (fun h => ?_)
 ·repeat first | refine EffG.mk (And.intro trivial ?_) | refine And.intro trivial ?_ | refine mC (by kernel_rfl) ?_ | refine Br.yes rfl ?_ | refine Br.no rfl ?_
  refine oX [] ?_ rfl trivial rfl
  refine congrArg D.u8 ?_
  have h : ¬ (a &&& 128 = 0) := by simpa using h
  exact (if_neg h).symm
 ·repeat first | refine EffG.mk (And.intro trivial ?_) | refine And.intro trivial ?_ | refine mC (by kernel_rfl) ?_ | refine Br.yes rfl ?_ | refine Br.no rfl ?_
  refine oX [] ?_ rfl trivial rfl
  refine congrArg D.u8 ?_
  have h : (a &&& 128 = 0) := by simpa using h
  exact (if_pos h).symm
def mulS (x : BitVec 8 × BitVec 8 × BitVec 8) : BitVec 8 × BitVec 8 × BitVec 8 := (bX x.1, x.2.1 >>> 1, if x.2.1 &&& 1 = 0 then x.2.2 else x.2.2 ^^^ x.1)
def aFi (a b : BitVec 8) : Nat → BitVec 8 × BitVec 8 × BitVec 8
 |0 => (a, b, 0)
 |n + 1 => mulS (aFi a b n)
def mulF (a b : BitVec 8) : BitVec 8 := (aFi a b 8).2.2
theorem mul_ac (a b : BitVec 8) : AC Tryz.prog 129 [.u8 a, .u8 b] 0 [] ⟨.u8 (mulF a b), [], []⟩ := by
 refine fM tab mix Tryz.func129 rfl (by kernel_rfl) (by kernel_rfl) (by kernel_rfl) {} ?_
 repeat first | refine EffG.mk (And.intro trivial ?_) | refine And.intro trivial ?_ | refine mC (by kernel_rfl) ?_ | refine Br.yes rfl ?_ | refine Br.no rfl ?_
 refine aT Nat (fun k => [(0, .u8 (aFi a b k).1), (1, .u8 (aFi a b k).2.1), (5, .u8 (aFi a b k).2.2), (6, .i64 k)]) (fun _ => []) 0 (fun k => k ≤ 8) (fun k => 8 - k) 0 [] (Nat.zero_le _) ?_ ?_
 ·exact bA rfl ⟨rfl, rfl, rfl, rfl, trivial⟩ trivial rfl
 intro k hk
 repeat first | refine EffG.mk (And.intro trivial ?_) | refine And.intro trivial ?_ | refine mC (by kernel_rfl) ?_ | refine Br.yes rfl ?_ | refine Br.no rfl ?_
 refine Br.split (fun h => ?_) (fun h => ?_)
 ·have hk : k < 8 := by have := of_decide_eq_true h; omega
  repeat first | refine EffG.mk (And.intro trivial ?_) | refine And.intro trivial ?_ | refine mC (by kernel_rfl) ?_ | refine Br.yes rfl ?_ | refine Br.no rfl ?_
  refine Br.split (fun h => ?_) (fun h => ?_)
  ·repeat first | refine EffG.mk (And.intro trivial ?_) | refine And.intro trivial ?_ | refine mC (by kernel_rfl) ?_ | refine Br.yes rfl ?_ | refine Br.no rfl ?_
   refine bY (yL _) [] rfl rfl trivial rfl rfl ?_
   repeat first | refine EffG.mk (And.intro trivial ?_) | refine And.intro trivial ?_ | refine mC (by kernel_rfl) ?_ | refine Br.yes rfl ?_ | refine Br.no rfl ?_
   refine EffG.mk (And.intro (by omega) ?_)
   refine EffG.mk (And.intro trivial ?_)
   refine fS (k + 1) [] (by omega) (by omega) (bA rfl ⟨rfl, rfl, ?_, rfl, trivial⟩ trivial rfl)
   have h : ¬ ((aFi a b k).2.1 &&& 1 = 0) := by simpa using h
   refine congrArg some (congrArg D.u8 ?_)
   exact (if_neg h).symm
  ·repeat first | refine EffG.mk (And.intro trivial ?_) | refine And.intro trivial ?_ | refine mC (by kernel_rfl) ?_ | refine Br.yes rfl ?_ | refine Br.no rfl ?_
   refine bY (yL _) [] rfl rfl trivial rfl rfl ?_
   repeat first | refine EffG.mk (And.intro trivial ?_) | refine And.intro trivial ?_ | refine mC (by kernel_rfl) ?_ | refine Br.yes rfl ?_ | refine Br.no rfl ?_
   refine EffG.mk (And.intro (by omega) ?_)
   refine EffG.mk (And.intro trivial ?_)
   refine fS (k + 1) [] (by omega) (by omega) (bA rfl ⟨rfl, rfl, ?_, rfl, trivial⟩ trivial rfl)
   have h : ((aFi a b k).2.1 &&& 1 = 0) := by simpa using h
   refine congrArg some (congrArg D.u8 ?_)
   exact (if_pos h).symm
 ·have hk : k = 8 := by have := of_decide_eq_false h; omega
  subst hk
  repeat first | refine EffG.mk (And.intro trivial ?_) | refine And.intro trivial ?_ | refine mC (by kernel_rfl) ?_ | refine Br.yes rfl ?_ | refine Br.no rfl ?_
  refine oX [] rfl rfl trivial rfl
def boxL : B8 := [0x63, 0x7c, 0x77, 0x7b, 0xf2, 0x6b, 0x6f, 0xc5, 0x30, 0x01, 0x67, 0x2b, 0xfe, 0xd7, 0xab, 0x76, 0xca, 0x82, 0xc9, 0x7d, 0xfa, 0x59, 0x47, 0xf0, 0xad, 0xd4, 0xa2, 0xaf, 0x9c, 0xa4, 0x72, 0xc0, 0xb7, 0xfd, 0x93, 0x26, 0x36, 0x3f, 0xf7, 0xcc, 0x34, 0xa5, 0xe5, 0xf1, 0x71, 0xd8, 0x31, 0x15, 0x04, 0xc7, 0x23, 0xc3, 0x18, 0x96, 0x05, 0x9a, 0x07, 0x12, 0x80, 0xe2, 0xeb, 0x27, 0xb2, 0x75, 0x09, 0x83, 0x2c, 0x1a, 0x1b, 0x6e, 0x5a, 0xa0, 0x52, 0x3b, 0xd6, 0xb3, 0x29, 0xe3, 0x2f, 0x84, 0x53, 0xd1, 0x00, 0xed, 0x20, 0xfc, 0xb1, 0x5b, 0x6a, 0xcb, 0xbe, 0x39, 0x4a, 0x4c, 0x58, 0xcf, 0xd0, 0xef, 0xaa, 0xfb, 0x43, 0x4d, 0x33, 0x85, 0x45, 0xf9, 0x02, 0x7f, 0x50, 0x3c, 0x9f, 0xa8, 0x51, 0xa3, 0x40, 0x8f, 0x92, 0x9d, 0x38, 0xf5, 0xbc, 0xb6, 0xda, 0x21, 0x10, 0xff, 0xf3, 0xd2, 0xcd, 0x0c, 0x13, 0xec, 0x5f, 0x97, 0x44, 0x17, 0xc4, 0xa7, 0x7e, 0x3d, 0x64, 0x5d, 0x19, 0x73, 0x60, 0x81, 0x4f, 0xdc, 0x22, 0x2a, 0x90, 0x88, 0x46, 0xee, 0xb8, 0x14, 0xde, 0x5e, 0x0b, 0xdb, 0xe0, 0x32, 0x3a, 0x0a, 0x49, 0x06, 0x24, 0x5c, 0xc2, 0xd3, 0xac, 0x62, 0x91, 0x95, 0xe4, 0x79, 0xe7, 0xc8, 0x37, 0x6d, 0x8d, 0xd5, 0x4e, 0xa9, 0x6c, 0x56, 0xf4, 0xea, 0x65, 0x7a, 0xae, 0x08, 0xba, 0x78, 0x25, 0x2e, 0x1c, 0xa6, 0xb4, 0xc6, 0xe8, 0xdd, 0x74, 0x1f, 0x4b, 0xbd, 0x8b, 0x8a, 0x70, 0x3e, 0xb5, 0x66, 0x48, 0x03, 0xf6, 0x0e, 0x61, 0x35, 0x57, 0xb9, 0x86, 0xc1, 0x1d, 0x9e, 0xe1, 0xf8, 0x98, 0x11, 0x69, 0xd9, 0x8e, 0x94, 0x9b, 0x1e, 0x87, 0xe9, 0xce, 0x55, 0x28, 0xdf, 0x8c, 0xa1, 0x89, 0x0d, 0xbf, 0xe6, 0x42, 0x68, 0x41, 0x99, 0x2d, 0x0f, 0xb0, 0x54, 0xbb, 0x16]
def unboxL : B8 := [0x52, 0x09, 0x6a, 0xd5, 0x30, 0x36, 0xa5, 0x38, 0xbf, 0x40, 0xa3, 0x9e, 0x81, 0xf3, 0xd7, 0xfb, 0x7c, 0xe3, 0x39, 0x82, 0x9b, 0x2f, 0xff, 0x87, 0x34, 0x8e, 0x43, 0x44, 0xc4, 0xde, 0xe9, 0xcb, 0x54, 0x7b, 0x94, 0x32, 0xa6, 0xc2, 0x23, 0x3d, 0xee, 0x4c, 0x95, 0x0b, 0x42, 0xfa, 0xc3, 0x4e, 0x08, 0x2e, 0xa1, 0x66, 0x28, 0xd9, 0x24, 0xb2, 0x76, 0x5b, 0xa2, 0x49, 0x6d, 0x8b, 0xd1, 0x25, 0x72, 0xf8, 0xf6, 0x64, 0x86, 0x68, 0x98, 0x16, 0xd4, 0xa4, 0x5c, 0xcc, 0x5d, 0x65, 0xb6, 0x92, 0x6c, 0x70, 0x48, 0x50, 0xfd, 0xed, 0xb9, 0xda, 0x5e, 0x15, 0x46, 0x57, 0xa7, 0x8d, 0x9d, 0x84, 0x90, 0xd8, 0xab, 0x00, 0x8c, 0xbc, 0xd3, 0x0a, 0xf7, 0xe4, 0x58, 0x05, 0xb8, 0xb3, 0x45, 0x06, 0xd0, 0x2c, 0x1e, 0x8f, 0xca, 0x3f, 0x0f, 0x02, 0xc1, 0xaf, 0xbd, 0x03, 0x01, 0x13, 0x8a, 0x6b, 0x3a, 0x91, 0x11, 0x41, 0x4f, 0x67, 0xdc, 0xea, 0x97, 0xf2, 0xcf, 0xce, 0xf0, 0xb4, 0xe6, 0x73, 0x96, 0xac, 0x74, 0x22, 0xe7, 0xad, 0x35, 0x85, 0xe2, 0xf9, 0x37, 0xe8, 0x1c, 0x75, 0xdf, 0x6e, 0x47, 0xf1, 0x1a, 0x71, 0x1d, 0x29, 0xc5, 0x89, 0x6f, 0xb7, 0x62, 0x0e, 0xaa, 0x18, 0xbe, 0x1b, 0xfc, 0x56, 0x3e, 0x4b, 0xc6, 0xd2, 0x79, 0x20, 0x9a, 0xdb, 0xc0, 0xfe, 0x78, 0xcd, 0x5a, 0xf4, 0x1f, 0xdd, 0xa8, 0x33, 0x88, 0x07, 0xc7, 0x31, 0xb1, 0x12, 0x10, 0x59, 0x27, 0x80, 0xec, 0x5f, 0x60, 0x51, 0x7f, 0xa9, 0x19, 0xb5, 0x4a, 0x0d, 0x2d, 0xe5, 0x7a, 0x9f, 0x93, 0xc9, 0x9c, 0xef, 0xa0, 0xe0, 0x3b, 0x4d, 0xae, 0x2a, 0xf5, 0xb0, 0xc8, 0xeb, 0xbb, 0x3c, 0x83, 0x53, 0x99, 0x61, 0x17, 0x2b, 0x04, 0x7e, 0xba, 0x77, 0xd6, 0x26, 0xe1, 0x69, 0x14, 0x63, 0x55, 0x21, 0x0c, 0x7d]
set_option maxRecDepth 100000 in
theorem aCn : AC Tryz.prog 128 [] 0 [] ⟨.u8s boxL, [], []⟩ := by
 refine fM tab mix Tryz.func128 rfl (by kernel_rfl) (by kernel_rfl) (by kernel_rfl) {} ?_
 repeat first | refine EffG.mk (And.intro trivial ?_) | refine And.intro trivial ?_ | refine mC (by kernel_rfl) ?_ | refine Br.yes rfl ?_ | refine Br.no rfl ?_
 refine EffG.mk (And.intro ?_ ?_)
 ·repeat' first | exact trivial | exact rfl | exact Nat.le_of_ble_eq_true rfl | refine And.intro ?_ ?_
 repeat first | refine EffG.mk (And.intro trivial ?_) | refine And.intro trivial ?_ | refine mC (by kernel_rfl) ?_ | refine Br.yes rfl ?_ | refine Br.no rfl ?_
 refine EffG.mk (And.intro ?_ ?_)
 ·repeat' first | exact trivial | exact eY (by kernel_rfl) | refine And.intro ?_ ?_
 repeat first | refine EffG.mk (And.intro trivial ?_) | refine And.intro trivial ?_ | refine mC (by kernel_rfl) ?_ | refine Br.yes rfl ?_ | refine Br.no rfl ?_
 refine oX [] ?_ rfl trivial rfl
 refine congrArg D.u8s ?_
 kernel_rfl
set_option maxRecDepth 100000 in
theorem aDI : AC Tryz.prog 136 [] 0 [] ⟨.u8s unboxL, [], []⟩ := by
 refine fM tab mix Tryz.func136 rfl (by kernel_rfl) (by kernel_rfl) (by kernel_rfl) {} ?_
 repeat first | refine EffG.mk (And.intro trivial ?_) | refine And.intro trivial ?_ | refine mC (by kernel_rfl) ?_ | refine Br.yes rfl ?_ | refine Br.no rfl ?_
 refine EffG.mk (And.intro ?_ ?_)
 ·repeat' first | exact trivial | exact rfl | exact Nat.le_of_ble_eq_true rfl | refine And.intro ?_ ?_
 repeat first | refine EffG.mk (And.intro trivial ?_) | refine And.intro trivial ?_ | refine mC (by kernel_rfl) ?_ | refine Br.yes rfl ?_ | refine Br.no rfl ?_
 refine EffG.mk (And.intro ?_ ?_)
 ·repeat' first | exact trivial | exact eY (by kernel_rfl) | refine And.intro ?_ ?_
 repeat first | refine EffG.mk (And.intro trivial ?_) | refine And.intro trivial ?_ | refine mC (by kernel_rfl) ?_ | refine Br.yes rfl ?_ | refine Br.no rfl ?_
 refine oX [] ?_ rfl trivial rfl
 refine congrArg D.u8s ?_
 kernel_rfl
theorem jO : boxL.length = 256 := by kernel_rfl
theorem rA : unboxL.length = 256 := by kernel_rfl
def j4 (b : BitVec 8) : BitVec 8 := boxL.getD b.toNat 0
def pL (b : BitVec 8) : BitVec 8 := unboxL.getD b.toNat 0
theorem sC (b : BitVec 8) (l : B8) (h : l.length = 256) : ((0 ≤ (b.toNat : Int) ∧ (b.toNat : Int) < 256) ∧ (b.toNat < l.length ∧ True)) ∧ l.length = 256 := by
 have := b.isLt
 exact ⟨⟨⟨by omega, by omega⟩, by rw [h]; omega, trivial⟩, h⟩
def aCw (s k : B8) : Nat → B8
 |0 => s
 |n + 1 => (aCw s k n).set n ((aCw s k n).getD n 0 ^^^ k.getD n 0)
def m8 (s k : B8) : B8 := aCw s k 16
theorem eS (s k : B8) : ∀ n, (aCw s k n).length = s.length
 |0 => rfl
 |n + 1 => by rw [aCw, List.length_set, eS s k n]
abbrev t16 : Ty := .arr 16 .cell
theorem yA (s k : B8) (hs : s.length = 16) (hk : k.length = 16) : AC Tryz.prog 134 [.u8s s, .u8s k] 0 [] ⟨.u8s (m8 s k), [], []⟩ := by
 refine fM tab mix Tryz.func134 rfl (by kernel_rfl) (by kernel_rfl) (by kernel_rfl) {} ?_
 refine EffG.mk (And.intro hs ?_)
 refine EffG.mk (And.intro hk ?_)
 repeat first | refine EffG.mk (And.intro trivial ?_) | refine And.intro trivial ?_ | refine mC (by kernel_rfl) ?_ | refine Br.yes rfl ?_ | refine Br.no rfl ?_
 refine aT Nat (fun n => [(2, .ptr 0 []), (4, .ptr 2 []), (7, .u8s k), (8, .i64 n)]) (fun n => [(0, some ⟨t16, .u8s (aCw s k n), true⟩), (2, some ⟨t16, .u8s (List.replicate 16 0), true⟩)]) 3
  (fun n => n ≤ 16) (fun n => 16 - n) 0 [0, 1, 2] (Nat.zero_le _) ?_ ?_
 ·exact bA rfl ⟨rfl, rfl, rfl, rfl, trivial⟩ ⟨⟨_, rfl, rfl, rfl, id⟩, ⟨_, rfl, rfl, rfl, id⟩, trivial⟩ rfl
 intro n hn
 have hl := eS s k n
 rw [hs] at hl
 repeat first | refine EffG.mk (And.intro trivial ?_) | refine And.intro trivial ?_ | refine mC (by kernel_rfl) ?_ | refine Br.yes rfl ?_ | refine Br.no rfl ?_
 refine Br.split (fun h => ?_) (fun h => ?_)
 ·have hn : n < 16 := by have := of_decide_eq_true h; omega
  refine stS ?_
  refine fS (n + 1) [0, 1, 2] ?_ ?_ ?_
  ·omega
  ·omega
  ·exact bA rfl ⟨rfl, rfl, rfl, rfl, trivial⟩ ⟨⟨_, rfl, rfl, rfl, id⟩, ⟨_, rfl, rfl, rfl, id⟩, trivial⟩ rfl
 ·have hn : n = 16 := by have := of_decide_eq_false h; omega
  refine stS ?_
  refine oX [] ?_ rfl trivial rfl
  refine congrArg D.u8s ?_
  rw [hn]; rfl
def aDD (s : B8) (all : BitVec 8) (c : Nat) : Nat → B8
 |0 => s
 |r + 1 => (aDD s all c r).set (c + r) ((aDD s all c r).getD (c + r) 0 ^^^ (all ^^^ bX ((aDD s all c r).getD (c + r) 0 ^^^ (aDD s all c r).getD (c + r + 1) 0)))
def aGM (s : B8) (c : Nat) : BitVec 8 := s.getD c 0 ^^^ s.getD (c + 1) 0 ^^^ s.getD (c + 2) 0 ^^^ s.getD (c + 3) 0
def colF (s : B8) (c : Nat) : B8 :=
 (aDD s (aGM s c) c 3).set (c + 3) ((aDD s (aGM s c) c 3).getD (c + 3) 0 ^^^ (aGM s c ^^^ bX ((aDD s (aGM s c) c 3).getD (c + 3) 0 ^^^ s.getD c 0)))
def aCQ (s : B8) : Nat → B8
 |0 => s
 |j + 1 => colF (aCQ s j) (4 * j)
def aDB (s : B8) : B8 := aCQ s 4
theorem jN (s : B8) (a : BitVec 8) (c : Nat) : ∀ r, (aDD s a c r).length = s.length
 |0 => rfl
 |r + 1 => by rw [aDD, List.length_set, jN s a c r]
theorem xT (s : B8) (c : Nat) : (colF s c).length = s.length := by rw [colF, List.length_set, jN]
theorem jC (s : B8) : ∀ j, (aCQ s j).length = s.length
 |0 => rfl
 |j + 1 => by rw [aCQ, xT, jC s j]
set_option maxHeartbeats 4000000 in
theorem zK (s : B8) (hs : s.length = 16) : AC Tryz.prog 162 [.u8s s] 0 [] ⟨.u8s (aDB s), [], []⟩ := by
 refine fM tab mix Tryz.func162 rfl (by kernel_rfl) (by kernel_rfl) (by kernel_rfl) {} ?_
 refine stS ?_
 refine aT Nat (fun j => [(1, .ptr 0 []), (2, .ptr 1 []), (3, .i64 (4 * j : Nat))]) (fun j => [(0, some ⟨t16, .u8s (aCQ s j), true⟩), (1, some ⟨t16, .u8s (List.replicate 16 0), true⟩)]) 2
  (fun j => j ≤ 4) (fun j => 4 - j) 0 [0, 1] (Nat.zero_le _) ?_ ?_
 ·exact bA rfl ⟨rfl, rfl, rfl, trivial⟩ ⟨⟨_, rfl, rfl, rfl, id⟩, ⟨_, rfl, rfl, rfl, id⟩, trivial⟩ rfl
 intro j hj
 have hl := jC s j
 rw [hs] at hl
 refine stS ?_
 refine Br.split (fun h => ?_) (fun h => ?_)
 ·have hj : j < 4 := by have := of_decide_eq_true h; omega
  refine stS ?_
  refine aT Nat (fun r => [(1, .ptr 0 []), (2, .ptr 1 []), (3, .i64 (4 * j : Nat)), (4, .u8 (aGM (aCQ s j) (4 * j))), (5, .u8 ((aCQ s j).getD (4 * j) 0)), (32, .i64 r)])
   (fun r => [(0, some ⟨t16, .u8s (aDD (aCQ s j) (aGM (aCQ s j) (4 * j)) (4 * j) r), true⟩), (1, some ⟨t16, .u8s (List.replicate 16 0), true⟩)]) 2
   (fun r => r ≤ 3) (fun r => 3 - r) 0 [0, 1] (Nat.zero_le _) ?_ ?_
  ·exact bA rfl ⟨rfl, rfl, rfl, rfl, rfl, rfl, trivial⟩ ⟨⟨_, rfl, rfl, rfl, id⟩, ⟨_, rfl, rfl, rfl, id⟩, trivial⟩ rfl
  intro r hr
  have hc := jN (aCQ s j) (aGM (aCQ s j) (4 * j)) (4 * j) r
  rw [hl] at hc
  refine stS ?_
  refine Br.split (fun h => ?_) (fun h => ?_)
  ·have hr : r < 3 := by have := of_decide_eq_true h; omega
   refine stS ?_
   refine bY (fX _) [] rfl rfl trivial rfl rfl ?_
   refine stS ?_
   refine fS (r + 1) [0, 1] ?_ ?_ ?_
   ·omega
   ·omega
   ·exact bA rfl ⟨rfl, rfl, rfl, rfl, rfl, rfl, trivial⟩ ⟨⟨_, rfl, rfl, rfl, id⟩, ⟨_, rfl, rfl, rfl, id⟩, trivial⟩ rfl
  ·have hr : r = 3 := by have := of_decide_eq_false h; omega
   subst hr
   refine stS ?_
   refine bY (fX _) [] rfl rfl trivial rfl rfl ?_
   refine stS ?_
   refine fS (j + 1) [0, 1] ?_ ?_ ?_
   ·omega
   ·omega
   ·exact bA rfl ⟨rfl, rfl, rfl, trivial⟩ ⟨⟨_, rfl, rfl, rfl, id⟩, ⟨_, rfl, rfl, rfl, id⟩, trivial⟩ rfl
 ·have hj : j = 4 := by have := of_decide_eq_false h; omega
  refine stS ?_
  refine oX [] ?_ rfl trivial rfl
  refine congrArg D.u8s ?_
  rw [hj]; rfl
abbrev t240 : Ty := .arr 240 .cell
abbrev t4 : Ty := .arr 4 .cell
abbrev t15 : Ty := .arr 15 (.arr 16 .cell)
def oZ (flat : B8) (round : BitVec 8) (n : Nat) : B8 :=
 let w := (flat.drop (28 + 4 * n)).take 4
 if n % 8 = 0 then [j4 (w.getD 1 0) ^^^ round, j4 (w.getD 2 0), j4 (w.getD 3 0), j4 (w.getD 0 0)]
 else if n % 8 = 4 then [j4 (w.getD 0 0), j4 (w.getD 1 0), j4 (w.getD 2 0), j4 (w.getD 3 0)] else w
def aF6 (flat : B8) (w : B8) (n : Nat) : Nat → B8
 |0 => flat
 |k + 1 => (aF6 flat w n k).set (32 + 4 * n + k) ((aF6 flat w n k).getD (4 * n + k) 0 ^^^ w.getD k 0)
def bJ (key : B8) : Nat → B8 × BitVec 8
 |0 => (List.take 0 (List.replicate 240 0) ++ List.take 32 (List.drop 0 key) ++ List.drop (0 + 32) (List.replicate 240 0), 1)
 |n + 1 => (aF6 (bJ key n).1 (oZ (bJ key n).1 (bJ key n).2 n) n 4, if n % 8 = 0 then mulF (bJ key n).2 2 else (bJ key n).2)
theorem i5 (f w : B8) (n : Nat) : ∀ k, (aF6 f w n k).length = f.length
 |0 => rfl
 |k + 1 => by rw [aF6, List.length_set, i5 f w n k]
theorem f6 (key : B8) (hk : key.length = 32) : ∀ n, (bJ key n).1.length = 240
 |0 => by simp only [bJ, List.length_append, List.length_take, List.length_drop, List.length_replicate, hk]; omega
 |n + 1 => by rw [bJ, i5, f6 key hk n]
theorem sW (f : B8) (r : BitVec 8) (n : Nat) (h : 32 + 4 * n ≤ f.length) : (oZ f r n).length = 4 := by
 unfold oZ
 simp only []
 split
 ·rfl
 ·split
  ·rfl
  ·rw [List.length_take, List.length_drop]; omega
def aDd (flat : B8) : Nat → List B8
 |0 => List.replicate 15 (List.replicate 16 0)
 |j + 1 => (aDd flat j).set j ((flat.drop (16 * j)).take 16)
theorem gA (flat : B8) : ∀ j, (aDd flat j).length = 15
 |0 => rfl
 |j + 1 => by rw [aDd, List.length_set, gA flat j]
theorem nU (flat : B8) (hf : flat.length = 240) : ∀ j, j ≤ 15 → ∀ k ∈ aDd flat j, k.length = 16
 |0, _, k, h => by
  rw [aDd, List.mem_replicate] at h
  rw [h.2, List.length_replicate]
 |j + 1, hj, k, h => by
  rw [aDd] at h
  rcases List.mem_or_eq_of_mem_set h with h | h
  ·exact nU flat hf j (by omega) k h
  ·rw [h, List.length_take, List.length_drop]; omega
theorem aCZ {n : Nat} {ks : List B8} (h : ks.length = n) (h2 : ∀ k ∈ ks, k.length = 16) : aD (.arr n t16) (.node (ks.map .u8s)) := by
 refine ⟨by rw [List.length_map, h], aJ.2 fun d hd => ?_⟩
 obtain ⟨k, hk, rfl⟩ := List.mem_map.1 hd
 exact h2 k hk
def dJ (key : B8) : List B8 := aDd (bJ key 52).1 15
theorem wX (key : B8) (hk : key.length = 32) : AC Tryz.prog 87 [.u8s key] 0 [] ⟨.node ((dJ key).map .u8s), [], []⟩ := by
 refine fM tab mix Tryz.func87 rfl (by kernel_rfl) (by kernel_rfl) (by kernel_rfl) ⟨[14], []⟩ ?_
 refine stS ?_
 refine EffG.mk (And.intro ?_ ?_)
 ·refine ⟨⟨by decide, ?_⟩, ?_, ?_⟩
  ·show 0 + 32 ≤ key.length ∧ True
   exact ⟨by omega, trivial⟩
  ·show 0 + 32 ≤ (List.replicate 240 0).length ∧ True
   exact ⟨by rw [List.length_replicate]; decide, trivial⟩
  ·show (List.take 32 (List.drop 0 key)).length = 32
   rw [List.length_take, List.length_drop, hk]; rfl
 refine stS ?_
 refine aT Nat (fun n => [(2, .ptr 1 []), (3, .ptr 2 []), (4, .u8 (bJ key n).2), (5, .i64 (32 + 4 * n : Nat))]) (fun n => [(1, some ⟨t15, .node (List.replicate 15 (.u8s (List.replicate 16 0))), true⟩), (2, some ⟨t240, .u8s (bJ key n).1, true⟩)]) 3
  (fun n => n ≤ 52) (fun n => 52 - n) 0 [0, 1, 2] (Nat.zero_le _) ?_ ?_
 ·exact bA rfl ⟨rfl, rfl, rfl, rfl, trivial⟩ ⟨⟨_, rfl, rfl, rfl, id⟩, ⟨_, rfl, rfl, rfl, id⟩, trivial⟩ rfl
 intro n hn
 have hl := f6 key hk n
 refine stN ?_
 refine Br.split (fun h => ?_) (fun h => ?_)
 ·have hn : n < 52 := by have := of_decide_eq_true h; omega
  refine stN ?_
  refine uO Unit (fun _ => [(2, .ptr 1 []), (3, .ptr 2 []), (4, .u8 (bJ key (n + 1)).2), (5, .i64 (32 + 4 * n : Nat)), (6, .ptr 3 [])])
   (fun _ => [(1, some ⟨t15, .node (List.replicate 15 (.u8s (List.replicate 16 0))), true⟩), (2, some ⟨t240, .u8s (bJ key n).1, true⟩), (3, some ⟨t4, .u8s (oZ (bJ key n).1 (bJ key n).2 n), true⟩)]) 4 (fun _ => True) ?_ ?_
  ·refine stN ?_
   have hd : ((((32 + 4 * n : Nat) : Int) - 4)).toNat = 28 + 4 * n := by omega
   refine Br.split (fun h0 => ?_) (fun h0 => ?_)
   ·have h0 : n % 8 = 0 := by have := of_decide_eq_true h0; rw [Int.tmod_eq_emod_of_nonneg (by omega)] at this; omega
    repeat first | refine EffG.mk (And.intro (sC _ boxL jO) ?_) | refine bY aCn [] rfl rfl trivial rfl rfl ?_ | refine st1 ?_
    refine bY (mul_ac _ _) [] rfl rfl trivial rfl rfl ?_
    refine stN ?_
    refine gZ () [0, 1, 2, 3] trivial (bA rfl ⟨rfl, rfl, congrArg (fun x => some (D.u8 x)) (if_pos h0).symm, rfl, rfl, trivial⟩ ⟨⟨_, rfl, rfl, rfl, id⟩, ⟨_, rfl, rfl, rfl, id⟩, ⟨_, rfl, rfl, congrArg D.u8s ?_, id⟩, trivial⟩ rfl)
    rw [oZ, if_pos h0]
    simp only [Option.getD_some, hd]
    rfl
   ·have h0 : ¬ n % 8 = 0 := by have := of_decide_eq_false h0; rw [Int.tmod_eq_emod_of_nonneg (by omega)] at this; omega
    refine stN ?_
    refine Br.split (fun h4 => ?_) (fun h4 => ?_)
    ·have h4 : n % 8 = 4 := by have := of_decide_eq_true h4; rw [Int.tmod_eq_emod_of_nonneg (by omega)] at this; omega
     repeat first | refine EffG.mk (And.intro (sC _ boxL jO) ?_) | refine bY aCn [] rfl rfl trivial rfl rfl ?_ | refine st1 ?_
     refine gZ () [0, 1, 2, 3] trivial (bA rfl ⟨rfl, rfl, congrArg (fun x => some (D.u8 x)) (if_neg h0).symm, rfl, rfl, trivial⟩ ⟨⟨_, rfl, rfl, rfl, id⟩, ⟨_, rfl, rfl, rfl, id⟩, ⟨_, rfl, rfl, congrArg D.u8s ?_, id⟩, trivial⟩ rfl)
     rw [oZ, if_neg h0, if_pos h4]
     simp only [Option.getD_some, hd]
     rfl
    ·have h4 : ¬ n % 8 = 4 := by have := of_decide_eq_false h4; rw [Int.tmod_eq_emod_of_nonneg (by omega)] at this; omega
     refine gZ () [0, 1, 2, 3] trivial (bA rfl ⟨rfl, rfl, congrArg (fun x => some (D.u8 x)) (if_neg h0).symm, rfl, rfl, trivial⟩ ⟨⟨_, rfl, rfl, rfl, id⟩, ⟨_, rfl, rfl, rfl, id⟩, ⟨_, rfl, rfl, congrArg D.u8s ?_, id⟩, trivial⟩ rfl)
     rw [oZ, if_neg h0, if_neg h4]
     simp only [Option.getD_some, hd]
  ·intro _ _
   have hw := sW (bJ key n).1 (bJ key n).2 n (by rw [hl]; omega)
   refine stN ?_
   refine aT Nat (fun k => [(2, .ptr 1 []), (3, .ptr 2 []), (4, .u8 (bJ key (n + 1)).2), (5, .i64 (32 + 4 * n : Nat)), (68, .u8s (oZ (bJ key n).1 (bJ key n).2 n)), (69, .i64 k)])
    (fun k => [(1, some ⟨t15, .node (List.replicate 15 (.u8s (List.replicate 16 0))), true⟩), (2, some ⟨t240, .u8s (aF6 (bJ key n).1 (oZ (bJ key n).1 (bJ key n).2 n) n k), true⟩)]) 4 (fun k => k ≤ 4) (fun k => 4 - k) 0 [0, 1, 2] (Nat.zero_le _) ?_ ?_
   ·exact bA rfl ⟨rfl, rfl, rfl, rfl, rfl, rfl, trivial⟩ ⟨⟨_, rfl, rfl, rfl, id⟩, ⟨_, rfl, rfl, rfl, id⟩, trivial⟩ rfl
   intro k hk4
   have hp := i5 (bJ key n).1 (oZ (bJ key n).1 (bJ key n).2 n) n k
   rw [hl] at hp
   refine stN ?_
   refine Br.split (fun h => ?_) (fun h => ?_)
   ·have hk4 : k < 4 := by have := of_decide_eq_true h; omega
    refine stN ?_
    refine fS (k + 1) [0, 1, 2] ?_ ?_ ?_
    ·omega
    ·omega
    ·refine bA rfl ⟨rfl, rfl, rfl, rfl, rfl, rfl, trivial⟩ ⟨⟨_, rfl, rfl, rfl, id⟩, ⟨_, rfl, rfl, congrArg D.u8s ?_, id⟩, trivial⟩ rfl
     have e1 : (((32 + 4 * n : Nat) : Int) + (k : Int)).toNat = 32 + 4 * n + k := by omega
     have e2 : (((32 + 4 * n : Nat) : Int) + (k : Int) - 32).toNat = 4 * n + k := by omega
     rw [aF6, ← e1, ← e2]; rfl
   ·have hk4 : k = 4 := by have := of_decide_eq_false h; omega
    refine stN ?_
    refine fS (n + 1) [0, 1, 2] ?_ ?_ ?_
    ·omega
    ·omega
    ·refine bA rfl ⟨rfl, rfl, rfl, congrArg (fun x => some (D.i64 x)) (by omega), trivial⟩ ⟨⟨_, rfl, rfl, rfl, id⟩, ⟨_, rfl, rfl, congrArg D.u8s ?_, id⟩, trivial⟩ rfl
     rw [hk4]; rfl
 ·have hn : n = 52 := by have := of_decide_eq_false h; omega
  subst hn
  refine stN ?_
  refine aT Nat (fun j => [(2, .ptr 1 []), (3, .ptr 2 []), (9, .ptr 3 []), (86, .i64 j)])
   (fun j => [(1, some ⟨t15, .node (List.replicate 15 (.u8s (List.replicate 16 0))), true⟩), (2, some ⟨t240, .u8s (bJ key 52).1, true⟩), (3, some ⟨t15, .node ((aDd (bJ key 52).1 j).map .u8s), true⟩)]) 4 (fun j => j ≤ 15) (fun j => 15 - j) 0 [0, 1, 2, 3] (Nat.zero_le _) ?_ ?_
  ·exact bA rfl ⟨rfl, rfl, rfl, rfl, trivial⟩ ⟨⟨_, rfl, rfl, rfl, id⟩, ⟨_, rfl, rfl, rfl, id⟩, ⟨_, rfl, rfl, rfl, id⟩, trivial⟩ rfl
  intro j hj
  have ho := gA (bJ key 52).1 j
  refine stN ?_
  refine Br.split (fun h => ?_) (fun h => ?_)
  ·have hj : j < 15 := by have := of_decide_eq_true h; omega
   refine stN ?_
   refine fS (j + 1) [0, 1, 2, 3] ?_ ?_ ?_
   ·omega
   ·omega
   ·refine bA rfl ⟨rfl, rfl, rfl, rfl, trivial⟩ ⟨⟨_, rfl, rfl, rfl, id⟩, ⟨_, rfl, rfl, rfl, id⟩, ⟨_, rfl, rfl, congrArg D.node ?_, id⟩, trivial⟩ rfl
    rw [iN, aDd, List.map_set]
    have e1 : ((16 * (j : Int))).toNat = 16 * j := by omega
    simp only [Option.getD_some, e1, Int.toNat_natCast]
  ·have hj : j = 15 := by have := of_decide_eq_false h; omega
   refine stN ?_
   refine EffG.mk (And.intro ?_ ?_)
   ·exact ⟨trivial, aCZ (gA _ _) (nU _ hl j (by omega))⟩
   refine stN ?_
   refine oX [] ?_ rfl trivial rfl
   refine congrArg D.node ?_
   rw [iN, hj]; rfl
abbrev bP (ks : List B8) : D := .node [.node (ks.map .u8s)]
abbrev tC : Ty := .st [t15]
theorem aC (s : Nat → Nat) (ks : List B8) : (bP ks).ren s = bP ks := congrArg (fun l => D.node [D.node l]) (iN s ks)
theorem aBo (s : Nat → Nat) (ks : List B8) : (D.node (ks.map .u8s)).ren s = .node (ks.map .u8s) := congrArg D.node (iN s ks)
theorem j3 (key : B8) : (dJ key).length = 15 := gA _ _
theorem nK (key : B8) (hk : key.length = 32) : ∀ k ∈ dJ key, k.length = 16 := nU _ (f6 key hk 52) 15 (Nat.le_refl _)
theorem aEc (key : B8) (hk : key.length = 32) : AC Tryz.prog 58 [.u8s key] 0 [] ⟨.ptr 0 [], [], [(tC, bP (dJ key))]⟩ := by
 have hs := wX key hk
 have h1 := j3 key
 have h2 := nK key hk
 generalize dJ key = ks at hs h1 h2 ⊢
 refine fM tab mix Tryz.func58 rfl (by kernel_rfl) (by kernel_rfl) (by kernel_rfl) {} ?_
 refine stN ?_
 refine aGI hs [] (.node (ks.map .u8s)) [] rfl rfl trivial rfl rfl (aBo _ ks) rfl ?_
 refine stN ?_
 refine EffG.mk (And.intro ⟨⟨?_, aCZ h1 h2⟩, trivial⟩ ?_)
 ·exact trivial
 refine stN ?_
 refine EffG.mk (And.intro ⟨aCZ h1 h2, trivial⟩ ?_)
 refine stN ?_
 refine oX [1] rfl rfl ⟨⟨_, rfl, rfl, (aC _ ks).symm, id⟩, trivial⟩ rfl
def sL (s : B8) : Nat → B8
 |0 => List.replicate 16 0
 |i + 1 => (sL s i).set i (j4 (s.getD ((i + 4 * (i % 4)) % 16) 0))
theorem b9 (s : B8) : ∀ i, (sL s i).length = 16
 |0 => rfl
 |i + 1 => by rw [sL, List.length_set, b9 s i]
def iD (ks : List B8) (b : B8) : Nat → B8
 |0 => m8 b (ks.getD 0 [])
 |n + 1 => m8 (if n + 1 < 14 then aDB (sL (iD ks b n) 16) else sL (iD ks b n) 16) (ks.getD (n + 1) [])
theorem aL (s k : B8) : (m8 s k).length = s.length := eS s k 16
theorem eW (s : B8) : (aDB s).length = s.length := jC s 4
section
variable (ks : List B8) (b : B8) (hb : b.length = 16)
include ks b hb
theorem bV : ∀ n, (iD ks b n).length = 16
 |0 => by rw [iD, aL, hb]
 |n + 1 => by
  rw [iD, aL]
  split
  ·rw [eW, b9]
  ·rw [b9]
theorem qP (h1 : ks.length = 15) (h2 : ∀ k ∈ ks, k.length = 16) :
  AC Tryz.prog 160 [.ptr 0 [], .u8s b] 1 [(0, some ⟨tC, bP ks, true⟩)] ⟨.u8s (iD ks b 14), [], []⟩ := by
 have hm : (ks.map D.u8s).length = 15 := by rw [List.length_map, h1]
 have hk : ∀ i, i < 15 → (ks.getD i []).length = 16 := fun i hi => h2 _ (mM (by omega))
 refine fM tab mix Tryz.func160 rfl (by kernel_rfl) (by kernel_rfl) (by kernel_rfl) ⟨[15], []⟩ ?_
 have hx := aL b (ks.getD 0 [])
 rw [hb] at hx
 refine stN ?_
 refine Br.no rfl ?_
 repeat first | (rw [mJ (l := ks)]; rotate_left; omega) | refine st1 ?_
 refine bY (yA b (ks.getD 0 []) hb (hk 0 (by omega))) [] rfl rfl trivial rfl rfl ?_
 refine stN ?_
 refine aT Nat (fun k => [(0, .ptr 0 []), (4, .ptr 2 []), (5, .ptr 3 []), (6, .i64 (k + 1 : Nat))])
  (fun k => [(0, some ⟨tC, bP ks, true⟩), (2, some ⟨t16, .u8s (List.replicate 16 0), true⟩), (3, some ⟨t16, .u8s (iD ks b k), true⟩)]) 4 (fun k => k ≤ 14) (fun k => 14 - k) 0 [0, 1, 2, 3] (Nat.zero_le _) ?_ ?_
 ·exact bA rfl ⟨rfl, rfl, rfl, rfl, trivial⟩ ⟨⟨_, rfl, rfl, (aC _ ks).symm, id⟩, ⟨_, rfl, rfl, rfl, id⟩, ⟨_, rfl, rfl, rfl, id⟩, trivial⟩ rfl
 intro k hk14
 have hl := bV ks b hb k
 refine stN ?_
 refine Br.split (fun h => ?_) (fun h => ?_)
 ·have hk14 : k < 14 := by have := of_decide_eq_true h; omega
  refine stN ?_
  refine aT Nat (fun i => [(0, .ptr 0 []), (4, .ptr 2 []), (5, .ptr 3 []), (6, .i64 (k + 1 : Nat)), (7, .ptr 4 []), (23, .i64 i)])
   (fun i => [(0, some ⟨tC, bP ks, true⟩), (2, some ⟨t16, .u8s (List.replicate 16 0), true⟩), (3, some ⟨t16, .u8s (iD ks b k), true⟩), (4, some ⟨t16, .u8s (sL (iD ks b k) i), true⟩)]) 5 (fun i => i ≤ 16) (fun i => 16 - i) 0 [0, 1, 2, 3, 4] (Nat.zero_le _) ?_ ?_
  ·exact bA rfl ⟨rfl, rfl, rfl, rfl, rfl, rfl, trivial⟩ ⟨⟨_, rfl, rfl, (aC _ ks).symm, id⟩, ⟨_, rfl, rfl, rfl, id⟩, ⟨_, rfl, rfl, rfl, id⟩, ⟨_, rfl, rfl, rfl, id⟩, trivial⟩ rfl
  intro i hi
  have hs := b9 (iD ks b k) i
  refine stN ?_
  refine Br.split (fun h => ?_) (fun h => ?_)
  ·have hi : i < 16 := by have := of_decide_eq_true h; omega
   refine stN ?_
   refine bY aCn [] rfl rfl trivial rfl rfl ?_
   have e1 : Int.tmod (i : Int) 4 = ((i % 4 : Nat) : Int) := (Int.ofNat_tmod i 4).symm
   have e2 : Int.tmod ((i : Int) + 4 * ((i % 4 : Nat) : Int)) 16 = (((i + 4 * (i % 4)) % 16 : Nat) : Int) := Int.ofNat_tmod (i + 4 * (i % 4)) 16
   repeat first | rw [e1] | rw [e2] | refine EffG.mk (And.intro (sC _ boxL jO) ?_) | refine st1 ?_
   refine fS (i + 1) [0, 1, 2, 3, 4] ?_ ?_ ?_
   ·omega
   ·omega
   ·exact bA rfl ⟨rfl, rfl, rfl, rfl, rfl, rfl, trivial⟩ ⟨⟨_, rfl, rfl, (aC _ ks).symm, id⟩, ⟨_, rfl, rfl, rfl, id⟩, ⟨_, rfl, rfl, rfl, id⟩, ⟨_, rfl, rfl, rfl, id⟩, trivial⟩ rfl
  ·have hi : i = 16 := by have := of_decide_eq_false h; omega
   subst hi
   refine stN ?_
   have hmx := eW (sL (iD ks b k) 16)
   rw [hs] at hmx
   refine uO Unit (fun _ => [(0, .ptr 0 []), (4, .ptr 2 []), (5, .ptr 3 []), (6, .i64 (k + 1 : Nat)), (7, .ptr 4 [])])
    (fun _ => [(0, some ⟨tC, bP ks, true⟩), (2, some ⟨t16, .u8s (List.replicate 16 0), true⟩), (3, some ⟨t16, .u8s (iD ks b k), true⟩), (4, some ⟨t16, .u8s (if k + 1 < 14 then aDB (sL (iD ks b k) 16) else sL (iD ks b k) 16), true⟩)]) 5 (fun _ => True) ?_ ?_
   ·refine stN ?_
    refine Br.split (fun h => ?_) (fun h => ?_)
    ·have h : k + 1 < 14 := by have := of_decide_eq_true h; omega
     refine stN ?_
     refine bY (zK _ hs) [] rfl rfl trivial rfl rfl ?_
     refine stN ?_
     refine gZ () [0, 1, 2, 3, 4] trivial ?_
     exact bA rfl ⟨rfl, rfl, rfl, rfl, rfl, trivial⟩ ⟨⟨_, rfl, rfl, (aC _ ks).symm, id⟩, ⟨_, rfl, rfl, rfl, id⟩, ⟨_, rfl, rfl, rfl, id⟩, ⟨_, rfl, rfl, congrArg D.u8s (if_pos h).symm, id⟩, trivial⟩ rfl
    ·have h : ¬ k + 1 < 14 := by have := of_decide_eq_false h; omega
     refine gZ () [0, 1, 2, 3, 4] trivial ?_
     exact bA rfl ⟨rfl, rfl, rfl, rfl, rfl, trivial⟩ ⟨⟨_, rfl, rfl, (aC _ ks).symm, id⟩, ⟨_, rfl, rfl, rfl, id⟩, ⟨_, rfl, rfl, rfl, id⟩, ⟨_, rfl, rfl, congrArg D.u8s (if_neg h).symm, id⟩, trivial⟩ rfl
   intro _ _
   have ht : (if k + 1 < 14 then aDB (sL (iD ks b k) 16) else sL (iD ks b k) 16).length = 16 := by
    split
    ·exact hmx
    ·exact hs
   have hx2 := aL (if k + 1 < 14 then aDB (sL (iD ks b k) 16) else sL (iD ks b k) 16) (ks.getD (k + 1) [])
   rw [ht] at hx2
   repeat first | (rw [mJ (l := ks)]; rotate_left; omega) | rw [Int.toNat_natCast (k + 1)] | refine st1 ?_
   refine bY (yA _ (ks.getD (k + 1) []) ht (hk (k + 1) (by omega))) [] rfl rfl trivial rfl rfl ?_
   refine stN ?_
   refine fS (k + 1) [0, 1, 2, 3] ?_ ?_ ?_
   ·omega
   ·omega
   ·exact bA rfl ⟨rfl, rfl, rfl, rfl, trivial⟩ ⟨⟨_, rfl, rfl, (aC _ ks).symm, id⟩, ⟨_, rfl, rfl, rfl, id⟩, ⟨_, rfl, rfl, rfl, id⟩, trivial⟩ rfl
 ·have hk14 : k = 14 := by have := of_decide_eq_false h; omega
  refine stN ?_
  refine oX [0] ?_ rfl ⟨⟨_, rfl, rfl, (aC _ ks).symm, id⟩, trivial⟩ rfl
  refine congrArg D.u8s ?_
  rw [hk14]
end
end Go.Proofs.YtllcgppffncafaaGreatDoor.Av
