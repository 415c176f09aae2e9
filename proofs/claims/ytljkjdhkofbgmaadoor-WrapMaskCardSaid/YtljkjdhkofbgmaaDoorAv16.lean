import Derived.Test.YtljkjdhkofbgmaaDoorAv15
namespace Go.Proofs.YtljkjdhkofbgmaaDoor.Av
open Go
set_option linter.all false
set_option maxRecDepth 3000

/-! the code's walk -/

def MatchT (s : Nat → Nat) (tm : TM) : TM → Prop
  | [] => True
  | (t, d) :: r => lk tm t = some (d.ren s) ∧ MatchT s tm r

theorem matchT_lk {s : Nat → Nat} {tm : TM} : ∀ {T : TM} {t : Nat} {d : D}, MatchT s tm T → lk T t = some d → lk tm t = some (d.ren s)
  | (u, e) :: r, t, d, h, hl => by
    rw [lk_cons] at hl
    split at hl
    · subst_vars; cases hl; exact h.1
    · exact matchT_lk (T := r) h.2 hl

/-- names that stay -/
def keepB (σ : List Nat) : Nat → Bool
  | 0 => true
  | i + 1 => match Nat.beq (σ.getD i 999999) i with
    | true => keepB σ i
    | false => false

theorem keepB_spec {σ : List Nat} : ∀ {n : Nat}, keepB σ n = true → ∀ i, i < n → σ.getD i 999999 = i
  | 0, _, i, h => by omega
  | n + 1, hk, i, h => by
    simp only [keepB] at hk
    split at hk <;> try contradiction
    rename_i hb
    by_cases hi : i = n
    · rw [hi]; exact Nat.eq_of_beq_eq_true hb
    · exact keepB_spec hk i (by omega)

/-- the state, as a loop's head sees it -/
def ViewG (np nh : Nat) (σ : List Nat) (T : TM) (M : Mem) (tm : TM) (m : Mem) : Prop :=
  (np ≤ nh ∧ nh ≤ 999998 ∧ keepB σ np = true) ∧ MatchT (sig nh 0 0 σ) tm T ∧ MatchM (sig nh 0 0 σ) m M ∧ namesB nh (sig nh 0 0 σ) M M = true

theorem sig0_fix {nh : Nat} {σ : List Nat} {i : Nat} (h : ¬ Fix nh i) : sig nh 0 0 σ i = 999999 := by
  unfold Fix at h
  unfold sig
  have e1 : Nat.blt i nh = false := by rw [blt_eq]; simp; omega
  have e2 : Nat.ble 1000000 i = false := by
    cases hb : Nat.ble 1000000 i with
    | false => rfl
    | true => have := Nat.le_of_ble_eq_true hb; omega
  have e3 : Nat.blt (i - nh) 0 = false := by rw [blt_eq]; simp
  rw [e1, e2, e3]

theorem view_ok {X : Ctx} {ρ0 : Env} {np N : Nat} {tm : TM} {m : Mem} {nx : Nat} {ρ : Env} {a : Act} {w : World} (H : StOk X ρ0 np N tm m nx ρ a w) {nh : Nat} {σ : List Nat} {T : TM} {M : Mem} (h : ViewG np nh σ T M tm m) :
    ∃ ρ', StOk X ρ0 np N T M nh ρ' a w := by
  obtain ⟨⟨h1, h2, h3⟩, h4, h5, h6⟩ := h
  generalize hs : sig nh 0 0 σ = s at *
  have s_gid : ∀ i, 1000000 ≤ i → s i = i := by
    intro i hi
    rw [← hs]
    unfold sig
    have e1 : Nat.blt i nh = false := by rw [blt_eq]; simp; omega
    have e2 : Nat.ble 1000000 i = true := by simpa using hi
    rw [e1, e2]
  have s_np : ∀ i, i < np → s i = i := by
    intro i hi
    rw [← hs]
    unfold sig
    have e1 : Nat.blt i nh = true := by rw [blt_eq]; simp; omega
    rw [e1]
    exact keepB_spec h3 i hi
  have hres : ρ 999999 = none := Inv.fresh H (by have := H.lim; omega) (Nat.le_refl _)
  have hρs : ∀ i, ρ (s i) ≠ none → Fix nh i := by
    intro i hi
    by_cases hf : Fix nh i
    · exact hf
    · rw [← hs, sig0_fix hf] at hi
      exact absurd hres hi
  let ρ' : Env := fun i => ρ (s i)
  have hget0 : ∀ i e, get M i = some e → Fix nh i ∧ ∃ e', get m (s i) = some e' ∧ e'.ty = e.ty ∧ e'.d = e.d.ren s ∧ (e.rw = true → e'.rw = true) := fun i e h =>
    ⟨(namesB_spec h6 (get_mem h)).1, matchM_get h5 (get_mem h)⟩
  refine ⟨ρ', ⟨fun g L h => ?_, fun i e h => ?_, fun i j ei ej Li Lj hi hj hne hr k1 k2 => ?_, fun i e L h hr k1 => ?_, H.inv.ext, H.inv.size, H.inv.os, H.inv.out, H.inv.tape⟩, fun t d h => ?_, H.size, H.defs, fun i hi => ?_, fun i hi => ?_, h2, h1⟩
  · have h : ρ (s (gid g)) = some L := h
    rw [s_gid _ (by unfold gid; omega)] at h
    exact H.inv.glob g L h
  · obtain ⟨hf, e', g1, g2, g3, g4⟩ := hget0 i e h
    obtain ⟨L, g5, g6⟩ := H.inv.sat (s i) e' g1
    refine ⟨L, g5, ?_⟩
    obtain ⟨q1, q2, q3, C, t, fr, pre, front, tail, q4, q5, q6, q7, q8, q9⟩ := g6
    refine ⟨by rw [q1, g2], by rw [← g2]; exact q2, ?_, C, t, fr, pre, front, tail, q4, q5, q6, q7, ?_, fun hr => q9 (g4 hr)⟩
    · rw [g2, g3, hasTy_ren] at q3; exact q3
    · rw [g3, flat_ren] at q8
      exact (All2.map_iff (fun a b => repS_ren)).1 q8
  · obtain ⟨hfi, ei', g1, g2, g3, g4⟩ := hget0 i ei hi
    obtain ⟨hfj, ej', p1, p2, p3, p4⟩ := hget0 j ej hj
    exact H.inv.inj (s i) (s j) ei' ej' Li Lj g1 p1 (apartB_spec (namesB_spec h6 (get_mem hi)).2 (get_mem hj) hne (.inl hr)) (g4 hr) k1 k2
  · obtain ⟨hf, e', g1, g2, g3, g4⟩ := hget0 i e h
    exact H.inv.own (s i) e' L g1 (g4 hr) k1
  · exact (rep_ren (ρ := ρ)).1 (H.tmps t _ (matchT_lk h4 h))
  · show ρ (s i) = ρ0 i
    rcases hi with hi | hi
    · rw [s_np i hi]; exact H.fix i (.inl hi)
    · rw [s_gid i hi]; exact H.fix i (.inr hi)
  · exact hρs i hi

structure LoopG (np : Nat) (body : TM → Mem → Nat → (TM → Mem → Nat → Prop) → Prop) (tm : TM) (m : Mem) : Prop where
  out : ∃ (α : Type) (T : α → TM) (M : α → Mem) (nh : Nat) (I : α → Prop) (μ : α → Nat), (∃ x σ, I x ∧ ViewG np nh σ (T x) (M x) tm m) ∧
    ∀ x, I x → body (T x) (M x) nh (fun tm' m' _ => ∃ y σ, I y ∧ μ y < μ x ∧ ViewG np nh σ (T y) (M y) tm' m')

/-- how a function is to be walked: where ways meet again, and which loops are walked round by round; by the first region's number -/
structure Pl where
  joins : List Nat := []
  unrolls : List Nat := []

def firstId : Code → Option Nat
  | .region id _ _ => some id
  | .seq a b => match firstId a with
    | some i => some i
    | none => firstId b
  | .block _ c => firstId c
  | .loop c => firstId c
  | _ => none

def atId (l : List Nat) (c : Code) : Bool :=
  match l with
  | [] => false
  | l => match firstId c with
    | some i => memB i l
    | none => false

def unrP (body : TM → Mem → Nat → (TM → Mem → Nat → Prop) → Prop) : Nat → TM → Mem → Nat → Prop
  | 0, _, _, _ => False
  | n + 1, tm, m, nx => body tm m nx (unrP body n)

structure UnrG (u : Nat → TM → Mem → Nat → Prop) (tm : TM) (m : Mem) (nx : Nat) : Prop where
  out : ∃ n, u n tm m nx

structure JoinG (np : Nat) (A : (TM → Mem → Nat → Prop) → Prop) (B : TM → Mem → Nat → Prop) : Prop where
  out : ∃ (α : Type) (T : α → TM) (M : α → Mem) (nh : Nat) (I : α → Prop), A (fun tm' m' _ => ∃ x σ, I x ∧ ViewG np nh σ (T x) (M x) tm' m') ∧ ∀ x, I x → B (T x) (M x) nh

abbrev CK := TM → Mem → Nat → (TM → Mem → Nat → Prop) → (Nat → TM → Mem → Nat → Prop) → (TM → Mem → Nat → Prop) → Prop

def noCK : CK := fun _ _ _ _ _ _ => False

noncomputable def codeP (P : Program) (Γ : Tab) (np N : Nat) (pl : Pl) (c : Code) : CK :=
  @Code.rec (fun _ => CK)
    (fun tm m nx K _ _ => K tm m nx)
    (fun _ ops draw tm m nx K _ _ => match draw with
      | false => seqP P Γ N ops.toList ops.toList tm m nx K
      | true => drwP P Γ N ops.toList ops.toList [] tm m nx K)
    (fun _ b iha ihb tm m nx K Xk R => match atId pl.joins b with
      | false => iha tm m nx (fun tm m nx => ihb tm m nx K Xk R) Xk R
      | true => JoinG np (fun K' => iha tm m nx K' Xk R) (fun tm m nx => ihb tm m nx K Xk R))
    (fun c _ _ iha ihb tm m nx K Xk R => match opd tm (get m) c with
      | some (.bool t) => Br t (iha tm m nx K Xk R) (ihb tm m nx K Xk R)
      | _ => False)
    (fun id _ ih tm m nx K Xk R => ih tm m nx K (fun i => match Nat.beq i id with | true => K | false => Xk i) R)
    (fun c ih tm m nx _ Xk R => match atId pl.unrolls c with
      | false => LoopG np (fun tm m nx K => ih tm m nx K Xk R) tm m
      | true => UnrG (unrP (fun tm m nx K => ih tm m nx K Xk R)) tm m nx)
    (fun _ _ _ _ _ _ => noCK)
    (fun id tm m nx _ Xk _ => Xk id tm m nx)
    (fun _ _ => noCK)
    (fun _ => noCK)
    (fun _ => noCK)
    (fun tm m nx _ _ R => R tm m nx)
    (fun _ => noCK) c

theorem opd_st {X : Ctx} {ρ0 : Env} {np N : Nat} {tm : TM} {m : Mem} {nx : Nat} {ρ : Env} {a : Act} {w : World} (H : StOk X ρ0 np N tm m nx ρ a w) {x : Operand} {d : D} (h : opd tm (get m) x = some d) : Rep ρ d (a.eval x) :=
  opd_rep H.inv (ops := [x]) (fun _ _ => rfl) (fun t _ d hd => H.tmps t d hd) (by simp) h

theorem leastOf {p : Nat → Prop} (h : ∃ n, p n) : ∃ n, p n ∧ ∀ k, p k → n ≤ k := by
  obtain ⟨n, hn⟩ := h
  induction n using Nat.strongRecOn with
  | _ n ih =>
    by_cases hk : ∃ k, k < n ∧ p k
    · obtain ⟨k, h1, h2⟩ := hk
      exact ih k h1 h2
    · exact ⟨n, hn, fun k hp => by
        rcases Nat.lt_or_ge k n with h | h
        · exact absurd ⟨k, h, hp⟩ hk
        · exact h⟩

/-- a loop whose measure is the invariant's -/
theorem wp_loop_ix {P : Program} {Q : Exit → Act → World → Prop} {c : Code} (J : Nat → Act → World → Prop) {n0 : Nat} {a : Act} {w : World} (h0 : J n0 a w)
    (round : ∀ n a w, J n a w → c.wp P (Exit.then (fun a' w' => ∃ n', n' < n ∧ J n' a' w') Q) a w) : (Code.loop c).wp P Q a w := by
  let μ : Act → World → Nat := fun a w => @dite _ (∃ n, J n a w) (Classical.propDecidable _) (fun h => Classical.choose (leastOf h)) (fun _ => 0)
  have hμ : ∀ a w, (h : ∃ n, J n a w) → J (μ a w) a w ∧ ∀ k, J k a w → μ a w ≤ k := by
    intro a w h
    have : μ a w = Classical.choose (leastOf h) := dif_pos h
    rw [this]
    exact Classical.choose_spec (leastOf h)
  refine wp_loop (fun a w => ∃ n, J n a w) μ ⟨n0, h0⟩ fun a w h => ?_
  refine wp_mono (round (μ a w) a w (hμ a w h).1) fun e a' w' hq => ?_
  cases e with
  | normal =>
    obtain ⟨n', hlt, hJ⟩ := hq
    exact ⟨⟨n', hJ⟩, Nat.lt_of_le_of_lt ((hμ a' w' ⟨n', hJ⟩).2 n' hJ) hlt⟩
  | _ => exact hq

theorem code_sound {P : Program} {Γ : Tab} (hΓ : TabOk P Γ) (hmix : P.follows .mixedOrders = true) {np N : Nat} {pl : Pl} {X : Ctx} {ρ0 : Env} :
    ∀ (c : Code) (tm : TM) (m : Mem) (nx : Nat) (ρ : Env) (a : Act) (w : World) (K : TM → Mem → Nat → Prop) (Xk : Nat → TM → Mem → Nat → Prop) (R : TM → Mem → Nat → Prop) (Q : Exit → Act → World → Prop),
      (∀ tm m nx ρ a w, K tm m nx → StOk X ρ0 np N tm m nx ρ a w → Q .normal a w) → (∀ i tm m nx ρ a w, Xk i tm m nx → StOk X ρ0 np N tm m nx ρ a w → Q (.exit i) a w) →
      (∀ tm m nx ρ a w, R tm m nx → StOk X ρ0 np N tm m nx ρ a w → Q .ret a w) → codeP P Γ np N pl c tm m nx K Xk R → StOk X ρ0 np N tm m nx ρ a w → c.wp P Q a w := by
  intro c
  induction c with
  | skip => intro tm m nx ρ a w K Xk R Q hK hX hR h H; exact wp_skip (hK _ _ _ _ _ _ h H)
  | region id ops draw =>
    intro tm m nx ρ a w K Xk R Q hK hX hR h H
    cases draw with
    | false =>
      refine wp_region ?_
      have := seq_sound hΓ hK ops.toList ops.toList 0 tm m nx ρ a w rfl h H
      rw [List.range_eq_range']
      simpa using this
    | true => exact drw_sound hΓ hmix hK (id := id) (ops := ops.toList) h H
  | seq x y ihx ihy =>
    intro tm m nx ρ a w K Xk R Q hK hX hR h H
    change (match atId pl.joins y with
      | false => codeP P Γ np N pl x tm m nx (fun tm m nx => codeP P Γ np N pl y tm m nx K Xk R) Xk R
      | true => JoinG np (fun K' => codeP P Γ np N pl x tm m nx K' Xk R) (fun tm m nx => codeP P Γ np N pl y tm m nx K Xk R)) at h
    split at h
    · refine wp_seq (ihx tm m nx ρ a w _ Xk R _ ?_ ?_ ?_ h H)
      · intro tm m nx ρ a w h H; exact ihy tm m nx ρ a w K Xk R Q hK hX hR h H
      · exact hX
      · exact hR
    · obtain ⟨α, T, M, nh, I, h1, h2⟩ := h.out
      refine wp_seq (ihx tm m nx ρ a w _ Xk R _ ?_ ?_ ?_ h1 H)
      · rintro tm m nx ρ a w ⟨x, σ, hI, hv⟩ H
        obtain ⟨ρ', H'⟩ := view_ok H hv
        exact ihy (T x) (M x) nh ρ' a w K Xk R Q hK hX hR (h2 x hI) H'
      · exact hX
      · exact hR
  | cond c x y ihx ihy =>
    intro tm m nx ρ a w K Xk R Q hK hX hR h H
    change (match opd tm (get m) c with
      | some (.bool t) => Br t (codeP P Γ np N pl x tm m nx K Xk R) (codeP P Γ np N pl y tm m nx K Xk R)
      | _ => False) at h
    split at h <;> try contradiction
    rename_i t hc
    have hv : a.eval c = .bool t := opd_st H hc
    exact wp_cond_split hv (fun ht => ihx _ _ _ _ _ _ _ _ _ _ hK hX hR (h.1 ht) H) (fun ht => ihy _ _ _ _ _ _ _ _ _ _ hK hX hR (h.2 ht) H)
  | block id c ih =>
    intro tm m nx ρ a w K Xk R Q hK hX hR h H
    refine wp_block (ih tm m nx ρ a w K _ R _ hK ?_ hR h H)
    intro i tm m nx ρ a w h H
    simp only [Exit.inBlock]
    cases hb : Nat.beq i id with
    | true =>
      simp only [hb] at h
      rw [if_pos (Nat.eq_of_beq_eq_true hb)]; exact hK _ _ _ _ _ _ h H
    | false =>
      simp only [hb] at h
      rw [if_neg]
      · exact hX _ _ _ _ _ _ _ h H
      · intro e; subst e; rw [Nat.beq_refl] at hb; cases hb
  | loop c ih =>
    intro tm m nx ρ a w K Xk R Q hK hX hR h H
    change (match atId pl.unrolls c with
      | false => LoopG np (fun tm m nx K => codeP P Γ np N pl c tm m nx K Xk R) tm m
      | true => UnrG (unrP (fun tm m nx K => codeP P Γ np N pl c tm m nx K Xk R)) tm m nx) at h
    split at h
    · obtain ⟨α, T, M, nh, I, μ, ⟨x, σ, hI, hv⟩, hround⟩ := h.out
      obtain ⟨ρ', H'⟩ := view_ok H hv
      refine wp_loop_ix (fun n a w => ∃ x ρ, I x ∧ μ x = n ∧ StOk X ρ0 np N (T x) (M x) nh ρ a w) (n0 := μ x) ⟨x, ρ', hI, rfl, H'⟩ ?_
      rintro n a w ⟨x, ρ, hI, rfl, H⟩
      refine ih (T x) (M x) nh ρ a w _ Xk R _ ?_ ?_ ?_ (hround x hI) H
      · rintro tm' m' nx' ρ a w ⟨y, σ, hIy, hlt, hv⟩ H
        obtain ⟨ρ', H'⟩ := view_ok H hv
        exact ⟨μ y, hlt, y, ρ', hIy, rfl, H'⟩
      · exact hX
      · exact hR
    · obtain ⟨n, h⟩ := h.out
      refine wp_loop_ix (fun n a w => ∃ tm m nx ρ, unrP (fun tm m nx K => codeP P Γ np N pl c tm m nx K Xk R) n tm m nx ∧ StOk X ρ0 np N tm m nx ρ a w) (n0 := n) ⟨tm, m, nx, ρ, h, H⟩ ?_
      rintro n a w ⟨tm, m, nx, ρ, h, H⟩
      cases n with
      | zero => exact h.elim
      | succ n =>
        refine ih tm m nx ρ a w _ Xk R _ ?_ ?_ ?_ h H
        · intro tm' m' nx' ρ a w h' H'
          exact ⟨n, Nat.lt_succ_self n, tm', m', nx', ρ, h', H'⟩
        · exact hX
        · exact hR
  | exit id => intro tm m nx ρ a w K Xk R Q hK hX hR h H; exact wp_exit (hX _ _ _ _ _ _ _ h H)
  | ret => intro tm m nx ρ a w K Xk R Q hK hX hR h H; exact wp_ret (hR _ _ _ _ _ _ h H)
  | _ => intro tm m nx ρ a w K Xk R Q hK hX hR h H; exact h.elim
end Go.Proofs.YtljkjdhkofbgmaaDoor.Av
