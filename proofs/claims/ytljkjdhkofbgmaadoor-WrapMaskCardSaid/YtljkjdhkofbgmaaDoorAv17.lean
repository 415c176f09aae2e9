import Derived.Test.YtljkjdhkofbgmaaDoorAv16
namespace Go.Proofs.YtljkjdhkofbgmaaDoor.Av
open Go
set_option linter.all false
set_option maxRecDepth 3000

/-! a function's contract, from its code's walk -/

theorem ren_inv {X : Ctx} {ρ : Env} {m M : Mem} {w : World} (H : Inv X ρ m w) {s : Nat → Nat} (s_gid : ∀ i, 1000000 ≤ i → s i = i)
    (hget : ∀ i e, get M i = some e → ∃ e', get m (s i) = some e' ∧ e'.ty = e.ty ∧ e'.d = e.d.ren s ∧ (e.rw = true → e'.rw = true))
    (hap : ∀ i j ei ej, get M i = some ei → get M j = some ej → i ≠ j → ei.rw = true → s i ≠ s j) : Inv X (fun i => ρ (s i)) M w := by
  refine ⟨fun g L h => ?_, fun i e h => ?_, fun i j ei ej Li Lj hi hj hne hr k1 k2 => ?_, fun i e L h hr k1 => ?_, H.ext, H.size, H.os, H.out, H.tape⟩
  · rw [s_gid _ (by unfold gid; omega)] at h
    exact H.glob g L h
  · obtain ⟨e', g1, g2, g3, g4⟩ := hget i e h
    obtain ⟨L, g5, g6⟩ := H.sat (s i) e' g1
    refine ⟨L, g5, ?_⟩
    obtain ⟨q1, q2, q3, C, t, fr, pre, front, tail, q4, q5, q6, q7, q8, q9⟩ := g6
    refine ⟨by rw [q1, g2], by rw [← g2]; exact q2, ?_, C, t, fr, pre, front, tail, q4, q5, q6, q7, ?_, fun hr => q9 (g4 hr)⟩
    · rw [g2, g3, hasTy_ren] at q3; exact q3
    · rw [g3, flat_ren] at q8
      exact (All2.map_iff (fun a b => repS_ren)).1 q8
  · obtain ⟨ei', g1, g2, g3, g4⟩ := hget i ei hi
    obtain ⟨ej', p1, p2, p3, p4⟩ := hget j ej hj
    exact H.inj (s i) (s j) ei' ej' Li Lj g1 p1 (hap i j ei ej hi hj hne hr) (g4 hr) k1 k2
  · obtain ⟨e', g1, g2, g3, g4⟩ := hget i e h
    exact H.own (s i) e' L g1 (g4 hr) k1

def lkb : List (Nat × Option D) → Nat → Option (Option D)
  | [], _ => none
  | (i, d) :: r, j => match Nat.beq i j with
    | true => some d
    | false => lkb r j

theorem lkb_eq : ∀ (l : List (Nat × Option D)) (j : Nat), lkb l j = lkw l j
  | [], _ => rfl
  | (i, d) :: r, j => by
    simp only [lkb, lkw, lkb_eq r j]
    by_cases h : i = j
    · subst h; simp
    · have : Nat.beq i j = false := by
        cases hb : Nat.beq i j with
        | false => rfl
        | true => exact absurd (Nat.eq_of_beq_eq_true hb) h
      simp [h, this]

/-- the caller's blocks behind the call -/
def ovl (wr : List (Nat × Option D)) : Mem → Mem
  | [] => []
  | (i, some e) :: r => match lkb wr i with
    | none => (i, some e) :: ovl wr r
    | some none => ovl wr r
    | some (some d) => (i, some ⟨e.ty, d, true⟩) :: ovl wr r
  | (_, none) :: r => ovl wr r

def outM (np : Nat) (m0 : Mem) (o : Out) : Mem := newsM np o.nw ++ ovl o.wr m0

theorem ovl_mem {wr : List (Nat × Option D)} : ∀ {m0 : Mem} {i : Nat} {e : Ent}, (i, some e) ∈ m0 →
    (lkw wr i = none → (i, some e) ∈ ovl wr m0) ∧ ∀ d, lkw wr i = some (some d) → (i, some ⟨e.ty, d, true⟩) ∈ ovl wr m0
  | (j, some e') :: r, i, e, h => by
    have ih := fun h => ovl_mem (wr := wr) (m0 := r) (i := i) (e := e) h
    rcases List.mem_cons.1 h with h | h
    · cases h
      refine ⟨fun hl => ?_, fun d hl => ?_⟩ <;> simp [ovl, lkb_eq, hl]
    · refine ⟨fun hl => ?_, fun d hl => ?_⟩
      · have := (ih h).1 hl
        simp only [ovl]
        split <;> simp [this]
      · have := (ih h).2 d hl
        simp only [ovl]
        split <;> simp [this]
  | (j, none) :: r, i, e, h => by
    rcases List.mem_cons.1 h with h | h
    · cases h
    · exact ovl_mem (m0 := r) h

theorem newsM_mem : ∀ {l : List (Ty × D)} {n k : Nat} {x : Ty × D}, l[k]? = some x → (n + k, some ⟨x.1, x.2, true⟩) ∈ newsM n l
  | (t, d) :: r, n, 0, x, h => by simp at h; subst h; simp [newsM]
  | (t, d) :: r, n, k + 1, x, h => by
    have := newsM_mem (l := r) (n := n + 1) (k := k) (x := x) (by simpa using h)
    simp only [newsM, List.mem_cons]
    right
    rw [show n + (k + 1) = n + 1 + k by omega]
    exact this
  | [], n, k, x, h => by simp at h

theorem outM_mem {np : Nat} {m0 : Mem} {o : Out} {i : Nat} {e : Ent} (h : get (o.mem np m0) i = some e) : (i, some e) ∈ outM np m0 o := by
  rw [get_out] at h
  unfold outM
  rw [List.mem_append]
  split at h
  · rename_i hr
    left
    cases hx : o.nw[i - np]? with
    | none => rw [hx] at h; cases h
    | some x =>
      rw [hx] at h
      cases h
      have := newsM_mem (n := np) hx
      rw [show np + (i - np) = i by omega] at this
      exact this
  · right
    split at h
    · cases h
    · rename_i d hl
      cases he : get m0 i with
      | none => rw [he] at h; cases h
      | some e0 =>
        rw [he] at h
        cases h
        exact (ovl_mem (get_mem he)).2 d hl
    · rename_i hl
      exact (ovl_mem (get_mem h)).1 hl

def resP (Γ : Tab) (tm : TM) (m : Mem) : List ResultVar → (List D → Prop) → Prop
  | [], K => K []
  | .tmp t :: r, K => match lk tm t with
    | some d => resP Γ tm m r (fun ds => K (d :: ds))
    | none => False
  | .cell a t :: r, K => match lk tm a with
    | some d => match loadE Γ (get m) t d with
      | some ⟨ob, v, _, _⟩ => ob ∧ resP Γ tm m r (fun ds => K (v :: ds))
      | none => False
    | none => False

def noTup : List D → Bool
  | [] => true
  | d :: r => match d.isTup with
    | true => false
    | false => noTup r

def retIs (d : D) (ds : List D) : Prop :=
  match ds with
  | [x] => x = d
  | ds => noTup ds = true ∧ D.tup ds = d

/-- the function is left so -/
def RetG (Γ : Tab) (rs : List ResultVar) (np : Nat) (m0 : Mem) (o : Out) (tm : TM) (m : Mem) (_ : Nat) : Prop :=
  resP Γ tm m rs fun ds => ∃ σ, retIs (o.ret.ren (sig (np + o.nw.length) 0 0 σ)) ds ∧ keepB σ np = true ∧
    MatchM (sig (np + o.nw.length) 0 0 σ) m (outM np m0 o) ∧ namesB (np + o.nw.length) (sig (np + o.nw.length) 0 0 σ) (outM np m0 o) (outM np m0 o) = true

def parsT : Nat → List D → TM
  | _, [] => []
  | i, d :: r => (i, d) :: parsT (i + 1) r

theorem lk_pars : ∀ {l : List D} {i t : Nat} {d : D}, lk (parsT i l) t = some d → i ≤ t ∧ l[t - i]? = some d
  | [], i, t, d, h => by simp [parsT, lk] at h
  | x :: r, i, t, d, h => by
    simp only [parsT, lk_cons] at h
    split at h
    · subst_vars; cases h; simp
    · rename_i hne
      obtain ⟨h1, h2⟩ := lk_pars (l := r) h
      refine ⟨by omega, ?_⟩
      rw [show t - i = (t - (i + 1)) + 1 by omega]
      simpa using h2

theorem noTup_spec : ∀ {l : List D}, noTup l = true → ∀ d ∈ l, d.isTup = false
  | [], _, d, h => by simp at h
  | x :: r, h, d, hd => by
    simp only [noTup] at h
    split at h <;> try contradiction
    rename_i hx
    rcases List.mem_cons.1 hd with rfl | hd
    · exact hx
    · exact noTup_spec h d hd

theorem res_run {P : Program} {Γ : Tab} (hΓ : TabOk P Γ) {X : Ctx} {ρ : Env} {tm : TM} {m : Mem} {w : World} (hI : Inv X ρ m w) {tmps : Array Value} (ht : ∀ t d, lk tm t = some d → Rep ρ d (tmps.getD t undef)) :
    ∀ (rs : List ResultVar) (K : List D → Prop), resP Γ tm m rs K → ∃ ds vs, K ds ∧ All2 (Rep ρ) ds vs ∧
      (rs.mapM (fun | .tmp t => pure (tmps.getD t undef) | .cell a t => do loadVar t (← asAddr (tmps.getD a undef)) : ResultVar → Sem Value)).run P w = .ok vs w
  | [], K, h => ⟨[], [], h, trivial, rfl⟩
  | .tmp t :: r, K, h => by
    simp only [resP] at h
    split at h <;> try contradiction
    rename_i d hd
    obtain ⟨ds, vs, h1, h2, h3⟩ := res_run hΓ hI ht r _ h
    refine ⟨d :: ds, _ :: vs, h1, ⟨ht t d hd, h2⟩, ?_⟩
    rw [List.mapM_cons, Sem.run_bind]
    simp only [Sem.run_pure, Result.andThen_ok]
    rw [Sem.run_bind, h3]
    rfl
  | .cell a t :: r, K, h => by
    simp only [resP] at h
    split at h <;> try contradiction
    rename_i d hd
    split at h <;> try contradiction
    rename_i ob v up nw he
    obtain ⟨ho, h⟩ := h
    obtain ⟨ds, vs, h1, h2, h3⟩ := res_run hΓ hI ht r _ h
    obtain ⟨b, p, en, i, T, x, rfl, hg, hi, hT, hb, hx, hee⟩ := loadE_inv he
    cases hee
    obtain ⟨L, q1, q2⟩ := ht a _ hd
    obtain ⟨L', q3, q4⟩ := hI.sat b en hg
    rw [q1] at q3; cases q3
    have := Ty.eq_of_beq _ _ hb; subst this
    obtain ⟨q5, us, q6, q7⟩ := q4.read hT ho hx
    obtain ⟨v', q8, q9⟩ := run_loadVar hΓ hi q5 q6 (a := ⟨L.blk, L.base + offAt L.ty p, none⟩) (fun j v hj => by rw [add_none]; exact q7 j v hj)
    refine ⟨_ :: ds, v' :: vs, h1, ⟨q9, h2⟩, ?_⟩
    have q10 : (do loadVar t (← asAddr (tmps.getD a undef)) : Sem Value).run P w = .ok v' w := by
      rw [q2, Sem.run_bind]; exact q8
    rw [List.mapM_cons, Sem.run_bind]
    refine (congrArg (fun r => Result.andThen r _) q10).trans ?_
    simp only [Result.andThen_ok]
    rw [Sem.run_bind, h3]
    rfl

theorem rep_tup {ρ : Env} : ∀ {ds : List D} {vs : List Value}, noTup ds = true → All2 (Rep ρ) ds vs → All2 (RepV ρ) ds vs
  | [], [], _, _ => trivial
  | d :: ds, v :: vs, h, H => by
    have h1 := noTup_spec h d (by simp)
    have h2 : noTup ds = true := by
      simp only [noTup, h1] at h; exact h
    refine ⟨?_, rep_tup h2 H.2⟩
    have := H.1
    rw [rep_eq h1] at this
    exact this
  | [], _ :: _, _, H => H.elim
  | _ :: _, [], _, H => H.elim

theorem mapM_arr {P : Program} {α β : Type} (f : α → Sem β) (rs : Array α) {w w' : World} {vs : List β} (h : (rs.toList.mapM f).run P w = .ok vs w') : (rs.mapM f).run P w = .ok vs.toArray w' := by
  have hh : rs.mapM f = (do let l ← rs.toList.mapM f; pure l.toArray) := by
    cases rs
    simp [List.mapM_toArray]
  rw [hh, Sem.run_bind, h]
  rfl

theorem ret_ok {P : Program} {Γ : Tab} (hΓ : TabOk P Γ) {X : Ctx} {ρ0 : Env} {np N : Nat} {tm : TM} {m m0 : Mem} {nx : Nat} {ρ : Env} {a : Act} {w : World} {o : Out} {fn : Func} (hnp : np + o.nw.length ≤ 999998) (hret : RetG Γ fn.results.toList np m0 o tm m nx)
    (H : StOk X ρ0 np N tm m nx ρ a w) : ∃ v ρ', (results fn a.tmps).run P w = .ok v w ∧ (∀ i, Fix np i → ρ' i = ρ0 i) ∧ (∀ i, ρ' i ≠ none → Fix (np + o.nw.length) i) ∧ Rep ρ' o.ret v ∧ Inv X ρ' (o.mem np m0) w := by
  obtain ⟨ds, vs, ⟨σ, h1, h2, h3, h4⟩, h5, h6⟩ := res_run hΓ H.inv H.tmps _ _ hret
  generalize hs : sig (np + o.nw.length) 0 0 σ = s at *
  have s_gid : ∀ i, 1000000 ≤ i → s i = i := by
    intro i hi
    rw [← hs]
    unfold sig
    have e1 : Nat.blt i (np + o.nw.length) = false := by rw [blt_eq]; simp; omega
    have e2 : Nat.ble 1000000 i = true := by simpa using hi
    rw [e1, e2]
  have s_np : ∀ i, i < np → s i = i := by
    intro i hi
    rw [← hs]
    unfold sig
    have e1 : Nat.blt i (np + o.nw.length) = true := by rw [blt_eq]; simp; omega
    rw [e1]
    exact keepB_spec h2 i hi
  have hres : ρ 999999 = none := Inv.fresh H (by have := H.lim; omega) (Nat.le_refl _)
  have hval : ∃ v, (results fn a.tmps).run P w = .ok v w ∧ Rep ρ (o.ret.ren s) v := by
    have hr : (results fn a.tmps).run P w = .ok (if h : vs.toArray.size = 1 then vs.toArray[0] else .tuple vs.toArray) w := by
      unfold results
      rw [Sem.run_bind]
      have := mapM_arr (P := P) _ fn.results h6
      refine (congrArg (fun r => Result.andThen r _) this).trans ?_
      rfl
    match ds, vs, h1, h5, hr with
    | [d], [v], h1, h5, hr => exact ⟨v, hr, by rw [← (show d = _ from h1)]; exact h5.1⟩
    | [], [], h1, h5, hr => exact ⟨_, hr, by rw [← h1.2]; exact ⟨[], rfl, trivial⟩⟩
    | d :: d' :: ds, v :: v' :: vs, h1, h5, hr => exact ⟨_, hr, by rw [← h1.2]; exact ⟨v :: v' :: vs, rfl, rep_tup h1.1 h5⟩⟩
  obtain ⟨v, hv1, hv2⟩ := hval
  refine ⟨v, fun i => ρ (s i), hv1, fun i hi => ?_, fun i hi => ?_, (rep_ren (ρ := ρ)).1 hv2, ren_inv H.inv s_gid (fun i e h => matchM_get h3 (outM_mem h)) fun i j ei ej hi hj hne hr => ?_⟩
  · show ρ (s i) = ρ0 i
    rcases hi with hi | hi
    · rw [s_np i hi]; exact H.fix i (.inl hi)
    · rw [s_gid i hi]; exact H.fix i (.inr hi)
  · by_cases hf : Fix (np + o.nw.length) i
    · exact hf
    · have h' : ρ (s i) ≠ none := hi
      rw [← hs, sig0_fix hf] at h'
      exact absurd hres h'
  · exact apartB_spec (namesB_spec h4 (outM_mem hi)).2 (outM_mem hj) hne (.inl hr)

/-- a function's contract -/
theorem ac_of {P : Program} {Γ : Tab} (hΓ : TabOk P Γ) (hmix : P.follows .mixedOrders = true) {f : Nat} {fn : Func} {c : Code} (hf : P.funcs[f]? = some fn) (hb : fn.body = some c) (hname : (fn.name == "runtime.NumGoroutine") = false)
    {args : List D} {np : Nat} {m0 : Mem} {o : Out} (hsz : Nat.ble args.length fn.ntmps = true) (hnp : Nat.ble (np + o.nw.length) 999998 = true)
    (pl : Pl) (h : codeP P Γ np fn.ntmps pl c (parsT 0 args) m0 np (RetG Γ fn.results.toList np m0 o) (fun _ _ _ _ => False) (RetG Γ fn.results.toList np m0 o)) : AC P f args np m0 o := by
  have hsz := Nat.le_of_ble_eq_true hsz
  have hnp := Nat.le_of_ble_eq_true hnp
  refine ⟨⟨fn, hf, by rw [hb]; rfl, hname⟩, fun ρ0 w0 vals hv hI hd => ?_⟩
  refine calls_of_wp hf hb ?_
  have hl : vals.length = args.length := hv.length.symm
  have hret : ∀ tm m nx ρ a w, RetG Γ fn.results.toList np m0 o tm m nx → StOk ⟨w0, wpOf ρ0 m0⟩ ρ0 np fn.ntmps tm m nx ρ a w → ∀ e, e = Exit.normal ∨ e = Exit.ret →
      bodyPost P fn (fun e w' => ∃ v ρ', e = .returned v ∧ (∀ i, Fix np i → ρ' i = ρ0 i) ∧ (∀ i, ρ' i ≠ none → Fix (np + o.nw.length) i) ∧ Rep ρ' o.ret v ∧ Inv ⟨w0, wpOf ρ0 m0⟩ ρ' (o.mem np m0) w') e a w := by
    intro tm m nx ρ a w hr H e he
    obtain ⟨v, ρ', h1, h2⟩ := ret_ok hΓ hnp hr H
    rcases he with rfl | rfl
    · exact ⟨H.defs, v, h1, v, ρ', rfl, h2⟩
    · exact ⟨H.defs, v, h1, v, ρ', rfl, h2⟩
  refine code_sound hΓ hmix c _ _ _ ρ0 _ _ _ _ _ _ (fun tm m nx ρ a w hr H => hret tm m nx ρ a w hr H _ (.inl rfl)) (fun i tm m nx ρ a w h => h.elim) (fun tm m nx ρ a w hr H => hret tm m nx ρ a w hr H _ (.inr rfl)) h ?_
  refine ⟨hI, fun t d hd => ?_, ?_, rfl, fun _ _ => rfl, fun i hi => hd i hi, by omega, Nat.le_refl _⟩
  · obtain ⟨_, h1⟩ := lk_pars hd
    obtain ⟨v, h2, h3⟩ := hv.get t h1
    have hlt : t < vals.length := by
      rcases Nat.lt_or_ge t vals.length with h' | h'
      · exact h'
      · rw [List.getElem?_eq_none h'] at h2; cases h2
    have : (vals.toArray ++ Array.replicate (fn.ntmps - vals.toArray.size) undef).getD t undef = v := by
      rw [Array.getD_eq_getD_getElem?, Array.getElem?_append_left (by simpa using hlt), List.getElem?_toArray, h2]
      rfl
    rw [this]; exact h3
  · simp; omega
theorem callG {P : Program} {f : Nat} {args : List D} {m : Mem} {nx : Nat} {R : D → Mem → Nat → List Nat → Prop} {np : Nat} {m0 : Mem} {args0 : List D} {o : Out} (hac : AC P f args0 np m0 o) (σ : List Nat)
    (hl : (match Nat.ble (nx + o.nw.length) 999999 with | true => Nat.ble (np + o.nw.length) 999999 | false => false) = true) (hargs : args = D.rens (sig np nx o.nw.length σ) args0)
    (hm : MatchM (sig np nx o.nw.length σ) m m0) (hn : namesB np (sig np nx o.nw.length σ) m0 m0 = true) (hw : wrB m0 o.wr = true)
    (hR : R (o.ret.ren (sig np nx o.nw.length σ)) (upM (sig np nx o.nw.length σ) nx m0 o) o.nw.length (footM (sig np nx o.nw.length σ) m0)) : CallG P f args m nx R := by
  refine ⟨⟨np, m0, args0, o, σ, hac, ?_, hargs, hm, hn, hw, hR⟩⟩
  split at hl <;> try contradiction
  rename_i h
  exact ⟨Nat.le_of_ble_eq_true h, Nat.le_of_ble_eq_true hl⟩

theorem nextG {α : Type} {T : α → TM} {M : α → Mem} {np nh : Nat} {I : α → Prop} {μ : α → Nat} {x : α} {tm : TM} {m : Mem} (y : α) (σ : List Nat) (h1 : I y) (h2 : μ y < μ x) (h3 : ViewG np nh σ (T y) (M y) tm m) :
    ∃ y σ, I y ∧ μ y < μ x ∧ ViewG np nh σ (T y) (M y) tm m := ⟨y, σ, h1, h2, h3⟩

theorem meetG {α : Type} {T : α → TM} {M : α → Mem} {np nh : Nat} {I : α → Prop} {tm : TM} {m : Mem} (y : α) (σ : List Nat) (h1 : I y) (h3 : ViewG np nh σ (T y) (M y) tm m) :
    ∃ y σ, I y ∧ ViewG np nh σ (T y) (M y) tm m := ⟨y, σ, h1, h3⟩

theorem joinG {np : Nat} {A : (TM → Mem → Nat → Prop) → Prop} {B : TM → Mem → Nat → Prop} (α : Type) (T : α → TM) (M : α → Mem) (nh : Nat) (I : α → Prop) (h1 : A (fun tm' m' _ => ∃ x σ, I x ∧ ViewG np nh σ (T x) (M x) tm' m'))
    (h2 : ∀ x, I x → B (T x) (M x) nh) : JoinG np A B := ⟨⟨α, T, M, nh, I, h1, h2⟩⟩

theorem chkG {b : Bool} {K : Prop} (h : b = true) (k : K) : ChkG b K := ⟨h, k⟩

theorem unrG {u : Nat → TM → Mem → Nat → Prop} {tm : TM} {m : Mem} {nx : Nat} (n : Nat) (h : u n tm m nx) : UnrG u tm m nx := ⟨⟨n, h⟩⟩

theorem retG {o : Out} {np : Nat} {m0 m : Mem} {ds : List D} (σ : List Nat) (h1 : retIs (o.ret.ren (sig (np + o.nw.length) 0 0 σ)) ds) (h2 : keepB σ np = true) (h3 : MatchM (sig (np + o.nw.length) 0 0 σ) m (outM np m0 o))
    (h4 : namesB (np + o.nw.length) (sig (np + o.nw.length) 0 0 σ) (outM np m0 o) (outM np m0 o) = true) : ∃ σ, retIs (o.ret.ren (sig (np + o.nw.length) 0 0 σ)) ds ∧ keepB σ np = true ∧
      MatchM (sig (np + o.nw.length) 0 0 σ) m (outM np m0 o) ∧ namesB (np + o.nw.length) (sig (np + o.nw.length) 0 0 σ) (outM np m0 o) (outM np m0 o) = true := ⟨σ, h1, h2, h3, h4⟩

theorem viewG {np nh : Nat} {σ : List Nat} {T : TM} {M : Mem} {tm : TM} {m : Mem} (h1 : (match Nat.ble np nh with | true => (match Nat.ble nh 999998 with | true => keepB σ np | false => false) | false => false) = true)
    (h2 : MatchT (sig nh 0 0 σ) tm T) (h3 : MatchM (sig nh 0 0 σ) m M) (h4 : namesB nh (sig nh 0 0 σ) M M = true) : ViewG np nh σ T M tm m := by
  refine ⟨?_, h2, h3, h4⟩
  split at h1 <;> try contradiction
  rename_i h
  split at h1 <;> try contradiction
  rename_i h'
  exact ⟨Nat.le_of_ble_eq_true h, Nat.le_of_ble_eq_true h', h1⟩

theorem loopG {np : Nat} {body : TM → Mem → Nat → (TM → Mem → Nat → Prop) → Prop} {tm : TM} {m : Mem} (α : Type) (T : α → TM) (M : α → Mem) (nh : Nat) (I : α → Prop) (μ : α → Nat) (x : α) (σ : List Nat) (h0 : I x) (hv : ViewG np nh σ (T x) (M x) tm m)
    (hr : ∀ x, I x → body (T x) (M x) nh (fun tm' m' _ => ∃ y σ, I y ∧ μ y < μ x ∧ ViewG np nh σ (T y) (M y) tm' m')) : LoopG np body tm m := ⟨⟨α, T, M, nh, I, μ, ⟨x, σ, h0, hv⟩, hr⟩⟩
end Go.Proofs.YtljkjdhkofbgmaaDoor.Av
