import Derived.Test.YtljkjdhkofbgmaaDoorAv13
namespace Go.Proofs.YtljkjdhkofbgmaaDoor.Av
open Go
set_option linter.all false
set_option maxRecDepth 3000

/-! a region whose order is drawn -/

/-- what is known of an operation that was met -/
structure Info where
  dst : Option Nat
  looks : List Nat
  keys : List Nat
  foot : List Nat
  pre : List Nat

def disj : List Nat → List Nat → Bool
  | [], _ => true
  | x :: xs, ys => match memB x ys with
    | true => false
    | false => disj xs ys

theorem disj_spec {xs ys : List Nat} (h : disj xs ys = true) : ∀ x ∈ xs, x ∉ ys := by
  induction xs with
  | nil => intro x hx; simp at hx
  | cons y xs ih =>
    simp only [disj] at h
    split at h <;> try contradiction
    rename_i hb
    intro x hx
    rcases List.mem_cons.1 hx with rfl | hx
    · intro hm; rw [memB_iff.2 hm] at hb; cases hb
    · exact ih h x hx

def notIn (d : Option Nat) (l : List Nat) : Bool :=
  match d with
  | none => true
  | some t => match memB t l with
    | true => false
    | false => true

theorem notIn_spec {d : Option Nat} {l : List Nat} (h : notIn d l = true) : ∀ t, d = some t → t ∉ l := by
  intro t ht hm
  subst ht
  simp [notIn, memB_iff.2 hm] at h

def dstNe (d d' : Option Nat) : Bool :=
  match d, d' with
  | some t, some t' => match Nat.beq t t' with
    | true => false
    | false => true
  | _, _ => true

theorem dstNe_spec {d d' : Option Nat} (h : dstNe d d' = true) : ∀ t, d = some t → d' ≠ some t := by
  intro t h1 h2
  subst h1 h2
  simp [dstNe, Nat.beq_refl] at h

/-- two operations of which neither must wait -/
def indep (x y : Info) : Bool :=
  match disj x.keys y.foot with
  | true => match disj y.keys x.foot with
    | true => match disj x.keys y.keys with
      | true => match notIn x.dst y.looks with
        | true => notIn y.dst x.looks
        | false => false
      | false => false
    | false => false
  | false => false

/-- the log: the operations met, the last one first; the i-th of n stands at n - 1 - i -/
def chkLog (y : Info) : List Info → Nat → Bool
  | [], _ => true
  | x :: r, n => match dstNe x.dst y.dst with
    | true => match memB (n - 1) y.pre with
      | true => chkLog y r (n - 1)
      | false => match indep x y with
        | true => chkLog y r (n - 1)
        | false => false
    | false => false

def nthI : List Info → Nat → Option Info
  | x :: _, 0 => some x
  | _ :: r, i + 1 => nthI r i
  | [], _ => none

def uni : List Nat → List Nat → List Nat
  | [], b => b
  | x :: r, b => match memB x b with
    | true => uni r b
    | false => x :: uni r b

theorem uni_mem {x : Nat} : ∀ {a b : List Nat}, x ∈ uni a b → x ∈ a ∨ x ∈ b
  | [], _, h => .inr h
  | y :: r, b, h => by
    simp only [uni] at h
    split at h
    · rcases uni_mem h with h | h
      · exact .inl (List.mem_cons_of_mem _ h)
      · exact .inr h
    · rcases List.mem_cons.1 h with rfl | h
      · simp
      · rcases uni_mem h with h | h
        · exact .inl (List.mem_cons_of_mem _ h)
        · exact .inr h

/-- all that must be done ahead: the edges' ends, and what stands ahead of these -/
def preOf (log : List Info) (n : Nat) : List Edge → Option (List Nat)
  | [] => some []
  | e :: r => match preOf log n r with
    | some l => match Region.binds .any e with
      | true => match Nat.blt e.on n with
        | true => match nthI log (n - 1 - e.on) with
          | some x => some (uni (e.on :: x.pre) l)
          | none => none
        | false => none
      | false => some l
    | none => none

def guardTmp (ops : List Oper) (o : Oper) : List Nat :=
  match o.guard with
  | none => []
  | some (j, _) => match dstAt ops j with
    | some t => [t]
    | none => []

def keysOf : Mem → List Nat
  | [] => []
  | (i, _) :: r => i :: keysOf r

theorem keysOf_eq : ∀ m : Mem, keysOf m = m.map (·.1)
  | [] => rfl
  | (i, e) :: r => by simp [keysOf, keysOf_eq r]

/-- the checks over the whole region, in the text's order: each operation's edges and what is known of it -/
def chkR : List (List Edge × Info) → Nat → List Info → Bool
  | [], _, _ => true
  | (es, y) :: r, j, log => match preOf log j es with
    | some pre => match chkLog ⟨y.dst, y.looks, y.keys, y.foot, pre⟩ log j with
      | true => chkR r (j + 1) (⟨y.dst, y.looks, y.keys, y.foot, pre⟩ :: log)
      | false => false
    | none => false

structure ChkG (b : Bool) (K : Prop) : Prop where
  chk : b = true
  go : K

def revA : List (List Edge × Info) → List (List Edge × Info) → List (List Edge × Info)
  | [], l => l
  | x :: r, l => revA r (x :: l)

noncomputable def drwP (P : Program) (Γ : Tab) (N : Nat) (ops : List Oper) (l : List Oper) : List (List Edge × Info) → TM → Mem → Nat → (TM → Mem → Nat → Prop) → Prop :=
  @List.rec Oper (fun _ => List (List Edge × Info) → TM → Mem → Nat → (TM → Mem → Nat → Prop) → Prop) (fun acc tm m nx K => ChkG (chkR (revA acc []) 0 []) (K tm m nx))
    (fun o _ ih acc tm m nx K => guardP ops o tm
      (fun tm => step1 P Γ o.op tm m nx (fun v up nw foot => limP nx nw (putP N o.dst v tm (fun tm =>
        ih ((o.after.toList, ⟨o.dst, guardTmp ops o ++ tmpsOf o.op.operands.toList, keysOf up, foot, []⟩) :: acc) tm (up ++ m) (nx + nw) K))))
      (fun tm => putP N o.dst .undef tm (fun tm => ih ((o.after.toList, ⟨o.dst, guardTmp ops o ++ tmpsOf o.op.operands.toList, [], [], []⟩) :: acc) tm m nx K))) l

theorem drwP_cons {P : Program} {Γ : Tab} {N : Nat} {ops : List Oper} {o : Oper} {r : List Oper} {acc : List (List Edge × Info)} {tm : TM} {m : Mem} {nx : Nat} {K : TM → Mem → Nat → Prop} : drwP P Γ N ops (o :: r) acc tm m nx K = guardP ops o tm
      (fun tm => step1 P Γ o.op tm m nx (fun v up nw foot => limP nx nw (putP N o.dst v tm (fun tm =>
        drwP P Γ N ops r ((o.after.toList, ⟨o.dst, guardTmp ops o ++ tmpsOf o.op.operands.toList, keysOf up, foot, []⟩) :: acc) tm (up ++ m) (nx + nw) K))))
      (fun tm => putP N o.dst .undef tm (fun tm => drwP P Γ N ops r ((o.after.toList, ⟨o.dst, guardTmp ops o ++ tmpsOf o.op.operands.toList, [], [], []⟩) :: acc) tm m nx K)) := rfl

def putTm (dst : Option Nat) (v : D) (tm : TM) : TM :=
  match dst with
  | some t => (t, v) :: tm
  | none => tm

/-- a step of the canonical run -/
structure Rec where
  o : Oper
  want : Bool      -- is it done?
  tm : TM          -- ahead of it
  m : Mem
  nx : Nat
  v : D
  up : Mem
  nw : Nat
  foot : List Nat
  info : Info

/-- the canonical run, from the j-th operation on -/
def Run (P : Program) (X : Ctx) (N : Nat) (ops : List Oper) : List Rec → Nat → List Info → TM → Mem → Nat → (TM → Mem → Nat → Prop) → Prop
  | [], j, _, tm, m, nx, K => ops.drop j = [] ∧ K tm m nx
  | r :: rs, j, log, tm, m, nx, K => ops[j]? = some r.o ∧ (∀ t, lk r.tm t = lk tm t) ∧ r.m = m ∧ r.nx = nx ∧ nx + r.nw ≤ 999998 ∧
      (match r.o.guard with | none => r.want = true | some (g, w) => ∃ t b, dstAt ops g = some t ∧ lk tm t = some (.bool b) ∧ r.want = (b == w)) ∧
      (r.want = true → Does P X r.tm (get m) r.o nx r.v r.up r.nw r.foot ∧ (∀ k ∈ keysOf r.up, k ∈ r.foot ∨ (nx ≤ k ∧ k < nx + r.nw))) ∧
      (r.want = false → r.up = [] ∧ r.nw = 0 ∧ r.v = .undef ∧ r.foot = []) ∧
      r.info.dst = r.o.dst ∧ r.info.looks = guardTmp ops r.o ++ tmpsOf r.o.op.operands.toList ∧ r.info.keys = keysOf r.up ∧ r.info.foot = r.foot ∧
      preOf log j r.o.after.toList = some r.info.pre ∧ chkLog r.info log j = true ∧
      (∀ t, r.o.dst = some t → t < N) ∧
      Run P X N ops rs (j + 1) (r.info :: log) (putTm r.o.dst r.v r.tm) (r.up ++ m) (nx + r.nw) K

theorem putP_spec {N : Nat} {dst : Option Nat} {v : D} {tm : TM} {K : TM → Prop} (h : putP N dst v tm K) : (∀ t, dst = some t → t < N) ∧ K (putTm dst v tm) := by
  cases dst with
  | none => exact ⟨(fun t ht => by cases ht), h⟩
  | some t =>
    simp only [putP] at h
    split at h <;> try contradiction
    rename_i hb
    exact ⟨(fun s hs => by cases hs; rw [blt_eq] at hb; simpa using hb), h⟩

/-- a guard, read off the canonical state alone -/
theorem guardP_spec {ops : List Oper} {o : Oper} {tm : TM} {A B : TM → Prop} (h : guardP ops o tm A B) :
    ∃ (tm' : TM) (want : Bool), (∀ t, lk tm' t = lk tm t) ∧ (match o.guard with | none => want = true | some (g, w) => ∃ t b, dstAt ops g = some t ∧ lk tm t = some (.bool b) ∧ want = (b == w)) ∧
      ((want = true ∧ A tm') ∨ (want = false ∧ B tm')) := by
  unfold guardP at h
  cases hg : o.guard with
  | none => simp only [hg] at h; exact ⟨tm, true, fun _ => rfl, rfl, .inl ⟨rfl, h⟩⟩
  | some p =>
    obtain ⟨g, w⟩ := p
    simp only [hg] at h
    split at h <;> try contradiction
    rename_i t ht
    split at h <;> try contradiction
    rename_i b hb
    have hlk : ∀ c : Bool, b = c → ∀ s, lk ((t, .bool c) :: tm) s = lk tm s := by
      intro c hc s
      rw [lk_cons]
      split
      · subst_vars; rw [hb]
      · rfl
    cases w <;> simp only at h <;> cases b
    · exact ⟨_, true, hlk false rfl, ⟨t, false, ht, hb, rfl⟩, .inl ⟨rfl, h.2 rfl⟩⟩
    · exact ⟨_, false, hlk true rfl, ⟨t, true, ht, hb, rfl⟩, .inr ⟨rfl, h.1 rfl⟩⟩
    · exact ⟨_, false, hlk false rfl, ⟨t, false, ht, hb, rfl⟩, .inr ⟨rfl, h.2 rfl⟩⟩
    · exact ⟨_, true, hlk true rfl, ⟨t, true, ht, hb, rfl⟩, .inl ⟨rfl, h.1 rfl⟩⟩

/-- the canonical run, ahead of the checks -/
def Run0 (P : Program) (X : Ctx) (N : Nat) (ops : List Oper) : List Rec → (List (List Edge × Info) → Prop) → Nat → TM → Mem → Nat → (TM → Mem → Nat → Prop) → Prop
  | [], E, j, tm, m, nx, K => ops.drop j = [] ∧ E [] ∧ K tm m nx
  | r :: rs, E, j, tm, m, nx, K => ops[j]? = some r.o ∧ (∀ t, lk r.tm t = lk tm t) ∧ r.m = m ∧ r.nx = nx ∧ nx + r.nw ≤ 999998 ∧
      (match r.o.guard with | none => r.want = true | some (g, w) => ∃ t b, dstAt ops g = some t ∧ lk tm t = some (.bool b) ∧ r.want = (b == w)) ∧
      (r.want = true → Does P X r.tm (get m) r.o nx r.v r.up r.nw r.foot ∧ (∀ k ∈ keysOf r.up, k ∈ r.foot ∨ (nx ≤ k ∧ k < nx + r.nw))) ∧
      (r.want = false → r.up = [] ∧ r.nw = 0 ∧ r.v = .undef ∧ r.foot = []) ∧
      r.info.dst = r.o.dst ∧ r.info.looks = guardTmp ops r.o ++ tmpsOf r.o.op.operands.toList ∧ r.info.keys = keysOf r.up ∧ r.info.foot = r.foot ∧
      (∀ t, r.o.dst = some t → t < N) ∧
      Run0 P X N ops rs (fun l => E ((r.o.after.toList, r.info) :: l)) (j + 1) (putTm r.o.dst r.v r.tm) (r.up ++ m) (nx + r.nw) K

theorem run0_E {P : Program} {X : Ctx} {N : Nat} {ops : List Oper} {K : TM → Mem → Nat → Prop} : ∀ (rs : List Rec) (E : List (List Edge × Info) → Prop) (j : Nat) (tm : TM) (m : Mem) (nx : Nat), Run0 P X N ops rs E j tm m nx K → ∃ l, E l
  | [], E, j, tm, m, nx, h => ⟨[], h.2.1⟩
  | r :: rs, E, j, tm, m, nx, h => by
    obtain ⟨_, _, _, _, _, _, _, _, _, _, _, _, _, h⟩ := h
    obtain ⟨l, hl⟩ := run0_E rs _ _ _ _ _ h
    exact ⟨_, hl⟩

theorem run_of {P : Program} {X : Ctx} {N : Nat} {ops : List Oper} {K : TM → Mem → Nat → Prop} : ∀ (rs : List Rec) (j : Nat) (log : List Info) (tm : TM) (m : Mem) (nx : Nat), Run0 P X N ops rs (fun l => chkR l j log = true) j tm m nx K →
    ∃ rs', Run P X N ops rs' j log tm m nx K
  | [], j, log, tm, m, nx, h => ⟨[], h.1, h.2.2⟩
  | r :: rs, j, log, tm, m, nx, h => by
    obtain ⟨h1, h2, h3, h4, h5, h6, h7, h8, h9, h10, h11, h12, h13, h⟩ := h
    cases hp : preOf log j r.o.after.toList with
    | none =>
      obtain ⟨l, hl⟩ := run0_E rs _ _ _ _ _ h
      simp only [chkR, hp] at hl
      cases hl
    | some pre =>
      cases hc : chkLog ⟨r.info.dst, r.info.looks, r.info.keys, r.info.foot, pre⟩ log j with
      | false =>
        obtain ⟨l, hl⟩ := run0_E rs _ _ _ _ _ h
        simp only [chkR, hp, hc] at hl
        cases hl
      | true =>
        simp only [chkR, hp, hc] at h
        obtain ⟨rs', hr⟩ := run_of rs (j + 1) _ _ _ _ h
        exact ⟨⟨r.o, r.want, r.tm, r.m, r.nx, r.v, r.up, r.nw, r.foot, ⟨r.info.dst, r.info.looks, r.info.keys, r.info.foot, pre⟩⟩ :: rs', h1, h2, h3, h4, h5, h6, h7, h8, h9, h10, h11, h12, hp, hc, h13, hr⟩

theorem drw_run0 {P : Program} {Γ : Tab} (hΓ : TabOk P Γ) {X : Ctx} {N : Nat} (ops : List Oper) {K : TM → Mem → Nat → Prop} :
    ∀ (r : List Oper) (j : Nat) (acc : List (List Edge × Info)) (tm : TM) (m : Mem) (nx : Nat), ops.drop j = r → nx ≤ 999998 → drwP P Γ N ops r acc tm m nx K → ∃ rs, Run0 P X N ops rs (fun l => chkR (revA acc l) 0 [] = true) j tm m nx K
  | [], j, acc, tm, m, nx, hd, _, h => ⟨[], hd, ChkG.chk (K := K tm m nx) h, ChkG.go (b := chkR (revA acc []) 0 []) h⟩
  | o :: r, j, acc, tm, m, nx, hd, hnx, h => by
    have hget : ops[j]? = some o := by rw [← List.head?_drop, hd]; rfl
    have hd' : ops.drop (j + 1) = r := by rw [← List.tail_drop, hd]; rfl
    rw [drwP_cons] at h
    obtain ⟨tm', want, hsame, hgd, hw⟩ := guardP_spec h
    rcases hw with ⟨rfl, h⟩ | ⟨rfl, h⟩
    · obtain ⟨v, up, nw, foot, hR, hdoes, hkeys⟩ := step1_does hΓ (X := X) h
      unfold limP at hR
      split at hR <;> try contradiction
      rename_i hlim
      obtain ⟨h4, h5⟩ := putP_spec hR
      have hlim := Nat.le_of_ble_eq_true hlim
      obtain ⟨rs, h6⟩ := drw_run0 hΓ (X := X) ops r (j + 1) _ _ _ _ hd' hlim h5
      exact ⟨⟨o, true, tm', m, nx, v, up, nw, foot, ⟨o.dst, guardTmp ops o ++ tmpsOf o.op.operands.toList, keysOf up, foot, []⟩⟩ :: rs, hget, hsame, rfl, rfl, hlim, hgd, fun _ => ⟨hdoes, by rw [keysOf_eq]; exact hkeys⟩,
        (fun h => by cases h), rfl, rfl, rfl, rfl, h4, h6⟩
    · obtain ⟨h4, h5⟩ := putP_spec h
      obtain ⟨rs, h6⟩ := drw_run0 hΓ (X := X) ops r (j + 1) _ _ _ _ hd' hnx h5
      exact ⟨⟨o, false, tm', m, nx, .undef, [], 0, [], ⟨o.dst, guardTmp ops o ++ tmpsOf o.op.operands.toList, [], [], []⟩⟩ :: rs, hget, hsame, rfl, rfl, hnx, hgd, (fun h => by cases h),
        fun _ => ⟨rfl, rfl, rfl, rfl⟩, rfl, rfl, rfl, rfl, h4, h6⟩

theorem drw_run {P : Program} {Γ : Tab} (hΓ : TabOk P Γ) {X : Ctx} {N : Nat} (ops : List Oper) {K : TM → Mem → Nat → Prop} {tm : TM} {m : Mem} {nx : Nat} (hnx : nx ≤ 999998) (h : drwP P Γ N ops ops [] tm m nx K) :
    ∃ rs, Run P X N ops rs 0 [] tm m nx K := by
  obtain ⟨rs, h1⟩ := drw_run0 hΓ (X := X) ops ops 0 [] tm m nx rfl hnx h
  exact run_of rs 0 [] tm m nx h1

/-- what the canonical state is, behind these steps -/
structure Char (tm0 : TM) (m0 : Mem) (nx0 : Nat) (ps : List Rec) (tm : TM) (m : Mem) (nx : Nat) : Prop where
  tmW : ∀ (i : Nat) (r : Rec) (t : Nat), ps[i]? = some r → r.o.dst = some t → lk tm t = some r.v
  tmO : ∀ t : Nat, (∀ (i : Nat) (r : Rec), ps[i]? = some r → r.o.dst ≠ some t) → lk tm t = lk tm0 t
  mW : ∀ (b i : Nat) (r : Rec), ps[i]? = some r → b ∈ keysOf r.up → (∀ (k : Nat) (r' : Rec), i < k → ps[k]? = some r' → b ∉ keysOf r'.up) → get m b = get r.up b
  mO : ∀ b : Nat, (∀ (i : Nat) (r : Rec), ps[i]? = some r → b ∉ keysOf r.up) → get m b = get m0 b
  nxs : ∀ (i : Nat) (r : Rec), ps[i]? = some r → nx0 ≤ r.nx ∧ r.nx + r.nw ≤ nx
  le : nx0 ≤ nx

structure Fact (P : Program) (X : Ctx) (N : Nat) (ops : List Oper) (tm0 : TM) (m0 : Mem) (nx0 : Nat) (ps : List Rec) (j : Nat) (r : Rec) : Prop where
  op : ops[j]? = some r.o
  char : Char tm0 m0 nx0 (ps.take j) r.tm r.m r.nx
  lim : r.nx + r.nw ≤ 999998
  guard : match r.o.guard with | none => r.want = true | some (g, w) => ∃ t b, dstAt ops g = some t ∧ lk r.tm t = some (.bool b) ∧ r.want = (b == w)
  does : r.want = true → Does P X r.tm (get r.m) r.o r.nx r.v r.up r.nw r.foot ∧ (∀ k ∈ keysOf r.up, k ∈ r.foot ∨ (r.nx ≤ k ∧ k < r.nx + r.nw))
  skip : r.want = false → r.up = [] ∧ r.nw = 0 ∧ r.v = .undef ∧ r.foot = []
  looks : r.info.looks = guardTmp ops r.o ++ tmpsOf r.o.op.operands.toList
  keys : r.info.keys = keysOf r.up
  foot : r.info.foot = r.foot
  dst : r.info.dst = r.o.dst
  small : ∀ t, r.o.dst = some t → t < N
  pair : ∀ (i : Nat) (r' : Rec), i < j → ps[i]? = some r' → dstNe r'.o.dst r.o.dst = true ∧ (i ∈ r.info.pre ∨ indep r'.info r.info = true)
  edge : ∀ e ∈ r.o.after.toList, Region.binds .any e = true → e.on < j
  pre : ∀ x ∈ r.info.pre, ∃ e ∈ r.o.after.toList, Region.binds .any e = true ∧ e.on < j ∧ (x = e.on ∨ ∃ r', ps[e.on]? = some r' ∧ x ∈ r'.info.pre)

theorem preOf_spec {log : List Info} {n : Nat} : ∀ {es : List Edge} {l : List Nat}, preOf log n es = some l →
    (∀ e ∈ es, Region.binds .any e = true → e.on < n) ∧ ∀ x ∈ l, ∃ e ∈ es, Region.binds .any e = true ∧ e.on < n ∧ (x = e.on ∨ ∃ i, nthI log (n - 1 - e.on) = some i ∧ x ∈ i.pre)
  | [], l, h => by
    simp only [preOf, Option.some.injEq] at h; subst h
    exact ⟨fun e he => by simp at he, fun x hx => by simp at hx⟩
  | e :: es, l, h => by
    simp only [preOf] at h
    cases h1 : preOf log n es with
    | none => simp [h1] at h
    | some l1 =>
      obtain ⟨ih1, ih2⟩ := preOf_spec h1
      simp only [h1] at h
      cases hb : Region.binds .any e with
      | false =>
        simp only [hb, Option.some.injEq] at h
        subst h
        refine ⟨fun e' he' hb' => ?_, fun x hx => ?_⟩
        · rcases List.mem_cons.1 he' with rfl | he'
          · rw [hb] at hb'; cases hb'
          · exact ih1 e' he' hb'
        · obtain ⟨e', he', h2⟩ := ih2 x hx
          exact ⟨e', by simp [he'], h2⟩
      | true =>
        simp only [hb] at h
        cases hlt : Nat.blt e.on n with
        | false => simp [hlt] at h
        | true =>
          simp only [hlt] at h
          have hlt' : e.on < n := by rw [blt_eq] at hlt; simpa using hlt
          cases hn : nthI log (n - 1 - e.on) with
          | none => simp [hn] at h
          | some i =>
            simp only [hn, Option.some.injEq] at h
            subst h
            refine ⟨fun e' he' hb' => ?_, fun x hx => ?_⟩
            · rcases List.mem_cons.1 he' with rfl | he'
              · exact hlt'
              · exact ih1 e' he' hb'
            · rcases uni_mem hx with hx | hx
              · rcases List.mem_cons.1 hx with rfl | hx
                · exact ⟨e, by simp, hb, hlt', .inl rfl⟩
                · exact ⟨e, by simp, hb, hlt', .inr ⟨i, hn, hx⟩⟩
              · obtain ⟨e', he', h2⟩ := ih2 x hx
                exact ⟨e', by simp [he'], h2⟩

theorem nthI_eq : ∀ (l : List Info) (i : Nat), nthI l i = l[i]?
  | [], _ => by simp [nthI]
  | _ :: _, 0 => by simp [nthI]
  | _ :: l, i + 1 => by simp [nthI, nthI_eq l i]

theorem chkLog_spec {y : Info} : ∀ {log : List Info} {n : Nat}, log.length = n → chkLog y log n = true → ∀ (i : Nat) (x : Info), i < n → log[n - 1 - i]? = some x → dstNe x.dst y.dst = true ∧ (i ∈ y.pre ∨ indep x y = true)
  | [], n, hl, _, i, x, hi, hx => by simp at hx
  | z :: r, n, hl, h, i, x, hi, hx => by
    simp only [List.length_cons] at hl
    simp only [chkLog] at h
    split at h <;> try contradiction
    rename_i hd
    have ih := chkLog_spec (y := y) (log := r) (n := n - 1) (by omega)
    by_cases hin : i = n - 1
    · rw [hin, show n - 1 - (n - 1) = 0 by omega] at hx
      simp at hx
      subst hx
      refine ⟨hd, ?_⟩
      split at h
      · rename_i hm; left; rw [hin]; exact memB_iff.1 hm
      · split at h <;> try contradiction
        rename_i hi'
        exact .inr hi'
    · have hx' : r[n - 1 - 1 - i]? = some x := by
        rw [show n - 1 - i = (n - 1 - 1 - i) + 1 by omega] at hx
        simpa using hx
      have hr : chkLog y r (n - 1) = true := by
        split at h
        · exact h
        · split at h <;> try contradiction
          exact h
      exact ih hr i x (by omega) hx'

theorem get_nokey {m : Mem} {b : Nat} : ∀ {up : Mem}, b ∉ keysOf up → get (up ++ m) b = get m b := by
  intro up h
  rw [get_append, if_neg (by rw [← keysOf_eq]; exact h)]

theorem get_key {m : Mem} {b : Nat} {up : Mem} (h : b ∈ keysOf up) : get (up ++ m) b = get up b := by
  rw [get_append, if_pos (by rw [← keysOf_eq]; exact h)]

theorem snoc_get {α : Type} {l : List α} {x y : α} {i : Nat} (h : (l ++ [x])[i]? = some y) : (i < l.length ∧ l[i]? = some y) ∨ (i = l.length ∧ y = x) := by
  rcases Nat.lt_trichotomy i l.length with h' | h' | h'
  · rw [List.getElem?_append_left h'] at h; exact .inl ⟨h', h⟩
  · subst h'; simp at h; exact .inr ⟨rfl, h.symm⟩
  · rw [List.getElem?_append_right (by omega)] at h
    rw [List.getElem?_eq_none (by simp; omega)] at h
    cases h

theorem Char.step {tm0 : TM} {m0 : Mem} {nx0 : Nat} {ps : List Rec} {r : Rec} (H : Char tm0 m0 nx0 ps r.tm r.m r.nx) (hd : ∀ (i : Nat) (r' : Rec), ps[i]? = some r' → dstNe r'.o.dst r.o.dst = true) :
    Char tm0 m0 nx0 (ps ++ [r]) (putTm r.o.dst r.v r.tm) (r.up ++ r.m) (r.nx + r.nw) := by
  refine ⟨fun i r' t hi ht => ?_, fun t h => ?_, fun b i r' hi hb hk => ?_, fun b h => ?_, fun i r' hi => ?_, by have := H.le; omega⟩
  · rcases snoc_get hi with ⟨h1, h2⟩ | ⟨h1, rfl⟩
    · cases hdr : r.o.dst with
      | none => exact H.tmW i r' t h2 ht
      | some t' =>
        simp only [putTm]
        rw [lk_cons, if_neg]
        · exact H.tmW i r' t h2 ht
        · intro e
          subst e
          exact dstNe_spec (hd i r' h2) t' ht hdr
    · rw [ht]; simp [putTm, lk_cons]
  · have hr : r.o.dst ≠ some t := h ps.length r (by simp)
    have : lk (putTm r.o.dst r.v r.tm) t = lk r.tm t := by
      cases hdr : r.o.dst with
      | none => rfl
      | some t' => simp only [putTm]; rw [lk_cons, if_neg (fun e => hr (by rw [hdr, e]))]
    rw [this]
    exact H.tmO t fun i r' hi => h i r' (by
      have : i < ps.length := by
        rcases Nat.lt_or_ge i ps.length with h' | h'
        · exact h'
        · rw [List.getElem?_eq_none h'] at hi; cases hi
      rw [List.getElem?_append_left this]; exact hi)
  · rcases snoc_get hi with ⟨h1, h2⟩ | ⟨h1, rfl⟩
    · have hnr : b ∉ keysOf r.up := hk ps.length r h1 (by simp)
      rw [get_nokey hnr]
      exact H.mW b i r' h2 hb fun k r'' hik hk' => hk k r'' hik (by
        have : k < ps.length := by
          rcases Nat.lt_or_ge k ps.length with h' | h'
          · exact h'
          · rw [List.getElem?_eq_none h'] at hk'; cases hk'
        rw [List.getElem?_append_left this]; exact hk')
    · exact get_key hb
  · have hnr : b ∉ keysOf r.up := h ps.length r (by simp)
    rw [get_nokey hnr]
    exact H.mO b fun i r' hi => h i r' (by
      have : i < ps.length := by
        rcases Nat.lt_or_ge i ps.length with h' | h'
        · exact h'
        · rw [List.getElem?_eq_none h'] at hi; cases hi
      rw [List.getElem?_append_left this]; exact hi)
  · rcases snoc_get hi with ⟨h1, h2⟩ | ⟨h1, rfl⟩
    · have := H.nxs i r' h2; omega
    · have := H.le; omega

theorem Char.congr {tm0 : TM} {m0 : Mem} {nx0 : Nat} {ps : List Rec} {tm tm' : TM} {m : Mem} {nx : Nat} (H : Char tm0 m0 nx0 ps tm m nx) (h : ∀ t, lk tm' t = lk tm t) : Char tm0 m0 nx0 ps tm' m nx :=
  ⟨fun i r t hi ht => by rw [h]; exact H.tmW i r t hi ht, fun t ht => by rw [h]; exact H.tmO t ht, H.mW, H.mO, H.nxs, H.le⟩

theorem run_facts {P : Program} {X : Ctx} {N : Nat} {ops : List Oper} {K : TM → Mem → Nat → Prop} {tm0 : TM} {m0 : Mem} {nx0 : Nat} :
    ∀ (rs ps : List Rec) (log : List Info) (tm : TM) (m : Mem) (nx : Nat), Run P X N ops rs ps.length log tm m nx K → log = (ps.map (·.info)).reverse → nx ≤ 999998 → Char tm0 m0 nx0 ps tm m nx →
      (∀ (j : Nat) (r : Rec), ps[j]? = some r → Fact P X N ops tm0 m0 nx0 ps j r) →
      ∃ qs tmF mF nxF, qs.length = ops.length ∧ (∀ (j : Nat) (r : Rec), qs[j]? = some r → Fact P X N ops tm0 m0 nx0 qs j r) ∧ Char tm0 m0 nx0 qs tmF mF nxF ∧ nxF ≤ 999998 ∧ K tmF mF nxF
  | [], ps, log, tm, m, nx, h, hlog, hnx, hc, hf => by
    obtain ⟨h1, h2⟩ := h
    refine ⟨ps, tm, m, nx, ?_, hf, hc, hnx, h2⟩
    have h3 : ops.length ≤ ps.length := List.drop_eq_nil_iff.1 h1
    rcases Nat.lt_or_ge ops.length ps.length with h4 | h4
    · have h5 : ps[ops.length]? = some ps[ops.length] := List.getElem?_eq_getElem h4
      have := (hf _ _ h5).op
      simp at this
    · omega
  | r :: rs, ps, log, tm, m, nx, h, hlog, hnx, hc, hf => by
    obtain ⟨h1, h2, h3, h4, h5, h6, h7, h8, h9, h10, h11, h12, h13, h14, h15, h16⟩ := h
    subst h3 h4
    obtain ⟨p1, p2⟩ := preOf_spec h13
    have hnth : ∀ i (r' : Rec), ps[i]? = some r' → log[ps.length - 1 - i]? = some r'.info := by
      intro i r' hi
      have hlt : i < ps.length := by
        rcases Nat.lt_or_ge i ps.length with h' | h'
        · exact h'
        · rw [List.getElem?_eq_none h'] at hi; cases hi
      rw [hlog, List.getElem?_reverse (by simp; omega)]
      simp only [List.length_map]
      rw [show ps.length - 1 - (ps.length - 1 - i) = i by omega]
      simp [hi]
    have hnth2 : ∀ i, i < ps.length → ∀ x, nthI log (ps.length - 1 - i) = some x → ∃ r', ps[i]? = some r' ∧ x = r'.info := by
      intro i hi x hx
      have h' := List.getElem?_eq_getElem hi
      refine ⟨ps[i], h', ?_⟩
      have := hnth i _ h'
      rw [nthI_eq, this] at hx
      cases hx; rfl
    have hpair : ∀ (i : Nat) (r' : Rec), i < ps.length → ps[i]? = some r' → dstNe r'.o.dst r.o.dst = true ∧ (i ∈ r.info.pre ∨ indep r'.info r.info = true) := by
      intro i r' hi hr'
      have := chkLog_spec (y := r.info) (log := log) (n := ps.length) (by rw [hlog]; simp) h14 i r'.info hi (hnth i r' hr')
      rw [(hf i r' hr').dst, h9] at this
      exact this
    have hc' : Char tm0 m0 nx0 ps r.tm r.m r.nx := hc.congr h2
    have hfact : Fact P X N ops tm0 m0 nx0 (ps ++ [r]) ps.length r := by
      refine ⟨h1, by rw [List.take_left]; exact hc', h5, ?_, h7, h8, h10, h11, h12, h9, h15, fun i r' hi hr' => ?_, p1, fun x hx => ?_⟩
      · cases hg : r.o.guard with
        | none => rw [hg] at h6; exact h6
        | some p =>
          obtain ⟨g, wnt⟩ := p
          rw [hg] at h6
          obtain ⟨t, b, k1, k2, k3⟩ := h6
          exact ⟨t, b, k1, by rw [h2]; exact k2, k3⟩
      · rw [List.getElem?_append_left hi] at hr'
        exact hpair i r' hi hr'
      · obtain ⟨e, he, hb, hlt, hor⟩ := p2 x hx
        refine ⟨e, he, hb, hlt, ?_⟩
        rcases hor with h | ⟨i, hi, hxi⟩
        · exact .inl h
        · obtain ⟨r', hr', rfl⟩ := hnth2 e.on hlt i hi
          exact .inr ⟨r', by rw [List.getElem?_append_left hlt]; exact hr', hxi⟩
    have hstep := hc'.step (r := r) fun i r' hi => by
      have hlt : i < ps.length := by
        rcases Nat.lt_or_ge i ps.length with h' | h'
        · exact h'
        · rw [List.getElem?_eq_none h'] at hi; cases hi
      exact (hpair i r' hlt hi).1
    have hf' : ∀ (j : Nat) (r' : Rec), (ps ++ [r])[j]? = some r' → Fact P X N ops tm0 m0 nx0 (ps ++ [r]) j r' := by
      intro j r' hj
      rcases snoc_get hj with ⟨hlt, hr'⟩ | ⟨rfl, rfl⟩
      · obtain ⟨q1, q2, q3, q4, q5, q6, q7, q8, q9, q10, q11, q12, q13, q14⟩ := hf j r' hr'
        refine ⟨q1, by rw [List.take_append_of_le_length (by omega)]; exact q2, q3, q4, q5, q6, q7, q8, q9, q10, q11, fun i r'' hi hr'' => ?_, q13, fun x hx => ?_⟩
        · rw [List.getElem?_append_left (by omega)] at hr''
          exact q12 i r'' hi hr''
        · obtain ⟨e, he, hb, hl, hor⟩ := q14 x hx
          refine ⟨e, he, hb, hl, ?_⟩
          rcases hor with h | ⟨r'', hr'', hx'⟩
          · exact .inl h
          · exact .inr ⟨r'', by rw [List.getElem?_append_left (by omega)]; exact hr'', hx'⟩
      · exact hfact
    have hlen : (ps ++ [r]).length = ps.length + 1 := by simp
    exact run_facts rs (ps ++ [r]) (r.info :: log) _ _ _ (by rw [hlen]; exact h16) (by rw [hlog]; simp) h5 hstep hf'
end Go.Proofs.YtljkjdhkofbgmaaDoor.Av
