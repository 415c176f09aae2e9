import Derived.Test.YtljkjdhkofbgmaaDoorAv20
namespace Go.Proofs.YtljkjdhkofbgmaaDoor.Av
open Go
set_option linter.all false
set_option maxRecDepth 3000

/-! rules whose plain parts are found by themselves -/

theorem natMin (a b : Nat) : Nat.min a b = min a b := rfl
theorem obA {A B : Prop} (k : B) (a : A := by ((repeat' (first | exact trivial | refine And.intro ?_ ?_)) <;> (first | omega | (simp only [hasTy, okP, lenD, D.ren, D.isCell, Option.getD, List.length_set, List.length_take, List.length_drop, List.length_append, List.length_replicate, List.length_map, List.length_cons, List.length_nil, Option.map, natMin, List.nil_append, D.pre, Out.pre] <;> omega) | with_reducible assumption | with_reducible rfl | decide | assumption))) : A ∧ B := ⟨a, k⟩
theorem chkA {b : Bool} {K : Prop} (k : K) (h : b = true := by kernel_rfl) : ChkG b K := ⟨h, k⟩

theorem eqY {a b : List (BitVec 8)} (h : a = b) : (D.u8s a).eqb (D.u8s b) = true := decide_eq_true h
theorem eqN {a b : List (BitVec 8)} (h : a ≠ b) : (D.u8s a).eqb (D.u8s b) = false := decide_eq_false h
theorem neY {a b : List (BitVec 8)} (h : a ≠ b) : (!(D.u8s a).eqb (D.u8s b)) = true := by rw [eqN h]; rfl
theorem neN {a b : List (BitVec 8)} (h : a = b) : (!(D.u8s a).eqb (D.u8s b)) = false := by rw [eqY h]; rfl
theorem brY {b : Bool} {A B : Prop} (k : A) (h : b = true := by first | exact decide_eq_true (by omega) | rfl | exact eqY rfl | exact eqY (by assumption) | exact neY (by assumption)) : Br b A B := Br.yes h k
theorem brN {b : Bool} {A B : Prop} (k : B) (h : b = false := by first | exact decide_eq_false (by omega) | rfl | exact neN rfl | exact eqN (by assumption) | exact neN (by assumption)) : Br b A B := Br.no h k

/-- a value that names no block -/
class Pure (d : D) : Prop where
  ren : ∀ s, d.ren s = d
instance (l : List (BitVec 8)) : Pure (.u8s l) := ⟨fun _ => rfl⟩
instance (l : List (BitVec 32)) : Pure (.u32s l) := ⟨fun _ => rfl⟩
instance (l : List (BitVec 64)) : Pure (.u64s l) := ⟨fun _ => rfl⟩
instance (l : List (List (BitVec 8))) : Pure (.node (l.map .u8s)) := ⟨fun s => ren_rows s l⟩

theorem viewA {np nh : Nat} {σ : List Nat} {T : TM} {M : Mem} {tm : TM} {m : Mem} (h1 : (match Nat.ble np nh with | true => (match Nat.ble nh 999998 with | true => keepB σ np | false => false) | false => false) = true := by rfl)
    (h2 : MatchT (sig nh 0 0 σ) tm T := by ((repeat' (first | exact trivial | refine And.intro ?_ ?_)) <;> (first | rfl | exact (congrArg some (Pure.ren _)).symm | (simp only [Nat.zero_add]; rfl))))
    (h3 : MatchM (sig nh 0 0 σ) m M := by ((repeat' (first | exact trivial | refine And.intro ⟨_, rfl, rfl, ?_, id⟩ ?_ | refine And.intro ⟨_, rfl, rfl, ?_, fun _ => rfl⟩ ?_)) <;> (first | rfl | exact (Pure.ren _).symm | exact (Pure.ren _).trans (Pure.ren _).symm | (simp only [Nat.zero_add]; rfl))))
    (h4 : namesB nh (sig nh 0 0 σ) M M = true := by rfl) : ViewG np nh σ T M tm m := viewG h1 h2 h3 h4

theorem callA {P : Program} {f : Nat} {args : List D} {m : Mem} {nx : Nat} {R : D → Mem → Nat → List Nat → Prop} {np : Nat} {m0 : Mem} {args0 : List D} {o : Out} (hac : AC P f args0 np m0 o) (σ : List Nat)
    (hR : R (o.ret.ren (sig np nx o.nw.length σ)) (upM (sig np nx o.nw.length σ) nx m0 o) o.nw.length (footM (sig np nx o.nw.length σ) m0))
    (hl : (match Nat.ble (nx + o.nw.length) 999999 with | true => Nat.ble (np + o.nw.length) 999999 | false => false) = true := by rfl) (hargs : args = D.rens (sig np nx o.nw.length σ) args0 := by rfl)
    (hm : MatchM (sig np nx o.nw.length σ) m m0 := by ((repeat' (first | exact trivial | refine And.intro ⟨_, rfl, rfl, ?_, id⟩ ?_ | refine And.intro ⟨_, rfl, rfl, ?_, fun _ => rfl⟩ ?_)) <;> (first | rfl | exact (Pure.ren _).symm | exact (Pure.ren _).trans (Pure.ren _).symm | (simp only [Nat.zero_add]; rfl))))
    (hn : namesB np (sig np nx o.nw.length σ) m0 m0 = true := by rfl) (hw : wrB m0 o.wr = true := by rfl) : CallG P f args m nx R := callG hac σ hl hargs hm hn hw hR

theorem retA {o : Out} {np : Nat} {m0 m : Mem} {ds : List D} (σ : List Nat) (h1 : retIs (o.ret.ren (sig (np + o.nw.length) 0 0 σ)) ds := by (first | rfl | exact ⟨rfl, rfl⟩ | exact (Pure.ren _).symm | (simp only [Nat.zero_add]; rfl))) (h2 : keepB σ np = true := by rfl)
    (h3 : MatchM (sig (np + o.nw.length) 0 0 σ) m (outM np m0 o) := by ((repeat' (first | exact trivial | refine And.intro ⟨_, rfl, rfl, ?_, id⟩ ?_ | refine And.intro ⟨_, rfl, rfl, ?_, fun _ => rfl⟩ ?_)) <;> (first | rfl | exact (Pure.ren _).symm | exact (Pure.ren _).trans (Pure.ren _).symm | (simp only [Nat.zero_add]; rfl))))
    (h4 : namesB (np + o.nw.length) (sig (np + o.nw.length) 0 0 σ) (outM np m0 o) (outM np m0 o) = true := by rfl) : ∃ σ, retIs (o.ret.ren (sig (np + o.nw.length) 0 0 σ)) ds ∧ keepB σ np = true ∧
      MatchM (sig (np + o.nw.length) 0 0 σ) m (outM np m0 o) ∧ namesB (np + o.nw.length) (sig (np + o.nw.length) 0 0 σ) (outM np m0 o) (outM np m0 o) = true := ⟨σ, h1, h2, h3, h4⟩

theorem nextA {α : Type} {T : α → TM} {M : α → Mem} {np nh : Nat} {I : α → Prop} {μ : α → Nat} {x : α} {tm : TM} {m : Mem} (y : α) (σ : List Nat) (h3 : ViewG np nh σ (T y) (M y) tm m) (h1 : I y := by omega) (h2 : μ y < μ x := by omega) :
    ∃ y σ, I y ∧ μ y < μ x ∧ ViewG np nh σ (T y) (M y) tm m := ⟨y, σ, h1, h2, h3⟩

theorem acA {P : Program} {Γ : Tab} (hΓ : TabOk P Γ) (hmix : P.follows .mixedOrders = true) {f : Nat} {fn : Func} {c : Code} (hf : P.funcs[f]? = some fn) 
    {args : List D} {np : Nat} {m0 : Mem} {o : Out} (pl : Pl) (h : codeP P Γ np fn.ntmps pl c (parsT 0 args) m0 np (RetG Γ fn.results.toList np m0 o) (fun _ _ _ _ => False) (RetG Γ fn.results.toList np m0 o))
    (hb : fn.body = some c := by rfl) (hname : (fn.name == "runtime.NumGoroutine") = false := by kernel_rfl)
    (hsz : Nat.ble args.length fn.ntmps = true := by kernel_rfl) (hnp : Nat.ble (np + o.nw.length) 999998 = true := by kernel_rfl) : AC P f args np m0 o := ac_of hΓ hmix hf hb hname hsz hnp pl h
end Go.Proofs.YtljkjdhkofbgmaaDoor.Av
