/- From a run over the plain heap to a call of the program. -/
import Derived.Test.YtgenefmhidncpaaGreatDoorRunD
import Derived.Below
namespace Go.Abs
open Go.RowKit

theorem RelS.empty (P : Program) (w : World) : RelS P (fun _ => none) AHeap.empty.get w :=
  ⟨fun b hb => by simp [AObj.alive] at hb, fun _ _ h => (by cases h), fun _ _ _ _ _ hb => by simp [AObj.wr] at hb⟩

theorem Step.below {ρ ρ' : Ren} {g g' : Nat → AObj} {n n' : Nat} {w w' : World} (h : Step ρ g n w ρ' g' n' w') (hro : ∀ b, (g b).wr = false) : Below w.heap.size w w' :=
  ⟨h.os, h.tape, h.output, h.size, fun k hk => h.kept k hk fun b i _ hb => by rw [hro b] at hb; cases hb⟩

/-- A function of the program, not told by a contract, is called. -/
theorem calls_of_run {cfg : Cfg} (hcf : CfgOK cfg) {k : Nat} {f : FuncId} {args : List Value} {h : AHeap} {v : Value} {h' : AHeap} (hp : cfg.prim f = none) (hh : acall cfg k f args h = some (v, h')) {ρ : Ren} {w : World} {args' : List Value}
    (hs : RelS cfg.P ρ h.get w) (hro : ∀ b, (h.get b).wr = false) (hfr : Fresh ρ h.next h'.next) (hargs : Pw (RelV ρ) args args') :
    Calls cfg.P f args'.toArray w fun e w' => ∃ v' ρ', e = .returned v' ∧ RelV ρ' v v' ∧ RelS cfg.P ρ' h'.get w' ∧ Below w.heap.size w w' := by
  have hc := sound hcf hh hs hfr hargs
  obtain ⟨hok, fn, c, hfn, hcb⟩ := acall_body hp hh
  unfold CallOK at hc
  rw [callFunc_enter hfn hcb (hcf.name _ _ hok hfn)] at hc
  refine (callsIn_wide (n := 0)).1 (CallsIn.mono hc ?_)
  rintro e w' ⟨v', rfl, ρ', hv, hs', hst⟩
  exact ⟨v', ρ', rfl, hv, hs', hst.below hro⟩

theorem calls_true {cfg : Cfg} (hcf : CfgOK cfg) {k : Nat} {f : FuncId} {args : List Value} {h : AHeap} {h' : AHeap} (hp : cfg.prim f = none) (hh : acall cfg k f args h = some (.bool true, h')) {ρ : Ren} {w : World} {args' : List Value}
    (hs : RelS cfg.P ρ h.get w) (hro : ∀ b, (h.get b).wr = false) (hfr : Fresh ρ h.next h'.next) (hargs : Pw (RelV ρ) args args') :
    Calls cfg.P f args'.toArray w fun e w' => e = .returned (.bool true) ∧ Below w.heap.size w w' :=
  (calls_of_run hcf hp hh hs hro hfr hargs).mono fun e w' ⟨v', ρ', he, hv, _, hb⟩ => by
    have := hv.data rfl
    subst this
    exact ⟨he, hb⟩

/-- Arguments that are data stand for themselves. -/
theorem data_args (ρ : Ren) {args : List Value} (h : ∀ v ∈ args, vdata v = true) : Pw (RelV ρ) args args :=
  ⟨rfl, fun i a b ha hb => by rw [ha] at hb; cases hb; exact relV_data ρ (h a (List.mem_of_getElem? ha))⟩

/-! ### the run, piece by piece -/
section
variable {cfg : Cfg} {fn : FuncId} {ro : Option Nat} {k : Nat}

theorem acode_seq {a b : Code} {fr fr1 : Fr} {h h1 : AHeap} (e : acode cfg fn ro k a fr h = some (.normal, fr1, h1)) : acode cfg fn ro (k + 1) (.seq a b) fr h = acode cfg fn ro k b fr1 h1 := by
  simp only [acode, e]
theorem acode_seq_out {a b : Code} {fr fr1 : Fr} {h h1 : AHeap} {x : AExit} (e : acode cfg fn ro k a fr h = some (x, fr1, h1)) (hx : x ≠ .normal) : acode cfg fn ro (k + 1) (.seq a b) fr h = some (x, fr1, h1) := by
  simp only [acode, e]
  cases x <;> first | rfl | exact absurd rfl hx
theorem acode_cond {c : Operand} {a b : Code} {fr : Fr} {h : AHeap} {t : Bool} (e : ev fr c = .bool t) : acode cfg fn ro (k + 1) (.cond c a b) fr h = acode cfg fn ro k (if t then a else b) fr h := by
  simp only [acode, e]
def blockOut (id : Nat) : AExit → AExit
  | .exit i => if i = id then .normal else .exit i
  | x => x
theorem acode_block {id : Nat} {b : Code} {fr fr1 : Fr} {h h1 : AHeap} {x : AExit} (e : acode cfg fn ro k b fr h = some (x, fr1, h1)) :
    acode cfg fn ro (k + 1) (.block id b) fr h = some (blockOut id x, fr1, h1) := by
  simp only [acode, e, blockOut]
  cases x with
  | normal => rfl
  | ret => rfl
  | exit i =>
    simp only
    split <;> rfl
theorem acode_loop {b : Code} {fr fr1 : Fr} {h h1 : AHeap} (e : acode cfg fn ro k b fr h = some (.normal, fr1, h1)) : acode cfg fn ro (k + 1) (.loop b) fr h = acode cfg fn ro k (.loop b) fr1 h1 := by
  conv => lhs; unfold acode
  simp only [e]
theorem acode_loop_out {b : Code} {fr fr1 : Fr} {h h1 : AHeap} {x : AExit} (e : acode cfg fn ro k b fr h = some (x, fr1, h1)) (hx : x ≠ .normal) : acode cfg fn ro (k + 1) (.loop b) fr h = some (x, fr1, h1) := by
  conv => lhs; unfold acode
  simp only [e]
  cases x <;> first | rfl | exact absurd rfl hx

theorem acall_of {f : FuncId} {fn : Func} {c : Code} {args : List Value} {h h1 : AHeap} {x : AExit} {fr1 : Fr} {v : Value} (hp : cfg.prim f = none) (hok : cfg.ok f = true) (hf : cfg.P.funcs[f]? = some fn) (hb : fn.body = some c)
    (e : acode cfg f none k c (args ++ List.replicate (fn.ntmps - args.length) undef) h = some (x, fr1, h1)) (hx : x = .normal ∨ x = .ret) {vs : List Value} (hr : aresults cfg.P fr1 h1 fn.results.toList = some vs) (hv : single vs = v) :
    acall cfg (k + 1) f args h = some (v, h1) := by
  unfold acall
  simp only [hp, hok, hf, hb, e]
  rcases hx with rfl | rfl <;> simp [hr, hv]
end

/-! ### what is asked of a configuration, by a reckoning -/
def okOne (cfg : Cfg) (i : Nat) : Bool := !cfg.ok i || match cfg.P.funcs[i]? with
  | none => true
  | some f => decide (f.name ≠ "runtime.NumGoroutine") && match f.body with
    | none => true
    | some c => okCode cfg.P (cfg.rw i) c
def zeroOne (P : Program) (t : Nat) : Bool := match P.info? t with
  | none => true
  | some i => match i.zero with
    | none => true
    | some z => vdata z && z.cells.size == i.size

theorem cfgOK_of {cfg : Cfg} (n m : Nat) (hn : cfg.P.funcs.size = n) (hm : cfg.P.types.size = m) (h1 : (List.range n).all (okOne cfg) = true) (h2 : (List.range m).all (zeroOne cfg.P) = true) (hp : ∀ f, cfg.prim f = none) : CfgOK cfg := by
  simp only [List.all_eq_true, List.mem_range] at h1 h2
  have key : ∀ fn f, cfg.ok fn = true → cfg.P.funcs[fn]? = some f → f.name ≠ "runtime.NumGoroutine" ∧ ∀ c, f.body = some c → okCode cfg.P (cfg.rw fn) c = true := by
    intro fn f hok hf
    have := h1 fn (hn ▸ (Array.getElem?_eq_some_iff.1 hf).1)
    unfold okOne at this
    rw [hok, hf] at this
    simp only [Bool.not_true, Bool.false_or, Bool.and_eq_true, decide_eq_true_eq] at this
    refine ⟨this.1, fun c hc => ?_⟩
    have h3 := this.2
    rw [hc] at h3
    exact h3
  refine ⟨fun t i z ht hi hz => ?_, fun fn f c hok hf hc => (key fn f hok hf).2 c hc, fun fn f hok hf => (key fn f hok hf).1, fun f p hpp => by rw [hp f] at hpp; cases hpp⟩
  have := h2 t (hm ▸ ht)
  unfold zeroOne at this
  rw [hi] at this
  simp only [hz, Bool.and_eq_true, beq_iff_eq] at this
  exact this
end Go.Abs
