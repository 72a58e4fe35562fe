/- Rules for walking a piece of code over the plain heap where values are not known. -/
import Derived.Test.YtgenefmhidncpaaGreatDoorLaw
namespace Go.Abs

def cfst : Code → Code
  | .seq a _ => a
  | .cond _ a _ => a
  | .block _ b => b
  | .loop b => b
  | .rangeFunc _ _ a _ => a
  | c => c
def csnd : Code → Code
  | .seq _ b => b
  | .cond _ _ b => b
  | .rangeFunc _ _ _ b => b
  | c => c
def cops : Code → Array Oper
  | .region _ ops _ => ops
  | _ => #[]

section
variable {P : Program} {call : ACall} {round : ARound} {ops : Array Oper} {fr : Fr} {h : AHeap}

theorem aops_cons {o : Oper} {os : List Oper} {fr1 : Fr} {h1 : AHeap} (e : aone P call round ops o fr h = some (fr1, h1)) : aops P call round ops (o :: os) fr h = aops P call round ops os fr1 h1 := by
  simp only [aops, e]
theorem aops_append : ∀ (l₁ : List Oper) {l₂ : List Oper} {fr fr1 : Fr} {h h1 : AHeap} (_ : aops P call round ops l₁ fr h = some (fr1, h1)), aops P call round ops (l₁ ++ l₂) fr h = aops P call round ops l₂ fr1 h1
  | [], _, _, _, _, _, e => by cases e; rfl
  | o :: os, l₂, fr, fr1, h, h1, e => by
    simp only [aops, List.cons_append] at e ⊢
    split at e
    · rename_i e1
      exact aops_append os e
    · cases e
/-- So many operations, then the others. -/
theorem aops_split (n m : Nat) {l : List Oper} {fr1 : Fr} {h1 : AHeap} (e : aops P call round ops ((l.drop m).take n) fr h = some (fr1, h1)) : aops P call round ops (l.drop m) fr h = aops P call round ops (l.drop (m + n)) fr1 h1 := by
  have := aops_append ((l.drop m).take n) (l₂ := (l.drop m).drop n) e
  rwa [List.take_append_drop, List.drop_drop] at this
theorem aops_op (m : Nat) {l : List Oper} {o : Oper} {fr1 : Fr} {h1 : AHeap} (ho : l[m]? = some o) (e : aone P call round ops o fr h = some (fr1, h1)) : aops P call round ops (l.drop m) fr h = aops P call round ops (l.drop (m + 1)) fr1 h1 := by
  obtain ⟨hlt, ho⟩ := List.getElem?_eq_some_iff.1 ho
  rw [List.drop_eq_getElem_cons hlt, ho]
  exact aops_cons e
theorem aops_end (m : Nat) {l : List Oper} (hm : l.length = m) : aops P call round ops (l.drop m) fr h = some (fr, h) := by
  rw [List.drop_of_length_le (by omega)]; rfl

theorem aone_val {o : Oper} {v : Value} {h1 : AHeap} (hw : awanted ops fr o = true) (e : aop P fr h o = some (.val v h1)) : aone P call round ops o fr h = some (fput fr o.dst v, h1) := by
  unfold aone; rw [if_pos hw, e]
theorem aone_call {o : Oper} {f : FuncId} {args : List Value} {v : Value} {h1 : AHeap} (hw : awanted ops fr o = true) (e : aop P fr h o = some (.call f args)) (hc : call f args h = some (v, h1)) : aone P call round ops o fr h = some (fput fr o.dst v, h1) := by
  unfold aone; rw [if_pos hw, e]; simp [hc]

theorem aops_val (m m' : Nat) (d : Tmp) {l : List Oper} {o : Oper} {v : Value} {h1 : AHeap} (ho : l[m]? = some o) (hm : m' = m + 1) (hd : o.dst = some d) (hw : awanted ops fr o = true) (e : aop P fr h o = some (.val v h1)) :
    aops P call round ops (l.drop m) fr h = aops P call round ops (l.drop m') (fr.set d v) h1 := by
  subst hm
  have := aops_op (call := call) (round := round) (ops := ops) m ho (aone_val hw e)
  rw [hd] at this
  exact this
theorem aops_called (m m' : Nat) (d : Tmp) {l : List Oper} {o : Oper} {f : FuncId} {args : List Value} {v : Value} {h1 : AHeap} (ho : l[m]? = some o) (hm : m' = m + 1) (hd : o.dst = some d) (hw : awanted ops fr o = true) (e : aop P fr h o = some (.call f args)) (hc : call f args h = some (v, h1)) :
    aops P call round ops (l.drop m) fr h = aops P call round ops (l.drop m') (fr.set d v) h1 := by
  subst hm
  have := aops_op (call := call) (round := round) (ops := ops) m ho (aone_call hw e hc)
  rw [hd] at this
  exact this

theorem aload_one {b o : Nat} {t : TypeId} {c : List Value} {e : TypeId} {opn ro : Bool} {v : Value} (hb : h.get b = .cells c e opn ro) (ht : aggT P t = some false) (hc : c[o]? = some v) : aload P h t (.pointer (some ⟨b, o, none⟩)) = some v := by
  simp only [aload, hb, ht, hc]
theorem aop_load {o : Oper} {t : TypeId} {x : Operand} {v : Value} (ho : o.op = .load t x) (hx : okOperand x = true) (e : aload P h t (ev fr x) = some v) : aop P fr h o = some (.val v h) := by
  unfold aop
  rw [ho]
  simp [Op.operands, hx, e, some1]
theorem aop_indexAddr {o : Oper} {t : TypeId} {x y : Operand} {v : Value} (ho : o.op = .indexAddr t x y) (hx : okOperand x = true) (hy : okOperand y = true) (e : aindexAddr P t (ev fr x) (ev fr y) = some v) : aop P fr h o = some (.val v h) := by
  unfold aop
  rw [ho]
  simp [Op.operands, hx, hy, e, some1]
end

theorem acode_region {cfg : Cfg} {fn : FuncId} {ro : Option Nat} {k : Nat} {id : Nat} {ops : Array Oper} {fr fr1 : Fr} {h h1 : AHeap} (e : aops cfg.P (acall cfg k) (around cfg k) ops (ops.toList.drop 0) fr h = some (fr1, h1)) :
    acode cfg fn ro (k + 1) (.region id ops false) fr h = some (.normal, fr1, h1) := by
  rw [List.drop_zero] at e
  simp [acode, aregion, e]

/-- A law whose guard ends it early. -/
theorem guarded {cfg : Cfg} {fn : FuncId} {k : Nat} {c c0 c1 c2 rest : Code} {x : Operand} (hc : c = .seq c0 (.seq (.seq c1 (.cond x (.seq c2 .ret) .skip)) rest)) {fr fr0 : Fr} {fr1 : Bool → Fr} {h h0 h1 : AHeap} (q : Bool)
    (e0 : acode cfg fn none (k + 4) c0 fr h = some (.normal, fr0, h0)) (e1 : acode cfg fn none (k + 2) c1 fr0 h0 = some (.normal, fr1 q, h1)) (hx : ∀ q, ev (fr1 q) x = .bool q)
    (et : ∃ fr' h', acode cfg fn none (k + 1) (.seq c2 .ret) (fr1 true) h1 = some (.ret, fr', h') ∧ fr'.getD 2 undef = .bool true)
    (ef : ∃ fr' h', acode cfg fn none (k + 3) rest (fr1 false) h1 = some (.ret, fr', h') ∧ fr'.getD 2 undef = .bool true) :
    ∃ fr' h', acode cfg fn none (k + 5) c fr h = some (.ret, fr', h') ∧ fr'.getD 2 undef = .bool true := by
  subst hc
  rw [acode_seq e0]
  cases q with
  | true =>
    obtain ⟨fr', h', e, hv⟩ := et
    refine ⟨fr', h', acode_seq_out (x := .ret) ?_ (by simp), hv⟩
    rw [acode_seq e1, acode_cond (hx true)]
    exact e
  | false =>
    obtain ⟨fr', h', e, hv⟩ := ef
    refine ⟨fr', h', ?_, hv⟩
    have : acode cfg fn none (k + 3) (.seq c1 (.cond x (.seq c2 .ret) .skip)) fr0 h0 = some (.normal, fr1 false, h1) := by
      rw [acode_seq e1, acode_cond (hx false)]
      simp [acode]
    rw [acode_seq this]
    exact e

/-- It ends, and says so. -/
def saysSo (x : Option (AExit × Fr × AHeap)) : Bool :=
  match x with
  | some (.ret, fr, _) => match fr.getD 2 undef with | .bool b => b | _ => false
  | _ => false
theorem saysSo_sound {x : Option (AExit × Fr × AHeap)} (h : saysSo x = true) : ∃ fr' h', x = some (.ret, fr', h') ∧ fr'.getD 2 undef = .bool true := by
  unfold saysSo at h
  split at h
  · rename_i fr hh
    split at h
    · rename_i b hb
      subst h
      exact ⟨fr, hh, rfl, hb⟩
    · cases h
  · cases h

theorem law_true {cfg : Cfg} {k : Nat} {f : FuncId} {fn : Func} {c : Code} {args : List Value} {h : AHeap} (hp : cfg.prim f = none) (hok : cfg.ok f = true) (hf : cfg.P.funcs[f]? = some fn) (hb : fn.body = some c) (hres : fn.results = #[.tmp 2])
    (e : ∃ fr' h', acode cfg f none k c (args ++ List.replicate (fn.ntmps - args.length) undef) h = some (.ret, fr', h') ∧ fr'.getD 2 undef = .bool true) : ∃ h', acall cfg (k + 1) f args h = some (.bool true, h') := by
  obtain ⟨fr', h', e, hv⟩ := e
  exact ⟨h', acall_of hp hok hf hb e (.inr rfl) (vs := [.bool true]) (by rw [hres]; simp only [aresults, aresult, hv, Option.map_some]) rfl⟩
end Go.Abs
