/- All operations together: an answer; a call; a round. -/
import Derived.Test.YtgenefmhidncpaaGreatDoorOps
namespace Go.Abs
variable {P : Program} {ρ : Ren} {h : AHeap} {w : World} {fr : Fr} {a : Act}

theorem args_rel (hF : RelF ρ fr a.tmps) {xs : Array Operand} (hok : ∀ x ∈ xs, okOperand x = true) : Pw (RelV ρ) (xs.toList.map (ev fr)) (xs.map a.eval).toList := by
  rw [Array.toList_map]
  exact Pw.of_map _ fun x hx => hF.ev (hok x (Array.mem_toList_iff.1 hx))

theorem parts_rel (hF : RelF ρ fr a.tmps) {xs : Array (Nat × Operand)} (hok : ∀ x ∈ xs, okOperand x.2 = true) :
    Pw (fun (x y : Nat × Value) => y.1 = x.1 ∧ RelV ρ x.2 y.2) (xs.toList.map fun (i, x) => (i, ev fr x)) (xs.toList.map fun (i, x) => (i, a.eval x)) :=
  Pw.of_map _ fun x hx => ⟨rfl, hF.ev (hok x (Array.mem_toList_iff.1 hx))⟩

theorem aop_ok {o : Oper} {st : AStep} (hop : aop P fr h o = some st) : ∀ x ∈ o.op.operands, okOperand x = true := by
  unfold aop at hop
  split at hop
  · cases hop
  · rename_i hall
    simp only [Bool.not_eq_true', Bool.not_eq_false] at hall
    exact fun x hx => List.all_eq_true.1 hall x (Array.mem_toList_iff.2 hx)

theorem builtin_args (hF : RelF ρ fr a.tmps) {o : Oper} {b : Builtin} {args : Array Operand} {ts : Array TypeId} (ho : o.op = .call { callee := .builtin b, args, argTypes := ts }) (hok : ∀ x ∈ args, okOperand x = true) {vs : List Value} (hv : args.toList.map (ev fr) = vs) :
    ∃ vs' : List Value, Pw (RelV ρ) vs vs' ∧ ∀ w, (execOp a.eval o).run P w = (builtin b ts o.type (args.map fun | .const _ => true | _ => false) vs'.toArray).run P w := by
  refine ⟨(args.map a.eval).toList, hv ▸ args_rel hF hok, fun w => ?_⟩
  unfold execOp; rw [ho]
  have : ((args.map a.eval).toList).toArray = args.map a.eval := rfl
  rw [this]
  simp only [resolve, invoke, Sem.run_bind, Sem.run_pure, Result.andThen_ok]
  rfl

theorem builtin_val (hz : ZeroOK P) (hs : RelS P ρ h.get w) (hF : RelF ρ fr a.tmps) {o : Oper} {b : Builtin} {args : Array Operand} {ts : Array TypeId} (ho : o.op = .call { callee := .builtin b, args, argTypes := ts }) (hok : ∀ x ∈ args, okOperand x = true)
    {v : Value} {h' : AHeap} (hb : abuiltin P fr h o b ts (args.toList.map (ev fr)) = some (.val v h')) : OpSim P ρ h w a o v h' := by
  have hdata : ∀ {b : Builtin} (ho : o.op = .call { callee := .builtin b, args, argTypes := ts }), some1 h (adata P fr o) = some (.val v h') → OpSim P ρ h w a o v h' := by
    intro b ho hd
    simp only [some1, Option.map_eq_some_iff, AStep.val.injEq] at hd
    obtain ⟨v₁, had, rfl, rfl⟩ := hd
    refine data_sim hs had (congr_builtin ho fun x hx => ev_data hF (hok x hx) (adata_ops had ?_))
    rw [ho]; simp [Op.operands, Call.operands, hx]
  unfold abuiltin at hb
  split at hb
  · rename_i s x hargs
    simp only [some2, Option.map_eq_some_iff] at hb
    obtain ⟨⟨v₁, h₁⟩, hap, he⟩ := hb
    simp only [AStep.val.injEq] at he
    obtain ⟨rfl, rfl⟩ := he
    obtain ⟨vs', hp, hrun⟩ := builtin_args (P := P) hF ho hok hargs
    obtain ⟨s', m, rfl, hs', hm⟩ := hp.cons_left
    obtain ⟨x', m', rfl, hx', hm'⟩ := hm.cons_left
    have := hm'.nil_left; subst this
    exact append_sim hz.data hz.size hs hap hs' hx' (ty := o.type) (by rw [hrun]; simp [builtin])
  · rename_i x hargs
    simp only [some1, Option.map_eq_some_iff, AStep.val.injEq] at hb
    obtain ⟨v₁, hcv, rfl, rfl⟩ := hb
    obtain ⟨vs', hp, hrun⟩ := builtin_args (P := P) hF ho hok hargs
    obtain ⟨x', m, rfl, hx', hm⟩ := hp.cons_left
    have := hm.nil_left; subst this
    obtain ⟨h1, h2⟩ := cap_rel hs hcv hx' (ty := o.type)
    exact OpSim.pure hs (by rw [hrun]; simp [builtin, h1]) (relV_data ρ h2)
  · rename_i x hargs
    simp only [some2, Option.map_eq_some_iff] at hb
    obtain ⟨⟨v₁, h₁⟩, hap, he⟩ := hb
    simp only [AStep.val.injEq] at he
    obtain ⟨rfl, rfl⟩ := he
    obtain ⟨vs', hp, hrun⟩ := builtin_args (P := P) hF ho hok hargs
    obtain ⟨x', m, rfl, hx', hm⟩ := hp.cons_left
    have := hm.nil_left; subst this
    exact clear_sim hz hs hap hx' (ty := o.type) (by rw [hrun]; simp [builtin])
  · rename_i d s hargs
    simp only [some2, Option.map_eq_some_iff] at hb
    obtain ⟨⟨v₁, h₁⟩, hap, he⟩ := hb
    simp only [AStep.val.injEq] at he
    obtain ⟨rfl, rfl⟩ := he
    obtain ⟨vs', hp, hrun⟩ := builtin_args (P := P) hF ho hok hargs
    obtain ⟨d', m, rfl, hd', hm⟩ := hp.cons_left
    obtain ⟨s', m', rfl, hs', hm'⟩ := hm.cons_left
    have := hm'.nil_left; subst this
    exact copy_sim hs hap hd' hs' (ty := o.type) (by rw [hrun]; simp [builtin])
  · rename_i x hargs
    simp only [some1, Option.map_eq_some_iff, AStep.val.injEq] at hb
    obtain ⟨v₁, hcv, rfl, rfl⟩ := hb
    obtain ⟨vs', hp, hrun⟩ := builtin_args (P := P) hF ho hok hargs
    obtain ⟨x', m, rfl, hx', hm⟩ := hp.cons_left
    have := hm.nil_left; subst this
    obtain ⟨h1, h2⟩ := len_rel hs hcv hx' (ty := o.type)
    exact OpSim.pure hs (by rw [hrun]; simp [builtin, h1]) (relV_data ρ h2)
  · exact hdata ho hb
  · exact hdata ho hb
  · cases hb

theorem aop_val (hz : ZeroOK P) (hs : RelS P ρ h.get w) (hF : RelF ρ fr a.tmps) {o : Oper} {v : Value} {h' : AHeap} (hop : aop P fr h o = some (.val v h')) : OpSim P ρ h w a o v h' := by
  have hok := aop_ok hop
  unfold aop at hop
  split at hop
  · cases hop
  · clear ‹¬ _›
    cases ho : o.op with
    | move x =>
      simp only [ho, Option.some.injEq, AStep.val.injEq] at hop
      obtain ⟨rfl, rfl⟩ := hop
      exact OpSim.pure hs (by unfold execOp; rw [ho]; rfl) (hF.ev (hok x (by rw [ho]; simp [Op.operands])))
    | assign x =>
      simp only [ho, Option.some.injEq, AStep.val.injEq] at hop
      obtain ⟨rfl, rfl⟩ := hop
      exact OpSim.pure hs (by unfold execOp; rw [ho]; rfl) (hF.ev (hok x (by rw [ho]; simp [Op.operands])))
    | pick c x y =>
      simp only [ho] at hop
      split at hop
      · rename_i t ht
        simp only [Option.some.injEq, AStep.val.injEq] at hop
        obtain ⟨rfl, rfl⟩ := hop
        have hc := hF.ev (hok c (by rw [ho]; simp [Op.operands]))
        rw [ht] at hc
        have hc' := hc.data rfl
        refine OpSim.pure hs (v' := if t then a.eval x else a.eval y) (by unfold execOp; rw [ho]; simp [hc', asBool]) ?_
        cases t
        · exact hF.ev (hok y (by rw [ho]; simp [Op.operands]))
        · exact hF.ev (hok x (by rw [ho]; simp [Op.operands]))
      · cases hop
    | alloc t =>
      simp only [ho, Option.map_eq_some_iff, AStep.val.injEq] at hop
      obtain ⟨z, hzt, rfl, rfl⟩ := hop
      exact new_ptr hs (vdata_cells (hz.data t z hzt) ρ) t (by unfold execOp; rw [ho]; simp [Instr.alloc, run_zeroValue' hzt, newVar, newRow])
    | box t x =>
      simp only [ho, Option.some.injEq, AStep.val.injEq] at hop
      obtain ⟨rfl, rfl⟩ := hop
      have hx := hF.ev (hok x (by rw [ho]; simp [Op.operands]))
      exact new_ptr hs hx.cells t (by unfold execOp; rw [ho]; simp [Instr.box, newVar, newRow])
    | build t parts =>
      simp only [ho, some1, Option.map_eq_some_iff, AStep.val.injEq] at hop
      obtain ⟨v₁, hb, rfl, rfl⟩ := hop
      have hp := parts_rel (ρ := ρ) hF (xs := parts) (fun x hx => hok x.2 (by rw [ho]; simp only [Op.operands, List.mem_toArray, List.mem_map]; exact ⟨x, Array.mem_toList_iff.2 hx, rfl⟩))
      obtain ⟨v', h1, h2⟩ := build_rel hz.data hp hb w
      refine OpSim.pure hs (v' := v') ?_ h2
      unfold execOp; rw [ho]
      have : (parts.map fun (i, x) => (i, a.eval x)) = (parts.toList.map fun (i, x) => (i, a.eval x)).toArray := by apply Array.ext'; simp
      simp only [this, Sem.run_bind, h1, Result.andThen_ok, Sem.run_pure]
    | buildSlice t len parts =>
      simp only [ho, some2, Option.map_eq_some_iff] at hop
      obtain ⟨⟨v₁, h₁⟩, hb, he⟩ := hop
      simp only [AStep.val.injEq] at he
      obtain ⟨rfl, rfl⟩ := he
      have hp := parts_rel (ρ := ρ) hF (xs := parts) (fun x hx => hok x.2 (by rw [ho]; simp only [Op.operands, List.mem_toArray, List.mem_map]; exact ⟨x, Array.mem_toList_iff.2 hx, rfl⟩))
      refine buildSlice_sim hz hs hb hp ?_
      unfold execOp; rw [ho]
      have : (parts.map fun (i, x) => (i, a.eval x)) = (parts.toList.map fun (i, x) => (i, a.eval x)).toArray := by apply Array.ext'; simp
      simp only [this, Sem.run_bind, Sem.run_pure]
    | load t x =>
      simp only [ho, some1, Option.map_eq_some_iff, AStep.val.injEq] at hop
      obtain ⟨v₁, hl, rfl, rfl⟩ := hop
      obtain ⟨a', v', he, h1, h2⟩ := run_loadVar_rel hs hl (hF.ev (hok x (by rw [ho]; simp [Op.operands])))
      exact OpSim.pure hs (v' := v') (by unfold execOp; rw [ho]; simp [Instr.loadAt, he, Instr.sureAddr, h1]) h2
    | store t x y =>
      simp only [ho, some3, Option.map_eq_some_iff, AStep.val.injEq] at hop
      obtain ⟨h₁, hst, rfl, rfl⟩ := hop
      obtain ⟨w', h1, h2, h3, h4⟩ := store_rel hs hst (hF.ev (hok y (by rw [ho]; simp [Op.operands]))) (hF.ev (hok x (by rw [ho]; simp [Op.operands])))
      exact OpSim.of_put (.inr ⟨rfl, rfl⟩) (by unfold execOp; rw [ho]; simp [h1]) (relV_undef ρ) h2 h3
    | nilCheck x =>
      simp only [ho] at hop
      split at hop
      · rename_i ad hx
        simp only [Option.some.injEq, AStep.val.injEq] at hop
        obtain ⟨rfl, rfl⟩ := hop
        have hR := hF.ev (hok x (by rw [ho]; simp [Op.operands]))
        rw [hx] at hR
        generalize hval : a.eval x = val at hR
        cases hR with
        | ptr hi => exact OpSim.pure hs (by unfold execOp; rw [ho]; simp [hval]) (.ptr hi)
      · cases hop
    | binOp op t x y t' =>
      simp only [ho, some1, Option.map_eq_some_iff, AStep.val.injEq] at hop
      obtain ⟨v₁, hb, rfl, rfl⟩ := hop
      exact bin_sim hs hF ho (hok x (by rw [ho]; simp [Op.operands])) (hok y (by rw [ho]; simp [Op.operands])) hb
    | unOp op t x =>
      simp only [ho, some1, Option.map_eq_some_iff, AStep.val.injEq] at hop
      obtain ⟨v₁, had, rfl, rfl⟩ := hop
      exact data_sim hs had (congr_un ho (ev_data hF (hok x (by rw [ho]; simp [Op.operands])) (adata_ops had (by rw [ho]; simp [Op.operands]))))
    | convert s d x =>
      simp only [ho, some2, Option.map_eq_some_iff] at hop
      obtain ⟨⟨v₁, h₁⟩, hb, he⟩ := hop
      simp only [AStep.val.injEq] at he
      obtain ⟨rfl, rfl⟩ := he
      exact convert_sim hs hF (hok x (by rw [ho]; simp [Op.operands])) ho hb
    | makeFunc fn first captured =>
      cases fn with
      | func f =>
        simp only [ho, Option.some.injEq, AStep.val.injEq] at hop
        obtain ⟨rfl, rfl⟩ := hop
        refine OpSim.pure hs (v' := .func (.func f) (first.map a.eval) (captured.map a.eval)) (by unfold execOp; rw [ho]; simp [Instr.makeFunc]) ?_
        have h1 := args_rel (ρ := ρ) hF (xs := first) (fun x hx => hok x (by rw [ho]; simp [Op.operands, hx]))
        have h2 := args_rel (ρ := ρ) hF (xs := captured) (fun x hx => hok x (by rw [ho]; simp [Op.operands, hx]))
        have e1 : first.map (ev fr) = ⟨first.toList.map (ev fr)⟩ := by apply Array.ext'; simp
        have e2 : captured.map (ev fr) = ⟨captured.toList.map (ev fr)⟩ := by apply Array.ext'; simp
        rw [e1, e2]
        have e3 : first.map a.eval = ⟨(first.map a.eval).toList⟩ := rfl
        have e4 : captured.map a.eval = ⟨(captured.map a.eval).toList⟩ := rfl
        rw [e3, e4]
        exact .func f h1.1 h1.2 h2.1 h2.2
      | _ => simp [ho] at hop
    | makeMap t r =>
      cases r with
      | none =>
        simp only [ho, Option.some.injEq, AStep.val.injEq] at hop
        obtain ⟨rfl, rfl⟩ := hop
        intro hfr
        have hf : ρ h.next = none := hfr h.next (Nat.le_refl _) (by simp)
        obtain ⟨h1, h2⟩ := hs.push hf (.map []) (.map #[] 0) ⟨w.heap.size, 0, 0, 0, 0, false⟩ rfl ⟨#[], 0, by simp, Pw.nil⟩
        exact ⟨_, .map (some w.heap.size), _, _, by unfold execOp; rw [ho]; simp [Instr.makeMap], .inl rfl, .map (i := ⟨w.heap.size, 0, 0, 0, 0, false⟩) (Ren.put_same ρ _ _), h1, h2⟩
      | some r => simp [ho] at hop
    | makeSlice t l c =>
      simp only [ho, some2, Option.map_eq_some_iff] at hop
      obtain ⟨⟨v₁, h₁⟩, hb, he⟩ := hop
      simp only [AStep.val.injEq] at he
      obtain ⟨rfl, rfl⟩ := he
      exact makeSlice_sim hz hs hb (hF.ev (hok l (by rw [ho]; simp [Op.operands]))) (hF.ev (hok c (by rw [ho]; simp [Op.operands]))) (by unfold execOp; rw [ho]; simp)
    | slice t x lo hi mx =>
      have hokx := hok x (by rw [ho]; simp [Op.operands])
      have hoklo : ∀ y, lo = some y → okOperand y = true := fun y hy => hok y (by rw [ho]; simp [Op.operands, hy])
      have hokhi : ∀ y, hi = some y → okOperand y = true := fun y hy => hok y (by rw [ho]; simp [Op.operands, hy])
      have hokmx : ∀ y, mx = some y → okOperand y = true := fun y hy => hok y (by rw [ho]; simp [Op.operands, hy])
      simp only [ho] at hop
      split at hop
      · rename_i s hxs
        simp only [some1, Option.map_eq_some_iff, AStep.val.injEq] at hop
        obtain ⟨v₁, had, rfl, rfl⟩ := hop
        exact data_sim hs had (congr_slice ho (ev_data hF hokx (adata_ops had (by rw [ho]; simp [Op.operands])))
          (fun y hy => ev_data hF (hoklo y hy) (adata_ops had (by rw [ho]; simp [Op.operands, hy]))) (fun y hy => ev_data hF (hokhi y hy) (adata_ops had (by rw [ho]; simp [Op.operands, hy])))
          (fun y hy => ev_data hF (hokmx y hy) (adata_ops had (by rw [ho]; simp [Op.operands, hy]))))
      · simp only [some1, Option.map_eq_some_iff, AStep.val.injEq] at hop
        obtain ⟨v₁, hsl, rfl, rfl⟩ := hop
        have hm : ∀ (z : Option Operand), (∀ y, z = some y → okOperand y = true) → (∀ y, z.map (ev fr) = some y → ∃ y', z.map a.eval = some y' ∧ RelV ρ y y') ∧ (z.map (ev fr) = none → z.map a.eval = none) := by
          intro z hzz
          cases z with
          | none => exact ⟨fun y hy => by simp at hy, fun _ => rfl⟩
          | some z => exact ⟨fun y hy => by simp at hy; subst hy; exact ⟨_, rfl, hF.ev (hzz z rfl)⟩, fun hy => by simp at hy⟩
        obtain ⟨v', h1, h2⟩ := slice_rel hs hsl (hF.ev hokx) (hm lo hoklo).1 (hm lo hoklo).2 (hm hi hokhi).1 (hm hi hokhi).2 (hm mx hokmx).1 (hm mx hokmx).2
        exact OpSim.pure hs (v' := v') (by unfold execOp; rw [ho]; simp [h1]) h2
    | fieldAddr t x f =>
      simp only [ho, some1, Option.map_eq_some_iff, AStep.val.injEq] at hop
      obtain ⟨v₁, hv, rfl, rfl⟩ := hop
      obtain ⟨v', h1, h2⟩ := fieldAddr_rel hv (hF.ev (hok x (by rw [ho]; simp [Op.operands]))) w
      exact OpSim.pure hs (v' := v') (by unfold execOp; rw [ho]; simp [h1]) h2
    | field t x f =>
      simp only [ho, some1, Option.map_eq_some_iff, AStep.val.injEq] at hop
      obtain ⟨v₁, hv, rfl, rfl⟩ := hop
      obtain ⟨v', h1, h2⟩ := field_rel hv (hF.ev (hok x (by rw [ho]; simp [Op.operands]))) w
      exact OpSim.pure hs (v' := v') (by unfold execOp; rw [ho]; simp [h1]) h2
    | indexAddr t x i =>
      simp only [ho, some1, Option.map_eq_some_iff, AStep.val.injEq] at hop
      obtain ⟨v₁, hv, rfl, rfl⟩ := hop
      obtain ⟨v', h1, h2⟩ := indexAddr_rel hv (hF.ev (hok x (by rw [ho]; simp [Op.operands]))) (hF.ev (hok i (by rw [ho]; simp [Op.operands]))) w
      exact OpSim.pure hs (v' := v') (by unfold execOp; rw [ho]; simp [h1]) h2
    | index t x i =>
      simp only [ho, some1, Option.map_eq_some_iff, AStep.val.injEq] at hop
      obtain ⟨v₁, had, rfl, rfl⟩ := hop
      exact data_sim hs had (congr_index ho (ev_data hF (hok x (by rw [ho]; simp [Op.operands])) (adata_ops had (by rw [ho]; simp [Op.operands]))) (ev_data hF (hok i (by rw [ho]; simp [Op.operands])) (adata_ops had (by rw [ho]; simp [Op.operands]))))
    | lookup t m k ok =>
      simp only [ho, some1, Option.map_eq_some_iff, AStep.val.injEq] at hop
      obtain ⟨v₁, hv, rfl, rfl⟩ := hop
      obtain ⟨v', h1, h2⟩ := lookup_rel hz.data hs hv (hF.ev (hok m (by rw [ho]; simp [Op.operands]))) (hF.ev (hok k (by rw [ho]; simp [Op.operands])))
      exact OpSim.pure hs (v' := v') (by unfold execOp; rw [ho]; simp [h1]) h2
    | mapUpdate t m k x =>
      simp only [ho, some3, Option.map_eq_some_iff, AStep.val.injEq] at hop
      obtain ⟨h₁, hst, rfl, rfl⟩ := hop
      obtain ⟨w', h1, h2, h3, h4⟩ := mapUpdate_rel hs hst (hF.ev (hok m (by rw [ho]; simp [Op.operands]))) (hF.ev (hok k (by rw [ho]; simp [Op.operands]))) (hF.ev (hok x (by rw [ho]; simp [Op.operands])))
      exact OpSim.of_put (.inr ⟨rfl, rfl⟩) (by unfold execOp; rw [ho]; simp [h1]) (relV_undef ρ) h2 h3
    | insert t m k x =>
      simp only [ho, some3, Option.map_eq_some_iff, AStep.val.injEq] at hop
      obtain ⟨h₁, hst, rfl, rfl⟩ := hop
      obtain ⟨w', h1, h2, h3, h4⟩ := mapUpdate_rel hs hst (hF.ev (hok m (by rw [ho]; simp [Op.operands]))) (hF.ev (hok k (by rw [ho]; simp [Op.operands]))) (hF.ev (hok x (by rw [ho]; simp [Op.operands])))
      exact OpSim.of_put (.inr ⟨rfl, rfl⟩) (by unfold execOp; rw [ho]; simp [h1]) (relV_undef ρ) h2 h3
    | extract t i =>
      simp only [ho] at hop
      split at hop
      · rename_i vs hx
        simp only [some1, Option.map_eq_some_iff, AStep.val.injEq] at hop
        obtain ⟨v₁, hv, rfl, rfl⟩ := hop
        have hR := hF.ev (hok t (by rw [ho]; simp [Op.operands]))
        rw [hx] at hR
        obtain ⟨vs', he, hp⟩ := hR.tuple_inv
        obtain ⟨v', h1, h2⟩ := hp.get (by rw [Array.getElem?_toList]; exact hv)
        rw [Array.getElem?_toList] at h1
        exact OpSim.pure hs (v' := v') (by unfold execOp; rw [ho]; simp [Instr.extract, he, h1]) h2
      · cases hop
    | call c =>
      simp only [ho] at hop
      split at hop
      · rename_i b hb
        obtain ⟨callee, args, argTypes⟩ := c
        simp only at hb
        subst hb
        exact builtin_val hz hs hF ho (fun x hx => hok x (by rw [ho]; simp [Op.operands, Call.operands, hx])) hop
      · split at hop
        · cases hop
        · split at hop <;> cases hop
        · cases hop
      · cases hop
    | _ => simp [ho] at hop

theorem aop_call (hF : RelF ρ fr a.tmps) {o : Oper} {f : FuncId} {args : List Value} (hop : aop P fr h o = some (.call f args)) :
    ∃ args' : List Value, Pw (RelV ρ) args args' ∧ ∀ w, (execOp a.eval o).run P w = (callFunc f args'.toArray).run P w := by
  have hok := aop_ok hop
  unfold aop at hop
  split at hop
  · cases hop
  · clear ‹¬ _›
    cases ho : o.op with
    | call c =>
      simp only [ho] at hop
      split at hop
      · unfold abuiltin at hop
        split at hop <;> simp [some1, some2] at hop
      · rename_i fv hcl
        obtain ⟨callee, cargs, argTypes⟩ := c
        simp only at hcl
        subst hcl
        split at hop
        · rename_i g first captured hfv
          simp only [Option.some.injEq, AStep.call.injEq] at hop
          obtain ⟨rfl, rfl⟩ := hop
          have hR := hF.ev (hok fv (by rw [ho]; simp [Op.operands, Call.operands]))
          rw [hfv] at hR
          generalize hval : a.eval fv = val at hR
          cases hR with
          | func f ha hA hc hC =>
            rename_i A A' C C'
            have hargs := args_rel (ρ := ρ) hF (xs := cargs) (fun x hx => hok x (by rw [ho]; simp [Op.operands, Call.operands, hx]))
            refine ⟨A' ++ (cargs.map a.eval).toList ++ C', ((Pw.append ⟨ha, hA⟩ hargs).append ⟨hc, hC⟩), fun w => ?_⟩
            unfold execOp; rw [ho]
            simp only [resolve, hval, Deferred.ofValue, Sem.run_bind, Sem.run_pure, Result.andThen_ok, invoke]
            congr 2
            apply Array.ext'
            simp
        · split at hop <;> cases hop
        · cases hop
      · cases hop
    | makeFunc fn x y => cases fn <;> simp [ho] at hop
    | makeMap t r => cases r <;> simp [ho] at hop
    | pick c x y => simp only [ho] at hop; split at hop <;> simp at hop
    | nilCheck x => simp only [ho] at hop; split at hop <;> simp at hop
    | slice t x lo hi mx => simp only [ho] at hop; split at hop <;> simp [some1] at hop
    | extract t i => simp only [ho] at hop; split at hop <;> simp [some1] at hop
    | _ => simp [ho, some1, some2, some3] at hop

theorem aop_round (hF : RelF ρ fr a.tmps) {o : Oper} {l : Nat} {args : List Value} (hop : aop P fr h o = some (.round l args)) :
    ∃ (i : BI) (args' : List Value), ρ l = some i ∧ Pw (RelV ρ) args args' ∧ ∀ w, (execOp a.eval o).run P w = (Instr.yield i.blk args'.toArray).run P w := by
  have hok := aop_ok hop
  unfold aop at hop
  split at hop
  · cases hop
  · clear ‹¬ _›
    cases ho : o.op with
    | call c =>
      simp only [ho] at hop
      split at hop
      · unfold abuiltin at hop
        split at hop <;> simp [some1, some2] at hop
      · rename_i fv hcl
        obtain ⟨callee, cargs, argTypes⟩ := c
        simp only at hcl
        subst hcl
        split at hop
        · cases hop
        · rename_i l₁ first captured hfv
          split at hop
          · simp only [Option.some.injEq, AStep.round.injEq] at hop
            obtain ⟨rfl, rfl⟩ := hop
            have hR := hF.ev (hok fv (by rw [ho]; simp [Op.operands, Call.operands]))
            rw [hfv] at hR
            generalize hval : a.eval fv = val at hR
            cases hR with
            | yield hi =>
              rename_i i _
              have hargs := args_rel (ρ := ρ) hF (xs := cargs) (fun x hx => hok x (by rw [ho]; simp [Op.operands, Call.operands, hx]))
              refine ⟨i, (cargs.map a.eval).toList, hi, hargs, fun w => ?_⟩
              unfold execOp; rw [ho]
              simp only [resolve, hval, Deferred.ofValue, Sem.run_bind, Sem.run_pure, Result.andThen_ok, invoke]
              congr 2
              apply Array.ext'
              simp
          · cases hop
        · cases hop
      · cases hop
    | makeFunc fn x y => cases fn <;> simp [ho] at hop
    | makeMap t r => cases r <;> simp [ho] at hop
    | pick c x y => simp only [ho] at hop; split at hop <;> simp at hop
    | nilCheck x => simp only [ho] at hop; split at hop <;> simp at hop
    | slice t x lo hi mx => simp only [ho] at hop; split at hop <;> simp [some1] at hop
    | extract t i => simp only [ho] at hop; split at hop <;> simp [some1] at hop
    | _ => simp [ho, some1, some2, some3] at hop
end Go.Abs
