/- Calls and rounds; the whole run. -/
import Derived.Test.YtgenefmhidncpaaGreatDoorRunC
namespace Go.Abs

theorem round_sim {cfg : Cfg} (hcf : CfgOK cfg) {k : Nat} (ihC : CodeSim cfg k) : RoundSim cfg.P (around cfg (k + 1)) := by
  obtain ⟨upC, upA, upR⟩ := run_up hcf k
  intro l args h v h' ρ w args' i hh hs hfr hargs hi
  unfold around at hh
  split at hh
  · rename_i pd fn tmps ps as bd hg
    split at hh
    · rename_i hcond
      simp only [Bool.and_eq_true, decide_eq_true_eq] at hcond
      obtain ⟨hlen, hokf⟩ := hcond
      split at hh
      · rename_i fr1 h1 e1
        split at hh
        · rename_i pd1 fn1 tm1 ps1 as1 bd1 hg1
          split at hh
          · rename_i e fr2 h2 e2
            split at hh
            · rename_i st2 pd2 fn2 tm2 ps2 as2 bd2 hg2
              obtain ⟨i', hi', ho⟩ := hs.obj l (by rw [hg]; rfl)
              rw [hi] at hi'; cases hi'
              rw [hg] at ho
              obtain ⟨tm, df, fnr, hheap, hpw, hinA, hinB⟩ := ho
              have hll : l < h.next := AHeap.lt_of_alive (by rw [hg]; rfl)
              have u1 := upC _ _ _ _ _ _ _ _ e1
              have u2 := upC _ _ _ _ _ _ _ _ e2
              rw [AHeap.next_set] at u2
              have hn' : h'.next = h2.next := by
                split at hh <;> (cases hh; rw [AHeap.next_set])
              rw [hn'] at hfr
              unfold RoundOK
              rw [run_yield hheap (by simp [← hargs.1, hlen])]
              refine roundIn_of_wpIn trivial ?_
              refine (ihC _ _ _ _ _ _ _ _ e1 hokf hinA ρ w _ (some i.blk) w.heap.size _ hs ?_ (Marks.nil _ _) (Nat.le_refl _) (hfr.sub (Nat.le_refl _) u2) ⟨i, hi, rfl⟩ fun a1 w1 hp => ?_).1
              · show RelF ρ _ (((ps.zip args'.toArray).foldl (fun tmps (t, a) => tmps.setIfInBounds t a) tm))
                rw [foldl_zip_array]
                exact setParams_rel ps.toList args args' tmps tm hpw hargs
              · obtain ⟨ρ1, hF1, hm1, hs1, st1⟩ := hp
                have hρ1 : ρ1 l = some i := by rw [st1.out l (.inl hll)]; exact hi
                obtain ⟨i', hi', ho⟩ := hs1.obj l (by rw [hg1]; rfl)
                rw [hρ1] at hi'; cases hi'
                rw [hg1] at ho
                obtain ⟨tmB, dfB, fnB, hheapB, hpwB, hinAB, hinBB⟩ := ho
                refine ⟨_, run_beginRound hheapB rfl, ?_⟩
                obtain ⟨hsB, stB⟩ := hs1.set (b := l) (by rw [hg1]; rfl) hρ1 (.loop .busy pd1 fn1 tm1 ps1 as1 bd1) (.loop { state := .busy, pending := pd1, fn := fnB, tmps := tmB, params := ps1, assign := as1, body := bd1, defers := dfB })
                  ⟨tmB, dfB, fnB, by simp [(Array.getElem?_eq_some_iff.1 hheapB).1], hpwB, hinAB, hinBB⟩
                have st1B := st1.trans stB
                refine (ihC _ _ _ _ _ _ _ _ e2 hokf hinB ρ1 _ a1 (some i.blk) w.heap.size _ hsB hF1 (hm1.step hs1 stB) st1B.size (st1B.fresh hfr) ⟨i, hρ1, rfl⟩ fun a2 w2 hp2 => ?_).1
                obtain ⟨ρ2, hF2, hm2, hs2, st2⟩ := hp2
                have hρ2 : ρ2 l = some i := by rw [st2.out l (.inl (by rw [AHeap.next_set]; omega))]; exact hρ1
                obtain ⟨i', hi', ho⟩ := hs2.obj l (by rw [hg2]; rfl)
                rw [hρ2] at hi'; cases hi'
                rw [hg2] at ho
                obtain ⟨tmC, dfC, fnC, hheapC, hpwC, hinAC, hinBC⟩ := ho
                have st12 := st1B.trans st2
                have hlt : i.blk < w2.heap.size := (Array.getElem?_eq_some_iff.1 hheapC).1
                have fin : ∀ (st : LoopState) (pd : Option Code), RelS cfg.P ρ2 (h2.set l (.loop st pd fn2 tm2 ps2 as2 bd2)).get (w2.putObj i.blk (.loop { state := st, pending := pd, fn := fnC, tmps := tmC, params := ps2, assign := as2, body := bd2, defers := dfC })) ∧
                    Step ρ h.get h.next w ρ2 (h2.set l (.loop st pd fn2 tm2 ps2 as2 bd2)).get h2.next (w2.putObj i.blk (.loop { state := st, pending := pd, fn := fnC, tmps := tmC, params := ps2, assign := as2, body := bd2, defers := dfC })) := by
                  intro st pd
                  obtain ⟨hs3, st3⟩ := hs2.set (b := l) (by rw [hg2]; rfl) hρ2 (.loop st pd fn2 tm2 ps2 as2 bd2) (.loop { state := st, pending := pd, fn := fnC, tmps := tmC, params := ps2, assign := as2, body := bd2, defers := dfC })
                    ⟨tmC, dfC, fnC, by simp [hlt], hpwC, hinAC, hinBC⟩
                  exact ⟨hs3, st12.trans st3⟩
                cases e with
                | normal =>
                  cases hh
                  exact ⟨_, _, run_endRound none hheapC, _, rfl, ρ2, .bool true, (fin .ready none).1, (fin .ready none).2⟩
                | ret =>
                  cases hh
                  exact ⟨_, _, run_endRound (some .ret) hheapC, _, rfl, ρ2, .bool false, (fin .done (some .ret)).1, (fin .done (some .ret)).2⟩
                | exit id =>
                  cases hh
                  exact ⟨_, _, run_endRound (some (.exit id)) hheapC, _, rfl, ρ2, .bool false, (fin .done (some (.exit id))).1, (fin .done (some (.exit id))).2⟩
            · cases hh
          · cases hh
        · cases hh
      · cases hh
    · cases hh
  · cases hh

theorem call_sim {cfg : Cfg} (hcf : CfgOK cfg) {k : Nat} (ihC : CodeSim cfg k) : CallSim cfg.P (acall cfg (k + 1)) := by
  intro f args h v h' ρ w args' hh hs hfr hargs
  unfold acall at hh
  split at hh
  · rename_i p hp
    exact (hcf.prim f p hp args h v h' hh).2 ρ w args' hs hfr hargs
  · split at hh
    · cases hh
    · rename_i hok
      have hok : cfg.ok f = true := by simpa using hok
      split at hh
      · rename_i fn hfn
        split at hh
        · rename_i c hc
          have key : ∀ (e : AExit) (fr1 : Fr) (h1 : AHeap), acode cfg f none k c (args ++ List.replicate (fn.ntmps - args.length) undef) h = some (e, fr1, h1) → (e = .normal ∨ e = .ret) →
              (aresults cfg.P fr1 h1 fn.results.toList).map (fun vs => (single vs, h1)) = some (v, h') → CallOK cfg.P f args'.toArray w (Reach cfg.P ρ h w v h') := by
            intro e fr1 h1 e1 hee hres
            simp only [Option.map_eq_some_iff, Prod.mk.injEq] at hres
            obtain ⟨vs, hv, rfl, rfl⟩ := hres
            unfold CallOK
            rw [callFunc_enter hfn hc (hcf.name _ _ hok hfn)]
            refine callsIn_of_wp_marks hfn hc trivial ?_
            refine (ihC _ _ _ _ _ _ _ _ e1 hok (.all hfn hc) ρ w { tmps := args'.toArray ++ Array.replicate (fn.ntmps - args'.toArray.size) undef, defers := [] } none w.heap.size _ hs ?_ (Marks.nil _ _) (Nat.le_refl _) hfr trivial fun a' w' hp => ?_).1
            · show Pw (RelV ρ) _ _
              rw [Array.toList_append, Array.toList_replicate]
              have hsz : args'.toArray.size = args.length := by simp [hargs.1]
              rw [hsz]
              exact Pw.append hargs (Pw.replicate _ (relV_undef ρ))
            · obtain ⟨ρ', hF', hm', hs', hst⟩ := hp
              obtain ⟨w'', ⟨hs'', hst''⟩, hl⟩ := leaves_marks (P := cfg.P) (fn := fn) (tm := a'.tmps) (R := fun e w'' => ∃ v', e = .returned v' ∧ Reach cfg.P ρ h w (single vs) h1 v' w'') a'.defers w' w.heap.size hm'
                (fun x => RelS cfg.P ρ' h1.get x ∧ Step ρ h.get h.next w ρ' h1.get h1.next x) ⟨hs', hst⟩ (fun x r y hr hx hI => ⟨hI.1.take hx _, hI.2.take hr _⟩)
              have := hl (by
                obtain ⟨v', h1', h2'⟩ := results_rel hs'' hF' hv
                exact ⟨v', h1', v', rfl, ρ', h2', hs'', hst''⟩)
              rcases hee with rfl | rfl
              · exact this
              · exact this
          split at hh
          · rename_i e1
            exact key _ _ _ e1 (.inl rfl) hh
          · rename_i e1
            exact key _ _ _ e1 (.inr rfl) hh
          · cases hh
        · cases hh
      · cases hh

theorem run_sim {cfg : Cfg} (hcf : CfgOK cfg) : ∀ k, CodeSim cfg k ∧ CallSim cfg.P (acall cfg k) ∧ RoundSim cfg.P (around cfg k) := by
  intro k
  induction k with
  | zero =>
    refine ⟨fun fn ro c fr h e fr' h' hh => by simp [acode] at hh, fun f args h v h' ρ w args' hh => by simp [acall] at hh, fun l args h v h' ρ w args' i hh => by simp [around] at hh⟩
  | succ k ih => exact ⟨code_sim hcf ih.1 ih.2.1 ih.2.2, call_sim hcf ih.1, round_sim hcf ih.1⟩

/-- **A run over the plain heap is a run of the program.** -/
theorem sound {cfg : Cfg} (hcf : CfgOK cfg) {k : Nat} {f : FuncId} {args : List Value} {h : AHeap} {v : Value} {h' : AHeap} (hh : acall cfg k f args h = some (v, h')) {ρ : Ren} {w : World} {args' : List Value}
    (hs : RelS cfg.P ρ h.get w) (hfr : Fresh ρ h.next h'.next) (hargs : Pw (RelV ρ) args args') : CallOK cfg.P f args'.toArray w (Reach cfg.P ρ h w v h') :=
  (run_sim hcf k).2.1 f args h v h' ρ w args' hh hs hfr hargs
#print axioms sound
end Go.Abs
