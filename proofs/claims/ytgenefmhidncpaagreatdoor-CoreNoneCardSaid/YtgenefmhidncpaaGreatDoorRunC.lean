/- The run is done as over the plain heap. -/
import Derived.Test.YtgenefmhidncpaaGreatDoorRunB
import Derived.LoopNIn
namespace Go.Abs

def toExit : AExit → Exit
  | .normal => .normal
  | .exit i => .exit i
  | .ret => .ret

def Post (P : Program) (base : Nat) (ρ : Ren) (h : AHeap) (w : World) (fr' : Fr) (h' : AHeap) (a' : Act) (w' : World) : Prop :=
  ∃ ρ', RelF ρ' fr' a'.tmps ∧ Marks base w' a'.defers ∧ RelS P ρ' h'.get w' ∧ Step ρ h.get h.next w ρ' h'.get h'.next w'

def RoOK (ρ : Ren) : Option Nat → Option Nat → Prop
  | none, none => True
  | some l, some b => ∃ i, ρ l = some i ∧ i.blk = b
  | _, _ => False

theorem RoOK.mono {ρ ρ' : Ren} (hle : Ren.le ρ ρ') {ro ro' : Option Nat} (h : RoOK ρ ro ro') : RoOK ρ' ro ro' := by
  cases ro with
  | none => cases ro' with
    | none => trivial
    | some b => exact h
  | some l => cases ro' with
    | none => exact h
    | some b => obtain ⟨i, hi, hb⟩ := h; exact ⟨i, hle _ _ hi, hb⟩

def CodeSim (cfg : Cfg) (k : Nat) : Prop := ∀ fn ro c fr h e fr' h', acode cfg fn ro k c fr h = some (e, fr', h') → cfg.ok fn = true → Inside cfg.P fn c →
  ∀ ρ w a ro' base Q, RelS cfg.P ρ h.get w → RelF ρ fr a.tmps → Marks base w a.defers → base ≤ w.heap.size → Fresh ρ h.next h'.next → RoOK ρ ro ro' →
  (∀ a' w', Post cfg.P base ρ h w fr' h' a' w' → Q (toExit e) a' w') → c.wpIn (FW ro') 0 cfg.P Q a w ∧ ∀ b, c = .loop b → Code.roundsIn (FW ro') 0 cfg.P b Q k a w

theorem eval_bool {ρ : Ren} {fr : Fr} {a : Act} (hF : RelF ρ fr a.tmps) {c : Operand} {t : Bool} (h : ev fr c = .bool t) : a.eval c = .bool t := by
  cases c with
  | tmp s => exact ((hF.at s).bool_iff t).1 h
  | const v => exact h
  | global g => cases h
  | func f => cases h

theorem collected_inj : ∀ (l m : List Nat), l.map Target.collected = m.map Target.collected → l = m
  | [], [], _ => rfl
  | [], _ :: _, h => by cases h
  | _ :: _, [], h => by cases h
  | x :: l, y :: m, h => by
    simp only [List.map_cons, List.cons.injEq, Target.collected.injEq] at h
    rw [h.1, collected_inj l m h.2]

theorem range_sim {cfg : Cfg} (hcf : CfgOK cfg) {k : Nat} (ihA : CallSim cfg.P (acall cfg k)) {fn : FuncId} {ro : Option Nat} {f : Operand} {params : Array Tmp} {assign body : Code} {fr : Fr} {h : AHeap} {e : AExit} {fr' : Fr} {h' : AHeap}
    (hh : acode cfg fn ro (k + 1) (.rangeFunc f params assign body) fr h = some (e, fr', h')) (hin : Inside cfg.P fn (.rangeFunc f params assign body)) {ρ : Ren} {w : World} {a : Act} {ro' : Option Nat} {base : Nat} {Q : Exit → Act → World → Prop}
    (hs : RelS cfg.P ρ h.get w) (hF : RelF ρ fr a.tmps) (hm : Marks base w a.defers) (hb : base ≤ w.heap.size) (hfr : Fresh ρ h.next h'.next) (hro : RoOK ρ ro ro')
    (hQ : ∀ a' w', Post cfg.P base ρ h w fr' h' a' w' → Q (toExit e) a' w') : (Code.rangeFunc f params assign body).wpIn (FW ro') 0 cfg.P Q a w := by
  simp only [acode] at hh
  split at hh
  · rename_i g first captured hokf hev
    split at hh
    · cases hh
    · rename_i hcond
      simp only [Bool.not_eq_true', Bool.not_eq_false, Bool.and_eq_true, Option.isNone_iff_eq_none] at hcond
      obtain ⟨⟨haro, hokg⟩, hprim⟩ := hcond
      split at hh
      · rename_i v h1 e1
        split at hh
        · rename_i st pending fn' tmps ps as bd hg1
          split at hh
          · cases hh
          · rename_i hbusy
            have hfin : fr' = fr ∧ h' = h1.set h.next (.loop .exhausted pending fn' tmps ps as bd) ∧ ((pending = none ∧ e = .normal) ∨ (pending = some .ret ∧ e = .ret) ∨ ∃ id, pending = some (.exit id) ∧ e = .exit id) := by
              split at hh
              · cases hh; exact ⟨rfl, rfl, .inl ⟨rfl, rfl⟩⟩
              · cases hh; exact ⟨rfl, rfl, .inr (.inl ⟨rfl, rfl⟩)⟩
              · cases hh; exact ⟨rfl, rfl, .inr (.inr ⟨_, rfl, rfl⟩)⟩
              · cases hh
            obtain ⟨rfl, rfl, hend⟩ := hfin
            clear hh
            rw [AHeap.next_set] at hfr
            have hup : h.next < h1.next := by have := (run_up hcf k).2.1 _ _ _ _ _ e1; rw [AHeap.next_push] at this; omega
            -- the function's value
            have hfv := hF.ev hokf
            rw [hev] at hfv
            generalize hval : a.eval f = val at hfv
            cases hfv with
            | func g' ha hA hc hC =>
            rename_i A A' C C'
            -- the record is laid
            have henter : ∀ fn0, ∃ mark w0 df, (Instr.enterLoop fn0 a.tmps params assign body (FW ro').round).run cfg.P w = .ok (w0.heap.size, mark) (w0.alloc (.loop { state := .ready, pending := none, fn := fn0, tmps := a.tmps, params, assign, body, defers := df })) ∧
                RelS cfg.P ρ h.get w0 ∧ Step ρ h.get h.next w ρ h.get h.next w0 ∧ Marks base w0 (mark ++ a.defers) := by
              intro fn0
              cases ro with
              | none =>
                cases ro' with
                | some b => exact hro.elim
                | none =>
                  refine ⟨[{ target := .collected w.heap.size, args := #[] }], w.alloc (.deferred (some [])), w.heap.size, ?_, hs.alloc _, Step.alloc _ _ _ _ _, ?_⟩
                  · have := run_enterLoop_outer (P := cfg.P) (w := w) fn0 a.tmps params assign body
                    rw [show (FW none).round = none from rfl, this, World.size_alloc]
                  · obtain ⟨rs, h1, h2, h3⟩ := hm.step hs (Step.alloc ρ h.get h.next w (.deferred (some [])))
                    obtain ⟨rs', h1', _, h3'⟩ := hm
                    have hrr : rs = rs' := by
                      rw [h1] at h1'
                      exact collected_inj _ _ h1'
                    subst hrr
                    refine ⟨w.heap.size :: rs, by simp [h1], List.nodup_cons.2 ⟨fun hmem => ?_, h2⟩, fun r hr => ?_⟩
                    · have := (Array.getElem?_eq_some_iff.1 (h3' _ hmem).2).1
                      omega
                    · rcases List.mem_cons.1 hr with rfl | hr
                      · exact ⟨hb, by show (w.heap.push _)[w.heap.size]? = _; simp⟩
                      · exact h3 r hr
              | some l0 =>
                cases ro' with
                | none => exact hro.elim
                | some b =>
                  obtain ⟨i, hi, rfl⟩ := hro
                  unfold aroundOk at haro
                  simp only at haro
                  split at haro
                  · rename_i hg
                    obtain ⟨i', hi', ho⟩ := hs.obj l0 (by rw [hg]; rfl)
                    rw [hi] at hi'; cases hi'
                    rw [hg] at ho
                    obtain ⟨tm, df, fnr, hheap, _⟩ := ho
                    exact ⟨[], w, df, run_enterLoop_inner hheap fn0 a.tmps params assign body, hs, Step.refl _ _ _ _, by simpa using hm⟩
                  · cases haro
            refine wpIn_rangeFunc fun fn0 _ => ?_
            obtain ⟨mark, w0, df, hent, hs0, st0, hm0⟩ := henter fn0
            have hf0 : ρ h.next = none := hfr _ (Nat.le_refl _) hup
            have hpush := hs0.push hf0 (.loop .ready none fn fr' params assign body) (.loop { state := .ready, pending := none, fn := fn0, tmps := a.tmps, params, assign, body, defers := df }) { blk := w0.heap.size, sh := 0, len := 0, esz := 0, extra := 0, opn := false } rfl
              ⟨a.tmps, df, fn0, by simp, (hF.mono (Ren.le_put hf0 _)), hin.assign, hin.body⟩
            generalize hρ1 : ρ.put h.next { blk := w0.heap.size, sh := 0, len := 0, esz := 0, extra := 0, opn := false } = ρ1 at hpush
            have hρ1l : ρ1 h.next = some { blk := w0.heap.size, sh := 0, len := 0, esz := 0, extra := 0, opn := false } := by rw [← hρ1]; simp
            have hle1 : Ren.le ρ ρ1 := by rw [← hρ1]; exact Ren.le_put hf0 _
            obtain ⟨hs1, st1⟩ := hpush
            have st01 := st0.trans st1
            -- the call
            have hargs : Pw (RelV ρ1) ((⟨A⟩ : Array Value).toList ++ [Value.func (.yield h.next) #[] #[]] ++ (⟨C⟩ : Array Value).toList) (A' ++ [Value.func (.yield w0.heap.size) #[] #[]] ++ C') :=
              (Pw.append (Pw.append ⟨ha, fun i x y hx hy => (hA i x y hx hy).mono hle1⟩ (Pw.cons (.yield hρ1l) Pw.nil)) ⟨hc, fun i x y hx hy => (hC i x y hx hy).mono hle1⟩)
            have hcall := ihA _ _ _ _ _ ρ1 (w0.alloc (.loop { state := .ready, pending := none, fn := fn0, tmps := a.tmps, params, assign, body, defers := df })) _ e1 hs1 (st1.fresh hfr) hargs
            obtain ⟨_, fng, cg, hfng, hcg⟩ := acall_body hprim e1
            unfold CallOK at hcall
            rw [callFunc_enter hfng hcg (hcf.name _ _ hokg hfng)] at hcall
            refine ⟨w0.heap.size, mark, w0.alloc (.loop { state := .ready, pending := none, fn := fn0, tmps := a.tmps, params, assign, body, defers := df }), { target := .fn (.func g) ⟨C'⟩, args := (⟨A'⟩ : Array Value) ++ #[Value.func (.yield w0.heap.size) #[] #[]] }, w0.alloc (.loop { state := .ready, pending := none, fn := fn0, tmps := a.tmps, params, assign, body, defers := df }), g, (A' ++ [Value.func (.yield w0.heap.size) #[] #[]] ++ C').toArray, w0.alloc (.loop { state := .ready, pending := none, fn := fn0, tmps := a.tmps, params, assign, body, defers := df }), hent, ?_, fun _ _ => trivial, ?_, FW_depth ro' _, ?_⟩
            · have hmap : (#[Operand.const (.func (.yield w0.heap.size) #[] #[])].map a.eval) = #[Value.func (.yield w0.heap.size) #[] #[]] := by simp [Act.eval]
              simp only [resolve, hval, Deferred.ofValue, Sem.run_pure, hmap]
            · have harr : (⟨A'⟩ : Array Value) ++ #[Value.func (.yield w0.heap.size) #[] #[]] ++ (⟨C'⟩ : Array Value) = (A' ++ [Value.func (.yield w0.heap.size) #[] #[]] ++ C').toArray := by apply Array.ext'; simp
              show (callFunc g ((⟨A'⟩ : Array Value) ++ #[Value.func (.yield w0.heap.size) #[] #[]] ++ (⟨C'⟩ : Array Value))).run cfg.P _ = _
              rw [harr, callFunc_enter hfng hcg (hcf.name _ _ hokg hfng)]
            · refine CallsIn.mono (F := FW ro') (n := 0 - 1) hcall ?_
              rintro ee w3 ⟨v', rfl, ρ3, hv3, hs3, st3⟩
              have hρ3l : ρ3 h.next = some { blk := w0.heap.size, sh := 0, len := 0, esz := 0, extra := 0, opn := false } := by
                rw [st3.out h.next (.inl (by rw [AHeap.next_push]; omega))]; exact hρ1l
              obtain ⟨i', hi', ho⟩ := hs3.obj h.next (by rw [hg1]; rfl)
              rw [hρ3l] at hi'; cases hi'
              rw [hg1] at ho
              obtain ⟨tm, df', fn'', hheap, hpw, hin1, hin2⟩ := ho
              have hset := hs3.set (b := h.next) (by rw [hg1]; rfl) hρ3l (.loop .exhausted pending fn' tmps ps as bd) (.loop { state := .exhausted, pending := pending, fn := fn'', tmps := tm, params := ps, assign := as, body := bd, defers := df' })
                ⟨tm, df', fn'', by simp [(Array.getElem?_eq_some_iff.1 hheap).1], hpw, hin1, hin2⟩
              obtain ⟨hs4, st4⟩ := hset
              have st := (st01.trans st3).trans st4
              have hpost : Post cfg.P base ρ h w fr' (h1.set h.next (.loop .exhausted pending fn' tmps ps as bd)) { a with defers := mark ++ a.defers } { w3 with heap := w3.heap.setIfInBounds w0.heap.size (.loop { state := .exhausted, pending := pending, fn := fn'', tmps := tm, params := ps, assign := as, body := bd, defers := df' }) } :=
                ⟨ρ3, hF.mono (Ren.le_trans hle1 (st3.le_ren (st1.fresh hfr))), ((hm0.step hs0 st1).step hs1 st3).step hs3 st4, hs4, st⟩
              refine ⟨pending, _, run_endLoop hheap hbusy, ?_⟩
              rcases hend with ⟨rfl, rfl⟩ | ⟨rfl, rfl⟩ | ⟨id, rfl, rfl⟩
              · exact hQ _ _ hpost
              · exact wpIn_ret (hQ _ _ hpost)
              · exact wpIn_exit (hQ _ _ hpost)
        · cases hh
      · cases hh
  · cases hh

theorem code_sim {cfg : Cfg} (hcf : CfgOK cfg) {k : Nat} (ihC : CodeSim cfg k) (ihA : CallSim cfg.P (acall cfg k)) (ihR : RoundSim cfg.P (around cfg k)) : CodeSim cfg (k + 1) := by
  obtain ⟨upC, upA, upR⟩ := run_up hcf k
  intro fn ro c fr h e fr' h' hh hok hin ρ w a ro' base Q hs hF hm hb hfr hro hQ
  cases c with
  | skip =>
    simp only [acode] at hh; cases hh
    exact ⟨wpIn_skip (hQ a w ⟨ρ, hF, hm, hs, Step.refl _ _ _ _⟩), fun b e => by cases e⟩
  | label l =>
    simp only [acode] at hh; cases hh
    exact ⟨wpIn_label (hQ a w ⟨ρ, hF, hm, hs, Step.refl _ _ _ _⟩), fun b e => by cases e⟩
  | exit id =>
    simp only [acode] at hh; cases hh
    exact ⟨wpIn_exit (hQ a w ⟨ρ, hF, hm, hs, Step.refl _ _ _ _⟩), fun b e => by cases e⟩
  | ret =>
    simp only [acode] at hh; cases hh
    exact ⟨wpIn_ret (hQ a w ⟨ρ, hF, hm, hs, Step.refl _ _ _ _⟩), fun b e => by cases e⟩
  | region id ops draw =>
    simp only [acode, Option.map_eq_some_iff, Prod.mk.injEq] at hh
    obtain ⟨⟨fr₁, h₁⟩, h1, rfl, rfl, rfl⟩ := hh
    exact ⟨aregion_sim hcf ihA ihR upA upR ro' h1 (hin.ok hcf hok) hs hF hfr fun a' w' ⟨ρ', hF', hd, hs', hst⟩ => hQ a' w' ⟨ρ', hF', hd ▸ hm.step hs hst, hs', hst⟩, fun b e => by cases e⟩
  | seq x y =>
    refine ⟨?_, fun b e => by cases e⟩
    simp only [acode] at hh
    split at hh
    · rename_i fr1 h1 e1
      have u2 := upC _ _ _ _ _ _ _ _ hh
      have u1 := upC _ _ _ _ _ _ _ _ e1
      refine wpIn_seq (ihC _ _ _ _ _ _ _ _ e1 hok hin.seqL ρ w a ro' base _ hs hF hm hb (hfr.sub (Nat.le_refl _) u2) hro fun a1 w1 hp => ?_).1
      obtain ⟨ρ1, hF1, hm1, hs1, st1⟩ := hp
      exact (ihC _ _ _ _ _ _ _ _ hh hok hin.seqR ρ1 w1 a1 ro' base Q hs1 hF1 hm1 (Nat.le_trans hb st1.size) (st1.fresh hfr) (hro.mono (st1.le_ren (hfr.sub (Nat.le_refl _) u2))) fun a2 w2 ⟨ρ2, hF2, hm2, hs2, st2⟩ => hQ a2 w2 ⟨ρ2, hF2, hm2, hs2, st1.trans st2⟩).1
    · rename_i hne
      refine wpIn_seq (ihC _ _ _ _ _ _ _ _ hh hok hin.seqL ρ w a ro' base _ hs hF hm hb hfr hro fun a1 w1 hp => ?_).1
      cases e with
      | normal => exact absurd hh (hne _ _)
      | exit i => exact hQ a1 w1 hp
      | ret => exact hQ a1 w1 hp
  | cond c x y =>
    refine ⟨?_, fun b e => by cases e⟩
    simp only [acode] at hh
    split at hh
    · rename_i t ht
      refine wpIn_cond (eval_bool hF ht) (ihC _ _ _ _ _ _ _ _ hh hok ?_ ρ w a ro' base Q hs hF hm hb hfr hro hQ).1
      cases t
      · exact hin.condR
      · exact hin.condL
    · cases hh
  | block id b =>
    refine ⟨?_, fun b e => by cases e⟩
    simp only [acode] at hh
    split at hh
    · rename_i i fr1 h1 e1
      split at hh
      · rename_i hid
        cases hh
        refine wpIn_block (ihC _ _ _ _ _ _ _ _ e1 hok hin.block ρ w a ro' base _ hs hF hm hb hfr hro fun a1 w1 hp => ?_).1
        show (if i = id then Q .normal a1 w1 else Q (.exit i) a1 w1)
        rw [if_pos hid]
        exact hQ a1 w1 hp
      · rename_i hid
        cases hh
        refine wpIn_block (ihC _ _ _ _ _ _ _ _ e1 hok hin.block ρ w a ro' base _ hs hF hm hb hfr hro fun a1 w1 hp => ?_).1
        show (if i = id then Q .normal a1 w1 else Q (.exit i) a1 w1)
        rw [if_neg hid]
        exact hQ a1 w1 hp
    · rename_i hne
      refine wpIn_block (ihC _ _ _ _ _ _ _ _ hh hok hin.block ρ w a ro' base _ hs hF hm hb hfr hro fun a1 w1 hp => ?_).1
      cases e with
      | normal => exact hQ a1 w1 hp
      | exit i => exact absurd hh (hne _ _ _)
      | ret => exact hQ a1 w1 hp
  | loop b =>
    have key : Code.roundsIn (FW ro') 0 cfg.P b Q (k + 1) a w := by
      simp only [acode] at hh
      rw [roundsIn_succ]
      split at hh
      · rename_i fr1 h1 e1
        have u2 := upC _ _ _ _ _ _ _ _ hh
        refine (ihC _ _ _ _ _ _ _ _ e1 hok hin.loop ρ w a ro' base _ hs hF hm hb (hfr.sub (Nat.le_refl _) u2) hro fun a1 w1 hp => ?_).1
        obtain ⟨ρ1, hF1, hm1, hs1, st1⟩ := hp
        exact (ihC _ _ _ _ _ _ _ _ hh hok hin ρ1 w1 a1 ro' base Q hs1 hF1 hm1 (Nat.le_trans hb st1.size) (st1.fresh hfr) (hro.mono (st1.le_ren (hfr.sub (Nat.le_refl _) u2))) fun a2 w2 ⟨ρ2, hF2, hm2, hs2, st2⟩ => hQ a2 w2 ⟨ρ2, hF2, hm2, hs2, st1.trans st2⟩).2 b rfl
      · rename_i hne
        refine (ihC _ _ _ _ _ _ _ _ hh hok hin.loop ρ w a ro' base _ hs hF hm hb hfr hro fun a1 w1 hp => ?_).1
        cases e with
        | normal => exact absurd hh (hne _ _)
        | exit i => exact hQ a1 w1 hp
        | ret => exact hQ a1 w1 hp
    exact ⟨wpIn_loop_rounds _ key, fun b' e => by cases e; exact key⟩
  | rangeFunc f ps as bd => exact ⟨range_sim hcf ihA hh hin hs hF hm hb hfr hro hQ, fun b e => by cases e⟩
  | _ => simp [acode] at hh
end Go.Abs
