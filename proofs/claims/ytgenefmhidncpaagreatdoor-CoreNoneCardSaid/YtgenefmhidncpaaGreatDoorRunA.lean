/- What is asked of a configuration; a region as the run takes it; names only grow. -/
import Derived.Test.YtgenefmhidncpaaGreatDoorDrawE
namespace Go.Abs

def okCode (P : Program) (rw : Nat → List (Nat × Nat)) : Code → Bool
  | .region id ops true => regionOK P (rw id) ops
  | .seq a b => okCode P rw a && okCode P rw b
  | .cond _ a b => okCode P rw a && okCode P rw b
  | .block _ b => okCode P rw b
  | .loop b => okCode P rw b
  | .rangeFunc _ _ a b => okCode P rw a && okCode P rw b
  | _ => true

structure CfgOK (cfg : Cfg) : Prop where
  zero : ZeroOK cfg.P
  code : ∀ fn f c, cfg.ok fn = true → cfg.P.funcs[fn]? = some f → f.body = some c → okCode cfg.P (cfg.rw fn) c = true
  name : ∀ fn f, cfg.ok fn = true → cfg.P.funcs[fn]? = some f → f.name ≠ "runtime.NumGoroutine"
  prim : ∀ f p, cfg.prim f = some p → ∀ args h v h', p args h = some (v, h') → h.next ≤ h'.next ∧
    ∀ ρ w (args' : List Value), RelS cfg.P ρ h.get w → Fresh ρ h.next h'.next → Pw (RelV ρ) args args' → CallOK cfg.P f args'.toArray w (Reach cfg.P ρ h w v h')

theorem Inside.ok {cfg : Cfg} (hc : CfgOK cfg) {fn : FuncId} {c : Code} (hfn : cfg.ok fn = true) (h : Inside cfg.P fn c) : okCode cfg.P (cfg.rw fn) c = true := by
  induction h with
  | all hf hb => exact hc.code _ _ _ hfn hf hb
  | seqL _ ih => simp only [okCode, Bool.and_eq_true] at ih; exact ih.1
  | seqR _ ih => simp only [okCode, Bool.and_eq_true] at ih; exact ih.2
  | condL _ ih => simp only [okCode, Bool.and_eq_true] at ih; exact ih.1
  | condR _ ih => simp only [okCode, Bool.and_eq_true] at ih; exact ih.2
  | block _ ih => simpa only [okCode] using ih
  | loop _ ih => simpa only [okCode] using ih
  | assign _ ih => simp only [okCode, Bool.and_eq_true] at ih; exact ih.1
  | body _ ih => simp only [okCode, Bool.and_eq_true] at ih; exact ih.2

section
variable {P : Program} {call : ACall} {round : ARound} {ops : Array Oper}

theorem aopsT_aops : ∀ (os : List Oper) (fr fr' : Fr) (h h' : AHeap) (tr tr' : List (Fr × AHeap)), aopsT P call round ops os fr h tr = some (fr', h', tr') → aops P call round ops os fr h = some (fr', h')
  | [], fr, fr', h, h', tr, tr', e => by cases e; rfl
  | o :: os, fr, fr', h, h', tr, tr', e => by
    unfold aopsT at e
    unfold aops
    split at e
    · rename_i fr₁ h₁ h1
      exact aopsT_aops os _ _ _ _ _ _ e
    · cases e

theorem aopsT_states {F : Nat → Fr} {H : Nat → AHeap} (T : Text P call round ops F H) : ∀ (n k : Nat), k + n = ops.size → ∀ (fr' : Fr) (h' : AHeap) (tr tr' : List (Fr × AHeap)),
    aopsT P call round ops (ops.toList.drop k) (F k) (H k) tr = some (fr', h', tr') → tr' = ((List.range' k (n + 1)).map fun m => (F m, H m)).reverse ++ tr := by
  intro n
  induction n with
  | zero =>
    intro k hk fr' h' tr tr' e
    rw [List.drop_of_length_le (by simp; omega)] at e
    cases e
    simp
  | succ n ih =>
    intro k hk fr' h' tr tr' e
    have hlt : k < ops.size := by omega
    rw [List.drop_eq_getElem_cons (by simpa using hlt)] at e
    unfold aopsT at e
    rw [Array.getElem_toList, T.step k _ (Array.getElem?_eq_getElem hlt)] at e
    have := ih (k + 1) (by omega) _ _ _ _ e
    rw [this, List.range'_succ (s := k)]
    simp

theorem arwOk_RW {F : Nat → Fr} {H : Nat → AHeap} (T : Text P call round ops F H) {fr' : Fr} {h' : AHeap} {tr : List (Fr × AHeap)} (he : aopsT P call round ops ops.toList (F 0) (H 0) [] = some (fr', h', tr)) {rw : List (Nat × Nat)}
    (hall : (rw.all fun (r, j) => arwOk P ops tr.reverse.toArray r j) = true) : RW P ops F H rw := by
  have htr := aopsT_states T ops.size 0 (by omega) fr' h' [] tr (by simpa using he)
  have hget : ∀ m, m ≤ ops.size → (tr.reverse.toArray)[m]? = some (F m, H m) := fun m hm => by
    rw [htr]
    simp only [List.append_nil, List.reverse_reverse, List.getElem?_toArray, List.getElem?_map]
    rw [List.getElem?_range' (by omega)]
    simp
  intro r j o hm ho hw
  rw [List.all_eq_true] at hall
  have := hall (r, j) hm
  have hr := (Array.getElem?_eq_some_iff.1 ho).1
  unfold arwOk at this
  simp only [ho, hget r (by omega)] at this
  split at this
  · rename_i o1 fr1 h1 fr2 h2 e1 e2 e3
    cases e1; cases e2
    rw [if_pos hw] at this
    split at this
    · rename_i v g1 v' g2 e4 e5
      have hv := veq_eq this
      subst hv
      have hj : (if j < r then j else j + 1) ≤ ops.size := by
        split
        · omega
        · rcases Nat.lt_or_ge ops.size (if j < r then j else j + 1) with hlt | hge
          · exfalso
            rw [Array.getElem?_eq_none (by rw [htr]; simp; omega)] at e3
            cases e3
          · rwa [if_neg (by assumption)] at hge
      rw [hget _ hj] at e3
      cases e3
      exact ⟨_, g1, g2, e4, e5⟩
    · cases this
  · cases this
end

theorem aregion_up {cfg : Cfg} {fn : FuncId} {call : ACall} {round : ARound} (hc : CallUp call) (hr : RoundUp round) {id : Nat} {ops : Array Oper} {draw : Bool} {fr fr' : Fr} {h h' : AHeap}
    (e : aregion cfg fn call round id ops draw fr h = some (fr', h')) : h.next ≤ h'.next := by
  unfold aregion at e
  split at e
  · split at e
    · exact aops_up hc hr _ _ _ _ _ e
    · split at e
      · rename_i h1
        split at e
        · cases e
          exact aops_up hc hr _ _ _ _ _ (aopsT_aops _ _ _ _ _ _ _ h1)
        · cases e
      · cases e
  · exact aops_up hc hr _ _ _ _ _ e

theorem aregion_sim {cfg : Cfg} (hcf : CfgOK cfg) {fn : FuncId} {call : ACall} {round : ARound} (hcall : CallSim cfg.P call) (hround : RoundSim cfg.P round) (hc : CallUp call) (hr : RoundUp round) (ro : Option Nat) {id : Nat} {ops : Array Oper} {draw : Bool}
    {fr fr' : Fr} {h h' : AHeap} {ρ : Ren} {a : Act} {w : World} {Q : Exit → Act → World → Prop}
    (e : aregion cfg fn call round id ops draw fr h = some (fr', h')) (hok : okCode cfg.P (cfg.rw fn) (.region id ops draw) = true) (hs : RelS cfg.P ρ h.get w) (hF : RelF ρ fr a.tmps) (hfr : Fresh ρ h.next h'.next)
    (hQ : ∀ a' w', After cfg.P ρ h w a fr' h' a' w' → Q .normal a' w') : (Code.region id ops draw).wpIn (FW ro) 0 cfg.P Q a w := by
  cases draw with
  | false =>
    unfold aregion at e
    rw [if_neg (by simp)] at e
    exact region_fixed hcf.zero hcall hround hc hr ro e hs hF hfr hQ
  | true =>
    have hR := regionOK_sound (P := cfg.P) (rw := cfg.rw fn id) (ops := ops) hok
    have key : aops cfg.P call round ops ops.toList fr h = some (fr', h') → (∀ F H, F 0 = fr → H 0 = h → Text cfg.P call round ops F H → RW cfg.P ops F H (cfg.rw fn id)) → (Code.region id ops true).wpIn (FW ro) 0 cfg.P Q a w := by
      intro h1 h2
      obtain ⟨F, H, rfl, rfl, rfl, rfl, T⟩ := aops_text0 h1
      exact region_draw hcf.zero hcall hround hc hr ro hR T (h2 F H rfl rfl T) hs hF hfr hQ
    unfold aregion at e
    rw [if_pos rfl] at e
    split at e
    · rename_i h1
      refine key e fun F H _ _ _ => ?_
      rw [h1]
      intro r j o hm
      cases hm
    · rename_i ps hne
      split at e
      · rename_i h1
        split at e
        · rename_i h2
          cases e
          refine key (aopsT_aops _ _ _ _ _ _ _ h1) fun F H hF0 hH0 T => ?_
          subst hF0 hH0
          exact arwOk_RW T h1 h2
        · cases e
      · cases e

/-! ### names only grow -/
theorem run_up {cfg : Cfg} (hcf : CfgOK cfg) : ∀ k, (∀ fn ro c fr h e fr' h', acode cfg fn ro k c fr h = some (e, fr', h') → h.next ≤ h'.next) ∧ CallUp (acall cfg k) ∧ RoundUp (around cfg k) := by
  intro k
  induction k with
  | zero =>
    refine ⟨fun fn ro c fr h e fr' h' hh => ?_, fun f args h v h' hh => ?_, fun l args h v h' hh => ?_⟩
    · simp [acode] at hh
    · simp [acall] at hh
    · simp [around] at hh
  | succ k ih =>
    obtain ⟨ihC, ihA, ihR⟩ := ih
    refine ⟨fun fn ro c fr h e fr' h' hh => ?_, fun f args h v h' hh => ?_, fun l args h v h' hh => ?_⟩
    · unfold acode at hh
      split at hh
      · cases hh; exact Nat.le_refl _
      · cases hh; exact Nat.le_refl _
      · simp only [Option.map_eq_some_iff, Prod.mk.injEq] at hh
        obtain ⟨⟨fr₁, h₁⟩, h1, rfl, rfl, rfl⟩ := hh
        exact aregion_up ihA ihR h1
      · split at hh
        · rename_i h1
          exact Nat.le_trans (ihC _ _ _ _ _ _ _ _ h1) (ihC _ _ _ _ _ _ _ _ hh)
        · exact ihC _ _ _ _ _ _ _ _ hh
      · split at hh
        · exact ihC _ _ _ _ _ _ _ _ hh
        · cases hh
      · split at hh
        · rename_i h1
          split at hh
          · cases hh; exact ihC _ _ _ _ _ _ _ _ h1
          · cases hh; exact ihC _ _ _ _ _ _ _ _ h1
        · exact ihC _ _ _ _ _ _ _ _ hh
      · split at hh
        · rename_i h1
          exact Nat.le_trans (ihC _ _ _ _ _ _ _ _ h1) (ihC _ _ _ _ _ _ _ _ hh)
        · exact ihC _ _ _ _ _ _ _ _ hh
      · cases hh; exact Nat.le_refl _
      · cases hh; exact Nat.le_refl _
      · split at hh
        · simp only at hh
          split at hh
          · cases hh
          · split at hh
            · rename_i h1
              have := ihA _ _ _ _ _ h1
              rw [AHeap.next_push] at this
              split at hh
              · split at hh
                · cases hh
                · split at hh <;> first | (cases hh; done) | (cases hh; rw [AHeap.next_set]; omega)
              · cases hh
            · cases hh
        · cases hh
      · cases hh
    · unfold acall at hh
      split at hh
      · rename_i p hp
        exact (hcf.prim f p hp args h v h' hh).1
      · split at hh
        · cases hh
        · split at hh
          · split at hh
            · split at hh
              · rename_i h1
                simp only [Option.map_eq_some_iff, Prod.mk.injEq] at hh
                obtain ⟨_, _, _, rfl⟩ := hh
                exact ihC _ _ _ _ _ _ _ _ h1
              · rename_i h1
                simp only [Option.map_eq_some_iff, Prod.mk.injEq] at hh
                obtain ⟨_, _, _, rfl⟩ := hh
                exact ihC _ _ _ _ _ _ _ _ h1
              · cases hh
            · cases hh
          · cases hh
    · unfold around at hh
      split at hh
      · split at hh
        · split at hh
          · rename_i h1
            split at hh
            · split at hh
              · rename_i h2
                have e1 := ihC _ _ _ _ _ _ _ _ h1
                have e2 := ihC _ _ _ _ _ _ _ _ h2
                rw [AHeap.next_set] at e2
                split at hh
                · split at hh <;> (cases hh; rw [AHeap.next_set]; omega)
                · cases hh
              · cases hh
            · cases hh
          · cases hh
        · cases hh
      · cases hh
end Go.Abs
