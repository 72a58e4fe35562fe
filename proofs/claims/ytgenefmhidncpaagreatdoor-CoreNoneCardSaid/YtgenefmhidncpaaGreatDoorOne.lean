/- One operation of a region, calls and rounds by what is known of them; a region whose order is fixed. -/
import Derived.Test.YtgenefmhidncpaaGreatDoorOp
import Derived.OrdersIn
namespace Go.Abs
variable {P : Program} {ρ : Ren} {h : AHeap} {w : World} {fr : Fr} {a : Act}

/-- The fence that lets all in, in a round or in none. -/
def FW (ro : Option Nat) : Fence := { Fence.wide with round := ro }

def CallOK (P : Program) (f : FuncId) (args : Array Value) (w : World) (R : Value → World → Prop) : Prop :=
  match (callFunc f args).run P w with
  | .ok (.value v) w' => R v w'
  | .ok (.enter g as) w' => CallsIn Fence.wide 0 P g as w' fun e w'' => ∃ v, e = .returned v ∧ R v w''
  | _ => False

def RoundOK (P : Program) (l : Nat) (args : Array Value) (w : World) (R : Value → World → Prop) : Prop :=
  match (Instr.yield l args).run P w with
  | .ok (.round l' f tmps as bd) w' => RoundIn Fence.wide 0 P l' f tmps as bd w' fun e w'' => ∃ v, e = .returned v ∧ R v w''
  | _ => False

abbrev ACall := FuncId → List Value → AHeap → Option (Value × AHeap)
abbrev ARound := Nat → List Value → AHeap → Option (Value × AHeap)

/-- What is reached. -/
def Reach (P : Program) (ρ : Ren) (h : AHeap) (w : World) (v : Value) (h' : AHeap) (v' : Value) (w' : World) : Prop :=
  ∃ ρ', RelV ρ' v v' ∧ RelS P ρ' h'.get w' ∧ Step ρ h.get h.next w ρ' h'.get h'.next w'

def CallSim (P : Program) (call : ACall) : Prop := ∀ f args h v h' ρ w (args' : List Value), call f args h = some (v, h') → RelS P ρ h.get w → Fresh ρ h.next h'.next → Pw (RelV ρ) args args' → CallOK P f args'.toArray w (Reach P ρ h w v h')
def RoundSim (P : Program) (round : ARound) : Prop := ∀ l args h v h' ρ w (args' : List Value) (i : BI), round l args h = some (v, h') → RelS P ρ h.get w → Fresh ρ h.next h'.next → Pw (RelV ρ) args args' → ρ l = some i → RoundOK P i.blk args'.toArray w (Reach P ρ h w v h')

/-- A state of a region: the frame, the heap, tied to an activation and a world that some steps have come to. -/
def After (P : Program) (ρ : Ren) (h : AHeap) (w : World) (a : Act) (fr' : Fr) (h' : AHeap) (a' : Act) (w' : World) : Prop :=
  ∃ ρ', RelF ρ' fr' a'.tmps ∧ a'.defers = a.defers ∧ RelS P ρ' h'.get w' ∧ Step ρ h.get h.next w ρ' h'.get h'.next w'

theorem FW_about (ro : Option Nat) (o : Oper) (w : World) (ρ : Operand → Value) : ∀ f, o.about P w ρ = some f → (FW ro).fn f := fun _ _ => trivial
theorem FW_depth (ro : Option Nat) (n : Nat) : (FW ro).depth.isSome = true → 1 ≤ n := fun h => by simp [FW, Fence.wide] at h

theorem aop_not_defer {o : Oper} {st : AStep} (hop : aop P fr h o = some st) : ∀ c, o.op ≠ .defer c := by
  intro c hc
  unfold aop at hop
  split at hop
  · cases hop
  · simp [hc] at hop

theorem put_defers (a : Act) (d : Option Tmp) (v : Value) : (a.put d v).defers = a.defers := by cases d <;> rfl

/-- One operation. -/
theorem aone_sim (hz : ZeroOK P) {call : ACall} {round : ARound} (hcall : CallSim P call) (hround : RoundSim P round) (ro : Option Nat) {ops : Array Oper} {i : Nat} {o : Oper} (hi : ops[i]? = some o) {Q : Exit → Act → World → Prop} {K : Act → World → Prop}
    (hs : RelS P ρ h.get w) (hF : RelF ρ fr a.tmps) {fr' : Fr} {h' : AHeap} (hone : aone P call round ops o fr h = some (fr', h')) (hfr : Fresh ρ h.next h'.next)
    (hK : ∀ a' w', After P ρ h w a fr' h' a' w' → K a' w') : wpOpIn (FW ro) 0 P ops Q i K a w := by
  unfold wpOpIn
  simp only [hi, awanted_eq hF]
  unfold aone at hone
  split at hone
  · rename_i hw
    rw [if_pos hw]
    refine ⟨FW_about ro o w _, ?_⟩
    split at hone
    · rename_i v h₁ hop
      cases hone
      rw [Oper.semAt_eq _ _ _ (aop_not_defer hop)]
      obtain ⟨ρ', v', nx, w', hr, hnx, hv, hs', hst⟩ := aop_val hz hs hF hop hfr
      rw [hr]
      have hle := hst.le_ren hfr
      rcases hnx with rfl | ⟨rfl, rfl⟩
      · exact hK _ _ ⟨ρ', RelF.put (hF.mono hle) o.dst hv, put_defers _ _ _, hs', hst⟩
      · exact hK _ _ ⟨ρ', RelF.put (hF.mono hle) o.dst hv, put_defers _ _ _, hs', hst⟩
    · rename_i f args hop
      rw [Oper.semAt_eq _ _ _ (aop_not_defer hop)]
      simp only [Option.map_eq_some_iff, Prod.mk.injEq] at hone
      obtain ⟨⟨v, h₁⟩, hc, rfl, rfl⟩ := hone
      obtain ⟨args', hp, hr⟩ := aop_call (P := P) hF hop
      rw [hr]
      have hok := hcall f args h v h₁ ρ w args' hc hs hfr hp
      unfold CallOK at hok
      have hfin : ∀ v' w', Reach P ρ h w v h₁ v' w' → K (a.put o.dst v') w' := fun v' w' ⟨ρ', hv, hs', hst⟩ =>
        hK _ _ ⟨ρ', RelF.put (hF.mono (hst.le_ren hfr)) o.dst hv, put_defers _ _ _, hs', hst⟩
      split at hok
      · rename_i v' w' hrun
        rw [hrun]
        exact hfin v' w' hok
      · rename_i g as w' hrun
        rw [hrun, Oper.uponIn_enter]
        refine ⟨FW_depth ro _, ?_⟩
        have hok' : CallsIn (FW ro) (0 - 1) P g as w' (fun e w'' => ∃ v', e = .returned v' ∧ Reach P ρ h w v h₁ v' w'') := hok
        refine CallsIn.mono hok' ?_
        rintro e w'' ⟨v', rfl, hr'⟩
        exact hfin v' w'' hr'
      · exact hok.elim
    · rename_i l args hop
      rw [Oper.semAt_eq _ _ _ (aop_not_defer hop)]
      simp only [Option.map_eq_some_iff, Prod.mk.injEq] at hone
      obtain ⟨⟨v, h₁⟩, hc, rfl, rfl⟩ := hone
      obtain ⟨ib, args', hib, hp, hr⟩ := aop_round (P := P) hF hop
      rw [hr]
      have hok := hround l args h v h₁ ρ w args' ib hc hs hfr hp hib
      unfold RoundOK at hok
      have hfin : ∀ v' w', Reach P ρ h w v h₁ v' w' → K (a.put o.dst v') w' := fun v' w' ⟨ρ', hv, hs', hst⟩ =>
        hK _ _ ⟨ρ', RelF.put (hF.mono (hst.le_ren hfr)) o.dst hv, put_defers _ _ _, hs', hst⟩
      split at hok
      · rename_i l' f tmps as bd w' hrun
        rw [hrun, Oper.uponIn_round]
        refine ⟨FW_depth ro _, ?_⟩
        have hok' : RoundIn (FW ro) (0 - 1) P l' f tmps as bd w' (fun e w'' => ∃ v', e = .returned v' ∧ Reach P ρ h w v h₁ v' w'') := hok
        refine RoundIn.mono hok' ?_
        rintro e w'' ⟨v', rfl, hr'⟩
        exact hfin v' w'' hr'
      · exact hok.elim
    · cases hone
  · rename_i hw
    cases hone
    rw [if_neg (by simpa using hw)]
    exact ⟨FW_about ro o w _, hK _ _ ⟨ρ, RelF.put hF o.dst (relV_undef ρ), put_defers _ _ _, hs, Step.refl _ _ _ _⟩⟩
/-- A heap's names only grow: asked of calls and rounds. -/
def CallUp (call : ACall) : Prop := ∀ f args h v h', call f args h = some (v, h') → h.next ≤ h'.next
def RoundUp (round : ARound) : Prop := ∀ l args h v h', round l args h = some (v, h') → h.next ≤ h'.next

theorem aput_next {ad : Addr} {vs : List Value} {h' : AHeap} (hp : aput h ad vs = some h') : h'.next = h.next := by
  unfold aput at hp
  repeat' (split at hp)
  all_goals (first | (cases hp; done) | (cases hp; rfl))

theorem abuildSlice_up {t : TypeId} {len : Nat} {parts : List (Nat × Value)} {v : Value} {h' : AHeap} (hb : abuildSlice P h t len parts = some (v, h')) : h.next ≤ h'.next := by
  unfold abuildSlice at hb
  repeat' (split at hb)
  all_goals (first | (cases hb; done) | (cases hb; simp))

theorem amakeSlice_up {t : TypeId} {l c v : Value} {h' : AHeap} (hb : amakeSlice P h t l c = some (v, h')) : h.next ≤ h'.next := by
  unfold amakeSlice at hb
  repeat' (split at hb)
  all_goals (first | (cases hb; done) | (cases hb; simp))

theorem amapUpdate_up {t : TypeId} {m k v : Value} {h' : AHeap} (hb : amapUpdate P h t m k v = some h') : h'.next = h.next := by
  unfold amapUpdate at hb
  repeat' (split at hb)
  all_goals (first | (cases hb; done) | (cases hb; rfl))

theorem astore_up {t : TypeId} {v ad : Value} {h' : AHeap} (hb : astore P h t v ad = some h') : h'.next = h.next := by
  unfold astore at hb
  repeat' (split at hb)
  all_goals (first | (cases hb; done) | exact aput_next hb)

theorem aconvert_up {o : Oper} {s d : TypeId} {x v : Value} {h' : AHeap} (hb : aconvert P h fr o s d x = some (v, h')) : h.next ≤ h'.next := by
  unfold aconvert at hb
  repeat' (split at hb)
  all_goals (first | (cases hb; done) | (cases hb; simp; done) | (simp only [Option.map_eq_some_iff, Prod.mk.injEq] at hb; obtain ⟨_, _, _, rfl⟩ := hb; exact Nat.le_refl _))

theorem acopy_up {ts : Array TypeId} {d x v : Value} {h' : AHeap} (hb : acopy P h ts d x = some (v, h')) : h.next ≤ h'.next := by
  unfold acopy at hb
  simp only at hb
  repeat' (split at hb)
  all_goals (first | (cases hb; done) | (cases hb; simp; done) | (simp only [Option.map_eq_some_iff, Prod.mk.injEq] at hb; obtain ⟨_, hp, _, rfl⟩ := hb; rw [aput_next hp]; exact Nat.le_refl _))

theorem aclear_up {ts : Array TypeId} {x v : Value} {h' : AHeap} (hb : aclear P h ts x = some (v, h')) : h.next ≤ h'.next := by
  unfold aclear at hb
  repeat' (split at hb)
  all_goals (first | (cases hb; done) | (cases hb; simp; done) | (simp only [Option.map_eq_some_iff, Prod.mk.injEq] at hb; obtain ⟨_, hp, _, rfl⟩ := hb; rw [aput_next hp]; exact Nat.le_refl _))

theorem aappend_up {ts : Array TypeId} {x y v : Value} {h' : AHeap} (hb : aappend P h ts x y = some (v, h')) : h.next ≤ h'.next := by
  unfold aappend at hb
  simp only at hb
  repeat' (split at hb)
  all_goals (first | (cases hb; done) | (cases hb; simp; done) | (simp only [Option.map_eq_some_iff, Prod.mk.injEq] at hb; obtain ⟨_, hp, _, rfl⟩ := hb; rw [aput_next hp]; exact Nat.le_refl _))

theorem some1_up {x : Option Value} {v : Value} {h' : AHeap} (hb : some1 h x = some (.val v h')) : h' = h := by
  simp only [some1, Option.map_eq_some_iff, AStep.val.injEq] at hb
  obtain ⟨_, _, _, rfl⟩ := hb; rfl
theorem some2_up {x : Option (Value × AHeap)} {v : Value} {h' : AHeap} (hb : some2 x = some (.val v h')) : x = some (v, h') := by
  simp only [some2, Option.map_eq_some_iff, AStep.val.injEq] at hb
  obtain ⟨⟨_, _⟩, hx, rfl, rfl⟩ := hb; exact hx
theorem some3_up {x : Option AHeap} {v : Value} {h' : AHeap} (hb : some3 x = some (.val v h')) : x = some h' ∧ v = undef := by
  simp only [some3, Option.map_eq_some_iff, AStep.val.injEq] at hb
  obtain ⟨_, hx, rfl, rfl⟩ := hb; exact ⟨hx, rfl⟩

theorem abuiltin_up {o : Oper} {b : Builtin} {ts : Array TypeId} {args : List Value} {v : Value} {h' : AHeap} (hb : abuiltin P fr h o b ts args = some (.val v h')) : h.next ≤ h'.next := by
  unfold abuiltin at hb
  split at hb
  · exact aappend_up (some2_up hb)
  · rw [some1_up hb]; exact Nat.le_refl _
  · exact aclear_up (some2_up hb)
  · exact acopy_up (some2_up hb)
  · rw [some1_up hb]; exact Nat.le_refl _
  · rw [some1_up hb]; exact Nat.le_refl _
  · rw [some1_up hb]; exact Nat.le_refl _
  · cases hb

theorem aop_up {o : Oper} {v : Value} {h' : AHeap} (hop : aop P fr h o = some (.val v h')) : h.next ≤ h'.next := by
  have same : ∀ {x : Value}, some (AStep.val x h) = some (.val v h') → h.next ≤ h'.next := fun e => by cases e; exact Nat.le_refl _
  unfold aop at hop
  split at hop
  · cases hop
  · split at hop
    · exact same hop
    · exact same hop
    · split at hop
      · exact same hop
      · cases hop
    · simp only [Option.map_eq_some_iff, AStep.val.injEq] at hop
      obtain ⟨_, _, _, rfl⟩ := hop; simp
    · cases hop; simp
    · rw [some1_up hop]; exact Nat.le_refl _
    · exact abuildSlice_up (some2_up hop)
    · rw [some1_up hop]; exact Nat.le_refl _
    · rw [astore_up (some3_up hop).1]; exact Nat.le_refl _
    · split at hop
      · exact same hop
      · cases hop
    · rw [some1_up hop]; exact Nat.le_refl _
    · rw [some1_up hop]; exact Nat.le_refl _
    · exact aconvert_up (some2_up hop)
    · exact same hop
    · split at hop
      · cases hop; simp
      · cases hop
    · exact amakeSlice_up (some2_up hop)
    · split at hop
      · rw [some1_up hop]; exact Nat.le_refl _
      · rw [some1_up hop]; exact Nat.le_refl _
    · rw [some1_up hop]; exact Nat.le_refl _
    · rw [some1_up hop]; exact Nat.le_refl _
    · rw [some1_up hop]; exact Nat.le_refl _
    · rw [some1_up hop]; exact Nat.le_refl _
    · rw [some1_up hop]; exact Nat.le_refl _
    · rw [amapUpdate_up (some3_up hop).1]; exact Nat.le_refl _
    · rw [amapUpdate_up (some3_up hop).1]; exact Nat.le_refl _
    · split at hop
      · rw [some1_up hop]; exact Nat.le_refl _
      · cases hop
    · split at hop
      · exact abuiltin_up hop
      · split at hop
        · cases hop
        · split at hop <;> cases hop
        · cases hop
      · cases hop
    · cases hop

theorem aone_up {call : ACall} {round : ARound} (hc : CallUp call) (hr : RoundUp round) {ops : Array Oper} {o : Oper} {fr' : Fr} {h' : AHeap} (hone : aone P call round ops o fr h = some (fr', h')) : h.next ≤ h'.next := by
  unfold aone at hone
  split at hone
  · split at hone
    · rename_i hop
      cases hone
      exact aop_up hop
    · simp only [Option.map_eq_some_iff, Prod.mk.injEq] at hone
      obtain ⟨⟨v, h₁⟩, h1, _, rfl⟩ := hone
      exact hc _ _ _ _ _ h1
    · simp only [Option.map_eq_some_iff, Prod.mk.injEq] at hone
      obtain ⟨⟨v, h₁⟩, h1, _, rfl⟩ := hone
      exact hr _ _ _ _ _ h1
    · cases hone
  · cases hone; exact Nat.le_refl _

theorem aops_up {call : ACall} {round : ARound} (hc : CallUp call) (hr : RoundUp round) {ops : Array Oper} : ∀ (os : List Oper) (fr fr' : Fr) (h h' : AHeap), aops P call round ops os fr h = some (fr', h') → h.next ≤ h'.next
  | [], fr, fr', h, h', e => by cases e; exact Nat.le_refl _
  | o :: os, fr, fr', h, h', e => by
    unfold aops at e
    split at e
    · rename_i fr₁ h₁ h1
      exact Nat.le_trans (aone_up hc hr h1) (aops_up hc hr os _ _ _ _ e)
    · cases e

/-- A region whose order is fixed. -/
theorem wpOpsIn_list (hz : ZeroOK P) {call : ACall} {round : ARound} (hcall : CallSim P call) (hround : RoundSim P round) (hc : CallUp call) (hr : RoundUp round) (ro : Option Nat) {ops : Array Oper} {Q : Exit → Act → World → Prop} :
    ∀ (n k : Nat), k + n = ops.size → ∀ (ρ : Ren) (fr fr' : Fr) (h h' : AHeap) (a : Act) (w : World), aops P call round ops (ops.toList.drop k) fr h = some (fr', h') → RelS P ρ h.get w → RelF ρ fr a.tmps → Fresh ρ h.next h'.next →
    (∀ a' w', After P ρ h w a fr' h' a' w' → Q .normal a' w') → wpOpsIn (FW ro) 0 P ops Q (List.range' k n) a w := by
  intro n
  induction n with
  | zero =>
    intro k hk ρ fr fr' h h' a w hops hs hF hfr hQ
    rw [List.drop_of_length_le (by simp; omega)] at hops
    cases hops
    exact hQ _ _ ⟨ρ, hF, rfl, hs, Step.refl _ _ _ _⟩
  | succ n ih =>
    intro k hk ρ fr fr' h h' a w hops hs hF hfr hQ
    have hlt : k < ops.size := by omega
    have hget : ops[k]? = some ops[k] := Array.getElem?_eq_getElem hlt
    rw [List.drop_eq_getElem_cons (by simpa using hlt)] at hops
    unfold aops at hops
    split at hops
    · rename_i fr₁ h₁ h1
      rw [List.range'_succ, wpOpsIn_cons]
      rw [Array.getElem_toList] at h1
      have hup1 := aone_up hc hr h1
      have hup2 := aops_up hc hr _ _ _ _ _ hops
      refine aone_sim hz hcall hround ro hget hs hF h1 (hfr.sub (Nat.le_refl _) hup2) ?_
      rintro a₁ w₁ ⟨ρ₁, hF₁, hd₁, hs₁, hst₁⟩
      refine ih (k + 1) (by omega) ρ₁ fr₁ fr' h₁ h' a₁ w₁ hops hs₁ hF₁ (hst₁.fresh hfr) ?_
      rintro a₂ w₂ ⟨ρ₂, hF₂, hd₂, hs₂, hst₂⟩
      exact hQ _ _ ⟨ρ₂, hF₂, hd₂.trans hd₁, hs₂, hst₁.trans hst₂⟩
    · cases hops

theorem region_fixed (hz : ZeroOK P) {call : ACall} {round : ARound} (hcall : CallSim P call) (hround : RoundSim P round) (hc : CallUp call) (hr : RoundUp round) (ro : Option Nat) {id : Nat} {ops : Array Oper} {Q : Exit → Act → World → Prop}
    {fr' : Fr} {h' : AHeap} (hops : aops P call round ops ops.toList fr h = some (fr', h')) (hs : RelS P ρ h.get w) (hF : RelF ρ fr a.tmps) (hfr : Fresh ρ h.next h'.next)
    (hQ : ∀ a' w', After P ρ h w a fr' h' a' w' → Q .normal a' w') : (Code.region id ops false).wpIn (FW ro) 0 P Q a w := by
  refine wpIn_region ?_
  rw [List.range_eq_range']
  exact wpOpsIn_list hz hcall hround hc hr ro ops.size 0 (by simp) ρ fr fr' h h' a w (by simpa using hops) hs hF hfr hQ
end Go.Abs
