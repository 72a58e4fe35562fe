/- A step beside what has been made ahead of its turn; the run of a region's text, state by state. -/
import Derived.Test.YtgenefmhidncpaaGreatDoorDrawC
namespace Go.Abs
variable {P : Program}

theorem advance {ρ₀ ρ ρ' : Ren} {g₀ g g' a1 a2 : Nat → AObj} {n0 n1 m0 m1 : Nat} {w₀ w w' : World} (hg : RelS P ρ g w) (hst : Step ρ₀ g₀ n0 w₀ ρ g n1 w)
    (hsub : ∀ b, (a1 b).alive = true → g b = a1 b) (hrel : RelS P ρ' a2 w') (hs : Step ρ a1 m0 w ρ' a2 m1 w')
    (hin : ∀ b, m0 ≤ b → b < m1 → n0 ≤ b ∧ b < n1 ∧ (g b).alive = false ∧ ρ b = none)
    (e1 : ∀ b, m0 ≤ b → b < m1 → g' b = a2 b) (e2 : ∀ b, ¬ (m0 ≤ b ∧ b < m1) → (a1 b).alive = true → g' b = a2 b) (e3 : ∀ b, ¬ (m0 ≤ b ∧ b < m1) → (a1 b).alive = false → g' b = g b) :
    RelS P ρ' g' w' ∧ Step ρ₀ g₀ n0 w₀ ρ' g' n1 w' ∧ Ren.le ρ ρ' ∧ ∀ b, ¬ (m0 ≤ b ∧ b < m1) → ρ' b = ρ b := by
  have hout : ∀ b, ¬ (m0 ≤ b ∧ b < m1) → ρ' b = ρ b := fun b hb => hs.out b (by omega)
  have hle : Ren.le ρ ρ' := hs.le_ren fun b h1 h2 => (hin b h1 h2).2.2.2
  have hext : ∀ b i, ¬ (m0 ≤ b ∧ b < m1) → (a1 b).alive = false → (g b).alive = true → ρ b = some i → w'.heap[i.blk]? = w.heap[i.blk]? := fun b i hb ha hga hi =>
    hs.kept i.blk (hg.lt b i hi) fun c j hj hc => hg.inj c b j i (fun e => by subst e; rw [AObj.alive_of_mut hc] at ha; cases ha) (by rw [hsub c (AObj.alive_of_mut hc)]; exact hc) hga hj hi
  -- a block of the step beside one that the step does not know
  have hmix : ∀ b c i j, ((m0 ≤ b ∧ b < m1) ∨ (a1 b).alive = true) → ¬ (m0 ≤ c ∧ c < m1) → (a1 c).alive = false → (g c).alive = true → (a2 b).alive = true → ((a2 b).wr = true ∨ (g c).wr = true) → ρ' b = some i → ρ c = some j → i.blk ≠ j.blk := by
    intro b c i j hb hc hca hgc hba hwr hi hj
    by_cases hr : m0 ≤ b ∧ b < m1
    · rcases hs.new b i hr.1 hr.2 hi with h1 | ⟨b₀, i₀, h1, h2, h3⟩
      · have := hg.lt c j hj; omega
      · rw [← h3]
        exact hg.inj b₀ c i₀ j (fun e => by subst e; rw [AObj.alive_of_mut h2] at hca; cases hca) (by rw [hsub b₀ (AObj.alive_of_mut h2)]; exact h2) hgc h1 hj
    · have hba1 := hb.resolve_left hr
      rw [hout b hr] at hi
      have hne : b ≠ c := fun e => by subst e; rw [hba1] at hca; cases hca
      rcases hwr with hw | hw
      · have := hs.wr b (by omega) hw
        exact hg.inj b c i j hne (by rw [hsub b hba1]; exact this) hgc hi hj
      · exact Ne.symm (hg.inj c b j i (Ne.symm hne) hw (by rw [hsub b hba1]; exact hba1) hj hi)
  have hkind : ∀ b, (((m0 ≤ b ∧ b < m1) ∨ (a1 b).alive = true) ∧ g' b = a2 b) ∨ (¬ (m0 ≤ b ∧ b < m1) ∧ (a1 b).alive = false ∧ g' b = g b) := fun b => by
    by_cases hr : m0 ≤ b ∧ b < m1
    · exact .inl ⟨.inl hr, e1 b hr.1 hr.2⟩
    · cases ha : (a1 b).alive with
      | true => exact .inl ⟨.inr rfl, e2 b hr ha⟩
      | false => exact .inr ⟨hr, rfl, e3 b hr ha⟩
  refine ⟨⟨fun b hb => ?_, hrel.lt, fun b c i j hbc hb hc hi hj => ?_⟩, ?_, hle, hout⟩
  · rcases hkind b with ⟨_, h2⟩ | ⟨h1, h2, h3⟩
    · rw [h2] at hb ⊢; exact hrel.obj b hb
    · rw [h3] at hb ⊢
      obtain ⟨i, hi, hR⟩ := hg.obj b hb
      exact ⟨i, hle _ _ hi, hR.mono hle (hext b i h1 h2 hb hi)⟩
  · rcases hkind b with ⟨hb1, hb2⟩ | ⟨hb1, hb2, hb3⟩ <;> rcases hkind c with ⟨hc1, hc2⟩ | ⟨hc1, hc2, hc3⟩
    · rw [hb2] at hb; rw [hc2] at hc
      exact hrel.inj b c i j hbc hb hc hi hj
    · rw [hb2] at hb; rw [hc3] at hc
      rw [hout c hc1] at hj
      exact hmix b c i j hb1 hc1 hc2 hc (AObj.alive_of_mut hb) (.inl hb) hi hj
    · rw [hb3] at hb; rw [hc2] at hc
      rw [hout b hb1] at hi
      exact Ne.symm (hmix c b j i hc1 hb1 hb2 (AObj.alive_of_mut hb) hc (.inr hb) hj hi)
    · rw [hb3] at hb; rw [hc3] at hc
      rw [hout b hb1] at hi; rw [hout c hc1] at hj
      exact hg.inj b c i j hbc hb hc hi hj
  · refine ⟨hs.os.trans hst.os, hs.tape.trans hst.tape, hs.output.trans hst.output, Nat.le_trans hst.size hs.size, fun c hc hn => ?_, hst.le, fun b hb => ?_, fun b i h1 h2 hi => ?_, fun b hb ha => ?_, fun b hb ha => ?_⟩
    · rw [hs.kept c (Nat.lt_of_lt_of_le hc hst.size) fun b i hi hw => ?_, hst.kept c hc hn]
      have hgw : (g b).wr = true := by rw [hsub b (AObj.alive_of_mut hw)]; exact hw
      by_cases hr : n0 ≤ b ∧ b < n1
      · rcases hst.new b i hr.1 hr.2 hi with h1 | ⟨b₀, i₀, h1, h2, h3⟩
        · omega
        · rw [← h3]; exact hn b₀ i₀ h1 h2
      · exact hn b i (by rw [← hst.out b (by omega)]; exact hi) (hst.wr b (by omega) hgw)
    · rw [hout b (fun h => by have := hin b h.1 h.2; omega), hst.out b hb]
    · by_cases hr : m0 ≤ b ∧ b < m1
      · rcases hs.new b i hr.1 hr.2 hi with h3 | ⟨b₀, i₀, h3, h4, h5⟩
        · exact .inl (Nat.le_trans hst.size h3)
        · have hgw : (g b₀).wr = true := by rw [hsub b₀ (AObj.alive_of_mut h4)]; exact h4
          by_cases hr2 : n0 ≤ b₀ ∧ b₀ < n1
          · rcases hst.new b₀ i₀ hr2.1 hr2.2 h3 with h6 | ⟨b₁, i₁, h6, h7, h8⟩
            · exact .inl (h5 ▸ h6)
            · exact .inr ⟨b₁, i₁, h6, h7, h8.trans h5⟩
          · exact .inr ⟨b₀, i₀, by rw [← hst.out b₀ (by omega)]; exact h3, hst.wr b₀ (by omega) hgw, h5⟩
      · rw [hout b hr] at hi
        exact hst.new b i h1 h2 hi
    · have hr : ¬ (m0 ≤ b ∧ b < m1) := fun h => by have := hin b h.1 h.2; omega
      rcases hkind b with ⟨h1, h2⟩ | ⟨_, _, h3⟩
      · have h1 := h1.resolve_left hr
        exact hst.alive b hb (by rw [hsub b h1]; exact h1)
      · rw [h3] at ha; exact hst.alive b hb ha
    · have hr : ¬ (m0 ≤ b ∧ b < m1) := fun h => by have := hin b h.1 h.2; omega
      rcases hkind b with ⟨h1, h2⟩ | ⟨_, _, h3⟩
      · have h1 := h1.resolve_left hr
        rw [h2] at ha
        exact hst.wr b hb (by rw [hsub b h1]; exact hs.wr b (by omega) ha)
      · rw [h3] at ha; exact hst.wr b hb ha

/-! ### the text, state by state -/
/-- The states of a region's text. -/
structure Text (P : Program) (call : ACall) (round : ARound) (ops : Array Oper) (F : Nat → Fr) (H : Nat → AHeap) : Prop where
  step : ∀ m o, ops[m]? = some o → aone P call round ops o (F m) (H m) = some (F (m + 1), H (m + 1))

theorem aops_text {call : ACall} {round : ARound} {ops : Array Oper} : ∀ (n k : Nat), k + n = ops.size → ∀ (fr fr' : Fr) (h h' : AHeap), aops P call round ops (ops.toList.drop k) fr h = some (fr', h') →
    ∃ (F : Nat → Fr) (H : Nat → AHeap), F k = fr ∧ H k = h ∧ F (k + n) = fr' ∧ H (k + n) = h' ∧ ∀ m o, k ≤ m → ops[m]? = some o → aone P call round ops o (F m) (H m) = some (F (m + 1), H (m + 1)) := by
  intro n
  induction n with
  | zero =>
    intro k hk fr fr' h h' hops
    rw [List.drop_of_length_le (by simp; omega)] at hops
    cases hops
    exact ⟨fun _ => fr, fun _ => h, rfl, rfl, rfl, rfl, fun m o hm ho => by have := (Array.getElem?_eq_some_iff.1 ho).1; omega⟩
  | succ n ih =>
    intro k hk fr fr' h h' hops
    have hlt : k < ops.size := by omega
    rw [List.drop_eq_getElem_cons (by simpa using hlt)] at hops
    unfold aops at hops
    split at hops
    · rename_i fr₁ h₁ h1
      obtain ⟨F, H, hF, hH, hF', hH', hst⟩ := ih (k + 1) (by omega) _ _ _ _ hops
      refine ⟨fun m => if m = k then fr else F m, fun m => if m = k then h else H m, by simp, by simp, ?_, ?_, fun m o hm ho => ?_⟩
      · dsimp only; rw [if_neg (by omega), ← hF']; congr 1; omega
      · dsimp only; rw [if_neg (by omega), ← hH']; congr 1; omega
      · dsimp only
        by_cases e : m = k
        · subst e
          rw [if_pos rfl, if_pos rfl, if_neg (by omega), if_neg (by omega), hF, hH]
          rw [Array.getElem?_eq_getElem hlt] at ho
          cases ho
          simpa using h1
        · rw [if_neg e, if_neg e, if_neg (by omega), if_neg (by omega)]
          exact hst m o (by omega) ho
    · cases hops

theorem aops_text0 {call : ACall} {round : ARound} {ops : Array Oper} {fr fr' : Fr} {h h' : AHeap} (hops : aops P call round ops ops.toList fr h = some (fr', h')) :
    ∃ F H, F 0 = fr ∧ H 0 = h ∧ F ops.size = fr' ∧ H ops.size = h' ∧ Text P call round ops F H := by
  obtain ⟨F, H, h1, h2, h3, h4, h5⟩ := aops_text (P := P) (call := call) (round := round) (ops := ops) ops.size 0 (by simp) fr fr' h h' (by simpa using hops)
  exact ⟨F, H, h1, h2, by simpa using h3, by simpa using h4, ⟨fun m o ho => h5 m o (Nat.zero_le _) ho⟩⟩

section
variable {call : ACall} {round : ARound} {ops : Array Oper} {F : Nat → Fr} {H : Nat → AHeap}

theorem Text.frame (T : Text P call round ops F H) {m : Nat} {o : Oper} (ho : ops[m]? = some o) : ∃ v, F (m + 1) = fput (F m) o.dst v := by
  have := T.step m o ho
  unfold aone at this
  split at this
  · split at this
    · simp only [Option.some.injEq, Prod.mk.injEq] at this; exact ⟨_, this.1.symm⟩
    · simp only [Option.map_eq_some_iff, Prod.mk.injEq] at this
      obtain ⟨x, _, h1, _⟩ := this; exact ⟨_, h1.symm⟩
    · simp only [Option.map_eq_some_iff, Prod.mk.injEq] at this
      obtain ⟨x, _, h1, _⟩ := this; exact ⟨_, h1.symm⟩
    · cases this
  · simp only [Option.some.injEq, Prod.mk.injEq] at this; exact ⟨_, this.1.symm⟩

theorem fput_len (f : Fr) (d : Option Tmp) (v : Value) : (fput f d v).length = f.length := by cases d <;> simp [fput]
theorem fput_other (f : Fr) (d : Option Tmp) (v : Value) (s : Tmp) (hs : d ≠ some s) : (fput f d v).getD s undef = f.getD s undef := by
  cases d with
  | none => rfl
  | some d =>
    rw [fput, List.getD_eq_getElem?_getD, List.getElem?_set_ne (fun e => hs (by rw [e])), ← List.getD_eq_getElem?_getD]
theorem fput_same (f f' : Fr) (hl : f.length = f'.length) (s : Tmp) (v : Value) : (fput f (some s) v).getD s undef = (fput f' (some s) v).getD s undef := by
  simp only [fput, List.getD_eq_getElem?_getD, List.getElem?_set, if_true, hl]

theorem Text.len (T : Text P call round ops F H) : ∀ m, m ≤ ops.size → (F m).length = (F 0).length
  | 0, _ => rfl
  | m + 1, h => by
    obtain ⟨v, hv⟩ := T.frame (Array.getElem?_eq_getElem (show m < ops.size by omega))
    rw [hv, fput_len]
    exact T.len m (by omega)

theorem Text.slot (T : Text P call round ops F H) (s : Tmp) : ∀ n m, m + n ≤ ops.size → (∀ k o, m ≤ k → k < m + n → ops[k]? = some o → o.dst ≠ some s) → (F (m + n)).getD s undef = (F m).getD s undef
  | 0, _, _, _ => rfl
  | n + 1, m, hm, hk => by
    have hlt : m + n < ops.size := by omega
    obtain ⟨v, hv⟩ := T.frame (Array.getElem?_eq_getElem hlt)
    rw [← Nat.add_assoc, hv, fput_other _ _ _ _ (hk (m + n) _ (by omega) (by omega) (Array.getElem?_eq_getElem hlt))]
    exact T.slot s n m (by omega) fun k o h1 h2 h3 => hk k o h1 (by omega) h3

theorem Text.up (T : Text P call round ops F H) (hc : CallUp call) (hr : RoundUp round) : ∀ n m, m + n ≤ ops.size → (H m).next ≤ (H (m + n)).next
  | 0, _, _ => Nat.le_refl _
  | n + 1, m, hm => Nat.le_trans (T.up hc hr n m (by omega)) (aone_up hc hr (T.step (m + n) _ (Array.getElem?_eq_getElem (show m + n < ops.size by omega))))

/-- What an operation that is none of the loud ones does to the heap. -/
theorem Text.quiet (T : Text P call round ops F H) {m : Nat} {o : Oper} (ho : ops[m]? = some o) (hw : cls P o.op ≠ .w) : H (m + 1) = H m ∨ (cls P o.op = .n ∧ ∃ ob, ob.alive = true ∧ H (m + 1) = (H m).push ob) := by
  have := T.step m o ho
  unfold aone at this
  split at this
  · split at this
    · rename_i v h₁ hop
      simp only [Option.some.injEq, Prod.mk.injEq] at this
      obtain ⟨_, rfl⟩ := this
      cases hcl : cls P o.op with
      | q => exact .inl (aop_q hcl hop).1
      | r => exact .inl (aop_r hcl hop).1
      | n => obtain ⟨ob, h0, h1, _⟩ := aop_n hcl hop; exact .inr ⟨rfl, ob, h0, h1⟩
      | w => exact absurd hcl hw
    · rename_i f args hop
      obtain ⟨_, _, e⟩ := cls_val hw hop; cases e
    · rename_i l args hop
      obtain ⟨_, _, e⟩ := cls_val hw hop; cases e
    · cases this
  · simp only [Option.some.injEq, Prod.mk.injEq] at this; exact .inl this.2.symm

theorem Text.stay (T : Text P call round ops F H) : ∀ n m, m + n ≤ ops.size → (∀ k o, m ≤ k → k < m + n → ops[k]? = some o → cls P o.op ≠ .w) → ∀ b, b < (H m).next → (H m).next ≤ (H (m + n)).next ∧ (H (m + n)).get b = (H m).get b
  | 0, _, _, _, _, _ => ⟨Nat.le_refl _, rfl⟩
  | n + 1, m, hm, hk, b, hb => by
    have hlt : m + n < ops.size := by omega
    obtain ⟨h1, h2⟩ := T.stay n m (by omega) (fun k o h1 h2 h3 => hk k o h1 (by omega) h3) b hb
    rcases T.quiet (Array.getElem?_eq_getElem hlt) (hk (m + n) _ (by omega) (by omega) (Array.getElem?_eq_getElem hlt)) with h3 | ⟨_, ob, _, h3⟩
    · rw [← Nat.add_assoc, h3]; exact ⟨h1, h2⟩
    · rw [← Nat.add_assoc, h3]
      exact ⟨by simp; omega, by rw [AHeap.get_push_ne _ _ (by omega)]; exact h2⟩

/-- Who made a name between two moments. -/
theorem Text.maker (T : Text P call round ops F H) (b : Nat) : ∀ n m, m + n ≤ ops.size → (∀ k o, m ≤ k → k < m + n → ops[k]? = some o → cls P o.op ≠ .w) → (H m).next ≤ b → b < (H (m + n)).next →
    ∃ k, m ≤ k ∧ k < m + n ∧ (H k).next = b ∧ (H (k + 1)).next = b + 1
  | 0, _, _, _, h1, h2 => by simp at h2; omega
  | n + 1, m, hm, hk, h1, h2 => by
    have hlt : m + n < ops.size := by omega
    by_cases hb : b < (H (m + n)).next
    · obtain ⟨k, h3, h4, h5⟩ := T.maker b n m (by omega) (fun k o h1 h2 h3 => hk k o h1 (by omega) h3) h1 hb
      exact ⟨k, h3, by omega, h5⟩
    · refine ⟨m + n, by omega, by omega, ?_⟩
      rcases T.quiet (Array.getElem?_eq_getElem hlt) (hk (m + n) _ (by omega) (by omega) (Array.getElem?_eq_getElem hlt)) with h3 | ⟨_, ob, _, h3⟩
      · rw [← Nat.add_assoc, h3] at h2; omega
      · rw [← Nat.add_assoc, h3] at h2
        rw [h3]
        simp at h2 ⊢; omega
end
end Go.Abs
