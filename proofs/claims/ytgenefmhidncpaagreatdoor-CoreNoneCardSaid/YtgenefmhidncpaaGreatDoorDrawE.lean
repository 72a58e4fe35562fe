/- A region that draws its order, whole. -/
import Derived.Test.YtgenefmhidncpaaGreatDoorDraw
import Derived.OrdersIn
namespace Go.Abs
variable {P : Program}
section
variable {call : ACall} {round : ARound} {ops : Array Oper} {F : Nat → Fr} {H : Nat → AHeap} {ρ₀ : Ren} {w₀ : World} {a₀ : Act} {rw : List (Nat × Nat)}

theorem RInv.full {S : Nat → Prop} {t : Nat} {ρ : Ren} {g : Nat → AObj} {f : Fr} {a : Act} {w : World} (T : Text P call round ops F H) (hc : CallUp call) (hr : RoundUp round)
    (I : RInv P ops F H ρ₀ w₀ a₀ S t ρ g f a w) (hS : ∀ k, k < ops.size → S k) : f = F ops.size ∧ g = (H ops.size).get := by
  refine ⟨List.ext_getElem? fun s => ?_, funext fun b => ?_⟩
  · have hlen : f.length = (F ops.size).length := I.len.trans (T.len ops.size (Nat.le_refl _)).symm
    have hd : f.getD s undef = (F ops.size).getD s undef := by
      rcases exists_max (fun k => ∃ ok, ops[k]? = some ok ∧ ok.dst = some s) ops.size with h | ⟨k, h1, ⟨ok, h2, h3⟩, h4⟩
      · rw [I.slot0 s fun k ok _ ho hd => h k (Array.getElem?_eq_some_iff.1 ho).1 ⟨ok, ho, hd⟩]
        have := T.slot s ops.size 0 (by omega) fun k ok _ hk ho hd => h k (by omega) ⟨ok, ho, hd⟩
        rw [Nat.zero_add] at this
        exact this.symm
      · rw [I.slot1 s k ok (hS k h1) h2 h3 fun k' o' _ ho' hd' => h4 k' (Array.getElem?_eq_some_iff.1 ho').1 ⟨o', ho', hd'⟩]
        have := T.slot s (ops.size - (k + 1)) (k + 1) (by omega) fun k' o' hk1 hk2 ho' hd' => by have := h4 k' (by omega) ⟨o', ho', hd'⟩; omega
        rw [show k + 1 + (ops.size - (k + 1)) = ops.size by omega] at this
        exact this.symm
    by_cases hs : s < f.length
    · rw [List.getD_eq_getElem?_getD, List.getD_eq_getElem?_getD, List.getElem?_eq_getElem hs, List.getElem?_eq_getElem (hlen ▸ hs)] at hd
      simp only [Option.getD_some] at hd
      rw [List.getElem?_eq_getElem hs, List.getElem?_eq_getElem (hlen ▸ hs), hd]
    · rw [List.getElem?_eq_none (Nat.not_lt.1 hs), List.getElem?_eq_none (Nat.not_lt.1 (hlen ▸ hs))]
  · by_cases hb : b < (H ops.size).next
    · refine I.see T hc hr I.tle (Nat.le_refl _) (fun k ok h1 h2 h3 h4 => ?_) hb (.inr (.inr fun k ok _ h2 _ _ => hS k h2))
      have := (I.wpos k ok h3 h4).1 (hS k h2)
      omega
    · have hdead : (g b).alive = false := by
        cases ha : (g b).alive with
        | false => rfl
        | true =>
          have hu := T.up hc hr (ops.size - t) t (by have := I.tle; omega)
          rw [show t + (ops.size - t) = ops.size by have := I.tle; omega] at hu
          obtain ⟨k, k1, k2, k3, k4, k5⟩ := I.hi b (by omega) ha
          have := T.up hc hr (ops.size - (k + 1)) (k + 1) (by omega)
          rw [show k + 1 + (ops.size - (k + 1)) = ops.size by omega] at this
          omega
      have h1 : g b = .dead := by cases hx : g b <;> simp [hx, AObj.alive] at hdead; rfl
      have h2 : (H ops.size).get b = .dead := by
        cases hx : (H ops.size).get b with
        | dead => rfl
        | _ => exact absurd (AHeap.lt_of_alive (h := H ops.size) (b := b) (by rw [hx]; rfl)) hb
      rw [h1, h2]

theorem ready_mem (md : Region.Mode) (ops : Array Oper) (listed : Array Bool) (i : Nat) : i ∈ Region.ready md ops listed ↔ ∃ h : i < ops.size, listed.getD i true = false ∧ ∀ e ∈ ops[i].after, Region.binds md e = true → listed.getD e.on false = true := by
  unfold Region.ready
  simp only [List.mem_filter, List.mem_range, Bool.and_eq_true, Bool.not_eq_true']
  constructor
  · rintro ⟨h1, h2, h3⟩
    refine ⟨h1, h2, fun e he hb => ?_⟩
    rw [Array.getElem?_eq_getElem h1] at h3
    simp only [Option.map_some, Option.getD_some, Array.all_eq_true_iff_forall_mem] at h3
    have := h3 e he
    simpa [hb] using this
  · rintro ⟨h1, h2, h3⟩
    refine ⟨h1, h2, ?_⟩
    rw [Array.getElem?_eq_getElem h1]
    simp only [Option.map_some, Option.getD_some, Array.all_eq_true_iff_forall_mem]
    intro e he
    cases hb : Region.binds md e with
    | false => simp
    | true => simp [h3 e he hb]

theorem ready_nil {md : Region.Mode} (hR : RegOK P rw ops) {listed : Array Bool} (hl : listed.size = ops.size) (h : Region.ready md ops listed = []) : ∀ k, k < ops.size → listed.getD k false = true := by
  obtain ⟨r, hr⟩ := hR.rank md
  have key : ∀ (n k : Nat), r k = n → k < ops.size → listed.getD k false = true := by
    intro n
    induction n using Nat.strongRecOn with
    | _ n ih =>
      intro k hn hk
      cases hv : listed.getD k false with
      | true => rfl
      | false =>
        exfalso
        have : k ∈ Region.ready md ops listed := by
          refine (ready_mem md ops listed k).2 ⟨hk, ?_, fun e he hb => ?_⟩
          · rw [Array.getD_eq_getD_getElem?, Array.getElem?_eq_getElem (by omega)] at hv ⊢
            simpa using hv
          · have := hr k _ (Array.getElem?_eq_getElem hk) e he hb
            exact ih (r e.on) (by omega) e.on rfl this.1
        rw [h] at this
        cases this
  exact fun k hk => key (r k) k rfl hk

theorem getD_set_true (listed : Array Bool) (i k : Nat) (hi : i < listed.size) : (listed.setIfInBounds i true).getD k false = true ↔ (listed.getD k false = true ∨ k = i) := by
  rw [Array.getD_eq_getD_getElem?, Array.getD_eq_getD_getElem?, Array.getElem?_setIfInBounds]
  by_cases e : i = k
  · subst e
    simp [hi]
  · rw [if_neg e]
    simp [Ne.symm e]

theorem draw_go (md : Region.Mode) (hz : ZeroOK P) (hcall : CallSim P call) (hround : RoundSim P round) (hc : CallUp call) (hr : RoundUp round) (ro : Option Nat) {Q : Exit → Act → World → Prop}
    (hR : RegOK P rw ops) (T : Text P call round ops F H) (hrw : RW P ops F H rw)
    (hQ : ∀ a' w', After P ρ₀ (H 0) w₀ a₀ (F ops.size) (H ops.size) a' w' → Q .normal a' w') :
    ∀ (fuel : Nat) (listed : Array Bool) t ρ g f a w, listed.size = ops.size → listed.toList.count false ≤ fuel → RInv P ops F H ρ₀ w₀ a₀ (fun k => listed.getD k false = true) t ρ g f a w →
    wpAnyIn (FW ro) 0 P md ops Q fuel listed a w := by
  have hend : ∀ (listed : Array Bool) t ρ g f a w, (∀ k, k < ops.size → listed.getD k false = true) → RInv P ops F H ρ₀ w₀ a₀ (fun k => listed.getD k false = true) t ρ g f a w → Q .normal a w := by
    intro listed t ρ g f a w hall I
    obtain ⟨h1, h2⟩ := I.full T hc hr hall
    subst h1 h2
    exact hQ a w ⟨ρ, I.frame, I.defers, I.rel, I.step⟩
  intro fuel
  induction fuel with
  | zero =>
    intro listed t ρ g f a w hl hcnt I
    have hall : ∀ k, k < ops.size → listed.getD k false = true := fun k hk => by
      have h0 : listed.toList.count false = 0 := by omega
      rw [List.count_eq_zero] at h0
      rw [Array.getD_eq_getD_getElem?, Array.getElem?_eq_getElem (by omega)]
      cases hv : listed[k]'(by omega) with
      | true => rfl
      | false => exact absurd (Array.mem_toList_iff.2 (hv ▸ Array.getElem_mem _)) h0
    refine ⟨?_, hend listed t ρ g f a w hall I⟩
    cases hrd : Region.ready md ops listed with
    | nil => rfl
    | cons x xs =>
      have : x ∈ Region.ready md ops listed := by rw [hrd]; simp
      obtain ⟨h1, h2, _⟩ := (ready_mem md ops listed x).1 this
      have := hall x h1
      rw [Array.getD_eq_getD_getElem?, Array.getElem?_eq_getElem (by omega)] at this h2
      simp only [Option.getD_some] at this h2
      rw [this] at h2; cases h2
  | succ fuel ih =>
    intro listed t ρ g f a w hl hcnt I
    refine ⟨fun h => hend listed t ρ g f a w (ready_nil hR hl h) I, fun i hi => ?_⟩
    obtain ⟨h1, h2, h3⟩ := (ready_mem md ops listed i).1 hi
    have hil : i < listed.size := by omega
    have hfalse : listed[i] = false := by
      rw [Array.getD_eq_getD_getElem?, Array.getElem?_eq_getElem hil] at h2
      simpa using h2
    have hn : Next ops (fun k => listed.getD k false = true) i := by
      refine ⟨?_, fun o ho e he hb => ?_⟩
      · show ¬ listed.getD i false = true
        rw [Array.getD_eq_getD_getElem?, Array.getElem?_eq_getElem hil]
        simp [hfalse]
      · rw [Array.getElem?_eq_getElem h1] at ho
        cases ho
        exact h3 e he (binds_any hb)
    refine I.next hz hcall hround hc hr ro hR T hrw h1 hn fun t' ρ' g' f' a' w' I' => ?_
    refine ih _ t' ρ' g' f' a' w' (by simp [hl]) ?_ ?_
    · rw [Array.toList_setIfInBounds, List.count_set (by simpa using hil)]
      have he : (listed.toList[i]'(by simpa using hil) == false) = true := by simp [hfalse]
      rw [if_pos he, if_neg (by decide)]
      omega
    · have : (fun k => listed.getD k false = true ∨ k = i) = fun k => (listed.setIfInBounds i true).getD k false = true := funext fun k => propext (getD_set_true listed i k hil).symm
      rwa [this] at I'

theorem region_draw (hz : ZeroOK P) (hcall : CallSim P call) (hround : RoundSim P round) (hc : CallUp call) (hr : RoundUp round) (ro : Option Nat) {id : Nat} {Q : Exit → Act → World → Prop}
    (hR : RegOK P rw ops) (T : Text P call round ops F H) (hrw : RW P ops F H rw) {ρ : Ren} {a : Act} {w : World} (hs : RelS P ρ (H 0).get w) (hF : RelF ρ (F 0) a.tmps) (hfr : Fresh ρ (H 0).next (H ops.size).next)
    (hQ : ∀ a' w', After P ρ (H 0) w a (F ops.size) (H ops.size) a' w' → Q .normal a' w') : (Code.region id ops true).wpIn (FW ro) 0 P Q a w := by
  have hs' : RelS P ρ (H 0).get { w with drawn := w.drawn + 1 } := hs.drawn _
  have hno : ∀ k, ((Array.replicate ops.size false).getD k false = true) = False := fun k => by
    rw [Array.getD_eq_getD_getElem?, Array.getElem?_replicate]
    split <;> simp
  have hup := T.up hc hr ops.size 0 (by omega)
  rw [Nat.zero_add] at hup
  have key : ∀ md, wpAnyIn (FW ro) 0 P md ops Q ops.size (Array.replicate ops.size false) a { w with drawn := w.drawn + 1 } := fun md => by
    refine draw_go (ρ₀ := ρ) (w₀ := w) (a₀ := a) md hz hcall hround hc hr ro hR T hrw hQ ops.size _ 0 ρ (H 0).get (F 0) a _ (by simp) ?_ ⟨by omega, ?_, ?_, .inl rfl, hs', fun _ _ => rfl, ?_, ?_, ?_, hF, rfl, ?_, ?_, rfl, ?_⟩
    · rw [Array.toList_replicate, List.count_replicate]; simp
    · intro j o _ hj; simp only [hno] at hj
    · intro k o _ _
      constructor
      · intro h; simp only [hno] at h
      · intro h; omega
    · intro b hb ha; exact absurd (AHeap.lt_of_alive ha) (by omega)
    · intro k _ _ hk; simp only [hno] at hk
    · intro b h1 h2 _; exact hfr b h1 h2
    · intro s _; rfl
    · intro s k o hk; simp only [hno] at hk
    · exact ⟨rfl, rfl, rfl, Nat.le_refl _, fun _ _ _ => rfl, hup, fun _ _ => rfl, fun b i h1 h2 hb => absurd hb (by rw [hfr b h1 h2]; simp), fun _ _ h => h, fun _ _ h => h⟩
  refine wpIn_region_draw fun t => ?_
  unfold Region.schedule
  split
  · exact wpAnyIn_sound ops.size t _ a _ (key .any)
  · split
    · exact wpAnyIn_sound ops.size (t / 2) _ a _ (key .text)
    · exact wpAnyIn_sound ops.size (t / 2) _ a _ (key .gc)
end
end Go.Abs
