/- A region that draws its order: whatever order comes, it ends as the text does. -/
import Derived.Test.YtgenefmhidncpaaGreatDoorDrawD
namespace Go.Abs
variable {P : Program}

theorem exists_max (p : Nat → Prop) : ∀ n, (∀ k, k < n → ¬ p k) ∨ ∃ k, k < n ∧ p k ∧ ∀ k', k' < n → p k' → k' ≤ k
  | 0 => .inl fun k h => absurd h (Nat.not_lt_zero _)
  | n + 1 => by
    by_cases hp : p n
    · exact .inr ⟨n, by omega, hp, fun k' h _ => by omega⟩
    · rcases exists_max p n with h | ⟨k, h1, h2, h3⟩
      · exact .inl fun k hk => by
          by_cases e : k = n
          · subst e; exact hp
          · exact h k (by omega)
      · exact .inr ⟨k, by omega, h2, fun k' hk hk' => by
          by_cases e : k' = n
          · subst e; exact absurd hk' hp
          · exact h3 k' (by omega) hk'⟩

theorem exists_min (p : Nat → Prop) (n : Nat) : (∀ k, k < n → ¬ p k) ∨ ∃ k, k < n ∧ p k ∧ ∀ k', k' < k → ¬ p k' := by
  induction n with
  | zero => exact .inl fun k h => absurd h (Nat.not_lt_zero _)
  | succ n ih =>
    rcases ih with h | ⟨k, h1, h2, h3⟩
    · by_cases hp : p n
      · exact .inr ⟨n, by omega, hp, h⟩
      · exact .inl fun k hk => by
          by_cases e : k = n
          · subst e; exact hp
          · exact h k (by omega)
    · exact .inr ⟨k, by omega, h2, h3⟩

theorem RelS.sub {ρ : Ren} {g a1 : Nat → AObj} {w : World} (hg : RelS P ρ g w) (hsub : ∀ b, (a1 b).alive = true → g b = a1 b) : RelS P ρ a1 w :=
  ⟨fun b hb => by have := hg.obj b (by rw [hsub b hb]; exact hb); rwa [hsub b hb] at this, hg.lt,
    fun b c i j hbc hb hc hi hj => hg.inj b c i j hbc (by rw [hsub b (AObj.alive_of_mut hb)]; exact hb) (by rw [hsub c hc]; exact hc) hi hj⟩

theorem RelV.blk {ρ : Ren} {v v' : Value} (h : RelV ρ v v') {b : Nat} (hb : vblk v = some b) : ∃ i, ρ b = some i := by
  cases h <;> simp [vblk] at hb
  all_goals (subst hb; exact ⟨_, ‹_›⟩)

section
variable {call : ACall} {round : ARound} {ops : Array Oper} {F : Nat → Fr} {H : Nat → AHeap} {ρ₀ : Ren} {w₀ : World} {a₀ : Act}

structure RInv (P : Program) (ops : Array Oper) (F : Nat → Fr) (H : Nat → AHeap) (ρ₀ : Ren) (w₀ : World) (a₀ : Act) (S : Nat → Prop) (t : Nat) (ρ : Ren) (g : Nat → AObj) (f : Fr) (a : Act) (w : World) : Prop where
  tle : t ≤ ops.size
  closed : Closed ops S
  wpos : ∀ k o, ops[k]? = some o → cls P o.op = .w → (S k ↔ k < t)
  last : t = 0 ∨ ∃ k o, t = k + 1 ∧ ops[k]? = some o ∧ cls P o.op = .w
  rel : RelS P ρ g w
  lo : ∀ b, b < (H t).next → g b = (H t).get b
  hi : ∀ b, (H t).next ≤ b → (g b).alive = true → ∃ k, t ≤ k ∧ k < ops.size ∧ S k ∧ (H k).next = b ∧ (H (k + 1)).next = b + 1
  made : ∀ k, t ≤ k → k < ops.size → S k → (∀ o, ops[k]? = some o → cls P o.op ≠ .w) → (H (k + 1)).next = (H k).next + 1 → g (H k).next = (H (k + 1)).get (H k).next
  fresh : ∀ b, (H t).next ≤ b → b < (H ops.size).next → (g b).alive = false → ρ b = none
  frame : RelF ρ f a.tmps
  len : f.length = (F 0).length
  slot0 : ∀ s, (∀ k o, S k → ops[k]? = some o → o.dst ≠ some s) → f.getD s undef = (F 0).getD s undef
  slot1 : ∀ s k o, S k → ops[k]? = some o → o.dst = some s → (∀ k' o', S k' → ops[k']? = some o' → o'.dst = some s → k' ≤ k) → f.getD s undef = (F (k + 1)).getD s undef
  defers : a.defers = a₀.defers
  step : Step ρ₀ (H 0).get (H 0).next w₀ ρ g (H ops.size).next w

variable {rw : List (Nat × Nat)} {S : Nat → Prop} {t : Nat} {ρ : Ren} {g : Nat → AObj} {f : Fr} {a : Act} {w : World}

/-- Who writes a slot that an operation names: done, if it stands ahead; not done, if behind. -/
theorem writers (hR : RegOK P rw ops) (hS : Closed ops S) {i : Nat} {o : Oper} (hi : ops[i]? = some o) (hn : Next ops S i) {s : Tmp} (hs : s ∈ onames ops o) {k : Nat} {ok : Oper} (hk : ops[k]? = some ok) (hd : ok.dst = some s) (hne : k ≠ i) : (S k ↔ k < i) := by
  rcases hR.split hS hi hk hn hne with ⟨h1, h2, _⟩ | ⟨h1, h2, h3⟩ | ⟨h1, h2, h3⟩ | ⟨h1, h2, h3⟩ | ⟨h1, h2⟩
  · exact ⟨fun _ => h2, fun _ => h1⟩
  · exact absurd hs (h3.d1 s hd)
  · exact absurd hs (h3.d2 s hd)
  · exact absurd hs (h3.d1 s hd)
  · exact ⟨fun h => absurd h h1, fun h => by omega⟩

theorem RInv.slot_eq (hR : RegOK P rw ops) (T : Text P call round ops F H) (I : RInv P ops F H ρ₀ w₀ a₀ S t ρ g f a w) {i : Nat} {o : Oper} (hi : ops[i]? = some o) (hn : Next ops S i) {s : Tmp} (hs : s ∈ onames ops o) : f.getD s undef = (F i).getD s undef := by
  have hil := (Array.getElem?_eq_some_iff.1 hi).1
  have hSlt : ∀ k ok, S k → ops[k]? = some ok → ok.dst = some s → k < i := fun k ok hk ho hd => (writers hR I.closed hi hn hs ho hd (fun e => hn.1 (e ▸ hk))).1 hk
  rcases exists_max (fun k => ∃ ok, ops[k]? = some ok ∧ ok.dst = some s) i with h | ⟨k, h1, ⟨ok, h2, h3⟩, h4⟩
  · rw [I.slot0 s fun k ok hk ho hd => h k (hSlt k ok hk ho hd) ⟨ok, ho, hd⟩]
    have := T.slot s i 0 (by omega) fun k ok _ hk ho hd => h k (by omega) ⟨ok, ho, hd⟩
    rw [Nat.zero_add] at this
    exact this.symm
  · have hSk : S k := (writers hR I.closed hi hn hs h2 h3 (by omega)).2 h1
    rw [I.slot1 s k ok hSk h2 h3 fun k' o' hk' ho' hd' => h4 k' (hSlt k' o' hk' ho' hd') ⟨o', ho', hd'⟩]
    have := T.slot s (i - (k + 1)) (k + 1) (by omega) fun k' o' hk1 hk2 ho' hd' => by have := h4 k' (by omega) ⟨o', ho', hd'⟩; omega
    rw [show k + 1 + (i - (k + 1)) = i by omega] at this
    exact this.symm

theorem RInv.ev_eq (hR : RegOK P rw ops) (T : Text P call round ops F H) (I : RInv P ops F H ρ₀ w₀ a₀ S t ρ g f a w) {i : Nat} {o : Oper} (hi : ops[i]? = some o) (hn : Next ops S i) : ∀ x ∈ o.op.operands, ev f x = ev (F i) x := by
  intro x hx
  cases x with
  | tmp s => exact I.slot_eq hR T hi hn (by simp only [onames, List.mem_append, List.mem_filterMap]; exact .inl (.inr ⟨.tmp s, Array.mem_toList_iff.2 hx, rfl⟩))
  | _ => rfl

theorem RInv.wanted_eq (hR : RegOK P rw ops) (T : Text P call round ops F H) (I : RInv P ops F H ρ₀ w₀ a₀ S t ρ g f a w) {i : Nat} {o : Oper} (hi : ops[i]? = some o) (hn : Next ops S i) : awanted ops f o = awanted ops (F i) o := by
  have hil := (Array.getElem?_eq_some_iff.1 hi).1
  unfold awanted
  cases hg : o.guard with
  | none => rfl
  | some gd =>
    obtain ⟨j, want⟩ := gd
    simp only
    congr 1
    unfold ayielded
    cases hd : (ops[j]?).bind (·.dst) with
    | none => rfl
    | some s =>
      simp only [Option.bind_some]
      have h1 := I.slot_eq hR T hi hn (s := s) (by simp [onames, hg, hd])
      have hl : f.length = (F i).length := I.len.trans (T.len i (by omega)).symm
      have h2 : f[s]? = (F i)[s]? := by
        by_cases hs : s < f.length
        · rw [List.getD_eq_getElem?_getD, List.getD_eq_getElem?_getD, List.getElem?_eq_getElem hs, List.getElem?_eq_getElem (hl ▸ hs)] at h1
          simp only [Option.getD_some] at h1
          rw [List.getElem?_eq_getElem hs, List.getElem?_eq_getElem (hl ▸ hs), h1]
        · rw [List.getElem?_eq_none (Nat.not_lt.1 hs), List.getElem?_eq_none (Nat.not_lt.1 (hl ▸ hs))]
      rw [h2]

/-- The slots behind an operation. -/
theorem RInv.slots (hR : RegOK P rw ops) (T : Text P call round ops F H) (I : RInv P ops F H ρ₀ w₀ a₀ S t ρ g f a w) {i : Nat} {o : Oper} (hi : ops[i]? = some o) (hn : Next ops S i) {v : Value} (hv : F (i + 1) = fput (F i) o.dst v) :
    (fput f o.dst v).length = (F 0).length ∧ (∀ s, (∀ k o', (S k ∨ k = i) → ops[k]? = some o' → o'.dst ≠ some s) → (fput f o.dst v).getD s undef = (F 0).getD s undef) ∧
    (∀ s k ok, (S k ∨ k = i) → ops[k]? = some ok → ok.dst = some s → (∀ k' o', (S k' ∨ k' = i) → ops[k']? = some o' → o'.dst = some s → k' ≤ k) → (fput f o.dst v).getD s undef = (F (k + 1)).getD s undef) := by
  have hil := (Array.getElem?_eq_some_iff.1 hi).1
  have hl : f.length = (F i).length := I.len.trans (T.len i (by omega)).symm
  refine ⟨by rw [fput_len]; exact I.len, fun s hs => ?_, fun s k ok hk hok hd hmax => ?_⟩
  · rw [fput_other _ _ _ _ (hs i o (.inr rfl) hi)]
    exact I.slot0 s fun k o' hk => hs k o' (.inl hk)
  · by_cases hki : k = i
    · subst hki
      rw [hi] at hok; cases hok
      rw [hv, hd]
      exact fput_same f (F k) hl s v
    · have hSk : S k := hk.resolve_right hki
      by_cases hod : o.dst = some s
      · have h1 := (writers hR I.closed hi hn (s := s) (by simp [onames, hod]) hok hd hki).1 hSk
        have h2 := hmax i o (.inr rfl) hi hod
        omega
      · rw [fput_other _ _ _ _ hod]
        exact I.slot1 s k ok hSk hok hd fun k' o' hk' => hmax k' o' (.inl hk')

theorem Next.closed (hS : Closed ops S) {i : Nat} (hn : Next ops S i) : Closed ops (fun k => S k ∨ k = i) := fun j o ho hj e he hb => by
  rcases hj with hj | rfl
  · exact .inl (hS j o ho hj e he hb)
  · exact .inl (hn.2 o ho e he hb)

theorem RInv.no_w (hR : RegOK P rw ops) (I : RInv P ops F H ρ₀ w₀ a₀ S t ρ g f a w) {i : Nat} {o : Oper} (hi : ops[i]? = some o) (hn : Next ops S i) (hw : cls P o.op = .w) :
    t ≤ i ∧ (∀ k ok, t ≤ k → k < i → ops[k]? = some ok → cls P ok.op ≠ .w) ∧ (∀ k ok, k < i → ops[k]? = some ok → cls P ok.op = .n → S k) ∧ ∀ k ok, ops[k]? = some ok → cls P ok.op = .w → k ≠ i → (S k ↔ k < i) := by
  have hti : t ≤ i := by
    by_cases h : i < t
    · exact absurd ((I.wpos i o hi hw).2 h) hn.1
    · omega
  have hkw : ∀ k ok, ops[k]? = some ok → cls P ok.op = .w → k ≠ i → (S k ↔ k < i) := fun k ok hk hkw hne => by
    rcases hR.split I.closed hi hk hn hne with ⟨h1, h2, _⟩ | ⟨h1, h2, h3⟩ | ⟨h1, h2, h3⟩ | ⟨h1, h2, h3⟩ | ⟨h1, h2⟩
    · exact ⟨fun _ => h2, fun _ => h1⟩
    · exact absurd hw (h3.ww hkw)
    · exact absurd hkw (h3.ww hw)
    · exact absurd hw (h3.ww hkw)
    · exact ⟨fun h => absurd h h1, fun h => by omega⟩
  refine ⟨hti, fun k ok h1 h2 hk hkw' => ?_, fun k ok h1 hk hkn => ?_, hkw⟩
  · have := (hkw k ok hk hkw' (by omega)).2 h2
    have := (I.wpos k ok hk hkw').1 this
    omega
  · by_cases hs : S k
    · exact hs
    · rcases hR.split I.closed hi hk hn (by omega) with ⟨h1, _⟩ | ⟨h1, _⟩ | ⟨h1, _⟩ | ⟨_, _, h3⟩ | ⟨_, h2⟩
      · exact h1
      · exact h1
      · exact h1
      · exact absurd hw (h3.nw hkn)
      · omega

/-- What is seen of a name ahead of operation p, all loud ones ahead of p being done. -/
theorem RInv.see (T : Text P call round ops F H) (hc : CallUp call) (hr : RoundUp round) (I : RInv P ops F H ρ₀ w₀ a₀ S t ρ g f a w) {p : Nat} (htp : t ≤ p) (hp : p ≤ ops.size) (hq : ∀ k ok, t ≤ k → k < p → ops[k]? = some ok → cls P ok.op ≠ .w) {b : Nat} (hb : b < (H p).next)
    (hmade : b < (H t).next ∨ (g b).alive = true ∨ ∀ k ok, t ≤ k → k < p → ops[k]? = some ok → cls P ok.op = .n → S k) : g b = (H p).get b := by
  have hstay := fun m (hm : t ≤ m) (hmp : m ≤ p) => T.stay (p - m) m (by omega) (fun k ok h1 h2 h3 => hq k ok (by omega) (by omega) h3)
  by_cases hbt : b < (H t).next
  · have := (hstay t (Nat.le_refl _) htp b hbt).2
    rw [show t + (p - t) = p by omega] at this
    rw [I.lo b hbt, this]
  · obtain ⟨k, h1, h2, h3, h4⟩ := T.maker b (p - t) t (by omega) (fun k ok h1 h2 h3 => hq k ok h1 (by omega) h3) (by omega) (by rw [show t + (p - t) = p by omega]; exact hb)
    have hkl : k < ops.size := by omega
    have hget := Array.getElem?_eq_getElem hkl
    have hcl := hq k _ h1 (by omega) hget
    have hSk : S k := by
      rcases hmade with h | h | h
      · omega
      · obtain ⟨k', k1, k2, k3, k4, k5⟩ := I.hi b (by omega) h
        have : k' = k := by
          rcases Nat.lt_trichotomy k' k with hlt | heq | hgt
          · have := T.up hc hr (k - (k' + 1)) (k' + 1) (by omega)
            rw [show k' + 1 + (k - (k' + 1)) = k by omega] at this
            omega
          · exact heq
          · have := T.up hc hr (k' - (k + 1)) (k + 1) (by omega)
            rw [show k + 1 + (k' - (k + 1)) = k' by omega] at this
            omega
        exact this ▸ k3
      · refine h k _ h1 (by omega) hget ?_
        rcases T.quiet hget hcl with h5 | ⟨h5, _⟩
        · rw [h5] at h4; omega
        · exact h5
    have := I.made k h1 hkl hSk (fun o ho => by rw [hget] at ho; cases ho; exact hcl) (by omega)
    rw [h3] at this
    have h5 := (hstay (k + 1) (by omega) (by omega) b (by omega)).2
    rw [show k + 1 + (p - (k + 1)) = p by omega] at h5
    rw [this, h5]

/-- The made name of an operation is not there before. -/
theorem RInv.unmade (T : Text P call round ops F H) (hc : CallUp call) (hr : RoundUp round) (I : RInv P ops F H ρ₀ w₀ a₀ S t ρ g f a w) {i : Nat} (hil : i < ops.size) (hti : t ≤ i) (hn : ¬ S i) {b : Nat} (h1 : (H i).next ≤ b) (h2 : b < (H (i + 1)).next) :
    (H 0).next ≤ b ∧ b < (H ops.size).next ∧ (g b).alive = false ∧ ρ b = none := by
  have hu := fun n m hm => T.up hc hr n m hm
  have hup0 := hu i 0 (by omega)
  rw [Nat.zero_add] at hup0
  have hupt := hu (i - t) t (by omega)
  rw [show t + (i - t) = i by omega] at hupt
  have hupn := hu (ops.size - (i + 1)) (i + 1) (by omega)
  rw [show i + 1 + (ops.size - (i + 1)) = ops.size by omega] at hupn
  have hdead : (g b).alive = false := by
    cases ha : (g b).alive with
    | false => rfl
    | true =>
      exfalso
      obtain ⟨k, k1, k2, k3, k4, k5⟩ := I.hi b (by omega) ha
      rcases Nat.lt_trichotomy k i with hlt | heq | hgt
      · have := hu (i - (k + 1)) (k + 1) (by omega)
        rw [show k + 1 + (i - (k + 1)) = i by omega] at this
        omega
      · exact hn (heq ▸ k3)
      · have := hu (k - (i + 1)) (i + 1) (by omega)
        rw [show i + 1 + (k - (i + 1)) = k by omega] at this
        omega
  exact ⟨by omega, by omega, hdead, I.fresh b (by omega) (by omega) hdead⟩

/-- An operation that makes nothing and changes nothing. -/
theorem RInv.same (hR : RegOK P rw ops) (T : Text P call round ops F H) (I : RInv P ops F H ρ₀ w₀ a₀ S t ρ g f a w) {i : Nat} {o : Oper} (hi : ops[i]? = some o) (hn : Next ops S i) (hcl : cls P o.op ≠ .w) (hH : H (i + 1) = H i) {v : Value} (hv : F (i + 1) = fput (F i) o.dst v)
    {h₁ : AHeap} (hsub : ∀ b, (h₁.get b).alive = true → g b = h₁.get b) {a' : Act} {w' : World} (hA : After P ρ h₁ w a (fput f o.dst v) h₁ a' w') :
    ∃ ρ', RInv P ops F H ρ₀ w₀ a₀ (fun k => S k ∨ k = i) t ρ' g (fput f o.dst v) a' w' := by
  obtain ⟨ρ', hF, hd, hs, hst⟩ := hA
  obtain ⟨hrel, hstep, hle, hout⟩ := advance (g' := g) I.rel I.step hsub hs hst (fun b h1 h2 => by omega) (fun b h1 h2 => by omega) (fun b _ h => hsub b h) (fun b _ _ => rfl)
  have hρ : ρ' = ρ := funext fun b => hout b (by omega)
  obtain ⟨hl, s0, s1⟩ := I.slots hR T hi hn hv
  refine ⟨ρ', I.tle, hn.closed I.closed, fun k ok hk hw => ?_, I.last, hrel, I.lo, fun b h1 h2 => ?_, fun k h1 h2 h3 h4 h5 => ?_, fun b h1 h2 h3 => by rw [hρ]; exact I.fresh b h1 h2 h3, hF, hl, s0, s1, hd.trans I.defers, hstep⟩
  · have := I.wpos k ok hk hw
    refine ⟨fun h => ?_, fun h => .inl (this.2 h)⟩
    rcases h with h | rfl
    · exact this.1 h
    · rw [hi] at hk; cases hk; exact absurd hw hcl
  · obtain ⟨k, k1, k2, k3, k4⟩ := I.hi b h1 h2
    exact ⟨k, k1, k2, .inl k3, k4⟩
  · rcases h3 with h3 | rfl
    · exact I.made k h1 h2 h3 h4 h5
    · rw [hH] at h5; omega

def AHeap.single (b : Nat) (ob : AObj) : AHeap := (AHeap.emptyAt (b + 1)).set b ob
theorem AHeap.get_single (b : Nat) (ob : AObj) (c : Nat) : (AHeap.single b ob).get c = if c = b then ob else .dead := by
  unfold AHeap.single
  split
  · rename_i e
    subst e
    exact AHeap.get_set_lt _ _ _ (by show c < c + 1; omega)
  · rename_i e
    rw [AHeap.get_set_ne _ _ (Ne.symm e), AHeap.get_emptyAt]

/-- What has been looked at again. -/
def RW (P : Program) (ops : Array Oper) (F : Nat → Fr) (H : Nat → AHeap) (rw : List (Nat × Nat)) : Prop :=
  ∀ r j o, (r, j) ∈ rw → ops[r]? = some o → awanted ops (F r) o = true → ∃ v h₁ h₂, aop P (F r) (H r) o = some (.val v h₁) ∧ aop P (F r) (H (if j < r then j else j + 1)) o = some (.val v h₂)

/-- A reading operation reads now what it read in the text. -/
theorem RInv.reads (hR : RegOK P rw ops) (T : Text P call round ops F H) (hc : CallUp call) (hr : RoundUp round) (hrw : RW P ops F H rw) (I : RInv P ops F H ρ₀ w₀ a₀ S t ρ g f a w) {i : Nat} {o : Oper} (hi : ops[i]? = some o) (hn : Next ops S i) (hcl : cls P o.op = .r)
    (hw : awanted ops (F i) o = true) {v : Value} {h₁ : AHeap} (hop : aop P (F i) (H i) o = some (.val v h₁)) :
    ∃ p, t ≤ p ∧ p ≤ ops.size ∧ (∀ k ok, t ≤ k → k < p → ops[k]? = some ok → cls P ok.op ≠ .w) ∧ ∃ h₂, aop P (F i) (H p) o = some (.val v h₂) := by
  have hil := (Array.getElem?_eq_some_iff.1 hi).1
  have hpair : ∀ j oj, ops[j]? = some oj → cls P oj.op = .w → (i, j) ∈ rw → ∃ h₂, aop P (F i) (H (if j < i then j else j + 1)) o = some (.val v h₂) := fun j oj _ _ hm => by
    obtain ⟨v', h1, h2, e1, e2⟩ := hrw i j o hm hi hw
    rw [hop] at e1; cases e1
    exact ⟨h2, e2⟩
  rcases exists_min (fun k => t ≤ k ∧ ∃ ok, ops[k]? = some ok ∧ cls P ok.op = .w) i with h | ⟨j, hj1, ⟨hj2, oj, hj3, hj4⟩, hj5⟩
  · by_cases hti : t ≤ i
    · exact ⟨i, hti, by omega, fun k ok h1 h2 h3 h4 => h k h2 ⟨h1, ok, h3, h4⟩, h₁, hop⟩
    · rcases I.last with h0 | ⟨k, ok, h1, h2, h3⟩
      · omega
      · have hSk : S k := (I.wpos k ok h2 h3).2 (by omega)
        have hki : k ≠ i := fun e => hn.1 (e ▸ hSk)
        have hpr : (i, k) ∈ rw := by
          rcases hR.split I.closed hi h2 hn hki with ⟨_, h5, _⟩ | ⟨_, h5, _⟩ | ⟨_, _, h5⟩ | ⟨h4, _⟩ | ⟨h4, _⟩
          · omega
          · omega
          · exact h5.rw' hcl h3
          · exact absurd hSk h4
          · exact absurd hSk h4
        obtain ⟨h2', h6⟩ := hpair k ok h2 h3 hpr
        rw [if_neg (by omega), ← h1] at h6
        exact ⟨t, Nat.le_refl _, I.tle, fun k ok h1 h2 => by omega, h2', h6⟩
  · have hnS : ¬ S j := fun h => by have := (I.wpos j oj hj3 hj4).1 h; omega
    have hpr : (i, j) ∈ rw := by
      rcases hR.split I.closed hi hj3 hn (by omega) with ⟨h4, _⟩ | ⟨h4, _⟩ | ⟨h4, _⟩ | ⟨_, _, h5⟩ | ⟨_, h5⟩
      · exact absurd h4 hnS
      · exact absurd h4 hnS
      · exact absurd h4 hnS
      · exact h5.wr hj4 hcl
      · omega
    obtain ⟨h2', h6⟩ := hpair j oj hj3 hj4 hpr
    rw [if_pos hj1] at h6
    exact ⟨j, hj2, by omega, fun k ok h1 h2 h3 h4 => hj5 k h2 ⟨h1, ok, h3, h4⟩, h2', h6⟩

/-- One operation more. -/
theorem RInv.next (hz : ZeroOK P) (hcall : CallSim P call) (hround : RoundSim P round) (hc : CallUp call) (hr : RoundUp round) (ro : Option Nat) {Q : Exit → Act → World → Prop} {K : Act → World → Prop}
    (hR : RegOK P rw ops) (T : Text P call round ops F H) (hrw : RW P ops F H rw) (I : RInv P ops F H ρ₀ w₀ a₀ S t ρ g f a w) {i : Nat} (hil : i < ops.size) (hn : Next ops S i)
    (hK : ∀ t' ρ' g' f' a' w', RInv P ops F H ρ₀ w₀ a₀ (fun k => S k ∨ k = i) t' ρ' g' f' a' w' → K a' w') : wpOpIn (FW ro) 0 P ops Q i K a w := by
  obtain ⟨o, hi⟩ : ∃ o, ops[i]? = some o := ⟨_, Array.getElem?_eq_getElem hil⟩
  have hev := I.ev_eq hR T hi hn
  have hwe := I.wanted_eq hR T hi hn
  have hop := fun h => aop_congr (P := P) (h := h) hev
  obtain ⟨v, hv⟩ := T.frame hi
  have htext := T.step i o hi
  have hupi := T.up hc hr 1 i (by omega)
  have hupt := fun (h : t ≤ i) => T.up hc hr (i - t) t (by omega)
  by_cases hcl : cls P o.op = .w
  · -- a loud one: the heap is the text's, whatever has been made ahead of its turn beside it
    obtain ⟨hti, hq, hN, hkw⟩ := I.no_w hR hi hn hcl
    have hsee := fun b (hb : b < (H i).next) => I.see T hc hr hti (by omega) hq hb (.inr (.inr fun k ok _ h2 h3 h4 => hN k ok h2 h3 h4))
    have hsub : ∀ b, ((H i).get b).alive = true → g b = (H i).get b := fun b hb => hsee b (AHeap.lt_of_alive hb)
    have hin := fun b h1 h2 => I.unmade T hc hr hil hti hn.1 (b := b) h1 h2
    have hone : ∃ v, aone P call round ops o f (H i) = some (fput f o.dst v, H (i + 1)) ∧ F (i + 1) = fput (F i) o.dst v := by
      unfold aone at htext ⊢
      rw [hwe, hop]
      by_cases hw : awanted ops (F i) o = true
      · rw [if_pos hw] at htext ⊢
        cases hst : aop P (F i) (H i) o with
        | none => rw [hst] at htext; cases htext
        | some st =>
          rw [hst] at htext
          cases st with
          | val v₁ h₁ =>
            simp only [Option.some.injEq, Prod.mk.injEq] at htext
            exact ⟨v₁, by simp [htext.2], htext.1.symm⟩
          | call c args =>
            simp only [Option.map_eq_some_iff, Prod.mk.injEq] at htext
            obtain ⟨⟨v₁, h₁⟩, h2, h3, rfl⟩ := htext
            exact ⟨v₁, by simp [h2], h3.symm⟩
          | round l args =>
            simp only [Option.map_eq_some_iff, Prod.mk.injEq] at htext
            obtain ⟨⟨v₁, h₁⟩, h2, h3, rfl⟩ := htext
            exact ⟨v₁, by simp [h2], h3.symm⟩
      · rw [if_neg hw] at htext ⊢
        simp only [Option.some.injEq, Prod.mk.injEq] at htext
        exact ⟨_, by rw [htext.2], htext.1.symm⟩
    obtain ⟨v, hone, hv⟩ := hone
    refine aone_sim hz hcall hround ro hi (I.rel.sub hsub) I.frame hone (fun b h1 h2 => (hin b h1 h2).2.2.2) ?_
    rintro a' w' ⟨ρ', hF, hd, hs, hst⟩
    have hgdef : ∃ g' : Nat → AObj, (∀ b, (H i).next ≤ b → b < (H (i + 1)).next → g' b = (H (i + 1)).get b) ∧ (∀ b, ¬ ((H i).next ≤ b ∧ b < (H (i + 1)).next) → ((H i).get b).alive = true → g' b = (H (i + 1)).get b) ∧
        (∀ b, ¬ ((H i).next ≤ b ∧ b < (H (i + 1)).next) → ((H i).get b).alive = false → g' b = g b) := by
      refine ⟨fun b => if ((H i).next ≤ b ∧ b < (H (i + 1)).next) ∨ ((H i).get b).alive = true then (H (i + 1)).get b else g b, fun b h1 h2 => if_pos (.inl ⟨h1, h2⟩), fun b _ h => if_pos (.inr h), fun b h1 h2 => if_neg ?_⟩
      rintro (h | h)
      · exact h1 h
      · rw [h2] at h; cases h
    obtain ⟨g', e1, e2, e3⟩ := hgdef
    obtain ⟨hrel, hstep, hle, hout⟩ := advance I.rel I.step hsub hs hst hin e1 e2 e3
    obtain ⟨hl, s0, s1⟩ := I.slots hR T hi hn hv
    have hbig : ∀ b, (H (i + 1)).next ≤ b → g' b = g b ∧ ρ' b = ρ b := fun b hb => by
      refine ⟨e3 b (by omega) ?_, hout b (by omega)⟩
      cases ha : ((H i).get b).alive with
      | false => rfl
      | true => have := AHeap.lt_of_alive ha; omega
    refine hK (i + 1) ρ' g' (fput f o.dst v) a' w' ⟨by omega, hn.closed I.closed, fun k ok hk hkw' => ?_, .inr ⟨i, o, rfl, hi, hcl⟩, hrel, fun b hb => ?_, fun b h1 h2 => ?_, fun k h1 h2 h3 h4 h5 => ?_, fun b h1 h2 h3 => ?_, hF, hl, s0, s1, hd.trans I.defers, hstep⟩
    · by_cases e : k = i
      · subst e; exact ⟨fun _ => by omega, fun _ => .inr rfl⟩
      · have := hkw k ok hk hkw' e
        exact ⟨fun h => by have := this.1 (h.resolve_right e); omega, fun h => .inl (this.2 (by omega))⟩
    · by_cases hr' : (H i).next ≤ b ∧ b < (H (i + 1)).next
      · exact e1 b hr'.1 hr'.2
      · cases ha : ((H i).get b).alive with
        | true => exact e2 b hr' ha
        | false =>
          rw [e3 b hr' ha, hsee b (by omega)]
          -- dead before, dead behind
          have h1 : (H i).get b = .dead := by cases hx : (H i).get b <;> simp [hx, AObj.alive] at ha; rfl
          have h2 : (H (i + 1)).get b = .dead := by
            cases hx : ((H (i + 1)).get b).alive with
            | false => cases hy : (H (i + 1)).get b <;> simp [hy, AObj.alive] at hx; rfl
            | true => have := hst.alive b (by omega) hx; rw [ha] at this; cases this
          rw [h1, h2]
    · rw [(hbig b h1).1] at h2
      obtain ⟨k, k1, k2, k3, k4, k5⟩ := I.hi b (by have := hupt hti; rw [show t + (i - t) = i by omega] at this; omega) h2
      refine ⟨k, ?_, k2, .inl k3, k4, k5⟩
      rcases Nat.lt_or_ge i k with h | h
      · omega
      · exfalso
        have := T.up hc hr (i + 1 - (k + 1)) (k + 1) (by omega)
        rw [show k + 1 + (i + 1 - (k + 1)) = i + 1 by omega] at this
        omega
    · have h3' : S k := h3.resolve_right (by omega)
      have := T.up hc hr (k - (i + 1)) (i + 1) (by omega)
      rw [show i + 1 + (k - (i + 1)) = k by omega] at this
      rw [(hbig _ this).1]
      exact I.made k (by omega) h2 h3' h4 h5
    · rw [(hbig b h1).1] at h3
      rw [(hbig b h1).2]
      exact I.fresh b (by have := hupt hti; rw [show t + (i - t) = i by omega] at this; omega) h2 h3
  · -- a quiet one
    by_cases hw : awanted ops (F i) o = true
    · unfold aone at htext
      rw [if_pos hw] at htext
      cases hst : aop P (F i) (H i) o with
      | none => rw [hst] at htext; cases htext
      | some st =>
        obtain ⟨v, h₁, rfl⟩ := cls_val hcl hst
        rw [hst] at htext
        simp only [Option.some.injEq, Prod.mk.injEq] at htext
        obtain ⟨hv, rfl⟩ := htext
        have hone : ∀ h1 h2, aop P f h1 o = some (.val v h2) → aone P call round ops o f h1 = some (fput f o.dst v, h2) := fun h1 h2 e => by
          unfold aone; rw [hwe, if_pos hw, e]
        cases hcc : cls P o.op with
        | w => exact absurd hcc hcl
        | q =>
          obtain ⟨hH, hall⟩ := aop_q hcc hst
          have hsub : ∀ b, (AHeap.empty.get b).alive = true → g b = AHeap.empty.get b := fun b hb => by simp [AObj.alive] at hb
          refine aone_sim hz hcall hround ro hi (I.rel.sub hsub) I.frame (hone AHeap.empty AHeap.empty (by rw [hop]; exact hall _)) (fun b h1 h2 => by omega) ?_
          intro a' w' hA
          obtain ⟨ρ', I'⟩ := I.same hR T hi hn hcl hH hv.symm hsub hA
          exact hK _ _ _ _ _ _ I'
        | r =>
          obtain ⟨hH, _⟩ := aop_r hcc hst
          obtain ⟨p, hp1, hp2, hp3, h2, hp4⟩ := I.reads hR T hc hr hrw hi hn hcc hw hst
          obtain ⟨_, x, hx, hal, hrd⟩ := aop_r hcc hp4
          have hxr := I.frame.ev (aop_ok hst x hx)
          rw [hev x hx] at hxr
          have hsub : ∃ h₁ : AHeap, (∀ b, (h₁.get b).alive = true → g b = h₁.get b) ∧ ∀ b, vblk (ev (F i) x) = some b → h₁.get b = (H p).get b := by
            cases hvb : vblk (ev (F i) x) with
            | none => exact ⟨AHeap.empty, fun b hb => by simp [AObj.alive] at hb, fun b hb => by cases hb⟩
            | some b =>
              have halb := hal b hvb
              have hbl := AHeap.lt_of_alive halb
              obtain ⟨ib, hib⟩ := hxr.blk hvb
              have hgb : g b = (H p).get b := by
                refine I.see T hc hr hp1 hp2 hp3 hbl ?_
                by_cases hbt : b < (H t).next
                · exact .inl hbt
                · refine .inr (.inl ?_)
                  cases ha : (g b).alive with
                  | true => rfl
                  | false =>
                    have hpn := T.up hc hr (ops.size - p) p (by omega)
                    rw [show p + (ops.size - p) = ops.size by omega] at hpn
                    have := I.fresh b (by omega) (by omega) ha
                    rw [this] at hib; cases hib
              refine ⟨AHeap.single b ((H p).get b), fun c hc' => ?_, fun c hc' => ?_⟩
              · rw [AHeap.get_single] at hc' ⊢
                split at hc'
                · rename_i e; subst e; rw [if_pos rfl]; exact hgb
                · simp [AObj.alive] at hc'
              · cases hc'
                rw [AHeap.get_single, if_pos rfl]
          obtain ⟨h₁', hsub, hsame⟩ := hsub
          have hop1 : aop P f h₁' o = some (.val v h₁') := by rw [hop]; exact hrd h₁' hsame
          refine aone_sim hz hcall hround ro hi (I.rel.sub hsub) I.frame (hone h₁' h₁' hop1) (fun b h1 h2 => by omega) ?_
          intro a' w' hA
          obtain ⟨ρ', I'⟩ := I.same hR T hi hn hcl hH hv.symm hsub hA
          exact hK _ _ _ _ _ _ I'
        | n =>
          obtain ⟨ob, hob, hH, hN⟩ := aop_n hcc hst
          -- it stands behind all loud ones that are done
          have hti : t ≤ i := by
            rcases I.last with h0 | ⟨k, ok, h1, h2, h3⟩
            · omega
            · have hSk : S k := (I.wpos k ok h2 h3).2 (by omega)
              have hki : k ≠ i := fun e => hn.1 (e ▸ hSk)
              rcases hR.split I.closed hi h2 hn hki with ⟨_, h5, _⟩ | ⟨_, h5, _⟩ | ⟨_, _, h5⟩ | ⟨h4, _⟩ | ⟨h4, _⟩
              · omega
              · omega
              · exact absurd h3 (h5.nw hcc)
              · exact absurd hSk h4
              · exact absurd hSk h4
          have hnx : (H (i + 1)).next = (H i).next + 1 := by rw [hH]; rfl
          have hin := fun b h1 h2 => I.unmade T hc hr hil hti hn.1 (b := b) h1 h2
          have hupt' := hupt hti
          rw [show t + (i - t) = i by omega] at hupt'
          have hsub : ∀ b, ((AHeap.emptyAt (H i).next).get b).alive = true → g b = (AHeap.emptyAt (H i).next).get b := fun b hb => by simp [AObj.alive] at hb
          refine aone_sim hz hcall hround ro hi (I.rel.sub hsub) I.frame (hone _ _ (by rw [hop]; exact hN)) (fun b h1 h2 => (hin b h1 (by rw [hnx]; exact h2)).2.2.2) ?_
          rintro a' w' ⟨ρ', hF, hd, hs, hstp⟩
          have hget : ∀ b, b ≠ (H i).next → ((AHeap.emptyAt (H i).next).push ob).get b = .dead := fun b hb => by
            rw [AHeap.get_push_ne _ _ (by simpa [AHeap.emptyAt] using Ne.symm hb)]; simp
          have hgets : ((AHeap.emptyAt (H i).next).push ob).get (H i).next = ob := AHeap.get_push_same (AHeap.emptyAt (H i).next) ob
          obtain ⟨hrel, hstep, hle, hout⟩ := advance (g' := fun b => if b = (H i).next then ob else g b) I.rel I.step hsub hs hstp (fun b h1 h2 => hin b h1 (by rw [hnx]; exact h2))
            (fun b h1 h2 => by have : b = (H i).next := by simp [AHeap.emptyAt] at h1 h2; omega
                               subst this; rw [if_pos rfl]; exact hgets.symm)
            (fun b _ h => by simp [AObj.alive] at h) (fun b h _ => if_neg (by simp [AHeap.emptyAt] at h; omega))
          obtain ⟨hl, s0, s1⟩ := I.slots hR T hi hn hv.symm
          refine hK t ρ' _ (fput f o.dst v) a' w' ⟨I.tle, hn.closed I.closed, fun k ok hk hkw => ?_, I.last, hrel, fun b hb => ?_, fun b h1 h2 => ?_, fun k h1 h2 h3 h4 h5 => ?_, fun b h1 h2 h3 => ?_, hF, hl, s0, s1, hd.trans I.defers, hstep⟩
          · have := I.wpos k ok hk hkw
            refine ⟨fun h => ?_, fun h => .inl (this.2 h)⟩
            rcases h with h | rfl
            · exact this.1 h
            · rw [hi] at hk; cases hk; exact absurd hkw hcl
          · rw [if_neg (by omega)]; exact I.lo b hb
          · by_cases e : b = (H i).next
            · exact ⟨i, hti, hil, .inr rfl, e.symm, by omega⟩
            · rw [if_neg e] at h2
              obtain ⟨k, k1, k2, k3, k4⟩ := I.hi b h1 h2
              exact ⟨k, k1, k2, .inl k3, k4⟩
          · by_cases e : k = i
            · subst e
              rw [if_pos rfl, hH, AHeap.get_push_same]
            · have h3' := h3.resolve_right e
              rw [if_neg ?_]
              · exact I.made k h1 h2 h3' h4 h5
              · rcases Nat.lt_or_ge k i with h | h
                · have := T.up hc hr (i - (k + 1)) (k + 1) (by omega)
                  rw [show k + 1 + (i - (k + 1)) = i by omega] at this
                  omega
                · have := T.up hc hr (k - (i + 1)) (i + 1) (by omega)
                  rw [show i + 1 + (k - (i + 1)) = k by omega] at this
                  omega
          · by_cases e : b = (H i).next
            · rw [if_pos e, hob] at h3; cases h3
            · rw [if_neg e] at h3
              rw [hout b (by simp [AHeap.emptyAt]; omega)]
              exact I.fresh b h1 h2 h3
    · -- not wanted
      unfold aone at htext
      rw [if_neg hw] at htext
      simp only [Option.some.injEq, Prod.mk.injEq] at htext
      have hsub : ∀ b, (AHeap.empty.get b).alive = true → g b = AHeap.empty.get b := fun b hb => by simp [AObj.alive] at hb
      refine aone_sim hz hcall hround ro hi (I.rel.sub hsub) I.frame (fr' := fput f o.dst undef) (h' := AHeap.empty) (by unfold aone; rw [hwe, if_neg hw]) (fun b h1 h2 => by omega) ?_
      intro a' w' hA
      obtain ⟨ρ', I'⟩ := I.same hR T hi hn hcl htext.2.symm htext.1.symm hsub hA
      exact hK _ _ _ _ _ _ I'
end
end Go.Abs
