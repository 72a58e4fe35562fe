/- The static look at a region that draws its order: which operations are ahead of which, and that the others may change places. -/
import Derived.Test.YtgenefmhidncpaaGreatDoorDrawB
namespace Go.Abs
variable {P : Program}

def onames (ops : Array Oper) (o : Oper) : List Tmp :=
  o.dst.toList ++ o.op.operands.toList.filterMap (fun | .tmp t => some t | _ => none) ++ (match o.guard with | some (j, _) => ((ops[j]?).bind (·.dst)).toList | none => [])

def ancOf (acc : List Nat) (o : Oper) : Nat := o.after.toList.foldl (fun s e => if Region.binds .any e then s ||| 2 ^ e.on ||| acc.getD e.on 0 else s) 0
def ancGo : List Oper → List Nat → List Nat
  | [], acc => acc
  | o :: os, acc => ancGo os (acc ++ [ancOf acc o])

inductive Anc (ops : Array Oper) (i : Nat) : Nat → Prop
  | edge {j : Nat} {o : Oper} {e : Edge} (ho : ops[j]? = some o) (he : e ∈ o.after) (hb : Region.binds .any e = true) (hi : e.on = i) : Anc ops i j
  | step {j : Nat} {o : Oper} {e : Edge} (ho : ops[j]? = some o) (he : e ∈ o.after) (hb : Region.binds .any e = true) (h : Anc ops i e.on) : Anc ops i j

theorem ancOf_bit (acc : List Nat) (o : Oper) (i : Nat) (h : (ancOf acc o).testBit i = true) : ∃ e ∈ o.after, Region.binds .any e = true ∧ (e.on = i ∨ (acc.getD e.on 0).testBit i = true) := by
  unfold ancOf at h
  have key : ∀ (l : List Edge) (s : Nat), (l.foldl (fun s e => if Region.binds .any e then s ||| 2 ^ e.on ||| acc.getD e.on 0 else s) s).testBit i = true → s.testBit i = true ∨ ∃ e ∈ l, Region.binds .any e = true ∧ (e.on = i ∨ (acc.getD e.on 0).testBit i = true) := by
    intro l
    induction l with
    | nil => intro s h; exact .inl h
    | cons e l ih =>
      intro s h
      simp only [List.foldl_cons] at h
      rcases ih _ h with h1 | ⟨e', h1, h2⟩
      · split at h1
        · rename_i hb
          simp only [Nat.testBit_or, Bool.or_eq_true, Nat.testBit_two_pow, decide_eq_true_eq] at h1
          rcases h1 with (h1 | h1) | h1
          · exact .inl h1
          · exact .inr ⟨e, by simp, hb, .inl h1⟩
          · exact .inr ⟨e, by simp, hb, .inr h1⟩
        · exact .inl h1
      · exact .inr ⟨e', by simp [h1], h2⟩
  rcases key _ _ h with h | ⟨e, h1, h2⟩
  · simp at h
  · exact ⟨e, Array.mem_toList_iff.1 h1, h2⟩

theorem ancGo_pre : ∀ (os : List Oper) (acc : List Nat) (j : Nat), j < acc.length → (ancGo os acc).getD j 0 = acc.getD j 0
  | [], _, _, _ => rfl
  | o :: os, acc, j, h => by
    rw [ancGo, ancGo_pre os _ j (by simp; omega)]
    rw [List.getD_eq_getElem?_getD, List.getD_eq_getElem?_getD, List.getElem?_append_left h]

theorem anc_sound (ops : Array Oper) : ∀ (os : List Oper) (acc : List Nat), ops.toList.drop acc.length = os →
    (∀ j i, j < acc.length → (acc.getD j 0).testBit i = true → Anc ops i j) → ∀ j i, ((ancGo os acc).getD j 0).testBit i = true → Anc ops i j
  | [], acc, _, hacc, j, i, h => by
    by_cases hj : j < acc.length
    · exact hacc j i hj h
    · rw [ancGo, List.getD_eq_getElem?_getD, List.getElem?_eq_none (by omega)] at h
      simp at h
  | o :: os, acc, hd, hacc, j, i, h => by
    have hget : ops[acc.length]? = some o := by
      rw [← Array.getElem?_toList, show acc.length = acc.length + 0 from rfl, ← List.getElem?_drop, hd]; rfl
    refine anc_sound ops os (acc ++ [ancOf acc o]) (by rw [List.length_append, List.length_singleton, ← List.drop_drop, hd]; rfl) (fun j i hj hb => ?_) j i h
    by_cases hj' : j < acc.length
    · refine hacc j i hj' ?_
      rwa [List.getD_eq_getElem?_getD, List.getElem?_append_left hj', ← List.getD_eq_getElem?_getD] at hb
    · have : j = acc.length := by simp at hj; omega
      subst this
      rw [List.getD_eq_getElem?_getD, List.getElem?_append_right (Nat.le_refl _)] at hb
      simp only [Nat.sub_self, List.getElem?_cons_zero, Option.getD_some] at hb
      obtain ⟨e, he, hbe, h1⟩ := ancOf_bit acc o i hb
      rcases h1 with h1 | h1
      · exact .edge hget he hbe h1
      · by_cases hl : e.on < acc.length
        · exact .step hget he hbe (hacc e.on i hl h1)
        · rw [List.getD_eq_getElem?_getD, List.getElem?_eq_none (by omega)] at h1
          simp at h1

/-- Two operations, the first one ahead in the text, neither ahead of the other by an edge: they may change places. -/
def compat (P : Program) (rw : List (Nat × Nat)) (ops : Array Oper) (i j : Nat) (oi oj : Oper) : Bool :=
  (oi.dst.toList.all fun t => !(onames ops oj).contains t) && (oj.dst.toList.all fun t => !(onames ops oi).contains t) &&
  match cls P oi.op, cls P oj.op with
  | .w, .w | .n, .w => false
  | .r, .w => rw.contains (i, j)
  | .w, .r => rw.contains (j, i)
  | _, _ => true

def rankOK (md : Region.Mode) (ops : Array Oper) (r : Nat → Nat) : Bool :=
  ops.toList.zipIdx.all fun (o, j) => o.after.toList.all fun e => !Region.binds md e || (e.on < ops.size && r e.on < r j)

def regionOK (P : Program) (rw : List (Nat × Nat)) (ops : Array Oper) : Bool :=
  let anc := ancGo ops.toList []
  rankOK .text ops id && (rankOK .gc ops id || rankOK .gc ops ((Region.linearise .gc ops 0).idxOf ·)) &&
  ops.toList.zipIdx.all fun (oj, j) =>
    (ops.toList.zipIdx.take j).all fun (oi, i) => (anc.getD j 0).testBit i || compat P rw ops i j oi oj

structure Compat (P : Program) (rw : List (Nat × Nat)) (ops : Array Oper) (i j : Nat) (oi oj : Oper) : Prop where
  d1 : ∀ t, oi.dst = some t → t ∉ onames ops oj
  d2 : ∀ t, oj.dst = some t → t ∉ onames ops oi
  ww : cls P oi.op = .w → cls P oj.op ≠ .w
  nw : cls P oi.op = .n → cls P oj.op ≠ .w
  rw' : cls P oi.op = .r → cls P oj.op = .w → (i, j) ∈ rw
  wr : cls P oi.op = .w → cls P oj.op = .r → (j, i) ∈ rw

structure RegOK (P : Program) (rw : List (Nat × Nat)) (ops : Array Oper) : Prop where
  rank : ∀ md, ∃ r : Nat → Nat, ∀ (j : Nat) (o : Oper), ops[j]? = some o → ∀ e : Edge, e ∈ o.after → Region.binds md e = true → e.on < ops.size ∧ r e.on < r j
  pair : ∀ i j oi oj, i < j → ops[i]? = some oi → ops[j]? = some oj → Anc ops i j ∨ Compat P rw ops i j oi oj

theorem compat_sound {rw : List (Nat × Nat)} {ops : Array Oper} {i j : Nat} {oi oj : Oper} (h : compat P rw ops i j oi oj = true) : Compat P rw ops i j oi oj := by
  unfold compat at h
  simp only [Bool.and_eq_true] at h
  obtain ⟨⟨h1, h2⟩, h3⟩ := h
  refine ⟨fun t ht hm => ?_, fun t ht hm => ?_, fun e1 e2 => ?_, fun e1 e2 => ?_, fun e1 e2 => ?_, fun e1 e2 => ?_⟩
  · rw [ht] at h1; simp at h1; exact h1 hm
  · rw [ht] at h2; simp at h2; exact h2 hm
  · rw [e1, e2] at h3; simp at h3
  · rw [e1, e2] at h3; simp at h3
  · rw [e1, e2] at h3; simpa using h3
  · rw [e1, e2] at h3; simpa using h3

theorem binds_any {md : Region.Mode} {e : Edge} (h : Region.binds .any e = true) : Region.binds md e = true := by
  unfold Region.binds at h ⊢
  cases hg : e.ground <;> simp [hg] at h ⊢

theorem zip_mem {ops : Array Oper} {j : Nat} {o : Oper} (ho : ops[j]? = some o) : (o, j) ∈ ops.toList.zipIdx := by
  rw [← Array.getElem?_toList] at ho
  rw [List.mem_iff_getElem?]
  exact ⟨j, by rw [List.getElem?_zipIdx, ho]; simp⟩

theorem rankOK_sound {md : Region.Mode} {ops : Array Oper} {r : Nat → Nat} (h : rankOK md ops r = true) : ∀ (j : Nat) (o : Oper), ops[j]? = some o → ∀ e : Edge, e ∈ o.after → Region.binds md e = true → e.on < ops.size ∧ r e.on < r j := by
  intro j o ho e he hb
  unfold rankOK at h
  simp only [List.all_eq_true] at h
  have := h (o, j) (zip_mem ho) e (Array.mem_toList_iff.2 he)
  simpa [hb] using this

theorem regionOK_sound {rw : List (Nat × Nat)} {ops : Array Oper} (h : regionOK P rw ops = true) : RegOK P rw ops := by
  unfold regionOK at h
  simp only [Bool.and_eq_true, Bool.or_eq_true] at h
  obtain ⟨⟨ht, hg⟩, h⟩ := h
  simp only [List.all_eq_true] at h
  refine ⟨fun md => ?_, fun i j oi oj hij hi hj => ?_⟩
  · cases md with
    | text => exact ⟨id, rankOK_sound ht⟩
    | any => exact ⟨id, fun j o ho e he hb => rankOK_sound ht j o ho e he (binds_any hb)⟩
    | gc => rcases hg with hg | hg <;> exact ⟨_, rankOK_sound hg⟩
  · have := h (oj, j) (zip_mem hj)
    have hmem : (oi, i) ∈ ops.toList.zipIdx.take j := by
      rw [List.mem_iff_getElem?]
      refine ⟨i, ?_⟩
      rw [List.getElem?_take, if_pos hij, List.getElem?_zipIdx]
      rw [← Array.getElem?_toList] at hi
      rw [hi]; simp
    have := this (oi, i) hmem
    simp only [Bool.or_eq_true] at this
    rcases this with h1 | h1
    · exact .inl (anc_sound ops ops.toList [] rfl (fun j i hj => by simp at hj) j i h1)
    · exact .inr (compat_sound h1)

/-! ### what has been done so far -/
/-- Whoever is done has behind it all that stand ahead of it. -/
def Closed (ops : Array Oper) (S : Nat → Prop) : Prop := ∀ j o, ops[j]? = some o → S j → ∀ e ∈ o.after, Region.binds .any e = true → S e.on

theorem Anc.done {ops : Array Oper} {S : Nat → Prop} (hS : Closed ops S) {i j : Nat} (h : Anc ops i j) : S j → S i := by
  induction h with
  | edge ho he hb hi => intro hj; rw [← hi]; exact hS _ _ ho hj _ he hb
  | step ho he hb _ ih => intro hj; exact ih (hS _ _ ho hj _ he hb)

/-- j may be done next. -/
def Next (ops : Array Oper) (S : Nat → Prop) (j : Nat) : Prop := ¬ S j ∧ ∀ o, ops[j]? = some o → ∀ e ∈ o.after, Region.binds .any e = true → S e.on

theorem Anc.next {ops : Array Oper} {S : Nat → Prop} (hS : Closed ops S) {i j : Nat} (h : Anc ops i j) (hn : Next ops S j) : S i := by
  cases h with
  | edge ho he hb hi => rw [← hi]; exact hn.2 _ ho _ he hb
  | step ho he hb h => exact h.done hS (hn.2 _ ho _ he hb)

theorem Next.not_anc {ops : Array Oper} {S : Nat → Prop} (hS : Closed ops S) {i j : Nat} (hn : Next ops S j) (hi : S i) : ¬ Anc ops j i := fun h => hn.1 (h.done hS hi)

/-- Of two operations, one done and the other next or both not: who stands how in the text. -/
theorem RegOK.split {rw : List (Nat × Nat)} {ops : Array Oper} (hR : RegOK P rw ops) {S : Nat → Prop} (hS : Closed ops S) {i k : Nat} {oi ok : Oper} (hi : ops[i]? = some oi) (hk : ops[k]? = some ok) (hn : Next ops S i) (hne : k ≠ i) :
    (S k ∧ k < i ∧ Anc ops k i) ∨ (S k ∧ k < i ∧ Compat P rw ops k i ok oi) ∨ (S k ∧ i < k ∧ Compat P rw ops i k oi ok) ∨ (¬ S k ∧ k < i ∧ Compat P rw ops k i ok oi) ∨ (¬ S k ∧ i < k) := by
  rcases Nat.lt_or_gt_of_ne hne with h | h
  · rcases hR.pair k i ok oi h hk hi with h1 | h1
    · exact .inl ⟨h1.next hS hn, h, h1⟩
    · by_cases hs : S k
      · exact .inr (.inl ⟨hs, h, h1⟩)
      · exact .inr (.inr (.inr (.inl ⟨hs, h, h1⟩)))
  · by_cases hs : S k
    · rcases hR.pair i k oi ok h hi hk with h1 | h1
      · exact absurd h1 (hn.not_anc hS hs)
      · exact .inr (.inr (.inl ⟨hs, h, h1⟩))
    · exact .inr (.inr (.inr (.inr ⟨hs, h⟩)))
end Go.Abs
