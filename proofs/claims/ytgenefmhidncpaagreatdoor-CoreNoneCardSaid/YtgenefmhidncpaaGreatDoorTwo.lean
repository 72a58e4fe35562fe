/- Two slices that came in, as read-only blocks of the plain heap. -/
import Derived.Test.YtgenefmhidncpaaGreatDoorOpen
namespace Go.Abs
variable {P : Program} {w : World}

def two (r0 r1 : Option BI) : Ren := fun x => if x = 0 then r0 else if x = 1 then r1 else none

theorem get_two (X : AObj) (b : Nat) : ((AHeap.empty.push .dead).push X).get b = if b = 1 then X else .dead := by
  split
  · rename_i e
    subst e
    exact AHeap.get_push_same (AHeap.empty.push .dead) X
  · rename_i e
    rw [AHeap.get_push_ne (AHeap.empty.push .dead) X (c := b) (by show (1 : Nat) ≠ b; exact Ne.symm e)]
    by_cases h0 : b = 0
    · subst h0
      exact AHeap.get_push_same AHeap.empty .dead
    · rw [AHeap.get_push_ne AHeap.empty .dead (c := b) (by show (0 : Nat) ≠ b; exact Ne.symm h0)]
      simp

theorem rel_two {X : AObj} {r0 r1 : Option BI} (h0 : ∀ i, r0 = some i → i.blk < w.heap.size) (h1 : ∀ i, r1 = some i → i.blk < w.heap.size) (ho : X.alive = true → ∃ i, r1 = some i ∧ RelObj P (two r0 r1) i w X) (hw : X.wr = false) :
    RelS P (two r0 r1) ((AHeap.empty.push .dead).push X).get w ∧ (∀ b, (((AHeap.empty.push .dead).push X).get b).wr = false) ∧ ∀ n, Fresh (two r0 r1) ((AHeap.empty.push .dead).push X).next n := by
  have hwr : ∀ b, (((AHeap.empty.push .dead).push X).get b).wr = false := fun b => by
    rw [get_two]
    split
    · exact hw
    · rfl
  refine ⟨⟨fun b hb => ?_, fun b i hb => ?_, fun b c i j _ hb => by rw [hwr b] at hb; cases hb⟩, hwr, fun n b hb _ => ?_⟩
  · rw [get_two] at hb ⊢
    split at hb
    · rename_i e
      subst e
      rw [if_pos rfl]
      obtain ⟨i, hi, hR⟩ := ho hb
      exact ⟨i, by simp [two, hi], hR⟩
    · cases hb
  · unfold two at hb
    split at hb
    · exact h0 i hb
    · split at hb
      · exact h1 i hb
      · cases hb
  · have hb2 : 2 ≤ b := hb
    unfold two
    rw [if_neg (by omega), if_neg (by omega)]

theorem block_of_shape {b : Nat} {x : TypeId × Nat} (h : w.shape? b = some x) : b < w.heap.size ∧ ∃ c e fz, w.heap[b]? = some (.cells c e fz) := by
  unfold World.shape? at h
  split at h
  · rename_i c e fz hb
    exact ⟨(Array.getElem?_eq_some_iff.1 hb).1, c, e, fz, hb⟩
  · cases h

/-- Pairs of strings that lie side by side. -/
theorem rel_pairs {ρ : Ren} {b o n : Nat} {e : TypeId} {S T : Nat → ByteArray} (hn : 0 < n) (h0 : ∀ j, j < n → w.cell? ⟨b, o + j * 2, none⟩ = some (.string (S j))) (h1 : ∀ j, j < n → w.cell? ⟨b, o + (j * 2 + 1), none⟩ = some (.string (T j))) :
    ∃ cs : List Value, (∀ j, j < n → cs[0 + j * 2 + 0]? = some (.string (S j)) ∧ cs[0 + j * 2 + 1]? = some (.string (T j))) ∧ RelObj P ρ { blk := b, sh := o, len := cs.length, esz := 0, extra := 0, opn := false } w (.cells cs e false true) := by
  have hblk : ∃ c e' fz, w.heap[b]? = some (.cells c e' fz) := by
    have := h0 0 hn
    unfold World.cell? at this
    split at this
    · rename_i c e' fz hb
      exact ⟨c, e', fz, hb⟩
    · cases this
  obtain ⟨c, e', fz, hb⟩ := hblk
  have hc : ∀ k v, w.cell? ⟨b, k, none⟩ = some v → c[k]? = some v := fun k v h => by
    unfold World.cell? at h
    rw [hb] at h
    simpa using h
  let cs := (List.range (n * 2)).map fun j => if j % 2 = 0 then Value.string (S (j / 2)) else Value.string (T (j / 2))
  have hget : ∀ j, j < n * 2 → cs[j]? = some (if j % 2 = 0 then Value.string (S (j / 2)) else Value.string (T (j / 2))) := fun j hj => by
    simp [cs, hj]
  have hlen : cs.length = n * 2 := by simp [cs]
  refine ⟨cs, fun j hj => ⟨?_, ?_⟩, c, e', fz, hb, rfl, rfl, fun j v hv => ?_, (fun h => (by cases h)), (fun h => (by cases h)), ?_⟩
  · rw [hget _ (by omega), if_pos (by omega)]
    congr 3
    omega
  · rw [hget _ (by omega), if_neg (by omega)]
    congr 3
    omega
  · have hj : j < n * 2 := by rw [← hlen]; exact (List.getElem?_eq_some_iff.1 hv).1
    rw [hget j hj] at hv
    cases hv
    split
    · rename_i he
      have := hc _ _ (h0 (j / 2) (by omega))
      rw [show o + j / 2 * 2 = o + j by omega] at this
      exact ⟨_, this, .string _⟩
    · rename_i he
      have := hc _ _ (h1 (j / 2) (by omega))
      rw [show o + (j / 2 * 2 + 1) = o + j by omega] at this
      exact ⟨_, this, .string _⟩
  · have := hc _ _ (h1 (n - 1) (by omega))
    have := (Array.getElem?_eq_some_iff.1 this).1
    rw [hlen]
    show o + n * 2 ≤ c.size
    omega
end Go.Abs
