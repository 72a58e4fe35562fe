/- An argument's cells, by their types. -/
import Derived.Test.YtgenefmhidncpaaGreatDoorLaw
import GoSem.ClaimWide
namespace Go.Abs
variable {P : Program} {w : World} {base : Nat}

theorem cell_int {u : TypeId} {v : Value} {k : IntKind} (ht : P.underlying u = some (.int k)) (h : Cell.okWide P w .any base u v) : ∃ n, v = .int k n := by
  unfold Cell.okWide at h
  rw [ht] at h
  cases v <;> simp [Cell.ok, ht] at h
  exact ⟨_, by rw [h.1]⟩
theorem cell_bool {u : TypeId} {v : Value} (ht : P.underlying u = some .bool) (h : Cell.okWide P w .any base u v) : ∃ b, v = .bool b := by
  unfold Cell.okWide at h
  rw [ht] at h
  cases v <;> simp [Cell.ok, ht] at h
  exact ⟨_, rfl⟩
theorem cell_string {u : TypeId} {v : Value} (ht : P.underlying u = some .string) (h : Cell.okWide P w .any base u v) : ∃ s, v = .string s := by
  unfold Cell.okWide at h
  rw [ht] at h
  cases v <;> simp [Cell.ok, ht] at h
  exact ⟨_, rfl⟩
theorem cell_slice {u e : TypeId} {v : Value} (ht : P.underlying u = some (.slice e)) (h : Cell.okWide P w .any base u v) :
    v = .slice none 0 0 ∨ ∃ b o n cap row cells, v = .slice (some ⟨b, o, none⟩) n cap ∧ n ≤ cap ∧ w.shape? b = some (row, cells) := by
  unfold Cell.okWide at h
  rw [ht] at h
  cases v with
  | slice a n cap =>
    cases a with
    | none =>
      cases n <;> cases cap <;> simp [Cell.ok, ht] at h
      exact .inl rfl
    | some a =>
      simp only [Cell.ok, ht] at h
      obtain ⟨h1, _, h2⟩ := h
      obtain ⟨_, hs, row, cells, hsh, _⟩ := h2
      obtain ⟨b, o, spot⟩ := a
      cases hs
      exact .inr ⟨b, o, n, cap, row, cells, rfl, h1, hsh⟩
  | _ => simp [Cell.ok, ht] at h

theorem open_cells {t : TypeId} {fs : Array Field} {ts : List TypeId} {v : Value} {n : Nat} (ht : P.underlying t = some (.struct fs)) (hts : P.cellTypes P.depth t = some ts) (hn : P.cellsOf t = n) (hl : ts.length = n) (h : Value.okWide P w .any base t v) :
    ∃ cs : Array Value, v = .agg cs ∧ cs.size = n ∧ ∀ i x u, i < n → cs[i]? = some x → ts[i]? = some u → Cell.okWide P w .any base u x := by
  unfold Value.okWide at h
  rw [ht] at h
  obtain ⟨cs, rfl, hsz, ts', hts', _, hcell⟩ := h
  rw [hts] at hts'
  cases hts'
  refine ⟨cs, rfl, hsz.trans hn, fun i x u hi hx hu => ?_⟩
  obtain ⟨u', hu', hok⟩ := hcell i x hx
  rw [Nat.mod_eq_of_lt (by omega), hu] at hu'
  cases hu'
  exact hok
end Go.Abs
