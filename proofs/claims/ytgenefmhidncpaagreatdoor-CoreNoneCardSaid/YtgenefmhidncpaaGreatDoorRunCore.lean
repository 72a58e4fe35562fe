/- CoreNone's run over the plain heap. -/
import Derived.Test.YtgenefmhidncpaaGreatDoorCommit
namespace Go.Proofs
open Go.Abs
theorem loop_zero (k : Nat) (p : Option Addr) (n cap : Nat) (j : Nat) (g : Nat → Value) (h : AHeap) (hj : n ≤ j) : ∃ g1, acode cfg 15 none (10 + k) (.loop loopBody) (FF (.slice p n cap) j g) h = some (.exit 0, FF (.slice p n cap) j g1, h) := by
  obtain ⟨g1, h1, h15⟩ := c2_run (0 + 6 + k) p n cap j g h
  rw [show decide ((j : Int) < n) = false from decide_eq_false (by omega), Bool.false_and] at h15
  refine ⟨g1, ?_⟩
  rw [show 10 + k = (0 + 9 + k) + 1 by omega]
  refine acode_loop_out (x := .exit 0) ?_ (by simp)
  rw [loop_shape, show 0 + 9 + k = (0 + 8 + k) + 1 by omega]
  refine acode_seq_out (x := .exit 0) ?_ (by simp)
  rw [show 0 + 8 + k = (0 + 7 + k) + 1 by omega, acode_seq (show acode cfg 15 none (0 + 7 + k) c2 _ h = _ by rw [show 0 + 7 + k = (0 + 6 + k) + 1 by omega]; exact h1)]
  rw [show 0 + 7 + k = (0 + 6 + k) + 1 by omega, acode_cond (t := false) (show ev (FF (.slice p n cap) j g1) (.tmp 15) = .bool false from h15), show 0 + 6 + k = (0 + 5 + k) + 1 by omega]
  simp [acode]

noncomputable def B3 : Code := Tryz.f3.body.getD .skip
noncomputable def k0 : Code := cfst B3
noncomputable def k1 : Code := cfst (cfst (csnd B3))
noncomputable def k2 : Code := cfst (cfst (csnd (cfst (csnd B3))))
noncomputable def rest3 : Code := csnd (csnd B3)
theorem shape3 : B3 = .seq k0 (.seq (.seq k1 (.cond (.tmp 13) (.seq k2 .ret) .skip)) rest3) := rfl
section
variable (k : Nat) (X0 X1 : AObj) (o : Bool) (by_ kd id nu la : Int) (ps : Bool) (p1 : Option Addr) (n1 c1 : Nat) (p : Option Addr) (n c : Nat) (s : ByteArray)
noncomputable abbrev Q0 : Fr := [AV o by_ kd id nu la ps p1 n1 c1 p n c s] ++ List.replicate (Tryz.f3.ntmps - 1) undef
noncomputable abbrev Q1 : Fr := ((Q0 o by_ kd id nu la ps p1 n1 c1 p n c s).set 1 (.pointer (some ⟨2, 0, none⟩))).set 2 (.bool false)
noncomputable abbrev Q2 : Fr := (((Q1 o by_ kd id nu la ps p1 n1 c1 p n c s).set 10 (.pointer (some ⟨2, 2, none⟩))).set 11 (.pointer (some ⟨2, 7, none⟩))).set 12 (CV p1 n1 c1 p n c s)
theorem k0_run : acode cfg 3 none (k + 1) k0 (Q0 o by_ kd id nu la ps p1 n1 c1 p n c s) ((AHeap.empty.push X0).push X1) = some (.normal, Q1 o by_ kd id nu la ps p1 n1 c1 p n c s, HA X0 X1 o by_ kd id nu la ps p1 n1 c1 p n c s) := by
  refine acode_region (cfg := cfg) (id := 0) (ops := cops k0) ?_
  rw [aops_split 2 0 (show aops cfg.P (acall cfg k) (around cfg k) (cops k0) (((cops k0).toList.drop 0).take 2) (Q0 o by_ kd id nu la ps p1 n1 c1 p n c s) ((AHeap.empty.push X0).push X1) = some (Q1 o by_ kd id nu la ps p1 n1 c1 p n c s, HA X0 X1 o by_ kd id nu la ps p1 n1 c1 p n c s) by kernel_rfl)]
  exact aops_end _ (by kernel_rfl)
theorem k1a : aops cfg.P (acall cfg k) (around cfg k) (cops k1) (((cops k1).toList.drop 0).take 3) (Q1 o by_ kd id nu la ps p1 n1 c1 p n c s) (HA X0 X1 o by_ kd id nu la ps p1 n1 c1 p n c s) = some (Q2 o by_ kd id nu la ps p1 n1 c1 p n c s, HA X0 X1 o by_ kd id nu la ps p1 n1 c1 p n c s) := by kernel_rfl
theorem k1_run (q : Bool) (hq : acall cfg k 4 [CV p1 n1 c1 p n c s] (HA X0 X1 o by_ kd id nu la ps p1 n1 c1 p n c s) = some (.bool q, HB X0 X1 o by_ kd id nu la ps p1 n1 c1 p n c s)) :
    acode cfg 3 none (k + 1) k1 (Q1 o by_ kd id nu la ps p1 n1 c1 p n c s) (HA X0 X1 o by_ kd id nu la ps p1 n1 c1 p n c s) = some (.normal, (Q2 o by_ kd id nu la ps p1 n1 c1 p n c s).set 13 (.bool q), HB X0 X1 o by_ kd id nu la ps p1 n1 c1 p n c s) := by
  have o3 : (cops k1).toList[3]? = some (((cops k1).toList[3]?).getD default) := by kernel_rfl
  refine acode_region (cfg := cfg) (id := 1) (ops := cops k1) ?_
  rw [aops_split 3 0 (k1a k X0 X1 o by_ kd id nu la ps p1 n1 c1 p n c s)]
  rw [aops_called 3 4 13 o3 rfl (by kernel_rfl) (by kernel_rfl) (f := 4) (args := [CV p1 n1 c1 p n c s]) (by kernel_rfl) hq]
  exact aops_end _ (by kernel_rfl)
set_option maxRecDepth 1000000 in
theorem et3 : saysSo (acode cfg 3 none (k + 401) (.seq k2 .ret) ((Q2 o by_ kd id nu la ps p1 n1 c1 p n c s).set 13 (.bool true)) (HB X0 X1 o by_ kd id nu la ps p1 n1 c1 p n c s)) = true := by kernel_rfl
set_option maxRecDepth 1000000 in
theorem ef3 : saysSo (acode cfg 3 none (k + 403) rest3 ((Q2 o by_ kd id nu la ps p1 n1 c1 p n c s).set 13 (.bool false)) (HB X0 X1 o by_ kd id nu la ps p1 n1 c1 p n c s)) = true := by kernel_rfl

theorem core_run {q : Bool} (hq : acall cfg (k + 401) 4 [CV p1 n1 c1 p n c s] (HA X0 X1 o by_ kd id nu la ps p1 n1 c1 p n c s) = some (.bool q, HB X0 X1 o by_ kd id nu la ps p1 n1 c1 p n c s)) :
    ∃ h', acall cfg (k + 406) 3 [AV o by_ kd id nu la ps p1 n1 c1 p n c s] ((AHeap.empty.push X0).push X1) = some (.bool true, h') :=
  law_true rfl (by kernel_rfl) Tryz.func3 (show Tryz.f3.body = some B3 from rfl) rfl
    (guarded (k := k + 400) shape3 q (k0_run (k + 403) X0 X1 o by_ kd id nu la ps p1 n1 c1 p n c s) (fr1 := fun q => (Q2 o by_ kd id nu la ps p1 n1 c1 p n c s).set 13 (.bool q)) (k1_run (k + 401) X0 X1 o by_ kd id nu la ps p1 n1 c1 p n c s q hq) (fun q => rfl)
      (saysSo_sound (et3 k X0 X1 o by_ kd id nu la ps p1 n1 c1 p n c s)) (saysSo_sound (ef3 k X0 X1 o by_ kd id nu la ps p1 n1 c1 p n c s)))

/-- No files. -/
theorem core_nil : ∃ h', acall cfg (k + 406) 3 [AV o by_ kd id nu la ps p1 n1 c1 p 0 c s] ((AHeap.empty.push X0).push X1) = some (.bool true, h') := by
  obtain ⟨g1, hl⟩ := loop_zero (k + 382) p 0 c 0 (fun _ => undef) (HB X0 X1 o by_ kd id nu la ps p1 n1 c1 p 0 c s) (Nat.le_refl _)
  have hf := files_of_loop (k + 372) 0 c (HB X0 X1 o by_ kd id nu la ps p1 n1 c1 p 0 c s) (S := .slice p 0 c) (p := p) rfl (x := .exit 0) (fr1 := FF (.slice p 0 c) 0 g1) (by rw [show k + 372 + 20 = 10 + (k + 382) by omega]; exact hl) (.inl ⟨rfl, _, _, rfl⟩)
  obtain ⟨q, hq⟩ := commit_run (k + 397) X0 X1 o by_ kd id nu la ps p1 n1 c1 p 0 c s hf
  exact core_run k X0 X1 o by_ kd id nu la ps p1 n1 c1 p 0 c s hq

/-- Some files. -/
theorem core_some {cs : List Value} {e : TypeId} (hn : n < 9223372036854775808) (hX : X1 = .cells cs e false true) (hc : ∀ j, j < n → ∃ s t, cs[0 + j * 2 + 0]? = some (.string s) ∧ cs[0 + j * 2 + 1]? = some (.string t)) :
    ∃ h', acall cfg (n + 406) 3 [AV o by_ kd id nu la ps p1 n1 c1 (some ⟨1, 0, none⟩) n c s] ((AHeap.empty.push X0).push X1) = some (.bool true, h') := by
  have hb : (HB X0 X1 o by_ kd id nu la ps p1 n1 c1 (some ⟨1, 0, none⟩) n c s).get 1 = .cells cs e false true := by subst hX; kernel_rfl
  obtain ⟨x, fr1, hl, hx⟩ := loop_run 382 1 n c (HB X0 X1 o by_ kd id nu la ps p1 n1 c1 (some ⟨1, 0, none⟩) n c s) hn hb hc n 0 (fun _ => undef) (by omega)
  have hf := files_of_loop (n + 372) n c (HB X0 X1 o by_ kd id nu la ps p1 n1 c1 (some ⟨1, 0, none⟩) n c s) (S := .slice (some ⟨1, 0, none⟩) n c) (p := some ⟨1, 0, none⟩) rfl (x := x) (fr1 := fr1) (by rw [show n + 372 + 20 = n + 10 + 382 by omega]; exact hl) hx
  obtain ⟨q, hq⟩ := commit_run (n + 397) X0 X1 o by_ kd id nu la ps p1 n1 c1 (some ⟨1, 0, none⟩) n c s hf
  exact core_run n X0 X1 o by_ kd id nu la ps p1 n1 c1 (some ⟨1, 0, none⟩) n c s hq
end
end Go.Proofs
