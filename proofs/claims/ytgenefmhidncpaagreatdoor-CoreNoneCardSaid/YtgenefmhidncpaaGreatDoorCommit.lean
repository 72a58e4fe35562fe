/- GreatCommit over the plain heap; CoreNone's run. -/
import Derived.Test.YtgenefmhidncpaaGreatDoorFiles
namespace Go.Abs
theorem aops_seen {P : Program} {call : ACall} {round : ARound} {ops : Array Oper} {l : List Oper} {fr : Fr} {h h1 : AHeap} {v : Value} (e : (aops P call round ops l fr h).map (fun x => (x.1.getD 2 undef, x.2)) = some (v, h1)) :
    ∃ fr1, aops P call round ops l fr h = some (fr1, h1) ∧ fr1.getD 2 undef = v := by
  simp only [Option.map_eq_some_iff, Prod.mk.injEq] at e
  obtain ⟨⟨fr1, h1'⟩, e1, e2, rfl⟩ := e
  exact ⟨fr1, e1, e2⟩
end Go.Abs
namespace Go.Proofs
open Go.Abs
noncomputable def B4 : Code := Tryz.f4.body.getD .skip
noncomputable def g0 : Code := cfst B4
noncomputable def g1 : Code := cfst (csnd B4)
theorem shape4 : B4 = .seq g0 (.seq g1 .ret) := rfl
section
variable (k : Nat) (X0 X1 : AObj) (o : Bool) (by_ kd id nu la : Int) (ps : Bool) (p1 : Option Addr) (n1 c1 : Nat) (p : Option Addr) (n c : Nat) (s : ByteArray)
noncomputable abbrev CV : Value := .agg #[.slice p1 n1 c1, .slice p n c, .string s]
noncomputable abbrev AV : Value := .agg #[.bool o, .int .i64 by_, .int .i64 kd, .int .i64 id, .int .i64 nu, .int .i64 la, .bool ps, .slice p1 n1 c1, .slice p n c, .string s]
noncomputable abbrev HA : AHeap := ((AHeap.empty.push X0).push X1).push (.cells [.bool o, .int .i64 by_, .int .i64 kd, .int .i64 id, .int .i64 nu, .int .i64 la, .bool ps, .slice p1 n1 c1, .slice p n c, .string s] 29 false false)
noncomputable abbrev HB : AHeap := (HA X0 X1 o by_ kd id nu la ps p1 n1 c1 p n c s).push (.cells [.slice p1 n1 c1, .slice p n c, .string s] 25 false false)
noncomputable abbrev M0 : Fr := [CV p1 n1 c1 p n c s] ++ List.replicate (Tryz.f4.ntmps - 1) undef
noncomputable abbrev M1 : Fr := ((M0 p1 n1 c1 p n c s).set 1 (.pointer (some ⟨3, 0, none⟩))).set 2 (.bool false)
noncomputable abbrev M2 (q : Bool) : Fr := ((((M1 p1 n1 c1 p n c s).set 3 (.pointer (some ⟨3, 0, none⟩))).set 4 (.slice p1 n1 c1)).set 5 (.int .i64 n1)).set 6 (.bool q)
noncomputable abbrev M3 : Fr := (((M2 p1 n1 c1 p n c s false).set 7 (.bool false)).set 8 (.pointer (some ⟨3, 1, none⟩))).set 9 (.slice p n c)
theorem g0_run : acode cfg 4 none (k + 1) g0 (M0 p1 n1 c1 p n c s) (HA X0 X1 o by_ kd id nu la ps p1 n1 c1 p n c s) = some (.normal, M1 p1 n1 c1 p n c s, HB X0 X1 o by_ kd id nu la ps p1 n1 c1 p n c s) := by
  refine acode_region (cfg := cfg) (id := 0) (ops := cops g0) ?_
  rw [aops_split 2 0 (show aops cfg.P (acall cfg k) (around cfg k) (cops g0) (((cops g0).toList.drop 0).take 2) (M0 p1 n1 c1 p n c s) (HA X0 X1 o by_ kd id nu la ps p1 n1 c1 p n c s) = some (M1 p1 n1 c1 p n c s, HB X0 X1 o by_ kd id nu la ps p1 n1 c1 p n c s) by kernel_rfl)]
  exact aops_end _ (by kernel_rfl)
theorem g1a : aops cfg.P (acall cfg k) (around cfg k) (cops g1) (((cops g1).toList.drop 0).take 4) (M1 p1 n1 c1 p n c s) (HB X0 X1 o by_ kd id nu la ps p1 n1 c1 p n c s) = some (M2 p1 n1 c1 p n c s (decide ((n1 : Int) > 5)), HB X0 X1 o by_ kd id nu la ps p1 n1 c1 p n c s) := by kernel_rfl
theorem g1t : (aops cfg.P (acall cfg k) (around cfg k) (cops g1) ((cops g1).toList.drop 4) (M2 p1 n1 c1 p n c s true) (HB X0 X1 o by_ kd id nu la ps p1 n1 c1 p n c s)).map (fun x => (x.1.getD 2 undef, x.2)) = some (.bool true, HB X0 X1 o by_ kd id nu la ps p1 n1 c1 p n c s) := by kernel_rfl
theorem g1b : aops cfg.P (acall cfg k) (around cfg k) (cops g1) (((cops g1).toList.drop 4).take 3) (M2 p1 n1 c1 p n c s false) (HB X0 X1 o by_ kd id nu la ps p1 n1 c1 p n c s) = some (M3 p1 n1 c1 p n c s, HB X0 X1 o by_ kd id nu la ps p1 n1 c1 p n c s) := by kernel_rfl
theorem g1qt : (aops cfg.P (acall cfg k) (around cfg k) (cops g1) ((cops g1).toList.drop 8) ((M3 p1 n1 c1 p n c s).set 10 (.bool true)) (HB X0 X1 o by_ kd id nu la ps p1 n1 c1 p n c s)).map (fun x => (x.1.getD 2 undef, x.2)) = some (.bool true, HB X0 X1 o by_ kd id nu la ps p1 n1 c1 p n c s) := by kernel_rfl
theorem g1qf : (aops cfg.P (acall cfg k) (around cfg k) (cops g1) ((cops g1).toList.drop 8) ((M3 p1 n1 c1 p n c s).set 10 (.bool false)) (HB X0 X1 o by_ kd id nu la ps p1 n1 c1 p n c s)).map (fun x => (x.1.getD 2 undef, x.2)) = some (.bool (decide ((s.size : Int) > 100)), HB X0 X1 o by_ kd id nu la ps p1 n1 c1 p n c s) := by kernel_rfl
set_option maxRecDepth 100000 in
theorem commit_run (hf : ∃ q, acall cfg k 15 [.slice p n c, .int .i64 16] (HB X0 X1 o by_ kd id nu la ps p1 n1 c1 p n c s) = some (.bool q, HB X0 X1 o by_ kd id nu la ps p1 n1 c1 p n c s)) :
    ∃ q, acall cfg (k + 4) 4 [CV p1 n1 c1 p n c s] (HA X0 X1 o by_ kd id nu la ps p1 n1 c1 p n c s) = some (.bool q, HB X0 X1 o by_ kd id nu la ps p1 n1 c1 p n c s) := by
  have o7 : (cops g1).toList[7]? = some (((cops g1).toList[7]?).getD default) := by kernel_rfl
  have main : ∃ fr1 q, aops cfg.P (acall cfg k) (around cfg k) (cops g1) ((cops g1).toList.drop 0) (M1 p1 n1 c1 p n c s) (HB X0 X1 o by_ kd id nu la ps p1 n1 c1 p n c s) = some (fr1, HB X0 X1 o by_ kd id nu la ps p1 n1 c1 p n c s) ∧ fr1.getD 2 undef = .bool q := by
    rw [aops_split 4 0 (g1a k X0 X1 o by_ kd id nu la ps p1 n1 c1 p n c s)]
    cases hq : decide ((n1 : Int) > 5) with
    | true =>
      obtain ⟨fr1, e1, e2⟩ := aops_seen (g1t k X0 X1 o by_ kd id nu la ps p1 n1 c1 p n c s)
      exact ⟨fr1, _, e1, e2⟩
    | false =>
      obtain ⟨q, hf⟩ := hf
      rw [aops_split 3 4 (g1b k X0 X1 o by_ kd id nu la ps p1 n1 c1 p n c s)]
      rw [aops_called 7 8 10 o7 rfl (by kernel_rfl) (by kernel_rfl) (f := 15) (args := [.slice p n c, .int .i64 16]) (by kernel_rfl) hf]
      cases q with
      | true =>
        obtain ⟨fr1, e1, e2⟩ := aops_seen (g1qt k X0 X1 o by_ kd id nu la ps p1 n1 c1 p n c s)
        exact ⟨fr1, _, e1, e2⟩
      | false =>
        obtain ⟨fr1, e1, e2⟩ := aops_seen (g1qf k X0 X1 o by_ kd id nu la ps p1 n1 c1 p n c s)
        exact ⟨fr1, _, e1, e2⟩
  obtain ⟨fr1, q, e1, e2⟩ := main
  refine ⟨q, acall_of (k := k + 3) (fn := Tryz.f4) (c := B4) (x := .ret) (fr1 := fr1) rfl (by kernel_rfl) Tryz.func4 rfl ?_ (.inr rfl) (vs := [.bool q]) ?_ rfl⟩
  · rw [shape4]
    show acode cfg 4 none (k + 3) _ (M0 p1 n1 c1 p n c s) _ = _
    rw [acode_seq (g0_run (k + 1) X0 X1 o by_ kd id nu la ps p1 n1 c1 p n c s), acode_seq (show acode cfg 4 none (k + 1) g1 (M1 p1 n1 c1 p n c s) (HB X0 X1 o by_ kd id nu la ps p1 n1 c1 p n c s) = some (.normal, fr1, HB X0 X1 o by_ kd id nu la ps p1 n1 c1 p n c s) from acode_region (cfg := cfg) (id := 1) (ops := cops g1) e1)]
    rfl
  · show aresults cfg.P fr1 _ [.tmp 2] = _
    simp only [aresults, aresult, e2, Option.map_some]
end
end Go.Proofs
