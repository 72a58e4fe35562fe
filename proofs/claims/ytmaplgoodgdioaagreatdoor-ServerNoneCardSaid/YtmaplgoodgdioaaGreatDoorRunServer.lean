/- ServerNone, run over the plain heap. -/
import Derived.Test.YtmaplgoodgdioaaGreatDoorCfg
import Derived.Test.YtmaplgoodgdioaaGreatDoorSym
namespace Go.Proofs
open Go.Abs

namespace Server
noncomputable def B : Code := Tryz.f3.body.getD .skip
noncomputable def k0 : Code := cfst B
noncomputable def k1 : Code := cfst (cfst (csnd B))
noncomputable def k2 : Code := cfst (cfst (csnd (cfst (csnd B))))
noncomputable def rest : Code := csnd (csnd B)
theorem shape : B = .seq k0 (.seq (.seq k1 (.cond (.tmp 11) (.seq k2 .ret) .skip)) rest) := rfl
section
variable (a0 a1 a2 : Int) (s : ByteArray)
noncomputable abbrev V : Value := .agg #[.int .i64 a0, .int .i64 a1, .int .i64 a2, .string s]
noncomputable abbrev Fr0 : Fr := [V a0 a1 a2 s] ++ List.replicate (Tryz.f3.ntmps - 1) undef
noncomputable abbrev Fr1 : Fr := ((Fr0 a0 a1 a2 s).set 1 (.pointer (some ⟨0, 0, none⟩))).set 2 (.bool false)
noncomputable abbrev Fr2 (q : Bool) : Fr := ((((Fr1 a0 a1 a2 s).set 8 (.pointer (some ⟨0, 3, none⟩))).set 9 (.string s)).set 10 (.int .i64 s.size)).set 11 (.bool q)
noncomputable abbrev H1 : AHeap := AHeap.empty.push (.cells [.int .i64 a0, .int .i64 a1, .int .i64 a2, .string s] 23 false false)
theorem e0 : acode cfg 3 none 404 k0 (Fr0 a0 a1 a2 s) AHeap.empty = some (.normal, Fr1 a0 a1 a2 s, H1 a0 a1 a2 s) := by kernel_rfl
theorem e1 : acode cfg 3 none 402 k1 (Fr1 a0 a1 a2 s) (H1 a0 a1 a2 s) = some (.normal, Fr2 a0 a1 a2 s (decide ((s.size : Int) > 1000)), H1 a0 a1 a2 s) := by kernel_rfl
theorem ex (q : Bool) : ev (Fr2 a0 a1 a2 s q) (.tmp 11) = .bool q := rfl
set_option maxRecDepth 1000000 in
theorem et : saysSo (acode cfg 3 none 401 (.seq k2 .ret) (Fr2 a0 a1 a2 s true) (H1 a0 a1 a2 s)) = true := by kernel_rfl
set_option maxRecDepth 1000000 in
theorem ef : saysSo (acode cfg 3 none 403 rest (Fr2 a0 a1 a2 s false) (H1 a0 a1 a2 s)) = true := by kernel_rfl
theorem run : ∃ h', acall cfg 406 3 [V a0 a1 a2 s] AHeap.empty = some (.bool true, h') :=
  law_true rfl (by kernel_rfl) Tryz.func3 (show Tryz.f3.body = some B from rfl) rfl
    (guarded (k := 400) (shape) _ (e0 a0 a1 a2 s) (e1 a0 a1 a2 s) (ex a0 a1 a2 s) (saysSo_sound (et a0 a1 a2 s)) (saysSo_sound (ef a0 a1 a2 s)))
end
end Server
end Go.Proofs
