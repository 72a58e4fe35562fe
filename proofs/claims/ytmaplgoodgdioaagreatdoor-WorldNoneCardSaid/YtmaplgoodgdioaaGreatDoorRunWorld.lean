/- WorldNone, run over the plain heap. -/
import Derived.Test.YtmaplgoodgdioaaGreatDoorCfg
import Derived.Test.YtmaplgoodgdioaaGreatDoorSym
namespace Go.Proofs
open Go.Abs

namespace World
noncomputable def B : Code := Tryz.f4.body.getD .skip
noncomputable def k0 : Code := cfst B
noncomputable def k1 : Code := cfst (cfst (csnd B))
noncomputable def k2 : Code := cfst (cfst (csnd (cfst (csnd B))))
noncomputable def rest : Code := csnd (csnd B)
theorem shape : B = .seq k0 (.seq (.seq k1 (.cond (.tmp 9) (.seq k2 .ret) .skip)) rest) := rfl
section
variable (a0 a1 : Int) (s : ByteArray)
noncomputable abbrev V : Value := .agg #[.int .i64 a0, .int .i64 a1, .string s]
noncomputable abbrev Fr0 : Fr := [V a0 a1 s] ++ List.replicate (Tryz.f4.ntmps - 1) undef
noncomputable abbrev Fr1 : Fr := ((Fr0 a0 a1 s).set 1 (.pointer (some ⟨0, 0, none⟩))).set 2 (.bool false)
noncomputable abbrev Fr2 (q : Bool) : Fr := ((((Fr1 a0 a1 s).set 6 (.pointer (some ⟨0, 2, none⟩))).set 7 (.string s)).set 8 (.int .i64 s.size)).set 9 (.bool q)
noncomputable abbrev H1 : AHeap := AHeap.empty.push (.cells [.int .i64 a0, .int .i64 a1, .string s] 42 false false)
theorem e0 : acode cfg 4 none 404 k0 (Fr0 a0 a1 s) AHeap.empty = some (.normal, Fr1 a0 a1 s, H1 a0 a1 s) := by kernel_rfl
theorem e1 : acode cfg 4 none 402 k1 (Fr1 a0 a1 s) (H1 a0 a1 s) = some (.normal, Fr2 a0 a1 s (decide ((s.size : Int) > 1000)), H1 a0 a1 s) := by kernel_rfl
theorem ex (q : Bool) : ev (Fr2 a0 a1 s q) (.tmp 9) = .bool q := rfl
set_option maxRecDepth 1000000 in
theorem et : saysSo (acode cfg 4 none 401 (.seq k2 .ret) (Fr2 a0 a1 s true) (H1 a0 a1 s)) = true := by kernel_rfl
set_option maxRecDepth 1000000 in
theorem ef : saysSo (acode cfg 4 none 403 rest (Fr2 a0 a1 s false) (H1 a0 a1 s)) = true := by kernel_rfl
theorem run : ∃ h', acall cfg 406 4 [V a0 a1 s] AHeap.empty = some (.bool true, h') :=
  law_true rfl (by kernel_rfl) Tryz.func4 (show Tryz.f4.body = some B from rfl) rfl
    (guarded (k := 400) (shape) _ (e0 a0 a1 s) (e1 a0 a1 s) (ex a0 a1 s) (saysSo_sound (et a0 a1 s)) (saysSo_sound (ef a0 a1 s)))
end
end World
end Go.Proofs
