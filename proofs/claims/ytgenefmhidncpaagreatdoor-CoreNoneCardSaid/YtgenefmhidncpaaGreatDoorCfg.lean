/- The configuration of this program: which functions are gone into, and which pairs of a region are looked at again. -/
import Derived.Test.YtgenefmhidncpaaGreatDoorChecked
import Derived.Test.YtgenefmhidncpaaGreatDoorLaw
import Derived.KernelRfl
namespace Go.Proofs
open Go.Abs
noncomputable def cfg : Cfg := { P := Tryz.prog, ok := fun f => Nat.testBit 62165404782807508744028843789438884678469963550744453170831191661533803542115457695740 f, prim := fun _ => none, rw := fun f id =>
  match f, id with
  | 16, 3 => [(0, 1), (0, 6), (0, 9), (3, 1), (5, 1), (8, 1), (8, 6)]
  | 24, 6 => [(11, 14)]
  | 26, 4 => [(3, 12), (7, 12), (17, 12)]
  | 30, 8 => [(1, 2)]
  | 43, 12 => [(0, 6), (0, 8), (1, 6), (4, 6)]
  | 54, 5 => [(5, 1)]
  | 59, 6 => [(0, 8), (1, 8), (2, 8)]
  | 64, 1 => [(1, 2)]
  | 66, 4 => [(0, 3)]
  | 69, 4 => [(0, 3)]
  | 72, 1 => [(6, 4), (8, 4)]
  | 75, 1 => [(4, 2)]
  | 85, 7 => [(4, 6)]
  | 87, 3 => [(0, 2)]
  | 115, 5 => [(5, 3), (7, 3)]
  | 145, 7 => [(0, 3), (0, 6)]
  | 238, 1 => [(0, 6)]
  | 239, 1 => [(9, 6), (11, 6), (12, 6), (16, 6), (16, 13), (18, 6), (18, 13), (19, 6), (19, 13)]
  | 246, 1 => [(8, 4)]
  | 254, 0 => [(12, 8)]
  | _, _ => [] }
set_option maxRecDepth 1000000 in
theorem cfg_codes : (List.range 286).all (okOne cfg) = true := by kernel_rfl
set_option maxRecDepth 1000000 in
theorem cfg_zeros : (List.range 339).all (zeroOne cfg.P) = true := by kernel_rfl
theorem cfg_ok : CfgOK cfg := cfgOK_of 286 339 (by kernel_rfl) (by kernel_rfl) cfg_codes cfg_zeros (fun _ => rfl)
end Go.Proofs
