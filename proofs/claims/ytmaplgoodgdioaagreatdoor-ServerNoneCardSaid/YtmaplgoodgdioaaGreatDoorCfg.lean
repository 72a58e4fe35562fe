/- The configuration of this program: which functions are gone into, and which pairs of a region are looked at again. -/
import Derived.Test.YtmaplgoodgdioaaGreatDoorChecked
import Derived.Test.YtmaplgoodgdioaaGreatDoorLaw
import Derived.KernelRfl
namespace Go.Proofs
open Go.Abs
noncomputable def cfg : Cfg := { P := Tryz.prog, ok := fun f => Nat.testBit 143343664033376228455660992885711592687061259211573358375993764297283936359635217574681790888256659783676 f, prim := fun _ => none, rw := fun f id =>
  match f, id with
  | 7, 3 => [(4, 9)]
  | 16, 11 => [(11, 7)]
  | 22, 3 => [(0, 1)]
  | 28, 7 => [(3, 8)]
  | 31, 1 => [(4, 8)]
  | 32, 1 => [(0, 5)]
  | 32, 11 => [(0, 5)]
  | 33, 7 => [(2, 1)]
  | 41, 3 => [(1, 10), (3, 10), (5, 10), (7, 10)]
  | 41, 5 => [(7, 4)]
  | 48, 8 => [(1, 2)]
  | 51, 3 => [(0, 1), (0, 6), (0, 9), (3, 1), (5, 1), (8, 1), (8, 6)]
  | 75, 6 => [(11, 14)]
  | 77, 4 => [(3, 12), (7, 12), (17, 12)]
  | 81, 1 => [(1, 2)]
  | 85, 12 => [(0, 6), (0, 8), (1, 6), (4, 6)]
  | 113, 5 => [(5, 1)]
  | 119, 6 => [(0, 8), (1, 8), (2, 8)]
  | 127, 1 => [(6, 4), (8, 4)]
  | 130, 1 => [(4, 2)]
  | 132, 4 => [(0, 3)]
  | 148, 7 => [(4, 6)]
  | 150, 3 => [(0, 2)]
  | 179, 5 => [(5, 3), (7, 3)]
  | 210, 7 => [(0, 3), (0, 6)]
  | 300, 1 => [(0, 6)]
  | 301, 1 => [(9, 6), (11, 6), (12, 6), (16, 6), (16, 13), (18, 6), (18, 13), (19, 6), (19, 13)]
  | 308, 1 => [(8, 4)]
  | 315, 0 => [(12, 8)]
  | _, _ => [] }
set_option maxRecDepth 1000000 in
theorem cfg_codes : (List.range 347).all (okOne cfg) = true := by kernel_rfl
set_option maxRecDepth 1000000 in
theorem cfg_zeros : (List.range 421).all (zeroOne cfg.P) = true := by kernel_rfl
theorem cfg_ok : CfgOK cfg := cfgOK_of 347 421 (by kernel_rfl) (by kernel_rfl) cfg_codes cfg_zeros (fun _ => rfl)
end Go.Proofs
