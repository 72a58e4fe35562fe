/- A step of the proof of CoreNone: whether a commit holds too much, walked over the plain heap. -/
import Derived.Test.YtgenefmhidncpaaGreatDoorChecked
import Derived.Test.YtgenefmhidncpaaGreatDoorSym
import Derived.Test.YtgenefmhidncpaaGreatDoorCfg
import Derived.KernelRfl
namespace Go.Proofs
open Go.Abs
noncomputable def B15 : Code := Tryz.f15.body.getD .skip
noncomputable def r2 : Code := cfst (cfst (cfst (csnd (cfst (csnd B15)) |> cfst |> cfst)))
theorem body15 : Tryz.f15.body = some B15 := rfl
abbrev FF (S : Value) (i : Int) (g : Nat → Value) : Fr := [S, .int .i64 16, g 2, g 3, .bool false, .int .i64 i, g 6, g 7, g 8, g 9, g 10, g 11, g 12, g 13, g 14, g 15, g 16, g 17, g 18, g 19, g 20, g 21, g 22, g 23, g 24, g 25, g 26, g 27, g 28, g 29, g 30, g 31, g 32, g 33, g 34, g 35, g 36, g 37]
noncomputable def loopBody : Code := cfst (cfst (csnd (cfst (csnd B15))))
noncomputable def c2 : Code := cfst (cfst loopBody)
noncomputable def c4 : Code := cfst (cfst (cfst (csnd loopBody)))
noncomputable def c3 : Code := csnd (csnd loopBody)
abbrev GF (p : Option Addr) (n cap : Nat) (i : Int) (g : Nat → Value) : Nat → Value := fun x => match x with | 6 => .int .i64 i | 7 => .slice p n cap | 8 => .int .i64 n | 9 => .bool false | 10 => .bool false | 11 | 12 | 13 | 14 => undef | 15 => .bool false | x => g x
abbrev GT (p : Option Addr) (n cap : Nat) (i : Int) (g : Nat → Value) : Nat → Value := fun x => match x with | 6 => .int .i64 i | 7 => .slice p n cap | 8 => .int .i64 n | 9 => .bool true | 10 => .bool true | 11 => .slice p n cap | 12 => .int .i64 n | 13 => .int .i64 16 | 14 => .bool (decide ((n : Int) ≤ 16)) | 15 => .bool (decide ((n : Int) ≤ 16)) | x => g x
section
variable (k : Nat) (p : Option Addr) (n cap : Nat) (i : Int) (g : Nat → Value) (h : AHeap)
theorem c2a : aops cfg.P (acall cfg k) (around cfg k) (cops c2) (((cops c2).toList.drop 0).take 4) (FF (.slice p n cap) i g) h =
    some ((((FF (.slice p n cap) i g).set 6 (.int .i64 i)).set 7 (.slice p n cap)).set 8 (.int .i64 n) |>.set 9 (.bool (decide (i < n))), h) := by kernel_rfl
theorem c2f : aops cfg.P (acall cfg k) (around cfg k) (cops c2) (((cops c2).toList.drop 4).take 6) ((((FF (.slice p n cap) i g).set 6 (.int .i64 i)).set 7 (.slice p n cap)).set 8 (.int .i64 n) |>.set 9 (.bool false)) h =
    some (FF (.slice p n cap) i (GF p n cap i g), h) := by kernel_rfl
theorem c2t : aops cfg.P (acall cfg k) (around cfg k) (cops c2) (((cops c2).toList.drop 4).take 6) ((((FF (.slice p n cap) i g).set 6 (.int .i64 i)).set 7 (.slice p n cap)).set 8 (.int .i64 n) |>.set 9 (.bool true)) h =
    some (FF (.slice p n cap) i (GT p n cap i g), h) := by kernel_rfl

theorem c2_run : ∃ g', acode cfg 15 none (k + 1) c2 (FF (.slice p n cap) i g) h = some (.normal, FF (.slice p n cap) i g', h) ∧ g' 15 = .bool (decide (i < n) && decide ((n : Int) ≤ 16)) := by
  cases hb : decide (i < n) with
  | false =>
    refine ⟨GF p n cap i g, acode_region (cfg := cfg) (id := 2) (ops := cops c2) ?_, rfl⟩
    rw [aops_split 4 0 (c2a k p n cap i g h), hb, aops_split 6 4 (c2f k p n cap i g h)]
    exact aops_end _ (by kernel_rfl)
  | true =>
    refine ⟨GT p n cap i g, acode_region (cfg := cfg) (id := 2) (ops := cops c2) ?_, rfl⟩
    rw [aops_split 4 0 (c2a k p n cap i g h), hb, aops_split 6 4 (c2t k p n cap i g h)]
    exact aops_end _ (by kernel_rfl)
end

section
variable (k : Nat) (b n cap : Nat) (j : Nat) (g : Nat → Value) (h : AHeap) {c : List Value} {e : TypeId} {opn ro : Bool} {s t : ByteArray}

abbrev SL (b n cap : Nat) : Value := .slice (some ⟨b, 0, none⟩) n cap
abbrev G1 (b n cap j : Nat) (g : Nat → Value) : Nat → Value := fun x => match x with | 18 => SL b n cap | 19 => .int .i64 j | x => g x
abbrev G2 (b n cap j : Nat) (g : Nat → Value) : Nat → Value := fun x => match x with | 18 => SL b n cap | 19 => .int .i64 j | 20 => .pointer (some ⟨b, 0 + j * 2, none⟩) | 21 => .pointer (some ⟨b, 0 + j * 2 + 0, none⟩) | x => g x
abbrev G3 (b n cap j : Nat) (s : ByteArray) (g : Nat → Value) (q : Bool) : Nat → Value := fun x => match x with | 18 => SL b n cap | 19 => .int .i64 j | 20 => .pointer (some ⟨b, 0 + j * 2, none⟩) | 21 => .pointer (some ⟨b, 0 + j * 2 + 0, none⟩) | 22 => .string s | 23 => .int .i64 s.size | 24 => .bool q | x => g x
theorem c4a : aops cfg.P (acall cfg k) (around cfg k) (cops c4) (((cops c4).toList.drop 0).take 2) (FF (SL b n cap) j g) h = some (FF (SL b n cap) j (G1 b n cap j g), h) := by kernel_rfl
theorem c4b : aops cfg.P (acall cfg k) (around cfg k) (cops c4) (((cops c4).toList.drop 3).take 1) ((FF (SL b n cap) j (G1 b n cap j g)).set 20 (.pointer (some ⟨b, 0 + j * 2, none⟩))) h = some (FF (SL b n cap) j (G2 b n cap j g), h) := by kernel_rfl
theorem c4c : aops cfg.P (acall cfg k) (around cfg k) (cops c4) (((cops c4).toList.drop 5).take 2) ((FF (SL b n cap) j (G2 b n cap j g)).set 22 (.string s)) h = some (FF (SL b n cap) j (G3 b n cap j s g (decide ((s.size : Int) > 100))), h) := by kernel_rfl


/-- The names' part of the test, and the rest of it where that says no. -/
abbrev G4t (b n cap j : Nat) (s : ByteArray) (g : Nat → Value) : Nat → Value := fun x => match x with | 25 => .bool true | 26 | 27 | 28 | 29 | 30 | 31 | 32 => undef | 33 => .bool true | x => G3 b n cap j s g true x
theorem c4t : aops cfg.P (acall cfg k) (around cfg k) (cops c4) (((cops c4).toList.drop 7).take 9) (FF (SL b n cap) j (G3 b n cap j s g true)) h = some (FF (SL b n cap) j (G4t b n cap j s g), h) := by kernel_rfl
abbrev G5 (b n cap j : Nat) (s : ByteArray) (g : Nat → Value) : Nat → Value := fun x => match x with | 25 => .bool false | 26 => SL b n cap | 27 => .int .i64 j | x => G3 b n cap j s g false x
theorem c4f1 : aops cfg.P (acall cfg k) (around cfg k) (cops c4) (((cops c4).toList.drop 7).take 3) (FF (SL b n cap) j (G3 b n cap j s g false)) h = some (FF (SL b n cap) j (G5 b n cap j s g), h) := by kernel_rfl
abbrev G6 (b n cap j : Nat) (s : ByteArray) (g : Nat → Value) : Nat → Value := fun x => match x with | 28 => .pointer (some ⟨b, 0 + j * 2, none⟩) | 29 => .pointer (some ⟨b, 0 + j * 2 + 1, none⟩) | x => G5 b n cap j s g x
theorem c4f2 : aops cfg.P (acall cfg k) (around cfg k) (cops c4) (((cops c4).toList.drop 11).take 1) ((FF (SL b n cap) j (G5 b n cap j s g)).set 28 (.pointer (some ⟨b, 0 + j * 2, none⟩))) h = some (FF (SL b n cap) j (G6 b n cap j s g), h) := by kernel_rfl
abbrev G7 (b n cap j : Nat) (s t : ByteArray) (g : Nat → Value) : Nat → Value := fun x => match x with | 30 => .string t | 31 => .int .i64 t.size | 32 => .bool (decide ((t.size : Int) > 500)) | 33 => .bool (decide ((t.size : Int) > 500)) | x => G6 b n cap j s g x
theorem c4f3 : aops cfg.P (acall cfg k) (around cfg k) (cops c4) (((cops c4).toList.drop 13).take 3) ((FF (SL b n cap) j (G6 b n cap j s g)).set 30 (.string t)) h = some (FF (SL b n cap) j (G7 b n cap j s t g), h) := by kernel_rfl

theorem und23 : cfg.P.underlying 23 = some (.slice 93) := by kernel_rfl
theorem cells93 : cfg.P.cellsOf 93 = 2 := by kernel_rfl
theorem info93 : (cfg.P.info? 93).isSome = true := by kernel_rfl
theorem agg9 : aggT cfg.P 9 = some false := by kernel_rfl
theorem index_ok (hj : j < n) : aindexAddr cfg.P 23 (SL b n cap) (.int .i64 j) = some (.pointer (some ⟨b, 0 + j * 2, none⟩)) := by
  unfold aindexAddr
  rw [und23]
  simp only [cells93, info93]
  rw [if_pos ⟨by omega, by omega, trivial⟩]
  simp

set_option maxRecDepth 100000 in
theorem c4_run (hj : j < n) (hb : h.get b = .cells c e opn ro) (hs : c[0 + j * 2 + 0]? = some (.string s)) (ht : c[0 + j * 2 + 1]? = some (.string t)) :
    ∃ g' q, acode cfg 15 none (k + 1) c4 (FF (SL b n cap) j g) h = some (.normal, FF (SL b n cap) j g', h) ∧ g' 33 = .bool q := by
  have o2 : (cops c4).toList[2]? = some (((cops c4).toList[2]?).getD default) := by kernel_rfl
  have o4 : (cops c4).toList[4]? = some (((cops c4).toList[4]?).getD default) := by kernel_rfl
  have o10 : (cops c4).toList[10]? = some (((cops c4).toList[10]?).getD default) := by kernel_rfl
  have o12 : (cops c4).toList[12]? = some (((cops c4).toList[12]?).getD default) := by kernel_rfl
  have head : aops cfg.P (acall cfg k) (around cfg k) (cops c4) ((cops c4).toList.drop 0) (FF (SL b n cap) j g) h = aops cfg.P (acall cfg k) (around cfg k) (cops c4) ((cops c4).toList.drop 7) (FF (SL b n cap) j (G3 b n cap j s g (decide ((s.size : Int) > 100)))) h := by
    rw [aops_split 2 0 (c4a k b n cap j g h)]
    rw [aops_val 2 3 20 o2 rfl (by kernel_rfl) (by kernel_rfl) ((aop_indexAddr (t := 23) (x := .tmp 18) (y := .tmp 19) (by kernel_rfl) rfl rfl (index_ok b n cap j hj)))]
    rw [aops_split 1 3 (c4b k b n cap j g h)]
    rw [aops_val 4 5 22 o4 rfl (by kernel_rfl) (by kernel_rfl) ((aop_load (t := 9) (x := .tmp 21) (by kernel_rfl) rfl (aload_one hb agg9 hs)))]
    exact aops_split 2 5 (c4c k b n cap j g h)
  cases hq : decide ((s.size : Int) > 100) with
  | true =>
    refine ⟨G4t b n cap j s g, true, acode_region (cfg := cfg) (id := 4) (ops := cops c4) ?_, rfl⟩
    rw [head, hq, aops_split 9 7 (c4t k b n cap j g h)]
    exact aops_end _ (by kernel_rfl)
  | false =>
    refine ⟨G7 b n cap j s t g, decide ((t.size : Int) > 500), acode_region (cfg := cfg) (id := 4) (ops := cops c4) ?_, rfl⟩
    rw [head, hq, aops_split 3 7 (c4f1 k b n cap j g h)]
    rw [aops_val 10 11 28 o10 rfl (by kernel_rfl) (by kernel_rfl) ((aop_indexAddr (t := 23) (x := .tmp 26) (y := .tmp 27) (by kernel_rfl) rfl rfl (index_ok b n cap j hj)))]
    rw [aops_split 1 11 (c4f2 k b n cap j g h)]
    rw [aops_val 12 13 30 o12 rfl (by kernel_rfl) (by kernel_rfl) ((aop_load (t := 9) (x := .tmp 29) (by kernel_rfl) rfl (aload_one hb agg9 ht)))]
    rw [aops_split 3 13 (c4f3 k b n cap j g h)]
    exact aops_end _ (by kernel_rfl)

abbrev G8 (i : Int) (g : Nat → Value) : Nat → Value := fun x => match x with | 16 => .int .i64 i | 17 => .int .i64 (IntKind.i64.wrap (i + 1)) | x => g x
theorem c3a (S : Value) (i : Int) : aops cfg.P (acall cfg k) (around cfg k) (cops c3) (((cops c3).toList.drop 0).take 3) (FF S i g) h = some (FF S (IntKind.i64.wrap (i + 1)) (G8 i g), h) := by kernel_rfl
theorem c3_run (S : Value) (i : Int) : acode cfg 15 none (k + 1) c3 (FF S i g) h = some (.normal, FF S (IntKind.i64.wrap (i + 1)) (G8 i g), h) := by
  refine acode_region (cfg := cfg) (id := 3) (ops := cops c3) ?_
  rw [aops_split 3 0 (c3a k g h S i)]
  exact aops_end _ (by kernel_rfl)
theorem wrap_small (x : Int) (h0 : 0 ≤ x) (h1 : x < 9223372036854775808) : IntKind.i64.wrap x = x := by
  show (if (true && decide (x % 18446744073709551616 ≥ 9223372036854775808)) = true then x % 18446744073709551616 - 18446744073709551616 else x % 18446744073709551616) = x
  rw [if_neg (by rw [Bool.true_and, decide_eq_true_eq]; omega)]
  omega

noncomputable def c5 : Code := cfst (cfst (csnd (cfst (cfst (csnd loopBody)))))
theorem loop_shape : loopBody = .seq (.seq c2 (.cond (.tmp 15) .skip (.exit 0))) (.seq (.block 1 (.seq c4 (.cond (.tmp 33) (.seq c5 .ret) .skip))) c3) := rfl
theorem c5_run (S : Value) (i : Int) : ∃ fr', acode cfg 15 none (k + 1) c5 (FF S i g) h = some (.normal, fr', h) ∧ fr'.getD 4 undef = .bool true :=
  ⟨(FF S i g).set 4 (.bool true), by
    refine acode_region (cfg := cfg) (id := 5) (ops := cops c5) ?_
    rw [aops_split 1 0 (show aops cfg.P (acall cfg k) (around cfg k) (cops c5) (((cops c5).toList.drop 0).take 1) (FF S i g) h = some ((FF S i g).set 4 (.bool true), h) by kernel_rfl)]
    exact aops_end _ (by kernel_rfl), rfl⟩

/-- A round that goes on, or the way out. -/
theorem loop_run (hn : n < 9223372036854775808) (hb : h.get b = .cells c e opn ro) (hc : ∀ j, j < n → ∃ s t, c[0 + j * 2 + 0]? = some (.string s) ∧ c[0 + j * 2 + 1]? = some (.string t)) :
    ∀ (m j : Nat) (g : Nat → Value), j + m = n → ∃ x fr', acode cfg 15 none (m + 10 + k) (.loop loopBody) (FF (SL b n cap) j g) h = some (x, fr', h) ∧ ((x = .exit 0 ∧ ∃ i g', fr' = FF (SL b n cap) i g') ∨ (x = .ret ∧ fr'.getD 4 undef = .bool true)) := by
  intro m
  induction m with
  | zero =>
    intro j g hj
    obtain ⟨g1, h1, h15⟩ := c2_run (0 + 6 + k) (some ⟨b, 0, none⟩) n cap j g h
    rw [show decide ((j : Int) < n) = false from decide_eq_false (by omega), Bool.false_and] at h15
    refine ⟨.exit 0, FF (SL b n cap) j g1, ?_, .inl ⟨rfl, _, _, rfl⟩⟩
    rw [show 0 + 10 + k = (0 + 9 + k) + 1 by omega]
    refine acode_loop_out (x := .exit 0) ?_ (by simp)
    rw [loop_shape, show 0 + 9 + k = (0 + 8 + k) + 1 by omega]
    refine acode_seq_out (x := .exit 0) ?_ (by simp)
    rw [show 0 + 8 + k = (0 + 7 + k) + 1 by omega, acode_seq (show acode cfg 15 none (0 + 7 + k) c2 _ h = _ by rw [show 0 + 7 + k = (0 + 6 + k) + 1 by omega]; exact h1)]
    rw [show 0 + 7 + k = (0 + 6 + k) + 1 by omega, acode_cond (t := false) (show ev (FF (SL b n cap) j g1) (.tmp 15) = .bool false from h15), show 0 + 6 + k = (0 + 5 + k) + 1 by omega]
    simp [acode]
  | succ m ih =>
    intro j g hj
    obtain ⟨g1, h1, h15⟩ := c2_run (m + 7 + k) (some ⟨b, 0, none⟩) n cap j g h
    rw [show decide ((j : Int) < n) = true from decide_eq_true (by omega), Bool.true_and] at h15
    rw [show m + 1 + 10 + k = (m + 10 + k) + 1 by omega]
    cases hq : decide ((n : Int) ≤ 16) with
    | false =>
      rw [hq] at h15
      refine ⟨.exit 0, FF (SL b n cap) j g1, ?_, .inl ⟨rfl, _, _, rfl⟩⟩
      refine acode_loop_out (x := .exit 0) ?_ (by simp)
      rw [loop_shape, show m + 10 + k = (m + 9 + k) + 1 by omega]
      refine acode_seq_out (x := .exit 0) ?_ (by simp)
      rw [show m + 9 + k = (m + 8 + k) + 1 by omega, acode_seq (show acode cfg 15 none (m + 8 + k) c2 _ h = _ by rw [show m + 8 + k = (m + 7 + k) + 1 by omega]; exact h1)]
      rw [show m + 8 + k = (m + 7 + k) + 1 by omega, acode_cond (t := false) (show ev (FF (SL b n cap) j g1) (.tmp 15) = .bool false from h15), show m + 7 + k = (m + 6 + k) + 1 by omega]
      simp [acode]
    | true =>
      rw [hq] at h15
      obtain ⟨s, t, hs, ht⟩ := hc j (by omega)
      obtain ⟨g2, q, h2, h33⟩ := c4_run (m + 5 + k) b n cap j g1 h (by omega) hb hs ht
      have first : acode cfg 15 none (m + 9 + k) (.seq c2 (.cond (.tmp 15) .skip (.exit 0))) (FF (SL b n cap) j g) h = some (.normal, FF (SL b n cap) j g1, h) := by
        rw [show m + 9 + k = (m + 8 + k) + 1 by omega, acode_seq (show acode cfg 15 none (m + 8 + k) c2 _ h = _ by rw [show m + 8 + k = (m + 7 + k) + 1 by omega]; exact h1)]
        rw [show m + 8 + k = (m + 7 + k) + 1 by omega, acode_cond (t := true) (show ev (FF (SL b n cap) j g1) (.tmp 15) = .bool true from h15), show m + 7 + k = (m + 6 + k) + 1 by omega]
        simp [acode]
      cases q with
      | true =>
        obtain ⟨fr5, h5, h4⟩ := c5_run (m + 3 + k) g2 h (SL b n cap) j
        refine ⟨.ret, fr5, ?_, .inr ⟨rfl, h4⟩⟩
        refine acode_loop_out (x := .ret) ?_ (by simp)
        rw [loop_shape, show m + 10 + k = (m + 9 + k) + 1 by omega, acode_seq first, show m + 9 + k = (m + 8 + k) + 1 by omega]
        refine acode_seq_out (x := .ret) ?_ (by simp)
        rw [show m + 8 + k = (m + 7 + k) + 1 by omega]
        refine acode_block (x := .ret) ?_
        rw [show m + 7 + k = (m + 6 + k) + 1 by omega, acode_seq (show acode cfg 15 none (m + 6 + k) c4 _ h = _ by rw [show m + 6 + k = (m + 5 + k) + 1 by omega]; exact h2)]
        rw [show m + 6 + k = (m + 5 + k) + 1 by omega, acode_cond (t := true) (show ev (FF (SL b n cap) j g2) (.tmp 33) = .bool true from h33)]
        simp only [if_true]
        rw [show m + 5 + k = (m + 4 + k) + 1 by omega, acode_seq (show acode cfg 15 none (m + 4 + k) c5 _ h = _ by rw [show m + 4 + k = (m + 3 + k) + 1 by omega]; exact h5)]
        rw [show m + 4 + k = (m + 3 + k) + 1 by omega]
        simp [acode]
      | false =>
        obtain ⟨x, fr', h6, h7⟩ := ih (j + 1) (G8 j g2) (by omega)
        refine ⟨x, fr', ?_, h7⟩
        rw [← h6]
        have hw : IntKind.i64.wrap ((j : Int) + 1) = ((j + 1 : Nat) : Int) := by rw [wrap_small _ (by omega) (by omega)]; omega
        refine acode_loop (cfg := cfg) (h1 := h) (fr1 := FF (SL b n cap) ((j + 1 : Nat) : Int) (G8 j g2)) ?_
        rw [loop_shape, show m + 10 + k = (m + 9 + k) + 1 by omega, acode_seq first, show m + 9 + k = (m + 8 + k) + 1 by omega]
        have second : acode cfg 15 none (m + 8 + k) (.block 1 (.seq c4 (.cond (.tmp 33) (.seq c5 .ret) .skip))) (FF (SL b n cap) j g1) h = some (.normal, FF (SL b n cap) j g2, h) := by
          rw [show m + 8 + k = (m + 7 + k) + 1 by omega]
          refine acode_block (x := .normal) ?_
          rw [show m + 7 + k = (m + 6 + k) + 1 by omega, acode_seq (show acode cfg 15 none (m + 6 + k) c4 _ h = _ by rw [show m + 6 + k = (m + 5 + k) + 1 by omega]; exact h2)]
          rw [show m + 6 + k = (m + 5 + k) + 1 by omega, acode_cond (t := false) (show ev (FF (SL b n cap) j g2) (.tmp 33) = .bool false from h33), show m + 5 + k = (m + 4 + k) + 1 by omega]
          simp [acode]
        rw [acode_seq second, show m + 8 + k = (m + 7 + k) + 1 by omega, c3_run, hw]

noncomputable def c6 : Code := cfst (csnd (csnd B15))
noncomputable def c0 : Code := cfst B15
noncomputable def c1 : Code := cfst (cfst (csnd B15))
theorem shape15 : B15 = .seq c0 (.seq (.seq c1 (.block 0 (.loop loopBody))) (.seq c6 .ret)) := rfl
abbrev F0 (S : Value) : Fr := [S, .int .i64 16, undef, undef, undef, undef, undef, undef, undef, undef, undef, undef, undef, undef, undef, undef, undef, undef, undef, undef, undef, undef, undef, undef, undef, undef, undef, undef, undef, undef, undef, undef, undef, undef, undef, undef, undef, undef]
theorem c0_run (S : Value) : acode cfg 15 none (k + 1) c0 (F0 S) h = some (.normal, (F0 S).set 4 (.bool false), h) := by
  refine acode_region (cfg := cfg) (id := 0) (ops := cops c0) ?_
  rw [aops_split 1 0 (show aops cfg.P (acall cfg k) (around cfg k) (cops c0) (((cops c0).toList.drop 0).take 1) (F0 S) h = some ((F0 S).set 4 (.bool false), h) by kernel_rfl)]
  exact aops_end _ (by kernel_rfl)
theorem c1_run (S : Value) : acode cfg 15 none (k + 1) c1 ((F0 S).set 4 (.bool false)) h = some (.normal, FF S 0 (fun _ => undef), h) := by
  refine acode_region (cfg := cfg) (id := 1) (ops := cops c1) ?_
  rw [aops_split 1 0 (show aops cfg.P (acall cfg k) (around cfg k) (cops c1) (((cops c1).toList.drop 0).take 1) ((F0 S).set 4 (.bool false)) h = some (FF S 0 (fun _ => undef), h) by kernel_rfl)]
  exact aops_end _ (by kernel_rfl)
theorem c6_run (p : Option Addr) (i : Int) : ∃ fr' q, acode cfg 15 none (k + 1) c6 (FF (.slice p n cap) i g) h = some (.normal, fr', h) ∧ fr'.getD 4 undef = .bool q := by
  refine ⟨(((((FF (.slice p n cap) i g).set 34 (.slice p n cap)).set 35 (.int .i64 n)).set 36 (.int .i64 16)).set 37 (.bool (decide ((n : Int) > 16)))).set 4 (.bool (decide ((n : Int) > 16))), decide ((n : Int) > 16), ?_, rfl⟩
  refine acode_region (cfg := cfg) (id := 6) (ops := cops c6) ?_
  rw [aops_split 5 0 (show aops cfg.P (acall cfg k) (around cfg k) (cops c6) (((cops c6).toList.drop 0).take 5) (FF (.slice p n cap) i g) h = some ((((((FF (.slice p n cap) i g).set 34 (.slice p n cap)).set 35 (.int .i64 n)).set 36 (.int .i64 16)).set 37 (.bool (decide ((n : Int) > 16)))).set 4 (.bool (decide ((n : Int) > 16))), h) by kernel_rfl)]
  exact aops_end _ (by kernel_rfl)

/-- Whether there are too many files, or too long ones, is said; nothing is changed. -/
theorem files_of_loop {S : Value} {p : Option Addr} (hS : S = .slice p n cap) {x : AExit} {fr1 : Fr} (h1 : acode cfg 15 none (k + 20) (.loop loopBody) (FF S 0 (fun _ => undef)) h = some (x, fr1, h))
    (h2 : (x = .exit 0 ∧ ∃ i g', fr1 = FF S i g') ∨ (x = .ret ∧ fr1.getD 4 undef = .bool true)) : ∃ q, acall cfg (k + 25) 15 [S, .int .i64 16] h = some (.bool q, h) := by
  have hb := acode_block (id := 0) h1
  have hX : acode cfg 15 none (k + 22) (.seq c1 (.block 0 (.loop loopBody))) ((F0 S).set 4 (.bool false)) h = some (blockOut 0 x, fr1, h) := by
    rw [acode_seq (c1_run (k + 20) h S)]; exact hb
  rcases h2 with ⟨rfl, i, g', rfl⟩ | ⟨rfl, h4⟩
  · subst hS
    obtain ⟨fr', q, h6, h4⟩ := c6_run (k + 20) n cap g' h p i
    refine ⟨q, acall_of (k := k + 24) (fn := Tryz.f15) (c := B15) (x := .ret) (fr1 := fr') rfl (by kernel_rfl) Tryz.func15 body15 ?_ (.inr rfl) (vs := [.bool q]) ?_ rfl⟩
    · rw [shape15]
      show acode cfg 15 none (k + 24) _ (F0 (.slice p n cap)) h = _
      rw [acode_seq (c0_run (k + 22) h (.slice p n cap)), acode_seq hX, acode_seq h6]
      rfl
    · show aresults cfg.P fr' h [.tmp 4] = _
      simp only [aresults, aresult, h4, Option.map_some]
  · refine ⟨true, acall_of (k := k + 24) (fn := Tryz.f15) (c := B15) (x := .ret) (fr1 := fr1) rfl (by kernel_rfl) Tryz.func15 body15 ?_ (.inr rfl) (vs := [.bool true]) ?_ rfl⟩
    · rw [shape15]
      show acode cfg 15 none (k + 24) _ (F0 S) h = _
      rw [acode_seq (c0_run (k + 22) h S)]
      exact acode_seq_out hX (by simp)
    · show aresults cfg.P fr1 h [.tmp 4] = _
      simp only [aresults, aresult, h4, Option.map_some]
end
end Go.Proofs
