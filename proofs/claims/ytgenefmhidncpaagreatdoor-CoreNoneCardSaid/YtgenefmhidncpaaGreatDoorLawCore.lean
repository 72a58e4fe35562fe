/- CoreNone is proved: whatever act comes in, the law answers true and leaves its argument as it was; no condition but the row's own. -/
import Derived.Test.YtgenefmhidncpaaGreatDoorChecked
import Derived.Test.YtgenefmhidncpaaGreatDoorRows
import Derived.Test.YtgenefmhidncpaaGreatDoorCards
import Derived.Test.YtgenefmhidncpaaGreatDoorTie
import Derived.Test.YtgenefmhidncpaaGreatDoorRunCore
import Derived.Test.YtgenefmhidncpaaGreatDoorTwo
import Derived.Deep.SlicePairs
import Derived.WalkKit
import Derived.ProofKit
import Derived.Lay
import Derived.LaidOnce
import Derived.SevenTiedAt
namespace Go.Proofs.YtgenefmhidncpaaGreatDoor
open Go.ChangeShapes Go.WideShapes Go.ChangeAt Go.RowKit Go.Abs
theorem own : ownKnob Tryz.prog.godebug = none := by kernel_rfl
theorem laidOut : laidOutB Tryz.prog = true := by kernel_rfl
def laidL : List (String × DataW Unit) := [("unicode/utf8.acceptRanges", Rows.laid_unicode_utf8_acceptRanges), ("unicode/utf8.first", Rows.laid_unicode_utf8_first)]
theorem und3 : Tryz.prog.underlying 3 = some (.int .i64) := by kernel_rfl
theorem und9 : Tryz.prog.underlying 9 = some .string := by kernel_rfl
theorem und4 : Tryz.prog.underlying 4 = some .bool := by kernel_rfl
theorem und22 : Tryz.prog.underlying 22 = some (.slice 3) := by kernel_rfl
theorem undS : Tryz.prog.underlying 23 = some (.slice 93) := by kernel_rfl

section
variable {W : World} {H : Type} {enc : TypeId × Value → H} {base : Nat}
/-- The files that came in are pairs of texts. -/
theorem files_open {x : DataW H × List MemPlace} {fuel : Nat} {b o n c : Nat} (h : DataW.trod enc Tryz.prog W 0 (fun _ => true) true fuel 23 [.slice (some ⟨b, o, none⟩) n c] = some x) :
    n < 9223372036854775808 ∧ ∃ S T : Nat → ByteArray, ∀ j, j < n → W.cell? ⟨b, o + j * 2, none⟩ = some (.string (S j)) ∧ W.cell? ⟨b, o + (j * 2 + 1), none⟩ = some (.string (T j)) := by
  obtain ⟨f0, f1, hf, ho0, ho1, ht0, ht1⟩ : ∃ f0 f1 : Field, Tryz.prog.underlying 93 = some (.struct #[f0, f1]) ∧ f0.offset = 0 ∧ f1.offset = 1 ∧ f0.type = 9 ∧ f1.type = 9 := ⟨_, _, Tryz.underlying93, rfl, rfl, rfl, rfl⟩
  rcases Go.Deep.open_slice_pairs undS hf (by kernel_rfl) ho0 ho1 (by rw [ht0]; kernel_rfl) (by rw [ht1]; kernel_rfl) h with ⟨h0, _⟩ | ⟨a, len, cap, m, k, V0, V1, D0, D1, P0, P1, hcs, _, hl, hm, hmm, _, hx⟩
  · cases h0
  · simp only [List.cons.injEq, Value.slice.injEq, Option.some.injEq, and_true] at hcs
    obtain ⟨rfl, rfl, rfl⟩ := hcs
    have hmn : n ≤ m := by rw [hmm]; simpa using hl
    have key : ∀ j, j < n → ∃ s t : ByteArray, W.cell? ⟨b, o + j * 2, none⟩ = some (.string s) ∧ W.cell? ⟨b, o + (j * 2 + 1), none⟩ = some (.string t) := fun j hj => by
      obtain ⟨e0, e1, t0, t1⟩ := hx j (by omega)
      rw [ht0] at t0
      rw [ht1] at t1
      obtain ⟨s, hs, _⟩ := DataW.trod_string und9 t0
      obtain ⟨t, ht, _⟩ := DataW.trod_string und9 t1
      simp only [List.cons.injEq, and_true] at hs ht
      rw [hs] at e0
      rw [ht] at e1
      rw [addr_add] at e0 e1
      exact ⟨s, t, e0, e1⟩
    refine ⟨by have : maxLen < 9223372036854775808 := by decide
               omega, fun j => if hj : j < n then Classical.choose (key j hj) else default, fun j => if hj : j < n then Classical.choose (Classical.choose_spec (key j hj)) else default, fun j hj => ?_⟩
    simp only [dif_pos hj]
    exact Classical.choose_spec (Classical.choose_spec (key j hj))

set_option maxRecDepth 100000 in
/-- A call of the law, its argument's two slices told. -/
theorem core_call (o : Bool) (a0 a1 a2 a3 a4 : Int) (q : Bool) (s : ByteArray) (v7 v8 : Value) (h7 : Cell.okWide Tryz.prog W .any base 22 v7) (h8 : Cell.okWide Tryz.prog W .any base 23 v8)
    {x : DataW H × List MemPlace} {fuel : Nat} (ht : DataW.trod enc Tryz.prog W 0 (fun _ => true) true fuel 23 [v8] = some x) :
    Calls Tryz.prog 3 #[.agg #[.bool o, .int .i64 a0, .int .i64 a1, .int .i64 a2, .int .i64 a3, .int .i64 a4, .bool q, v7, v8, .string s]] W fun e W' => e = .returned (.bool true) ∧ Below W.heap.size W W' := by
  -- the parents
  obtain ⟨p1, n1, c1, r0, hr0, hv7⟩ : ∃ (p1 : Option Addr) (n1 c1 : Nat) (r0 : Option BI), (∀ i, r0 = some i → i.blk < W.heap.size) ∧ ∀ r1, RelV (two r0 r1) (.slice p1 n1 c1) v7 := by
    rcases cell_slice und22 h7 with rfl | ⟨b, off, n, c, row, cells, rfl, _, hsh⟩
    · exact ⟨none, 0, 0, none, (fun i h => by cases h), fun r1 => .sliceNil 0 0⟩
    · refine ⟨some ⟨0, 0, none⟩, n, c, some { blk := b, sh := off, len := 0, esz := 0, extra := 0, opn := false }, (fun i h => by cases h; exact (block_of_shape hsh).1), fun r1 => ?_⟩
      have : RelV (two (some { blk := b, sh := off, len := 0, esz := 0, extra := 0, opn := false }) r1) (.slice (some ⟨0, 0, none⟩) n c) (.slice (some ⟨b, off + 0, none⟩) n c) := .slice (i := { blk := b, sh := off, len := 0, esz := 0, extra := 0, opn := false }) rfl (.inl rfl)
      simpa using this
  have fin : ∀ (p : Option Addr) (n c : Nat) (r1 : Option BI) (X : AObj) (k : Nat), (∀ i, r1 = some i → i.blk < W.heap.size) → (X.alive = true → ∃ i, r1 = some i ∧ RelObj Tryz.prog (two r0 r1) i W X) → X.wr = false → RelV (two r0 r1) (.slice p n c) v8 →
      (∃ h', acall cfg k 3 [AV o a0 a1 a2 a3 a4 q p1 n1 c1 p n c s] ((AHeap.empty.push .dead).push X) = some (.bool true, h')) →
      Calls Tryz.prog 3 #[.agg #[.bool o, .int .i64 a0, .int .i64 a1, .int .i64 a2, .int .i64 a3, .int .i64 a4, .bool q, v7, v8, .string s]] W fun e W' => e = .returned (.bool true) ∧ Below W.heap.size W W' := by
    intro p n c r1 X k hr1 hX hXw hv8 ⟨h', hrun⟩
    obtain ⟨hs, hro, hfr⟩ := rel_two (P := Tryz.prog) (w := W) hr0 hr1 hX hXw
    refine calls_true (cfg := cfg) cfg_ok rfl hrun hs hro (hfr _) (args' := [.agg #[.bool o, .int .i64 a0, .int .i64 a1, .int .i64 a2, .int .i64 a3, .int .i64 a4, .bool q, v7, v8, .string s]]) ?_
    have hp : Pw (RelV (two r0 r1)) [.bool o, .int .i64 a0, .int .i64 a1, .int .i64 a2, .int .i64 a3, .int .i64 a4, .bool q, .slice p1 n1 c1, .slice p n c, .string s] [.bool o, .int .i64 a0, .int .i64 a1, .int .i64 a2, .int .i64 a3, .int .i64 a4, .bool q, v7, v8, .string s] :=
      Pw.cons (.bool _) (Pw.cons (.int _ _) (Pw.cons (.int _ _) (Pw.cons (.int _ _) (Pw.cons (.int _ _) (Pw.cons (.int _ _) (Pw.cons (.bool _) (Pw.cons (hv7 r1) (Pw.cons hv8 (Pw.cons (.string _) Pw.nil)))))))))
    exact Pw.cons (.agg hp.1 hp.2) Pw.nil
  -- the files
  rcases cell_slice undS h8 with rfl | ⟨b, off, n, c, row, cells, rfl, _, hsh⟩
  · exact fin none 0 0 none .dead 406 (fun i h => by cases h) (fun h => by cases h) rfl (.sliceNil 0 0) (core_nil 0 .dead .dead o a0 a1 a2 a3 a4 q p1 n1 c1 none 0 s)
  · obtain ⟨hn, S, T, hST⟩ := files_open ht
    have hrel : ∀ len : Nat, RelV (two r0 (some { blk := b, sh := off, len := len, esz := 0, extra := 0, opn := false })) (.slice (some ⟨1, 0, none⟩) n c) (.slice (some ⟨b, off, none⟩) n c) := fun len => by
      have : RelV (two r0 (some { blk := b, sh := off, len := len, esz := 0, extra := 0, opn := false })) (.slice (some ⟨1, 0, none⟩) n c) (.slice (some ⟨b, off + 0, none⟩) n c) := .slice (i := { blk := b, sh := off, len := len, esz := 0, extra := 0, opn := false }) rfl (.inl rfl)
      simpa using this
    by_cases h0 : n = 0
    · subst h0
      exact fin (some ⟨1, 0, none⟩) 0 c (some { blk := b, sh := off, len := 0, esz := 0, extra := 0, opn := false }) .dead 406 (fun i h => by cases h; exact (block_of_shape hsh).1) (fun h => by cases h) rfl (hrel 0) (core_nil 0 .dead .dead o a0 a1 a2 a3 a4 q p1 n1 c1 (some ⟨1, 0, none⟩) c s)
    · obtain ⟨cs, hcs, hR⟩ := rel_pairs (P := Tryz.prog) (w := W) (ρ := two r0 none) (e := 93) (b := b) (o := off) (n := n) (S := S) (T := T) (by omega) (fun j hj => (hST j hj).1) (fun j hj => (hST j hj).2)
      obtain ⟨cs, hcs, hR⟩ : ∃ cs : List Value, (∀ j, j < n → cs[0 + j * 2 + 0]? = some (.string (S j)) ∧ cs[0 + j * 2 + 1]? = some (.string (T j))) ∧ RelObj Tryz.prog (two r0 (some { blk := b, sh := off, len := cs.length, esz := 0, extra := 0, opn := false })) { blk := b, sh := off, len := cs.length, esz := 0, extra := 0, opn := false } W (.cells cs 93 false true) := by
        refine ⟨cs, hcs, ?_⟩
        refine RelObj.mono (fun x i hx => ?_) rfl hR
        unfold two at hx ⊢
        split
        · rename_i e; rw [if_pos e] at hx; exact hx
        · rename_i e; rw [if_neg e] at hx; split at hx <;> cases hx
      exact fin (some ⟨1, 0, none⟩) n c (some { blk := b, sh := off, len := cs.length, esz := 0, extra := 0, opn := false }) (.cells cs 93 false true) (n + 406) (fun i h => by cases h; exact (block_of_shape hsh).1) (fun _ => ⟨_, rfl, hR⟩) rfl (hrel cs.length)
        (core_some .dead (.cells cs 93 false true) o a0 a1 a2 a3 a4 q p1 n1 c1 n c s hn rfl (fun j hj => ⟨S j, T j, hcs j hj⟩))
end

set_option maxRecDepth 100000 in
theorem coreCall {H : Type} {enc : TypeId × Value → H} (v0 : Value) (W : World) (base : Nat) (hv : Value.okWide Tryz.prog W .any base 29 v0) {d0 : DataW H} {p0 : List MemPlace} (h0 : DataW.Trod enc Tryz.prog W 0 (fun _ => true) true 29 v0 d0 p0) :
    Calls Tryz.prog 3 #[v0] W fun e W' => e = .returned (.bool true) ∧ Below W.heap.size W W' := by
  obtain ⟨cs, rfl, hsz, hcell⟩ := open_cells (ts := [4, 3, 3, 3, 3, 3, 4, 22, 23, 9]) (n := 10) Tryz.underlying29 (by kernel_rfl) (by kernel_rfl) rfl hv
  obtain ⟨l⟩ := cs
  match l, hsz with
  | [c0, c1, c2, c3, c4, c5, c6, c7, c8, c9], _ =>
    obtain ⟨o, rfl⟩ := cell_bool und4 (hcell 0 c0 4 (by decide) rfl rfl)
    obtain ⟨a0, rfl⟩ := cell_int und3 (hcell 1 c1 3 (by decide) rfl rfl)
    obtain ⟨a1, rfl⟩ := cell_int und3 (hcell 2 c2 3 (by decide) rfl rfl)
    obtain ⟨a2, rfl⟩ := cell_int und3 (hcell 3 c3 3 (by decide) rfl rfl)
    obtain ⟨a3, rfl⟩ := cell_int und3 (hcell 4 c4 3 (by decide) rfl rfl)
    obtain ⟨a4, rfl⟩ := cell_int und3 (hcell 5 c5 3 (by decide) rfl rfl)
    obtain ⟨q, rfl⟩ := cell_bool und4 (hcell 6 c6 4 (by decide) rfl rfl)
    obtain ⟨s, rfl⟩ := cell_string und9 (hcell 9 c9 9 (by decide) rfl rfl)
    have h7 := hcell 7 c7 22 (by decide) rfl rfl
    have h8 := hcell 8 c8 23 (by decide) rfl rfl
    obtain ⟨fuel, ht⟩ := h0
    obtain ⟨xs, n1, _, _, _, _, hf⟩ := DataW.trod_struct Tryz.underlying29 ht
    have h2 := hf 2 _ rfl
    cases hx2 : xs[2]? with
    | none =>
      have hlen := (DataW.trod_struct Tryz.underlying29 ht)
      rename_i hl _ _ _
      exact absurd hx2 (by rw [List.getElem?_eq_none_iff]; simp_all)
    | some x2 =>
      rw [hx2] at h2
      obtain ⟨ys, n2, _, _, _, hly, hg⟩ := DataW.trod_struct Tryz.underlying27 (show DataW.trod enc Tryz.prog W 0 (fun _ => true) true n1 27 [.int .i64 a1, .int .i64 a2, .int .i64 a3, .int .i64 a4, .bool q, c7, c8, .string s] = some x2 from h2)
      have h5 := hg 5 _ rfl
      have hy5 : ∃ y, ys[5]? = some y := ⟨_, List.getElem?_eq_getElem (by rw [hly]; decide)⟩
      obtain ⟨y, hy5⟩ := hy5
      rw [hy5] at h5
      obtain ⟨zs, n3, _, _, _, hlz, hk⟩ := DataW.trod_struct Tryz.underlying25 (show DataW.trod enc Tryz.prog W 0 (fun _ => true) true n2 25 [c7, c8, .string s] = some y from h5)
      have h1 := hk 1 _ rfl
      have hz1 : ∃ z, zs[1]? = some z := ⟨_, List.getElem?_eq_getElem (by rw [hlz]; decide)⟩
      obtain ⟨z, hz1⟩ := hz1
      rw [hz1] at h1
      exact core_call o a0 a1 a2 a3 a4 q s c7 c8 h7 h8 (show DataW.trod enc Tryz.prog W 0 (fun _ => true) true n3 23 [c8] = some z from h1)

set_option maxRecDepth 100000 in
theorem core_lifted (os : Os) (started : os.Started) (H : Type) (enc : TypeId × Value → H) :
    ReturnsInHanded {} Tryz.checked os 3 .any (fun w args => (Rows.coreNoneSpec.pre enc Tryz.prog Tryz.f3 [] false w args ∧ laidMetH Tryz.prog laidL w) ∧ sizedMet enc Tryz.prog Tryz.f3 (OpenSpec.ofChange Rows.coreNoneSpec) false w args)
      (Rows.coreNoneSpec.post enc Tryz.prog Tryz.f3 false true false false) := by
  refine returnsInHanded_of_change_and (C := Tryz.checked) (X := fun w _ => laidMetH Tryz.prog laidL w) (fun _ _ _ hh h => h.of_heap hh) own started (by kernel_rfl) Tryz.func3
    (ChangeSpec.witness_shaped (enc := enc) (C := Tryz.checked) (os := os) (X := fun w _ => laidMetH Tryz.prog laidL w) false (World.laidAll Tryz.prog os laidL) #[.agg #[.bool false, .int .i64 0, .int .i64 0, .int .i64 0, .int .i64 0, .int .i64 0, .bool false, .slice none 0 0, .slice none 0 0, .string ⟨#[]⟩]] 8 (World.laidAll_os _ _ _)
      (World.shaped_of_ZipB (by kernel_rfl) (by kernel_rfl)) (by kernel_rfl) (by kernel_rfl) (by kernel_rfl)
      (by rw [MakeChecks.laidMetH_plain _ _ _ (by kernel_rfl)]; exact laidMet_laidAll _ (by kernel_rfl) (by kernel_rfl))) ?_
  intro W base args ds gs before hval0 hW _ _ hL _
  have hval : ∀ (j : Nat) t v, Tryz.f3.params[j]? = some t → args[j]? = some v → Value.okWide Tryz.prog W .any base t v := hval0
  have hW' := hW
  obtain ⟨p, q, hA0, hV, rfl, _, _⟩ := hW
  have hA : DataW.TrodAll enc Tryz.prog W 0 (fun _ => true) true Tryz.f3.params.toList args.toList ds p := hA0
  rw [Tryz.params3] at hA hval
  obtain ⟨v0, d0, rfl, rfl, h0⟩ := trodAll_one hA
  obtain ⟨rfl, rfl⟩ := trodVars_none hV
  simp only [List.append_nil] at hW'
  refine (coreCall v0 W base (hval 0 29 v0 rfl rfl) h0).mono fun e W' ⟨he, hb⟩ => ?_
  subst he
  exact ⟨_, rfl, _, _, _, [], p, [], hW', trodAll_mk1 (shut_bool Tryz.underlying4 _), trodAll_mk1 (Below.trod laidOut (by kernel_rfl) (of_decide_eq_true (by kernel_rfl)) h0 hb (fun x hx => by simpa using hW'.lt x hx)), rfl, hb.frame _, fun h => by cases h⟩

theorem core_holds : Rows.CoreNoneSaid :=
  OpenClaim.holds_of_wide 3 Tryz.f3 rfl rfl rfl rfl rfl rfl rfl ⟨rfl, rfl, rfl, rfl, rfl⟩ rfl rfl rfl rfl rfl (by kernel_rfl) Tryz.func3 (by kernel_rfl)
    (of_decide_eq_true (by kernel_rfl)) (by unfold Func.isWrapper; first | (rw [if_pos (by decide +kernel)]; kernel_rfl) | (rw [if_neg (by decide +kernel)]; exact ⟨rfl, rfl⟩))
    (fun os started H enc _ => core_lifted os started H enc)

theorem core_card : Rows.CoreNoneCardSaid :=
  Claim7.holds_tied_plain_at .later [] [.data, .pinned] true (true, "7382419445670b168e35af2e6e7fc2cae42f5fb382f1a4eecfb9d65caf5490b2") false core_holds (fun _ h => by cases h) (by kernel_rfl) (fun _ h => by cases h) coreNone_row_tie rfl ⟨rfl, rfl⟩ (by kernel_rfl) rfl
    (fun f fn hf hfn => by
      obtain rfl : f = 3 := Option.some.inj ((show Tryz.prog.funcNamed "cortege/cortegelaw22.CoreNone" = some 3 by kernel_rfl).symm.trans hf) |>.symm
      obtain rfl : fn = Tryz.f3 := (Option.some.inj (Tryz.func3.symm.trans hfn)).symm
      exact ⟨by kernel_rfl, fun j t ht => by
        rw [Tryz.params3] at ht
        have hm : t ∈ [29] := by simpa using Array.mem_of_getElem? ht
        have hall : ([29].all fun u => !Tryz.prog.wantsStandIn u) = true := by kernel_rfl
        exact (show Tryz.prog.wantsStandIn t = false by simpa using List.all_eq_true.1 hall t hm)⟩)
    (by kernel_rfl)
#print axioms core_card
end Go.Proofs.YtgenefmhidncpaaGreatDoor
