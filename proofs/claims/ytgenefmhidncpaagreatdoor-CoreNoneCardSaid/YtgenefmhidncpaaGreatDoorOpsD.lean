/- append, copy, clear, make, conversions of bytes. -/
import Derived.Test.YtgenefmhidncpaaGreatDoorOpsC
namespace Go.Abs
variable {P : Program} {ρ : Ren} {h : AHeap} {w : World} {fr : Fr} {a : Act}

theorem zeroCells_rel {z : Value} (hz : vdata z = true) (ρ : Ren) (n : Nat) : Pw (RelV ρ) (Builtin.zeroCells z.cells n).toList (Builtin.zeroCells z.cells n).toList := zcells_rel hz ρ _

theorem run_loadCells_zero (ad : Addr) (w : World) : (loadCells ad 0).run P w = .ok #[] w := by simp [loadCells, loadCellsFrom]

/-- A slice's cells, as they lie. -/
theorem slice_cells (hs : RelS P ρ h.get w) {ad : Addr} {n cap k : Nat} {vs : List Value} {x' : Value} (hv : acells h k ad = some vs) (hx : RelV ρ (.slice (some ad) n cap) x') (hk : n = 0 → k = 0) :
    ∃ ad' cap' vs', x' = .slice (some ad') n cap' ∧ Pw (RelV ρ) vs vs' ∧ vs'.length = k ∧ ∀ d, (loadCells ad' k).run P { w with drawn := d } = .ok vs'.toArray { w with drawn := d } := by
  obtain ⟨b, o, c, e, opn, ro, rfl, hb, hle, rfl⟩ := acells_block hv
  cases hx with
  | slice hi hc =>
    rename_i cap' i
    have hall : ∀ d, ∃ vs' : List Value, Pw (RelV ρ) ((c.drop o).take k) vs' ∧ vs'.length = k ∧ (loadCells ⟨i.blk, i.sh + o, none⟩ k).run P { w with drawn := d } = .ok vs'.toArray { w with drawn := d } := fun d => run_loadCells_rel (hs.drawn d) hv hi
    obtain ⟨vs', h1, h2, h3⟩ := hs.range hv hi
    refine ⟨_, _, vs', rfl, h1, h2, fun d => ?_⟩
    have := run_loadCells_list (P := P) { w with drawn := d } ⟨i.blk, i.sh + o, none⟩ vs' h3
    rwa [h2] at this
  | tail hi ho =>
    have hk0 := hk rfl
    subst hk0
    exact ⟨_, _, [], rfl, by simpa using Pw.nil, rfl, fun d => run_loadCells_zero _ _⟩

theorem newCells_rel (hz : ∀ t z, azero P t = some z → vdata z = true) (hs : RelS P ρ h.get w) {e : TypeId} {size n : Nat} {zeros : Bool} {x x' : Value} {new : List Value} (hn : anewCells P h e size zeros x = some (n, new)) (hx : RelV ρ x x') :
    ∃ new', Pw (RelV ρ) new new' ∧
      (zeros = false → (∀ w', (Builtin.lenOf x').run P w' = .ok n w') ∧ ∀ d, (Builtin.firstCells size n x').run P { w with drawn := d } = .ok new'.toArray { w with drawn := d }) ∧
      (zeros = true → ∃ k m z, x' = .int k m ∧ 0 ≤ m ∧ m ≤ 2 ^ 47 ∧ n = m.toNat ∧ azero P e = some z ∧ new' = (Builtin.zeroCells z.cells n).toList) := by
  unfold anewCells at hn
  split at hn
  · rename_i hzz
    split at hn
    · rename_i k m z hzt
      split at hn
      · rename_i hm
        simp only [Option.some.injEq, Prod.mk.injEq] at hn
        obtain ⟨rfl, rfl⟩ := hn
        cases hx
        exact ⟨_, zeroCells_rel (hz e z hzt) ρ _, fun h => by simp [h] at hzz, fun _ => ⟨k, m, z, rfl, hm.1, hm.2, rfl, hzt, rfl⟩⟩
      · cases hn
    · cases hn
  · rename_i hzz
    split at hn
    · split at hn
      · rename_i h0
        simp only [Option.some.injEq, Prod.mk.injEq] at hn
        obtain ⟨rfl, rfl⟩ := hn
        cases hx
        exact ⟨[], Pw.nil, fun _ => ⟨fun w' => by simp [Builtin.lenOf, h0], fun d => by simp [Builtin.firstCells]⟩, fun h => by simp [h] at hzz⟩
      · cases hn
    · rename_i ad n' cap
      simp only [Option.map_eq_some_iff, Prod.mk.injEq] at hn
      obtain ⟨vs, hvs, rfl, rfl⟩ := hn
      obtain ⟨ad', cap', vs', rfl, h1, h2, h3⟩ := slice_cells hs hvs hx (fun h => by rw [h]; simp)
      exact ⟨vs', h1, fun _ => ⟨fun w' => by simp [Builtin.lenOf], fun d => by simp only [Builtin.firstCells]; exact h3 d⟩, fun h => by simp [h] at hzz⟩
    · rename_i s
      simp only [Option.some.injEq, Prod.mk.injEq] at hn
      obtain ⟨rfl, rfl⟩ := hn
      cases hx
      refine ⟨_, ldata_rel ρ ?_, fun _ => ⟨fun w' => by simp [Builtin.lenOf], fun d => ?_⟩, fun h => by simp [h] at hzz⟩
      · generalize s.data.toList = l
        induction l with
        | nil => rfl
        | cons b l ih => simpa [ldata, vdata] using ih
      · have : s.extract 0 s.size = s := by simp
        simp only [Builtin.firstCells, this, Sem.run_pure]
        congr 1
        apply Array.ext'
        simp
    · cases hn

/-- append, step by step: what is appended is known. -/
theorem run_append_any {ts : Array TypeId} {ty st xt e : TypeId} {xd : TypeDesc} {i : TypeInfo} {base : Option Addr} {sLen sCap n : Nat} {x : Value} {new : List Value} {z : Value}
    (h0 : ts[0]? = some st) (h1 : ts[1]? = some xt) (hd : P.underlying st = some (.slice e)) (hxd : P.underlying xt = some xd) (hi : P.info? e = some i) (hz : azero P e = some z)
    (hnb : n * i.bytes ≤ 2 ^ 47) (hnew : new.length = n * i.size)
    (hA : (∀ k, xd ≠ .int k) → (∀ w', (Builtin.lenOf x).run P w' = .ok n w') ∧ ∀ d, (Builtin.firstCells i.size n x).run P { w with drawn := d } = .ok new.toArray { w with drawn := d })
    (hB : (∃ k, xd = .int k) → ∃ k m, x = .int k m ∧ 0 ≤ m ∧ m ≤ 2 ^ 47 ∧ n = m.toNat ∧ new = (Builtin.zeroCells z.cells n).toList) :
    (sLen + n ≤ sCap → (Builtin.append_ ts ty #[.slice base sLen sCap, x]).run P w =
      ((match base with | none => (Result.ok () w : Result Unit) | some ad => (storeCells (ad.add (sLen * i.size)) new).run P w).andThen fun _ w' => .ok (.slice base (sLen + n) sCap) w')) ∧
    (sCap < sLen + n → (sLen + n) * i.bytes ≤ 2 ^ 47 → sLen + n < 2 ^ 62 → ∀ old : List Value, (∀ d, (Builtin.firstCells i.size sLen (.slice base sLen sCap)).run P { w with drawn := d } = .ok old.toArray { w with drawn := d }) →
      (Builtin.append_ ts ty #[.slice base sLen sCap, x]).run P w =
        .ok (.slice (some ⟨w.heap.size, 0, none⟩) (sLen + n) (grownCap w (sLen + n) sCap e))
          (w.drew.alloc (.cells (old.toArray ++ new.toArray ++ Builtin.zeroCells z.cells (grownCap w (sLen + n) sCap e - (sLen + n))) e))) := by
  have hzero : i.zero = some z := (by simpa [azero, hi] using hz : _ ∧ i.zero = some z).2
  by_cases hint : ∃ k, xd = .int k
  · obtain ⟨k, m, rfl, hm0, hm1, hnm, hnw⟩ := hB hint
    obtain ⟨kx, rfl⟩ := hint
    have hwrap : IntKind.i64.wrap m = m := by
      unfold IntKind.wrap IntKind.bits IntKind.signed
      simp; omega
    obtain rfl : m = (n : Int) := by omega
    have hneg : ¬ ((n : Int) < 0) := by omega
    have hbig : ¬ (281474976710656 < (n : Int) * (i.bytes : Int)) := by
      have : ((n * i.bytes : Nat) : Int) ≤ 2 ^ 47 := by exact_mod_cast hnb
      push_cast at this
      omega
    have hz0 : n * i.size = 0 → new = [] := fun h => List.eq_nil_of_length_eq_zero (by omega)
    refine ⟨fun hle => ?_, fun hlt hb hb2 old hold => ?_⟩
    · by_cases hn0 : n * i.size = 0
      · have hnil := hz0 hn0
        subst hnil
        cases base <;> simp [Builtin.append_, h0, h1, run_underlying' hd, run_underlying' hxd, run_sizeOf' hi, asInt, asIntOf, hwrap, hneg, run_typeInfo hi, hbig,  hle, hn0, storeCells]
      · cases base <;> simp [Builtin.append_, h0, h1, run_underlying' hd, run_underlying' hxd, run_sizeOf' hi, asInt, asIntOf, hwrap, hneg, run_typeInfo hi, hbig,  hle, hn0, run_zeroValue' hz, hnw]
    · have hnle : ¬ (sLen + n ≤ sCap) := by omega
      have h63 : ¬ (9223372036854775807 < (sLen : Int) + n) := by omega
      have h48 : ¬ (281474976710656 < Builtin.nextslicecap (sLen + n) sCap * i.bytes) := by have := growslice_fits hlt (by simpa using hb); omega
      have hold' : (Builtin.firstCells i.size sLen (.slice base sLen sCap)).run P w.drew = .ok old.toArray w.drew := hold (w.drawn + 1)
      by_cases hn0 : n * i.size = 0
      · have hnil := hz0 hn0
        subst hnil
        simp [Builtin.append_, h0, h1, run_underlying' hd, run_underlying' hxd, run_sizeOf' hi, asInt, asIntOf, hwrap, hneg, run_typeInfo hi, hbig,  hnle, hn0, h63, h48, Question.forced, hold', run_zeroValue' hz, newRow, grownCap]
      · simp [Builtin.append_, h0, h1, run_underlying' hd, run_underlying' hxd, run_sizeOf' hi, asInt, asIntOf, hwrap, hneg, run_typeInfo hi, hbig,  hnle, hn0, h63, h48, Question.forced, hold', run_zeroValue' hz, newRow, grownCap, hnw]
  · have hni : ∀ k, xd ≠ .int k := fun k e => hint ⟨k, e⟩
    obtain ⟨hl, hf⟩ := hA hni
    refine ⟨fun hle => ?_, fun hlt hb hb2 old hold => ?_⟩
    · have hf' : (Builtin.firstCells i.size n x).run P w = .ok new.toArray w := hf w.drawn
      cases base <;> simp [Builtin.append_, h0, h1, run_underlying' hd, run_underlying' hxd, run_sizeOf' hi, hl, hle, hf']
    · have hnle : ¬ (sLen + n ≤ sCap) := by omega
      have h63 : ¬ (9223372036854775807 < (sLen : Int) + n) := by omega
      have h48 : ¬ (281474976710656 < Builtin.nextslicecap (sLen + n) sCap * i.bytes) := by have := growslice_fits hlt (by simpa using hb); omega
      have hold' : (Builtin.firstCells i.size sLen (.slice base sLen sCap)).run P w.drew = .ok old.toArray w.drew := hold (w.drawn + 1)
      have hf' : (Builtin.firstCells i.size n x).run P w.drew = .ok new.toArray w.drew := hf (w.drawn + 1)
      simp [Builtin.append_, h0, h1, run_underlying' hd, run_underlying' hxd, run_sizeOf' hi, hl, hnle, h63, h48, Question.forced, hold', hf', run_zeroValue' hz, run_typeInfo hi, newRow, grownCap]
      congr 2
      apply Array.ext'
      simp

/-! ### append -/
/-- A block that nobody looks at any more. -/
theorem RelS.kill (hs : RelS P ρ h.get w) (b n : Nat) : RelS P ρ (h.set b .dead).get w ∧ Step ρ h.get n w ρ (h.set b .dead).get n w := by
  have hal : ∀ c, ((h.set b .dead).get c).alive = true → c ≠ b ∧ (h.set b .dead).get c = h.get c := fun c hc => by
    by_cases e : c = b
    · subst e; simp [AObj.alive] at hc
    · exact ⟨e, AHeap.get_set_ne h _ (Ne.symm e)⟩
  have hwr : ∀ c, ((h.set b .dead).get c).wr = true → (h.get c).wr = true := fun c hc => by
    have := (hal c (AObj.alive_of_mut hc)).2; rwa [this] at hc
  refine ⟨⟨fun c hc => ?_, hs.lt, fun c d i j hcd hc hd hi hj => hs.inj c d i j hcd (hwr c hc) ((hal d hd).2 ▸ hd) hi hj⟩,
    ⟨rfl, rfl, rfl, Nat.le_refl _, fun _ _ _ => rfl, Nat.le_refl _, fun _ _ => rfl, fun _ _ h1 h2 => by omega, fun c _ hc => (hal c hc).2 ▸ hc, fun c _ hc => hwr c hc⟩⟩
  obtain ⟨_, h2⟩ := hal c hc
  rw [h2] at hc ⊢
  exact hs.obj c hc

/-- A block goes on under another name; it is written. -/
theorem RelS.takeover (hs : RelS P ρ h.get w) {b : Nat} (hb : (h.get b).wr = true) {i j : BI} (hi : ρ b = some i) (hf : ρ h.next = none) (hj : j.blk = i.blk) (o : AObj) (ob : Obj)
    (ho : RelObj P (ρ.put h.next j) j { w with heap := w.heap.setIfInBounds i.blk ob } o) :
    RelS P (ρ.put h.next j) ((h.set b .dead).push o).get { w with heap := w.heap.setIfInBounds i.blk ob } ∧
      Step ρ h.get h.next w (ρ.put h.next j) ((h.set b .dead).push o).get (h.next + 1) { w with heap := w.heap.setIfInBounds i.blk ob } := by
  have hle := Ren.le_put hf j
  have hold : ∀ c, c ≠ i.blk → (w.heap.setIfInBounds i.blk ob)[c]? = w.heap[c]? := fun c hc => by rw [Array.getElem?_setIfInBounds, if_neg (Ne.symm hc)]
  have hnew : ((h.set b .dead).push o).get h.next = o := AHeap.get_push_same (h.set b .dead) o
  have hne : b ≠ h.next := fun e => by rw [e, hf] at hi; cases hi
  have hoth : ∀ c, c ≠ h.next → ((h.set b .dead).push o).get c = (h.set b .dead).get c := fun c hc => AHeap.get_push_ne (h.set b .dead) o (by simpa using Ne.symm hc)
  have hal : ∀ c, c ≠ h.next → (((h.set b .dead).push o).get c).alive = true → c ≠ b ∧ ((h.set b .dead).push o).get c = h.get c := fun c hc ha => by
    rw [hoth c hc] at ha ⊢
    by_cases e : c = b
    · subst e; simp [AObj.alive] at ha
    · exact ⟨e, AHeap.get_set_ne h _ (Ne.symm e)⟩
  have hblk : ∀ c k, c ≠ b → (h.get c).alive = true → ρ c = some k → k.blk ≠ i.blk := fun c k hc ha hk => Ne.symm (hs.inj b c i k (Ne.symm hc) hb ha hi hk)
  refine ⟨⟨fun c hc => ?_, fun c k hk => ?_, fun c d k l hcd hc hd hk hl => ?_⟩,
    ⟨rfl, rfl, rfl, by simp, fun c _ hn => hold c (Ne.symm (hn b i hi hb)), by omega, fun c hc => Ren.put_ne ρ j (by omega), fun c k h1 h2 hk => ?_, fun c hc ha => ?_, fun c hc ha => ?_⟩⟩
  · by_cases e : c = h.next
    · subst e
      exact ⟨j, by simp, by rw [hnew]; exact ho⟩
    · obtain ⟨h1, h2⟩ := hal c e hc
      rw [h2] at hc ⊢
      obtain ⟨k, hk, hR⟩ := hs.obj c hc
      exact ⟨k, hle _ _ hk, hR.mono hle (hold _ (hblk c k h1 hc hk))⟩
  · by_cases e : c = h.next
    · subst e
      simp at hk; subst hk
      simpa [hj] using hs.lt b i hi
    · rw [Ren.put_ne ρ j e] at hk
      simpa using hs.lt c k hk
  · by_cases e : c = h.next
    · subst e
      simp at hk; subst hk
      have hd' := hal d (Ne.symm hcd) hd
      rw [Ren.put_ne ρ _ (Ne.symm hcd)] at hl
      rw [hj]
      exact Ne.symm (hblk d l hd'.1 (hd'.2 ▸ hd) hl)
    · rw [Ren.put_ne ρ j e] at hk
      have hc' := hal c e (AObj.alive_of_mut hc)
      by_cases e2 : d = h.next
      · subst e2
        simp at hl; subst hl
        rw [hj]
        exact hblk c k hc'.1 (hc'.2 ▸ AObj.alive_of_mut hc) hk
      · rw [Ren.put_ne ρ j e2] at hl
        have hd' := hal d e2 hd
        exact hs.inj c d k l hcd (hc'.2 ▸ hc) (hd'.2 ▸ hd) hk hl
  · have : c = h.next := by omega
    subst this
    simp at hk; subst hk
    exact .inr ⟨b, i, hi, hb, hj.symm⟩
  · exact (hal c (by omega) ha).2 ▸ ha
  · exact (hal c (by omega) (AObj.alive_of_mut ha)).2 ▸ ha

theorem Step.drew {ρ ρ' : Ren} {g g' : Nat → AObj} {n0 n1 : Nat} {w w' : World} (h : Step ρ g n0 w.drew ρ' g' n1 w') : Step ρ g n0 w ρ' g' n1 w' := Step.trans (Step.drawn ρ g n0 w _) h

theorem append_sim (hz : ∀ t z, azero P t = some z → vdata z = true) (hzs : ∀ t z i, azero P t = some z → P.info? t = some i → z.cells.size = i.size) (hs : RelS P ρ h.get w) {ts : Array TypeId} {ty : TypeId} {s s' x x' v : Value} {h' : AHeap} (hap : aappend P h ts s x = some (v, h')) (hsv : RelV ρ s s') (hx : RelV ρ x x') {o : Oper}
    (hr : (execOp a.eval o).run P w = ((Builtin.append_ ts ty #[s', x']).run P w).andThen fun v w' => .ok (.value v) w') : OpSim P ρ h w a o v h' := by
  unfold aappend at hap
  split at hap
  · rename_i st xt base sLen sCap hst hxt
    split at hap
    · rename_i e xd hd hxd
      split at hap
      · rename_i i hi
        split at hap
        · cases hap
        · rename_i hsz
          simp only at hap
          split at hap
          · rename_i n new hnc
            split at hap
            · cases hap
            · rename_i hok
              simp only [Bool.or_eq_true, Bool.not_eq_true', decide_eq_true_eq, not_or, Bool.not_eq_false, Decidable.not_not] at hok
              obtain ⟨⟨hone, hnl⟩, hnb⟩ := hok
              have hnb : n * i.bytes ≤ 2 ^ 47 := by omega
              obtain ⟨new', hp, hA, hB⟩ := newCells_rel hz hs hnc hx
              have hnl' : new'.length = n * i.size := by rw [← hp.1]; exact hnl
              have hA' : (∀ k, xd ≠ .int k) → (∀ w', (Builtin.lenOf x').run P w' = .ok n w') ∧ ∀ d, (Builtin.firstCells i.size n x').run P { w with drawn := d } = .ok new'.toArray { w with drawn := d } := fun hk =>
                hA (by cases xd <;> first | rfl | exact absurd rfl (hk _))
              -- what is done where there is room, and where there is none; the zero value is asked for where it grows alone
              have hroom : ∀ (base' : Option Addr) (cap' : Nat), sLen + n ≤ cap' → (∃ z, azero P e = some z) ∨ (∀ k, xd ≠ .int k) → (Builtin.append_ ts ty #[.slice base' sLen cap', x']).run P w =
                  ((match base' with | none => (Result.ok () w : Result Unit) | some ad => (storeCells (ad.add (sLen * i.size)) new').run P w).andThen fun _ w' => .ok (.slice base' (sLen + n) cap') w') := by
                intro base' cap' hle hzz
                by_cases hzt : ∃ z, azero P e = some z
                · obtain ⟨z, hzt⟩ := hzt
                  refine (run_append_any hst hxt hd hxd hi hzt hnb hnl' hA' (fun hk => ?_)).1 hle
                  obtain ⟨k, rfl⟩ := hk
                  obtain ⟨k', m, z', h1, h2, h3, h4, h5, h6⟩ := hB rfl
                  rw [hzt] at h5; cases h5
                  exact ⟨k', m, h1, h2, h3, h4, h6⟩
                · have hni := hzz.resolve_left hzt
                  obtain ⟨hl, hf⟩ := hA' hni
                  have hf' : (Builtin.firstCells i.size n x').run P w = .ok new'.toArray w := hf w.drawn
                  cases base' <;> simp [Builtin.append_, hst, hxt, run_underlying' hd, run_underlying' hxd, run_sizeOf' hi, hl, hle, hf']
              have hzz : (∃ z, azero P e = some z) ∨ (∀ k, xd ≠ .int k) := by
                by_cases hint : ∃ k, xd = .int k
                · obtain ⟨k, rfl⟩ := hint
                  obtain ⟨_, _, z', _, _, _, _, h5, _⟩ := hB rfl
                  exact .inl ⟨z', h5⟩
                · exact .inr fun k e => hint ⟨k, e⟩
              have hnil : n = 0 → new' = [] := fun h0 => List.eq_nil_of_length_eq_zero (by rw [hnl', h0]; simp)
              have hnilL : n = 0 → new = [] := fun h0 => List.eq_nil_of_length_eq_zero (by rw [hnl, h0]; simp)
              split at hap
              · rename_i hle
                split at hap
                · split at hap
                  · rename_i hn0
                    cases hap
                    cases hsv
                    refine OpSim.pure hs (v' := .slice none (sLen + n) sCap) ?_ (.sliceNil _ _)
                    rw [hr, hroom none sCap hle hzz]
                    simp
                  · cases hap
                · rename_i a₀
                  split at hap
                  · rename_i hn0
                    cases hap
                    subst hn0
                    have h0 := hnil rfl
                    subst h0
                    cases hsv with
                    | slice hi' hc =>
                      rename_i cap' i'
                      refine OpSim.pure hs (v' := .slice (some ⟨i'.blk, i'.sh + _, none⟩) (sLen + 0) cap') ?_ (.slice hi' hc)
                      rw [hr, hroom _ cap' (by omega) hzz]
                      simp [storeCells]
                    | tail hi' ho =>
                      rename_i cap' i' a'
                      refine OpSim.pure hs (v' := .slice (some a') (0 + 0) cap') ?_ (.tail hi' ho)
                      rw [hr, hroom _ cap' (by omega) hzz]
                      simp [storeCells]
                  · rename_i hn0
                    simp only [Option.map_eq_some_iff, Prod.mk.injEq] at hap
                    obtain ⟨h₁, hput, rfl, rfl⟩ := hap
                    obtain ⟨b, o', _, _, _, ha, _, _⟩ := aput_addr hput
                    obtain ⟨b₁, o₁, s₁⟩ := a₀
                    simp only [Addr.mk.injEq] at ha
                    obtain ⟨rfl, rfl, rfl⟩ := ha
                    cases hsv with
                    | slice hi' hc =>
                      rename_i cap' i'
                      obtain ⟨w', h1, h2, h3, h4⟩ := put_sim hs hput hp hi'
                      intro hfr
                      refine ⟨ρ, .slice (some ⟨i'.blk, i'.sh + o₁, none⟩) (sLen + n) cap', _, w', ?_, .inl rfl, .slice hi' hc, h2, h3⟩
                      rw [hr, hroom _ cap' (by omega) hzz]
                      simp only [addr_add]
                      rw [Nat.add_assoc, h1]
                      rfl
                    | tail hi' ho => omega
              · rename_i hnle
                split at hap
                · cases hap
                · rename_i hbig
                  simp only [not_or, Nat.not_lt, ge_iff_le, Nat.not_le, Bool.not_eq_true, Option.isNone_eq_false_iff] at hbig
                  obtain ⟨hb47, hb62, hzt⟩ := hbig
                  obtain ⟨z, hzt⟩ := Option.isSome_iff_exists.1 hzt
                  have hzc := hzs e z i hzt hi
                  have hcs : P.cellsOf e = i.size := by simp [Program.cellsOf, hi]
                  have hgrow : ∀ (base' : Option Addr) (cap' : Nat), cap' < sLen + n → ∀ old' : List Value, (∀ d, (Builtin.firstCells i.size sLen (.slice base' sLen cap')).run P { w with drawn := d } = .ok old'.toArray { w with drawn := d }) →
                      (Builtin.append_ ts ty #[.slice base' sLen cap', x']).run P w = .ok (.slice (some ⟨w.heap.size, 0, none⟩) (sLen + n) (grownCap w (sLen + n) cap' e))
                        (w.drew.alloc (.cells (old'.toArray ++ new'.toArray ++ Builtin.zeroCells z.cells (grownCap w (sLen + n) cap' e - (sLen + n))) e)) := by
                    intro base' cap' hlt old' hold
                    refine (run_append_any hst hxt hd hxd hi hzt hnb hnl' hA' (fun hk => ?_)).2 hlt hb47 hb62 old' hold
                    obtain ⟨k, rfl⟩ := hk
                    obtain ⟨k', m, z', h1, h2, h3, h4, h5, h6⟩ := hB rfl
                    rw [hzt] at h5; cases h5
                    exact ⟨k', m, h1, h2, h3, h4, h6⟩
                  -- where it grows: a new row, its room beyond
                  have fin : ∀ (g : AHeap) (hg : RelS P ρ g.get w) (hn : g.next = h.next) (hstep : Step ρ h.get h.next w ρ g.get h.next w) (old old' : List Value) (base' : Option Addr) (cap' : Nat), old.length = sLen * i.size → Pw (RelV ρ) old old' → cap' < sLen + n →
                      (∀ d, (Builtin.firstCells i.size sLen (.slice base' sLen cap')).run P { w with drawn := d } = .ok old'.toArray { w with drawn := d }) → s' = .slice base' sLen cap' →
                      OpSim P ρ h w a o (.slice (some ⟨h.next, 0, none⟩) (sLen + n) (sLen + n)) (g.push (.cells (old ++ new) e true false)) := by
                    intro g hg hn hstep old old' base' cap' hol hop hlt hold hs' hfr
                    have hf : ρ g.next = none := hfr g.next (by omega) (by simp)
                    have hf0 : ρ h.next = none := hn ▸ hf
                    have hge := grownCap_ge w (sLen + n) cap' e
                    obtain ⟨h1, h2⟩ := push_row (hg.drawn (w.drawn + 1)) hf (hop.append hp) e e true (grownCap w (sLen + n) cap' e - (sLen + n)) (tl := (Builtin.zeroCells z.cells (grownCap w (sLen + n) cap' e - (sLen + n))).toList)
                      (fun _ => by rw [Array.length_toList, size_zeroCells, hcs, hzc])
                    rw [hn] at h1 h2
                    have hpos : 0 < sLen + n := by omega
                    refine ⟨_, .slice (some ⟨w.heap.size, 0, none⟩) (sLen + n) (grownCap w (sLen + n) cap' e), _, _, ?_, .inl rfl, ?_, h1, ?_⟩
                    · rw [hr, hs', hgrow base' cap' hlt old' hold]
                      simp only [Result.andThen_ok, World.alloc, World.drew]
                      congr 3
                      congr 1
                      apply Array.ext'
                      simp
                    · exact .slice (Ren.put_same ρ _ _) (.inr ⟨rfl, hpos, by simp only; omega⟩)
                    · rw [AHeap.next_push, hn]
                      exact Step.trans (Step.trans hstep (Step.drawn ρ g.get h.next w _)) h2
                  split at hap
                  · split at hap
                    · rename_i hs0
                      cases hap
                      cases hsv
                      subst hs0
                      have := fin h hs rfl (Step.refl _ _ _ _) [] [] none sCap (by simp) Pw.nil (by omega) (fun d => by simp [Builtin.firstCells]) rfl
                      simpa using this
                    · cases hap
                  · rename_i b o₁
                    split at hap
                    · rename_i c e' opn ro old hb hac
                      have holdl : old.length = sLen * i.size := by
                        obtain ⟨_, _, c', _, _, _, ha, hb', hle', rfl⟩ := acells_block hac
                        simp only [Addr.mk.injEq] at ha
                        obtain ⟨rfl, rfl, _⟩ := ha
                        simp; omega
                      obtain ⟨ad', cap', old', rfl, hop, holl, hrun⟩ := slice_cells (k := sLen * i.size) hs hac hsv (fun h0 => by rw [h0]; simp)
                      have hfirst : ∀ d, (Builtin.firstCells i.size sLen (.slice (some ad') sLen cap')).run P { w with drawn := d } = .ok old'.toArray { w with drawn := d } := fun d => by simp only [Builtin.firstCells]; exact hrun d
                      obtain ⟨ib, cs, e'', fz, hib, hg, hlen, hopn, hcells, hfz, hoo, hsz'⟩ := hs.cells hb
                      split at hap
                      · rename_i hno
                        cases hap
                        simp only [Bool.not_eq_true'] at hno
                        cases hsv with
                        | slice hi' hc =>
                          rw [hib] at hi'; cases hi'
                          have hcc : cap' = sCap := by
                            rcases hc with hc | ⟨hc, _⟩
                            · exact hc
                            · rw [hopn, hno] at hc; cases hc
                          exact fin h hs rfl (Step.refl _ _ _ _) old old' _ cap' holdl hop (by omega) hfirst rfl
                        | tail hi' ho =>
                          rw [hib] at hi'; cases hi'
                          rw [hopn, hno] at ho; cases ho
                      · rename_i hyes
                        simp only [Bool.not_eq_true', Bool.not_eq_false] at hyes
                        split at hap
                        · rename_i hc0
                          split at hap
                          · rename_i hne
                            cases hap
                            cases hsv with
                            | slice hi' hc =>
                              rw [hib] at hi'; cases hi'
                              have hcc : cap' = 0 := by
                                rcases hc with hc | ⟨_, hc, _⟩ <;> omega
                              exact fin h hs rfl (Step.refl _ _ _ _) old old' _ cap' holdl hop (by omega) hfirst rfl
                            | tail hi' ho =>
                              rw [hib] at hi'; cases hi'
                              exact absurd hlen hne
                          · cases hap
                        · rename_i hc0
                          split at hap
                          · rename_i hall
                            cases hap
                            obtain ⟨rfl, htl, hro⟩ := hall
                            subst hro
                            cases hsv with
                            | tail hi' ho => exact absurd rfl hc0
                            | slice hi' hc =>
                              rw [hib] at hi'; cases hi'
                              by_cases hin : sLen + n ≤ cap'
                              · -- there is room: the block goes on under the new name
                                have hcap : cap' = sCap + ib.extra := by rcases hc with hc | ⟨_, _, hc⟩ <;> omega
                                obtain ⟨hesz, hend⟩ := hoo hyes
                                rw [hcs] at hesz
                                have hmul : (sLen + n) * i.size ≤ (sCap + ib.extra) * i.size := Nat.mul_le_mul_right _ (by omega)
                                rw [Nat.add_mul, Nat.add_mul] at hmul
                                have hone' : ∀ v ∈ new', v.oneCell' = true := fun v' hm => by
                                  obtain ⟨j, hj⟩ := List.getElem?_of_mem hm
                                  have hjl : j < new.length := by have := (List.getElem?_eq_some_iff.1 hj).1; have := hp.1; omega
                                  have hR := hp.2 j _ v' (List.getElem?_eq_getElem hjl) hj
                                  rw [← hR.one]
                                  exact List.all_eq_true.1 hone _ (List.getElem_mem hjl)
                                have hex : ib.extra * ib.esz = ib.extra * i.size := by rw [hesz]
                                have hst := run_storeCells_gen (P := P) ib.blk (ib.sh + o₁ + sLen * i.size) e'' fz new' 0 w cs hg (by omega) ((hfz rfl).sub (by omega) (by omega)) hone'
                                rw [Nat.add_zero] at hst
                                intro hfr
                                have hf : ρ h.next = none := hfr h.next (Nat.le_refl _) (by simp)
                                obtain ⟨nb, n1, n2, n3, n4, n5, n6⟩ : ∃ nb : BI, nb.blk = ib.blk ∧ nb.sh = ib.sh + o₁ ∧ nb.len = (old ++ new).length ∧ nb.esz = i.size ∧ nb.extra = cap' - (sLen + n) ∧ nb.opn = true :=
                                  ⟨⟨ib.blk, ib.sh + o₁, (old ++ new).length, i.size, cap' - (sLen + n), true⟩, rfl, rfl, rfl, rfl, rfl, rfl⟩
                                have hlenon : (old ++ new).length = sLen * i.size + n * i.size := by rw [List.length_append, holdl, hnl]
                                have hsub : (cap' - (sLen + n)) * i.size + (sLen + n) * i.size = sCap * i.size + ib.extra * i.size := by
                                  rw [← Nat.add_mul, ← Nat.add_mul]
                                  congr 1; omega
                                rw [Nat.add_mul sLen] at hsub
                                have hnend : nb.sh + nb.len + nb.extra * nb.esz = ib.sh + c.length + ib.extra * i.size := by
                                  rw [n2, n3, n4, n5, hlenon]; omega
                                have hobj : RelObj P (ρ.put h.next nb) nb { w with heap := w.heap.setIfInBounds ib.blk (.cells (putA cs (ib.sh + o₁ + sLen * i.size) new') e'' fz) } (.cells (old ++ new) e' true false) := by
                                  have hlt := (Array.getElem?_eq_some_iff.1 hg).1
                                  refine ⟨putA cs (ib.sh + o₁ + sLen * i.size) new', e'', fz, by simp [hlt, n1], n3, n6, fun j v hj => ?_, fun _ => (hfz rfl).sub (by rw [n2]; omega) (by rw [hnend, hlen, hex]; exact Nat.le_refl _), fun _ => ⟨n4.trans hcs.symm, by rw [size_putA, hnend]; omega⟩, by rw [size_putA, n2, hlenon]; omega⟩
                                  have hle2 := Ren.le_put hf nb
                                  rw [get_putA _ _ _ _ (by omega)]
                                  by_cases hjo : j < old.length
                                  · rw [List.getElem?_append_left hjo] at hj
                                    rw [if_neg (by rw [n2]; omega)]
                                    obtain ⟨_, _, c', _, _, _, ha, hb', hle', hold⟩ := acells_block hac
                                    simp only [Addr.mk.injEq] at ha
                                    obtain ⟨rfl, rfl, _⟩ := ha
                                    rw [hb] at hb'; cases hb'
                                    rw [hold, List.getElem?_take, if_pos (by omega), List.getElem?_drop] at hj
                                    obtain ⟨v', h1, h2⟩ := hcells _ v hj
                                    exact ⟨v', by rw [← h1, n2]; congr 1; omega, h2.mono hle2⟩
                                  · rw [List.getElem?_append_right (by omega)] at hj
                                    have hjn := (List.getElem?_eq_some_iff.1 hj).1
                                    have hnn := hp.1
                                    rw [if_pos (by rw [n2]; omega)]
                                    obtain ⟨v', h1, h2⟩ := hp.get hj
                                    exact ⟨v', by rw [← h1, n2]; congr 1; omega, h2.mono hle2⟩
                                obtain ⟨h1, h2⟩ := hs.takeover (j := nb) (b := b) (by rw [hb]; rfl) hib hf n1 _ _ hobj
                                refine ⟨_, .slice (some ⟨ib.blk, ib.sh + o₁, none⟩) (sLen + n) cap', _, _, ?_, .inl rfl, ?_, h1, h2⟩
                                · rw [hr, hroom _ cap' hin hzz]
                                  simp only [addr_add]
                                  rw [hst]
                                  rfl
                                · have := RelV.slice (n := sLen + n) (b := h.next) (o := 0) (Ren.put_same ρ h.next nb) (cap := sLen + n) (cap' := cap') (.inr ⟨n6, by omega, by omega⟩)
                                  rw [n1, n2] at this
                                  exact this
                              · obtain ⟨hk1, hk2⟩ := hs.kill b h.next
                                exact fin (h.set b .dead) hk1 rfl hk2 old old' _ cap' holdl hop (by omega) hfirst rfl
                          · cases hap
                    · cases hap
                  · cases hap
          · cases hap
      · cases hap
    · cases hap
  · cases hap
end Go.Abs
