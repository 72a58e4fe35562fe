/- Every operation is done over a world as over the plain heap. -/
import Derived.Test.YtgenefmhidncpaaGreatDoorOpsD
import Derived.Laws.IdiomStrings
namespace Go.Abs
variable {P : Program} {ρ : Ren} {h : AHeap} {w : World} {fr : Fr} {a : Act}

/-- What is asked of the program's types: a zero value is plain data, and has as many cells as its type. -/
def ZeroOK (P : Program) : Prop := ∀ t i z, t < P.types.size → P.info? t = some i → i.zero = some z → vdata z = true ∧ z.cells.size = i.size
theorem ZeroOK.data (hz : ZeroOK P) : ∀ t z, azero P t = some z → vdata z = true := fun t z h => by
  unfold azero at h
  rw [ite_eq_some] at h
  obtain ⟨hlt, h⟩ := h
  cases hi : P.info? t with
  | none => rw [hi] at h; cases h
  | some i => rw [hi] at h; exact (hz t i z hlt hi h).1
theorem ZeroOK.size (hz : ZeroOK P) : ∀ t z i, azero P t = some z → P.info? t = some i → z.cells.size = i.size := fun t z i h hi => by
  simp only [azero, hi, Option.bind_some, ite_eq_some] at h
  exact (hz t i z h.1 hi h.2).2

/-- An operation that ends in a change alone. -/
theorem OpSim.of_put {o : Oper} {v v' : Value} {h' : AHeap} {w' : World} {nx : Next} (hn : nx = .value v' ∨ (nx = .skip ∧ v' = undef)) (hr : (execOp a.eval o).run P w = .ok nx w') (hv : RelV ρ v v') (hs : RelS P ρ h'.get w') (hst : Step ρ h.get h.next w ρ h'.get h'.next w') : OpSim P ρ h w a o v h' :=
  fun _ => ⟨ρ, v', nx, w', hr, hn, hv, hs, hst⟩

theorem copy_sim (hs : RelS P ρ h.get w) {ts : Array TypeId} {ty : TypeId} {d d' s s' v : Value} {h' : AHeap} (hc : acopy P h ts d s = some (v, h')) (hd : RelV ρ d d') (hsr : RelV ρ s s') {o : Oper}
    (hr : (execOp a.eval o).run P w = ((Builtin.copy_ ts ty #[d', s']).run P w).andThen fun v w' => .ok (.value v) w') : OpSim P ρ h w a o v h' := by
  unfold acopy at hc
  split at hc
  · rename_i dt base dLen dCap hdt
    split at hc
    · rename_i e hde
      split at hc
      · rename_i i hi
        split at hc
        · rename_i sb sn scap
          simp only at hc
          have hdl : ∃ base' cap', d' = .slice base' dLen cap' := by cases hd <;> exact ⟨_, _, rfl⟩
          have hsl : ∃ base' cap', s' = .slice base' sn cap' := by cases hsr <;> exact ⟨_, _, rfl⟩
          obtain ⟨db', dcap', rfl⟩ := hdl
          obtain ⟨sb', scap', rfl⟩ := hsl
          split at hc
          · rename_i hn0
            cases hc
            refine OpSim.pure hs (v' := goInt 0) ?_ (.int _ _)
            rw [hr]
            have hf : (Builtin.firstCells i.size 0 (.slice sb' sn scap')).run P w = .ok #[] w := by
              cases sb' with
              | none => simp [Builtin.firstCells]
              | some ad => simp only [Builtin.firstCells, Nat.zero_mul]; exact run_loadCells_zero _ _
            have hn0' : min sn dLen = 0 := hn0
            cases db' <;> simp [Builtin.copy_, hdt, run_underlying' hde, Builtin.lenOf, run_sizeOf' hi, hn0', hf, storeCells]
          · rename_i hn0
            split at hc
            · rename_i sa da
              split at hc
              · rename_i vs hvs
                simp only [Option.map_eq_some_iff, Prod.mk.injEq] at hc
                obtain ⟨h₁, hput, rfl, rfl⟩ := hc
                obtain ⟨ad', cap₁, vs', he, hp, hl, hrun⟩ := slice_cells hs hvs hsr (fun h0 => absurd (by simp [h0]) hn0)
                simp only [Value.slice.injEq] at he
                obtain ⟨rfl, _, rfl⟩ := he
                obtain ⟨b, o₁, _, _, _, rfl, _, _⟩ := aput_addr hput
                cases hd with
                | slice hi' _ =>
                  rename_i i'
                  obtain ⟨w', h1, h2, h3, h4⟩ := put_sim hs hput hp hi'
                  refine OpSim.of_put (.inl rfl) (v' := goInt (Nat.min sn dLen)) (w' := w') ?_ (.int _ _) h2 h3
                  rw [hr]
                  have hrun' : (loadCells ad' (min sn dLen * i.size)).run P w = .ok vs'.toArray w := hrun w.drawn
                  simp [Builtin.copy_, hdt, run_underlying' hde, Builtin.lenOf, run_sizeOf' hi, Builtin.firstCells, hrun', h1]
                | tail hi' ho => exact absurd (by simp) hn0
              · cases hc
            · cases hc
        · cases hc
      · cases hc
    · cases hc
  · cases hc

theorem clear_sim (hz : ZeroOK P) (hs : RelS P ρ h.get w) {ts : Array TypeId} {ty : TypeId} {x x' v : Value} {h' : AHeap} (hc : aclear P h ts x = some (v, h')) (hx : RelV ρ x x') {o : Oper}
    (hr : (execOp a.eval o).run P w = ((Builtin.clear_ ts ty #[x']).run P w).andThen fun v w' => .ok (.value v) w') : OpSim P ρ h w a o v h' := by
  unfold aclear at hc
  split at hc
  · rename_i t base n cap ht
    split at hc
    · rename_i e hd
      split at hc
      · cases hc
        cases hx
        refine OpSim.pure hs (v' := .tuple #[]) ?_ (relV_undef ρ)
        rw [hr]
        simp [Builtin.clear_, ht, run_underlying' hd]
      · rename_i ad
        split at hc
        · rename_i hn0
          cases hc
          subst hn0
          refine OpSim.pure hs (v' := .tuple #[]) ?_ (relV_undef ρ)
          rw [hr]
          cases hx <;> simp [Builtin.clear_, ht, run_underlying' hd]
        · rename_i hn0
          split at hc
          · rename_i z hzt
            simp only [Option.map_eq_some_iff, Prod.mk.injEq] at hc
            obtain ⟨h₁, hput, rfl, rfl⟩ := hc
            obtain ⟨b, o₁, _, _, _, rfl, _, _⟩ := aput_addr hput
            cases hx with
            | slice hi' _ =>
              rename_i cap' i'
              obtain ⟨w', h1, h2, h3, h4⟩ := put_sim hs hput (zeroCells_rel (hz.data e z hzt) ρ n) hi'
              refine OpSim.of_put (.inl rfl) (v' := .tuple #[]) (w' := w') ?_ (relV_undef ρ) h2 h3
              rw [hr]
              cases n with
              | zero => exact absurd rfl hn0
              | succ n => simp [Builtin.clear_, ht, run_underlying' hd, run_zeroValue' hzt, h1]
            | tail hi' ho => exact absurd rfl hn0
          · cases hc
    · cases hc
  · cases hc

theorem makeSlice_sim (hz : ZeroOK P) (hs : RelS P ρ h.get w) {t : TypeId} {l l' c c' v : Value} {h' : AHeap} (hm : amakeSlice P h t l c = some (v, h')) (hl : RelV ρ l l') (hc : RelV ρ c c') {o : Oper}
    (hr : (execOp a.eval o).run P w = ((Instr.makeSlice t l' c').run P w).andThen fun v w' => .ok (.value v) w') : OpSim P ρ h w a o v h' := by
  unfold amakeSlice at hm
  split at hm
  · rename_i e ln cn hd hln hcn
    have := aint_rel hln hl; subst this
    have := aint_rel hcn hc; subst this
    split at hm
    · rename_i i z hi hzt
      split at hm
      · rename_i hb
        obtain ⟨h0, h1, h2, h3⟩ := hb
        cases hm
        refine new_slice hs (zcells_rel (hz.data e z hzt) ρ (cn.toNat * i.size)) e _ _ ?_
        rw [hr]
        have hw : ∀ m : Int, 0 ≤ m → m ≤ 2 ^ 47 → IntKind.i64.wrap m = m := fun m h0 h1 => by
          unfold IntKind.wrap IntKind.bits IntKind.signed
          simp; omega
        have hwl := hw ln h0 (by omega)
        have hwc := hw cn (by omega) h3
        have hnn : ¬ (cn < 0) := by omega
        have hln0 : ¬ (ln < 0) := by omega
        have hbig : ¬ (281474976710656 < (i.bytes : Int) * cn) := by rw [Int.mul_comm]; omega
        have hlc : ¬ (cn < ln) := by omega
        have hzero : i.zero = some z := (by simpa [azero, hi] using hzt : _ ∧ i.zero = some z).2
        by_cases hn : cn.toNat * i.size = 0
        · simp [Instr.makeSlice, run_underlying' hd, asInt, asIntOf, run_typeInfo hi, hwl, hwc, hnn, hln0, hbig, hlc, run_sizeOf' hi, hn, newRow]
          congr 2
          apply Array.ext'
          simp
        · simp [Instr.makeSlice, run_underlying' hd, asInt, asIntOf, run_typeInfo hi, hwl, hwc, hnn, hln0, hbig, hlc, run_sizeOf' hi, hn, newRow, run_zeroValue' hzt]
          congr 2
          apply Array.ext'
          simp
      · cases hm
    · cases hm
  · cases hm

theorem buildSlice_sim (hz : ZeroOK P) (hs : RelS P ρ h.get w) {t : TypeId} {len : Nat} {parts parts' : List (Nat × Value)} {v : Value} {h' : AHeap} (hb : abuildSlice P h t len parts = some (v, h')) (hp : Pw (fun x y => y.1 = x.1 ∧ RelV ρ x.2 y.2) parts parts') {o : Oper}
    (hr : (execOp a.eval o).run P w = ((Instr.buildSlice t len parts'.toArray).run P w).andThen fun v w' => .ok (.value v) w') : OpSim P ρ h w a o v h' := by
  unfold abuildSlice at hb
  split at hb
  · rename_i e hd
    split at hb
    · rename_i i z hi hzt
      split at hb
      · cases hb
      · rename_i hbig
        split at hb
        · rename_i cells hf
          cases hb
          obtain ⟨r', hr', hR⟩ := fill_rel _ parts parts' _ _ cells hp (zcells_rel (hz.data e z hzt) ρ _) hf
          refine new_slice hs hR e _ _ ?_
          rw [hr]
          have hbig' : ¬ (16777216 < len * i.size) := by omega
          have hlist : (List.map (fun x => z.cells[x % z.cells.size]!) (List.range (len * i.size))).toArray = (Array.range (len * i.size)).map (fun x => z.cells[x % z.cells.size]!) := by
            apply Array.ext'; simp
          by_cases hn : len * i.size = 0
          · rw [hn] at hr'
            have e0 : ∀ f : Nat → Value, (Array.range 0).map f = #[] := fun f => by apply Array.ext'; simp
            rw [e0] at hr'
            simp [Instr.buildSlice, run_underlying' hd, run_sizeOf' hi, hn, e0, hr', newRow]
          · simp only [Instr.buildSlice, Sem.run_bind, run_underlying' hd, Result.andThen_ok, run_sizeOf' hi, Sem.run_ite, hn, if_false, run_zeroValue' hzt, Sem.run_pure, hr', newRow, run_newObj]
            rw [if_neg (by omega)]
            simp
        · cases hb
    · cases hb
  · cases hb

theorem abytes_cells {ρ : Ren} : ∀ {vs vs' : List Value} {bs : List UInt8}, abytes vs = some bs → Pw (RelV ρ) vs vs' → vs'.length = bs.length ∧ ∀ (j : Nat) (hj : j < bs.length), vs'[j]? = some (.int .u8 (bs[j].toNat : Int))
  | [], vs', bs, h, hp => by
    simp only [abytes, Option.some.injEq] at h
    subst h
    rw [hp.nil_left]
    exact ⟨rfl, fun j hj => by simp at hj⟩
  | v :: vs, vs', bs, h, hp => by
    obtain ⟨v', m, rfl, hv, hm⟩ := hp.cons_left
    unfold abytes at h
    split at h
    · rename_i he; cases he
    · rename_i n vs₂ he
      cases he
      split at h
      · rename_i hr
        simp only [Option.map_eq_some_iff] at h
        obtain ⟨bs', hb, rfl⟩ := h
        obtain ⟨h1, h2⟩ := abytes_cells hb hm
        cases hv
        refine ⟨by simp [h1], fun j hj => ?_⟩
        cases j with
        | zero =>
          simp only [List.getElem?_cons_zero, List.getElem_cons_zero, Option.some.injEq, Value.int.injEq, true_and]
          have : (UInt8.ofNat n.toNat).toNat = n.toNat := by simp; omega
          rw [this]; omega
        | succ j => simpa using h2 j (by simpa using hj)
      · cases h
    · cases h

theorem convert_sim (hs : RelS P ρ h.get w) (hF : RelF ρ fr a.tmps) {o : Oper} {src dst : TypeId} {x : Operand} (hx : okOperand x = true) {v : Value} {h' : AHeap} (ho : o.op = .convert src dst x) (hc : aconvert P h fr o src dst (ev fr x) = some (v, h')) : OpSim P ρ h w a o v h' := by
  have hev := hF.ev hx
  have hexec : (execOp a.eval o).run P w = ((convert src dst (a.eval x)).run P w).andThen fun v w' => .ok (.value v) w' := by
    unfold execOp; rw [ho]; simp
  unfold aconvert at hc
  split at hc
  · rename_i e s hsr hds hex
    rw [hex] at hev
    split at hc
    · rename_i he
      split at hc
      · rename_i hsz
        obtain ⟨hsz, hc1⟩ := hsz
        cases hc
        intro hfr
        have hf : ρ h.next = none := hfr h.next (Nat.le_refl _) (by simp)
        have hev' : a.eval x = .string s := hev.data rfl
        have hge := grownCap_ge w s.size 0 e
        generalize hcap : grownCap w s.size 0 e = cap at hge
        have hrun := run_bytes_of_string (P := P) w src dst e s hsr hds he
        rw [hcap] at hrun
        have hsize : (bytesRow s cap).size = cap := by
          simp only [bytesRow, Array.size_append, Array.size_map, Array.size_replicate]
          have : s.data.size = s.size := rfl
          omega
        rw [hsize] at hrun
        obtain ⟨i, i1, i2, i3, i4, i5, i6⟩ : ∃ i : BI, i.blk = w.heap.size ∧ i.sh = 0 ∧ i.len = s.size ∧ i.esz = 1 ∧ i.extra = cap - s.size ∧ i.opn = true := ⟨⟨_, 0, s.size, 1, cap - s.size, true⟩, rfl, rfl, rfl, rfl, rfl, rfl⟩
        have hlen : (s.data.toList.map fun b => Value.int .u8 b.toNat).length = s.size := by simp
        have hobj : RelObj P (ρ.put h.next i) i { w.drew with heap := w.drew.heap.push (.cells (bytesRow s cap) e (cap, cap + 1)) } (.cells (s.data.toList.map fun b => Value.int .u8 b.toNat) e true false) := by
          refine ⟨bytesRow s cap, e, (cap, cap + 1), by rw [i1]; show (w.heap.push _)[w.heap.size]? = _; simp, by rw [i3, hlen], i6, fun j v hj => ?_, fun _ j h1 h2 => by simp only; rw [i2, i3, i4, i5] at h2; omega, fun _ => ⟨by rw [i4, hc1], by rw [i2, i3, i4, i5, hsize]; omega⟩, by rw [i2, hlen, hsize]; omega⟩
          rw [List.getElem?_map] at hj
          simp only [Option.map_eq_some_iff] at hj
          obtain ⟨b, hb, rfl⟩ := hj
          have hjl : j < s.data.size := by simpa using (List.getElem?_eq_some_iff.1 hb).1
          refine ⟨_, ?_, .int _ _⟩
          rw [i2, Nat.zero_add, bytesRow, Array.getElem?_append_left (by simpa using hjl), Array.getElem?_map]
          rw [Array.getElem?_toList] at hb
          rw [hb]; rfl
        obtain ⟨h1, h2⟩ := (hs.drawn (w.drawn + 1)).push hf _ _ i i1 hobj
        have hres : RelV (ρ.put h.next i) (.slice (some ⟨h.next, 0, none⟩) s.size s.size) (.slice (some ⟨w.heap.size, 0, none⟩) s.size cap) := by
          by_cases h0 : s.size = 0
          · have := RelV.tail (ρ := ρ.put h.next i) (b := h.next) (a' := ⟨w.heap.size, 0, none⟩) (cap' := cap) (Ren.put_same ρ h.next i) i6
            rw [i3] at this
            rw [h0] at this ⊢
            exact this
          · have := RelV.slice (n := s.size) (b := h.next) (o := 0) (Ren.put_same ρ h.next i) (cap := s.size) (cap' := cap) (.inr ⟨i6, by omega, by omega⟩)
            rw [i1, i2] at this
            exact this
        refine ⟨_, _, _, _, ?_, .inl rfl, hres, h1, Step.trans (Step.drawn ρ h.get h.next w _) h2⟩
        rw [hexec, hev', hrun]
        rfl
      · cases hc
    · cases hc
  · rename_i e ad len cap hsr hds hex
    rw [hex] at hev
    split at hc
    · rename_i he
      split at hc
      · cases hc
        have hev' : a.eval x = .slice none len cap := hev.data rfl
        refine OpSim.pure hs (v' := .string .empty) ?_ (.string _)
        rw [hexec, hev']
        simp [convert, run_underlying' hsr, run_underlying' hds, run_underlying' he, Conv.bytesToString]
      · rename_i ad₀
        split at hc
        · rename_i vs hvs
          simp only [Option.map_eq_some_iff, Prod.mk.injEq] at hc
          obtain ⟨bs, hbs, rfl, rfl⟩ := hc
          have hlen : vs.length = len := by
            obtain ⟨b, o₁, c, e', opn, ro, rfl, hb, hle, rfl⟩ := acells_block hvs
            simp; omega
          refine OpSim.pure hs (v' := .string ⟨bs.toArray⟩) ?_ (.string _)
          rw [hexec]
          obtain ⟨b, o₁, c, e', opn, ro, rfl, hb, hle, hvv⟩ := acells_block hvs
          generalize hval : a.eval x = val at hev ⊢
          cases hev with
          | slice hi hcap =>
            rename_i cap' i
            obtain ⟨vs', h1, h2, h3⟩ := hs.range hvs hi
            obtain ⟨h4, h5⟩ := abytes_cells hbs h1
            have hll : len = bs.length := by omega
            rw [hll]
            rw [run_convert_bytes_back w src dst e _ cap' bs hsr he hds (fun j hj => h3 j _ (h5 j hj))]
            rfl
          | tail hi ho =>
            rename_i cap' i a'
            have : vs = [] := List.eq_nil_of_length_eq_zero hlen
            subst this
            simp only [abytes, Option.some.injEq] at hbs
            subst hbs
            have := run_convert_bytes_back w src dst e a' cap' [] hsr he hds (fun j hj => by simp at hj)
            simp only [List.length_nil] at this
            rw [this]
            rfl
        · cases hc
    · cases hc
  · cases hc
  · simp only [Option.map_eq_some_iff, Prod.mk.injEq] at hc
    obtain ⟨v₁, had, rfl, rfl⟩ := hc
    have hd := adata_ops had (x := x) (by rw [ho]; simp [Op.operands])
    exact data_sim hs had (congr_conv ho (ev_data hF hx hd))
end Go.Abs
