/- More operations that only look, or make values: build, field, index, slice, len, cap, lookup. -/
import Derived.Test.YtgenefmhidncpaaGreatDoorOpsA
namespace Go.Abs
variable {P : Program} {ρ : Ren} {h : AHeap} {w : World} {fr : Fr} {a : Act}

/-! ### aggregates -/
theorem fold_set {α : Type} {R : Value → Value → Prop} (off : Nat) : ∀ (l l' : List Value) (k : Nat) (cs cs' : List Value), Pw R l l' → Pw R cs cs' →
    Pw R ((l.zipIdx k).foldl (fun cs (c, j) => cs.set (off + j) c) cs) ((l'.zipIdx k).foldl (fun cs (c, j) => cs.set (off + j) c) cs')
  | [], l', k, cs, cs', hl, hc => by rw [hl.nil_left]; simpa using hc
  | x :: l, l', k, cs, cs', hl, hc => by
    obtain ⟨y, m, rfl, hxy, hm⟩ := hl.cons_left
    simp only [List.zipIdx_cons, List.foldl_cons]
    exact fold_set (α := α) off l m (k + 1) _ _ hm (hc.set _ hxy)

theorem foldl_arr (off : Nat) (v : Array Value) (cells : Array Value) : (v.zipIdx.foldl (fun cs (c, j) => cs.setIfInBounds (off + j) c) cells).toList = (v.toList.zipIdx.foldl (fun cs (c, j) => cs.set (off + j) c) cells.toList) := by
  rw [← Array.foldl_toList, Array.toList_zipIdx]
  generalize v.toList.zipIdx = l
  induction l generalizing cells with
  | nil => rfl
  | cons x l ih => simp only [List.foldl_cons]; rw [ih]; simp

theorem fill_rel {ρ : Ren} (place : Nat → Option (Nat × Nat)) : ∀ (parts parts' : List (Nat × Value)) (cells cells' r : Array Value), Pw (fun x y => y.1 = x.1 ∧ RelV ρ x.2 y.2) parts parts' → Pw (RelV ρ) cells.toList cells'.toList →
    Instr.fill place cells parts = some r → ∃ r', Instr.fill place cells' parts' = some r' ∧ Pw (RelV ρ) r.toList r'.toList
  | [], parts', cells, cells', r, hp, hc, hr => by
    rw [hp.nil_left]
    simp only [Instr.fill, Option.some.injEq] at hr ⊢
    subst hr
    exact ⟨_, rfl, hc⟩
  | (i, v) :: parts, parts', cells, cells', r, hp, hc, hr => by
    obtain ⟨⟨i', v'⟩, m, rfl, ⟨hi, hv⟩, hm⟩ := hp.cons_left
    simp only at hi hv
    subst hi
    simp only [Instr.fill] at hr ⊢
    cases hpl : place i' with
    | none => rw [hpl] at hr; cases hr
    | some os =>
      obtain ⟨off, size⟩ := os
      rw [hpl] at hr
      simp only at hr ⊢
      have hs1 : v'.cells.size = v.cells.size := by have := hv.cells.1; simpa using this.symm
      have hs2 : cells'.size = cells.size := by have := hc.1; simpa using this.symm
      rw [hs1, hs2]
      split at hr
      · cases hr
      · rename_i hne
        rw [if_neg hne]
        refine fill_rel place parts m _ _ r hm ?_ hr
        rw [foldl_arr, foldl_arr]
        exact fold_set (α := Unit) off _ _ 0 _ _ hv.cells hc

theorem run_mapM_places (fields : Array Field) (w : World) (hall : ∀ f ∈ fields, (P.info? f.type).isSome = true) :
    (fields.mapM (fun (f : Field) => do pure (f.offset, ← sizeOf f.type)) : Sem (Array (Nat × Nat))).run P w = .ok (fields.map fun f => (f.offset, P.cellsOf f.type)) w := by
  obtain ⟨l⟩ := fields
  have key : ∀ (l : List Field), (∀ f ∈ l, (P.info? f.type).isSome = true) → (l.mapM (fun (f : Field) => do pure (f.offset, ← sizeOf f.type)) : Sem (List (Nat × Nat))).run P w = .ok (l.map fun f => (f.offset, P.cellsOf f.type)) w := by
    intro l
    induction l with
    | nil => intro _; simp
    | cons f l ih =>
      intro hl
      have h1 := hl f (by simp)
      cases hi : P.info? f.type with
      | none => rw [hi] at h1; cases h1
      | some ti =>
        have hc : P.cellsOf f.type = ti.size := by simp [Program.cellsOf, hi]
        simp only [List.mapM_cons, Sem.run_bind, run_sizeOf' hi, Result.andThen_ok, Sem.run_pure, ih fun g hg => hl g (by simp [hg]), List.map_cons, hc]
  rw [List.mapM_toArray]
  simp only [Sem.run_map, key l (fun f hf => hall f (by simpa using hf)), Result.andThen_ok, List.map_toArray]

theorem zero_data {P : Program} (hz : ∀ t z, azero P t = some z → vdata z = true) {t : TypeId} {z : Value} (h : azero P t = some z) (ρ : Ren) : RelV ρ z z := relV_data ρ (hz t z h)

theorem vdata_cells {v : Value} (hv : vdata v = true) (ρ : Ren) : Pw (RelV ρ) v.cells.toList v.cells.toList := (relV_data ρ hv).cells

theorem build_rel {ρ : Ren} (hz : ∀ t z, azero P t = some z → vdata z = true) {t : TypeId} {parts parts' : List (Nat × Value)} {v : Value} (hp : Pw (fun x y => y.1 = x.1 ∧ RelV ρ x.2 y.2) parts parts') (hb : abuild P t parts = some v) (w : World) :
    ∃ v', (Instr.build t parts'.toArray).run P w = .ok v' w ∧ RelV ρ v v' := by
  unfold abuild at hb
  split at hb
  · rename_i z fields hzt hd
    split at hb
    · rename_i hall
      simp only [Option.map_eq_some_iff] at hb
      obtain ⟨r, hr, rfl⟩ := hb
      have hpl : (fun i : Nat => (fields[i]?).map fun (f : Field) => (f.offset, P.cellsOf f.type)) = fun i : Nat => (fields.map fun (f : Field) => (f.offset, P.cellsOf f.type))[i]? := by funext i; simp
      rw [hpl] at hr
      obtain ⟨r', hr', hR⟩ := fill_rel _ parts parts' z.cells z.cells r hp (vdata_cells (hz t z hzt) ρ) hr
      refine ⟨.agg r', ?_, relV_agg hR⟩
      have hm := run_mapM_places (P := P) fields w (fun f hf => List.all_eq_true.1 hall f (Array.mem_toList_iff.2 hf))
      simp only [Instr.build, Sem.run_bind, run_zeroValue' hzt, run_underlying' hd, Result.andThen_ok, hm, hr', Sem.run_pure]
    · cases hb
  · rename_i z n elem hzt hd
    split at hb
    · rename_i he
      simp only [Option.map_eq_some_iff] at hb
      obtain ⟨r, hr, rfl⟩ := hb
      cases hi : P.info? elem with
      | none => rw [hi] at he; cases he
      | some ti =>
        have hc : P.cellsOf elem = ti.size := by simp [Program.cellsOf, hi]
        rw [hc] at hr
        obtain ⟨r', hr', hR⟩ := fill_rel _ parts parts' z.cells z.cells r hp (vdata_cells (hz t z hzt) ρ) hr
        refine ⟨.agg r', ?_, relV_agg hR⟩
        simp only [Instr.build, Sem.run_bind, run_zeroValue' hzt, run_underlying' hd, Result.andThen_ok, run_sizeOf' hi, hr', Sem.run_pure]
    · cases hb
  · cases hb

/-! ### addresses -/
theorem fieldAddr_rel {t : TypeId} {x x' v : Value} {f : Nat} (hv : afieldAddr P t x f = some v) (hx : RelV ρ x x') (w : World) : ∃ v', (Instr.fieldAt t x' f).run P w = .ok v' w ∧ RelV ρ v v' := by
  unfold afieldAddr at hv
  split at hv
  · rename_i fields b o hd
    cases hx with
    | ptr hi =>
      rename_i i
      split at hv
      · rename_i fl hf
        split at hv
        · rename_i hc
          cases hv
          simp only [Bool.and_eq_true, decide_eq_true_eq] at hc
          cases hti : P.info? fl.type with
          | none => rw [hti] at hc; simp at hc
          | some ti =>
            have hcs : P.cellsOf fl.type = ti.size := by simp [Program.cellsOf, hti]
            have h0 : ti.size ≠ 0 := hcs ▸ hc.2
            refine ⟨.pointer (some ⟨i.blk, i.sh + (o + fl.offset), none⟩), ?_, .ptr hi⟩
            simp [Instr.fieldAt, run_underlying' hd, hf, Instr.sureAddr, fieldPlace, run_sizeOf' hti, h0, addr_add, Nat.add_assoc]
        · cases hv
      · cases hv
  · cases hv

theorem indexAddr_rel {t : TypeId} {x x' n n' v : Value} (hv : aindexAddr P t x n = some v) (hx : RelV ρ x x') (hn : RelV ρ n n') (w : World) : ∃ v', (Instr.indexAt t x' n').run P w = .ok v' w ∧ RelV ρ v v' := by
  unfold aindexAddr at hv
  split at hv
  · rename_i elem b o len cap k m hd
    cases hn
    split at hv
    · rename_i hc
      cases hv
      obtain ⟨h0, h1, h2⟩ := hc
      cases hti : P.info? elem with
      | none => rw [hti] at h2; cases h2
      | some ti =>
        have hcs : P.cellsOf elem = ti.size := by simp [Program.cellsOf, hti]
        cases hx with
        | slice hi hcap =>
          rename_i cap' i
          refine ⟨.pointer (some ⟨i.blk, i.sh + (o + m.toNat * P.cellsOf elem), none⟩), ?_, .ptr hi⟩
          simp [Instr.indexAt, asIntOf, run_underlying' hd, h0, h1, run_sizeOf' hti, hcs, addr_add, Nat.add_assoc]
        | tail hi ho => simp at h1; omega
    · cases hv
  · rename_i len elem b o k m hd
    cases hn
    split at hv
    · rename_i hc
      cases hv
      obtain ⟨h0, h1, h2⟩ := hc
      cases hti : P.info? elem with
      | none => rw [hti] at h2; cases h2
      | some ti =>
        have hcs : P.cellsOf elem = ti.size := by simp [Program.cellsOf, hti]
        cases hx with
        | ptr hi =>
          rename_i i
          refine ⟨.pointer (some ⟨i.blk, i.sh + (o + m.toNat * P.cellsOf elem), none⟩), ?_, .ptr hi⟩
          simp [Instr.indexAt, asIntOf, run_underlying' hd, Instr.sureAddr, h0, h1, run_sizeOf' hti, hcs, addr_add, Nat.add_assoc]
    · cases hv
  · cases hv

theorem field_rel {t : TypeId} {x x' v : Value} {f : Nat} (hv : afield P t x f = some v) (hx : RelV ρ x x') (w : World) : ∃ v', (Instr.field t x' f).run P w = .ok v' w ∧ RelV ρ v v' := by
  unfold afield at hv
  split at hv
  · rename_i fields cs hd
    obtain ⟨cs', rfl, hp⟩ := hx.agg_inv
    split at hv
    · rename_i fl hf
      split at hv
      · rename_i ti hagg hti
        cases hv
        refine ⟨.agg (cs'.extract fl.offset (fl.offset + ti.size)), ?_, relV_agg (by simp only [Array.toList_extract]; simpa using (hp.drop _).take _)⟩
        simp [Instr.field, run_underlying' hd, hf, part, run_isAgg' hagg, asAgg, run_sizeOf' hti]
      · rename_i ti hagg hti
        obtain ⟨v', h1, h2⟩ := hp.get (by rw [Array.getElem?_toList]; exact hv)
        rw [Array.getElem?_toList] at h1
        refine ⟨v', ?_, h2⟩
        simp [Instr.field, run_underlying' hd, hf, part, run_isAgg' hagg, asAgg, h1]
      · cases hv
    · cases hv
  · cases hv

/-! ### slices -/
theorem aint_rel {x x' : Value} {n : Int} (hn : aint x = some n) (hx : RelV ρ x x') : x' = .int .i64 n := by
  unfold aint at hn
  split at hn
  · cases hn; cases hx; rfl
  · cases hn

theorem aoptInt_rel {x x' : Option Value} {n : Option Int} (hn : aoptInt x = some n) (hx : ∀ y, x = some y → ∃ y', x' = some y' ∧ RelV ρ y y') (hx0 : x = none → x' = none) : x' = n.map (Value.int .i64) := by
  cases x with
  | none => simp [aoptInt] at hn; subst hn; simp [hx0 rfl]
  | some y =>
    obtain ⟨y', rfl, hR⟩ := hx y rfl
    simp only [aoptInt, Option.map_eq_some_iff] at hn
    obtain ⟨m, hm, rfl⟩ := hn
    simp [aint_rel hm hR]

theorem run_sliceBounds {len cap : Nat} {lo hi mx : Option Int} (h0 : 0 ≤ lo.getD 0) (h1 : lo.getD 0 ≤ hi.getD len) (h2 : hi.getD len ≤ mx.getD cap) (h3 : mx.getD (cap : Int) ≤ cap) (h4 : mx.isSome = true → hi.isSome = true) (w : World) :
    (Instr.sliceBounds true len cap (lo.map (Value.int .i64)) (hi.map (Value.int .i64)) (mx.map (Value.int .i64))).run P w = .ok ((lo.getD 0).toNat, (hi.getD len).toNat, (mx.getD cap).toNat) w := by
  have hb : ∀ (n : Int) (y : Nat) (c : BoundsCode) (w : World), 0 ≤ n → n ≤ y → (Instr.sliceBound (.int .i64 n) y c).run P w = .ok n.toNat w := by
    intro n y c w ha hb
    simp [Instr.sliceBound, asIntOf, ha, hb]
  cases mx with
  | none =>
    cases hi with
    | none =>
      cases lo with
      | none => simp [Instr.sliceBounds]
      | some l =>
        simp at h0 h1 h2 h3
        have := fun w c => hb l len c w h0 (by omega)
        simp [Instr.sliceBounds, this]
    | some u =>
      simp at h0 h1 h2 h3
      have hu := fun w c => hb u cap c w (by omega) (by omega)
      cases lo with
      | none => simp [Instr.sliceBounds, hu]
      | some l =>
        simp at h0 h1
        have := fun w c => hb l u.toNat c w h0 (by omega)
        simp [Instr.sliceBounds, this, hu]
  | some m =>
    cases hi with
    | none => simp at h4
    | some u =>
      simp at h0 h1 h2 h3
      have hm := fun w c => hb m cap c w (by omega) (by omega)
      have hu := fun w c => hb u m.toNat c w (by omega) (by omega)
      cases lo with
      | none => simp [Instr.sliceBounds, hu, hm]
      | some l =>
        simp at h0 h1
        have := fun w c => hb l u.toNat c w h0 (by omega)
        simp [Instr.sliceBounds, this, hu, hm]

theorem slice_rel (hs : RelS P ρ h.get w) {t : TypeId} {x x' v : Value} {lo hi mx lo' hi' mx' : Option Value} (hv : aslice P h t x lo hi mx = some v) (hx : RelV ρ x x')
    (hlo : ∀ y, lo = some y → ∃ y', lo' = some y' ∧ RelV ρ y y') (hlo0 : lo = none → lo' = none) (hhi : ∀ y, hi = some y → ∃ y', hi' = some y' ∧ RelV ρ y y') (hhi0 : hi = none → hi' = none)
    (hmx : ∀ y, mx = some y → ∃ y', mx' = some y' ∧ RelV ρ y y') (hmx0 : mx = none → mx' = none) : ∃ v', (Instr.sliceAt t x' lo' hi' mx').run P w = .ok v' w ∧ RelV ρ v v' := by
  unfold aslice at hv
  split at hv
  · rename_i elem ad len cap lo₁ hi₁ mx₁ hd hlo₁ hhi₁ hmx₁
    have elo := aoptInt_rel hlo₁ hlo hlo0
    have ehi := aoptInt_rel hhi₁ hhi hhi0
    have emx := aoptInt_rel hmx₁ hmx hmx0
    subst elo; subst ehi; subst emx
    simp only at hv
    split at hv
    · rename_i hc
      obtain ⟨h0, h1, h2, h3, h4, h5⟩ := hc
      cases hti : P.info? elem with
      | none => rw [hti] at h5; cases h5
      | some ti =>
        have hcs : P.cellsOf elem = ti.size := by simp [Program.cellsOf, hti]
        -- the bounds over whatever capacity from cap on
        have hrun : ∀ cap' : Nat, cap ≤ cap' → (Instr.sliceBounds true len cap' (lo₁.map (Value.int .i64)) (hi₁.map (Value.int .i64)) (mx₁.map (Value.int .i64))).run P w = .ok ((lo₁.getD 0).toNat, (hi₁.getD len).toNat, (mx₁.getD cap').toNat) w := fun cap' hle =>
          run_sliceBounds h0 h1 (by cases mx₁ with | none => simp at h2 ⊢; omega | some m => simpa using h2) (by cases mx₁ with | none => simp | some m => simp at h3 ⊢; omega) h4 w
        have hgo : ∀ (a' : Option Addr) (cap' : Nat), cap ≤ cap' → (Instr.sliceAt t (.slice a' len cap') (lo₁.map (Value.int .i64)) (hi₁.map (Value.int .i64)) (mx₁.map (Value.int .i64))).run P w =
            .ok (.slice (if (mx₁.getD cap').toNat = (lo₁.getD 0).toNat then a' else a'.map (·.add ((lo₁.getD 0).toNat * ti.size))) ((hi₁.getD len).toNat - (lo₁.getD 0).toNat) ((mx₁.getD cap').toNat - (lo₁.getD 0).toNat)) w := by
          intro a' cap' hle
          simp [Instr.sliceAt, run_underlying' hd, Instr.slice, hrun cap' hle, run_sizeOf' hti]
        cases ad with
        | none =>
          cases hx
          simp only [Option.some.injEq] at hv
          subst hv
          refine ⟨_, hgo none cap (Nat.le_refl _), ?_⟩
          simp only [Option.map_none, ite_self]
          exact .sliceNil _ _
        | some ad =>
          obtain ⟨b, o, s⟩ := ad
          cases s with
          | some s => simp at hv
          | none =>
            simp only at hv
            split at hv
            · rename_i c e opn ro hb
              obtain ⟨i, cs, e', fz, hi', hg, hl, hop, _, _, _⟩ := hs.cells hb
              split at hv
              · rename_i hml
                split at hv
                · rename_i hoo
                  cases hv
                  simp only [Bool.and_eq_true, Option.isNone_iff_eq_none] at hoo
                  obtain ⟨ho, hn⟩ := hoo
                  subst ho; subst hn
                  simp only [Option.getD_none] at hml h2 hgo
                  have hu : (hi₁.getD (len : Int)).toNat - (lo₁.getD 0).toNat = 0 := by omega
                  rw [hl.symm]
                  cases hx with
                  | slice hi₂ hcap =>
                    rename_i cap' i₂
                    rw [hi'] at hi₂; cases hi₂
                    refine ⟨_, hgo _ cap' (by omega), ?_⟩
                    rw [hu]
                    split
                    · exact .tail hi' hop
                    · exact .tail hi' hop
                  | tail hi₂ ho₂ =>
                    rename_i cap' i₂ a'
                    rw [hi'] at hi₂; cases hi₂
                    refine ⟨_, hgo _ cap' (by omega), ?_⟩
                    rw [hu]
                    split
                    · exact .tail hi' hop
                    · exact .tail hi' hop
                · rename_i hoo
                  cases hv
                  cases hx with
                  | slice hi₂ hcap =>
                    rename_i cap' i₂
                    rw [hi'] at hi₂; cases hi₂
                    have hm' : (mx₁.getD (cap' : Int)) = mx₁.getD cap := by
                      cases mx₁ with
                      | some m => rfl
                      | none =>
                        simp only [Bool.and_eq_true, Option.isNone_none, and_true, Bool.not_eq_true] at hoo
                        rcases hcap with hcap | ⟨hcap, _⟩
                        · simp [hcap]
                        · rw [hop, hoo] at hcap; cases hcap
                    refine ⟨_, hgo _ cap' (by omega), ?_⟩
                    rw [hm', if_pos (by omega), show (hi₁.getD (len : Int)).toNat - (lo₁.getD 0).toNat = 0 by omega, show (mx₁.getD (cap : Int)).toNat - (lo₁.getD 0).toNat = 0 by omega]
                    exact .slice hi' (.inl rfl)
                  | tail hi₂ ho₂ =>
                    rename_i cap' i₂ a'
                    rw [hi'] at hi₂; cases hi₂
                    refine ⟨_, hgo _ cap' (by omega), ?_⟩
                    have hu : (hi₁.getD ((0 : Nat) : Int)).toNat - (lo₁.getD 0).toNat = 0 := by omega
                    rw [hu]
                    split
                    · exact .tail hi' ho₂
                    · exact .tail hi' ho₂
              · rename_i hml
                cases hv
                cases hx with
                | tail hi₂ ho₂ => omega
                | slice hi₂ hcap =>
                  rename_i cap' i₂
                  rw [hi'] at hi₂; cases hi₂
                  refine ⟨_, hgo _ cap' (by omega), ?_⟩
                  have hle : mx₁.getD (cap : Int) ≤ mx₁.getD (cap' : Int) := by cases mx₁ with | none => simp; omega | some m => simp
                  rw [if_neg (by omega)]
                  simp only [Option.map_some, addr_add, Nat.add_assoc, ← hcs]
                  refine .slice hi' ?_
                  cases mx₁ with
                  | some m => exact .inl rfl
                  | none =>
                    simp only [Option.getD_none] at *
                    rcases hcap with hcap | ⟨hcap, hc0, hc1⟩
                    · exact .inl (by omega)
                    · exact .inr ⟨hcap, by omega, by omega⟩
            · cases hv
    · cases hv
  · cases hv

/-! ### len, cap -/
theorem len_rel (hs : RelS P ρ h.get w) {ts : Array TypeId} {x x' v : Value} {ty : TypeId} (hv : alen P h ts x = some v) (hx : RelV ρ x x') : (Builtin.len_ ts ty #[x']).run P w = .ok v w ∧ vdata v = true := by
  unfold alen at hv
  split at hv
  · rename_i t ht
    split at hv
    all_goals try (rename_i hd)
    · cases hv; cases hx; exact ⟨by simp [Builtin.len_, ht, run_underlying' hd], rfl⟩
    · cases hv; cases hx <;> exact ⟨by simp [Builtin.len_, ht, run_underlying' hd], rfl⟩
    · cases hv; cases hx; exact ⟨by simp [Builtin.len_, ht, run_underlying' hd, goInt], rfl⟩
    · cases hx with
      | map hi =>
        rename_i i
        split at hv
        · rename_i es hb
          cases hv
          obtain ⟨i', hi', hR⟩ := hs.obj _ (by rw [hb]; rfl)
          rw [hi] at hi'; cases hi'
          rw [hb] at hR
          obtain ⟨es', clk, hg, hp⟩ := hR
          have hl : es.length = es'.size := by simpa using hp.1
          refine ⟨?_, rfl⟩
          simp [Builtin.len_, ht, run_underlying' hd, getObj, Sem.run, hg, hl]
        · cases hv
    · cases hv; exact ⟨by simp [Builtin.len_, ht, run_underlying' hd], rfl⟩
    · cases hv
  · cases hv

theorem cap_rel (hs : RelS P ρ h.get w) {ts : Array TypeId} {x x' v : Value} {ty : TypeId} (hv : acap P h ts x = some v) (hx : RelV ρ x x') : (Builtin.cap_ ts ty #[x']).run P w = .ok v w ∧ vdata v = true := by
  unfold acap at hv
  split at hv
  · rename_i t ht
    split at hv
    all_goals try (rename_i hd)
    · cases hv; cases hx; exact ⟨by simp [Builtin.cap_, ht, run_underlying' hd], rfl⟩
    · split at hv
      · rename_i hb
        cases hv
        obtain ⟨i, cs, e', fz, hi', hg, hl, hop, _, _, _⟩ := hs.cells hb
        cases hx with
        | slice hi₂ hcap =>
          rw [hi'] at hi₂; cases hi₂
          rcases hcap with hcap | ⟨hcap, _⟩
          · subst hcap; exact ⟨by simp [Builtin.cap_, ht, run_underlying' hd], rfl⟩
          · rw [hop] at hcap; cases hcap
        | tail hi₂ ho₂ =>
          rw [hi'] at hi₂; cases hi₂
          rw [hop] at ho₂; cases ho₂
      · cases hv
    · cases hv
  · cases hv

/-! ### maps: looking -/
theorem sameNow_in {kt : TypeId} {d : TypeDesc} (hd : P.underlying kt = some d) {k k' : Value} {b : Bool} (hn : Instr.sameNow d k k' = some b) (n : Nat) (w : World) : (Op.equalIn (n + 1) kt k k').run P w = .ok b w := by
  unfold Instr.sameNow at hn
  split at hn
  · split at hn
    · rename_i hk
      simp only [Option.some.injEq] at hn
      subst hn; subst hk
      simp only [Op.equalIn, Sem.run_bind, run_underlying' hd, Result.andThen_ok]
      simp
    · cases hn
  · rename_i x y
    simp only [Option.some.injEq] at hn
    subst hn
    simp only [Op.equalIn, Sem.run_bind, run_underlying' hd, Result.andThen_ok]
    rfl
  · simp only [Option.some.injEq] at hn
    subst hn
    simp only [Op.equalIn, Sem.run_bind, run_underlying' hd, Result.andThen_ok]
    rfl
  · cases hn

theorem sameNow_static {kt : TypeId} {d : TypeDesc} (hd : P.underlying kt = some d) {k k' : Value} {b r : Bool} (hn : Instr.sameNow d k k' = some b) (hs : (Op.equal kt k k').static P = some r) : b = r := by
  have hr := Sem.run_static hs default
  have key : (Op.equal kt k k').run P default = .ok b default := sameNow_in hd hn 9999 default
  rw [hr] at key
  cases key; rfl
end Go.Abs
