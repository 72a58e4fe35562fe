/- The operations that only look: each does over a world what it does over the plain heap. -/
import Derived.Test.YtgenefmhidncpaaGreatDoorRel
namespace Go.Abs
variable {P : Program} {ρ : Ren} {h : AHeap} {w : World} {fr : Fr} {a : Act}

theorem addr_add (b o n : Nat) : (⟨b, o, none⟩ : Addr).add n = ⟨b, o + n, none⟩ := by
  unfold Addr.add
  split
  · subst n; rfl
  · rfl

theorem run_typeInfo {t : TypeId} {i : TypeInfo} (hi : P.info? t = some i) (w : World) : (typeInfo t).run P w = .ok i w := by simp [typeInfo, hi]
theorem run_sizeOf' {t : TypeId} {i : TypeInfo} (hi : P.info? t = some i) (w : World) : (sizeOf t).run P w = .ok i.size w := by simp [sizeOf, run_typeInfo hi]
theorem ite_eq_some {α : Type} {c : Prop} [Decidable c] {x : Option α} {v : α} : (if c then x else none) = some v ↔ c ∧ x = some v := by
  split <;> simp_all
theorem run_zeroValue' {t : TypeId} {z : Value} (hz : azero P t = some z) (w : World) : (zeroValue t).run P w = .ok z w := by
  unfold azero at hz
  rw [ite_eq_some] at hz
  replace hz := hz.2
  cases hi : P.info? t with
  | none => rw [hi] at hz; cases hz
  | some i =>
    rw [hi] at hz
    simp only [Option.bind_some] at hz
    simp [zeroValue, run_typeInfo hi, hz]
theorem run_underlying' {t : TypeId} {d : TypeDesc} (hd : P.underlying t = some d) (w : World) : (underlying t).run P w = .ok d w := by simp [underlying, hd]
theorem run_isAgg' {t : TypeId} {b : Bool} (hb : aggT P t = some b) (w : World) : (isAgg t).run P w = .ok b w := by
  unfold aggT at hb
  split at hb <;> simp only [Option.some.injEq, reduceCtorEq] at hb <;> subst hb <;> rename_i hd
  · simp [isAgg, run_underlying' hd]
  · simp [isAgg, run_underlying' hd]
  · rename_i d h1 h2
    simp only [isAgg, Sem.run_bind, run_underlying' hd, Result.andThen_ok]
    cases d <;> first | rfl | exact absurd hd (h1 _) | exact absurd hd (h2 _ _)

/-! ### cells -/
theorem RelS.cells (hs : RelS P ρ h.get w) {b : Nat} {c : List Value} {e : TypeId} {opn ro : Bool} (hb : h.get b = .cells c e opn ro) :
    ∃ i cs e' fz, ρ b = some i ∧ w.heap[i.blk]? = some (.cells cs e' fz) ∧ i.len = c.length ∧ i.opn = opn ∧
      (∀ (j : Nat) v, c[j]? = some v → ∃ v', cs[i.sh + j]? = some v' ∧ RelV ρ v v') ∧
      (ro = false → okFrozen fz i.sh (i.sh + i.len + i.extra * i.esz)) ∧ (opn = true → i.esz = P.cellsOf e ∧ i.sh + i.len + i.extra * i.esz ≤ cs.size) ∧ i.sh + c.length ≤ cs.size := by
  obtain ⟨i, hi, hR⟩ := hs.obj b (by rw [hb]; rfl)
  rw [hb] at hR
  obtain ⟨cs, e', fz, h1, h2, h3, h4, h5, h6⟩ := hR
  exact ⟨i, cs, e', fz, hi, h1, h2, h3, h4, h5, h6⟩

theorem cell_of_cells {g j : Nat} {cs : Array Value} {t : TypeId} {fz : Nat × Nat} (hg : w.heap[g]? = some (.cells cs t fz)) : w.cell? ⟨g, j, none⟩ = cs[j]? := cell_of_row w g j cs t fz hg

/-- Some cells of a block, as they lie in the world. -/
theorem RelS.range (hs : RelS P ρ h.get w) {b o n : Nat} {vs : List Value} (hv : acells h n ⟨b, o, none⟩ = some vs) {i : BI} (hi : ρ b = some i) :
    ∃ vs', Pw (RelV ρ) vs vs' ∧ vs'.length = n ∧ ∀ (j : Nat) v', vs'[j]? = some v' → w.cell? ((⟨i.blk, i.sh + o, none⟩ : Addr).add j) = some v' := by
  simp only [acells] at hv
  split at hv
  · rename_i c e opn ro hb
    split at hv
    · rename_i hle
      cases hv
      obtain ⟨i', cs, e', fz, hi', hg, hl, _, hcs, _, _⟩ := hs.cells hb
      rw [hi] at hi'; cases hi'
      have hget : ∀ (j : Nat), j < n → ∃ v v', c[o + j]? = some v ∧ cs[i.sh + (o + j)]? = some v' ∧ RelV ρ v v' := fun j hj => by
        have hlt : o + j < c.length := by omega
        obtain ⟨v', h1, h2⟩ := hcs (o + j) _ (List.getElem?_eq_getElem hlt)
        exact ⟨_, v', List.getElem?_eq_getElem hlt, h1, h2⟩
      have hlen : ((cs.toList.drop (i.sh + o)).take n).length = n := by
        rcases Nat.eq_zero_or_pos n with h0 | h0
        · subst h0; simp
        · obtain ⟨_, v', _, h1, _⟩ := hget (n - 1) (by omega)
          have := (Array.getElem?_eq_some_iff.1 h1).1
          simp only [List.length_take, List.length_drop, Array.length_toList]
          omega
      refine ⟨(cs.toList.drop (i.sh + o)).take n, ⟨by rw [hlen]; simp; omega, fun j v v' h1 h2 => ?_⟩, hlen, fun j v' h2 => ?_⟩
      · rw [List.getElem?_take] at h1 h2
        split at h1
        · rename_i hj
          rw [if_pos hj, List.getElem?_drop] at h2
          rw [List.getElem?_drop] at h1
          obtain ⟨x, x', h3, h4, h5⟩ := hget j hj
          rw [h3] at h1; cases h1
          rw [Array.getElem?_toList, Nat.add_assoc, h4] at h2; cases h2
          exact h5
        · cases h1
      · rw [List.getElem?_take] at h2
        split at h2
        · rw [List.getElem?_drop, Array.getElem?_toList] at h2
          rw [addr_add, cell_of_cells hg]
          exact h2
        · cases h2
    · cases hv
  · cases hv

theorem acells_block {n : Nat} {ad : Addr} {vs : List Value} (hv : acells h n ad = some vs) : ∃ b o c e opn ro, ad = ⟨b, o, none⟩ ∧ h.get b = .cells c e opn ro ∧ o + n ≤ c.length ∧ vs = (c.drop o).take n := by
  obtain ⟨b, o, s⟩ := ad
  cases s with
  | some s => simp [acells] at hv
  | none =>
    simp only [acells] at hv
    split at hv
    · rename_i c e opn ro hb
      split at hv
      · cases hv; exact ⟨b, o, c, e, opn, ro, rfl, hb, ‹_›, rfl⟩
      · cases hv
    · cases hv

theorem run_loadCells_rel (hs : RelS P ρ h.get w) {b o n : Nat} {vs : List Value} (hv : acells h n ⟨b, o, none⟩ = some vs) {i : BI} (hi : ρ b = some i) :
    ∃ vs' : List Value, Pw (RelV ρ) vs vs' ∧ vs'.length = n ∧ (loadCells ⟨i.blk, i.sh + o, none⟩ n).run P w = .ok vs'.toArray w := by
  obtain ⟨vs', h1, h2, h3⟩ := hs.range hv hi
  refine ⟨vs', h1, h2, ?_⟩
  have := run_loadCells_list (P := P) w ⟨i.blk, i.sh + o, none⟩ vs' h3
  rwa [h2] at this

theorem run_loadVar_rel (hs : RelS P ρ h.get w) {t : TypeId} {ad v : Value} (hv : aload P h t ad = some v) {ad' : Value} (hR : RelV ρ ad ad') :
    ∃ a' v', ad' = .pointer (some a') ∧ (loadVar t a').run P w = .ok v' w ∧ RelV ρ v v' := by
  unfold aload at hv
  split at hv
  · rename_i b o
    cases hR with
    | ptr hi =>
      rename_i i
      split at hv
      · rename_i c e opn ro hb
        split at hv
        · rename_i hagg
          split at hv
          · rename_i ti hti
            split at hv
            · rename_i hle
              cases hv
              have hac : acells h ti.size ⟨b, o, none⟩ = some ((c.drop o).take ti.size) := by simp [acells, hb, hle]
              obtain ⟨vs', h1, _, h3⟩ := run_loadCells_rel hs hac hi
              exact ⟨_, .agg vs'.toArray, rfl, by simp [loadVar, run_isAgg' hagg, run_sizeOf' hti, h3], relV_agg (by simpa using h1)⟩
            · cases hv
          · cases hv
        · rename_i hagg
          obtain ⟨i', cs, e', fz, hi', hg, _, _, hcs, _, _⟩ := hs.cells hb
          rw [hi] at hi'; cases hi'
          obtain ⟨v', h1, h2⟩ := hcs o v hv
          exact ⟨_, v', rfl, by simp [loadVar, run_isAgg' hagg, cell_of_cells hg, h1], h2⟩
        · cases hv
      · cases hv
  · cases hv

/-! ### an operation is done as over the plain heap -/
def OpSim (P : Program) (ρ : Ren) (h : AHeap) (w : World) (a : Act) (o : Oper) (v : Value) (h' : AHeap) : Prop :=
  Fresh ρ h.next h'.next → ∃ ρ' v' nx w', (execOp a.eval o).run P w = .ok nx w' ∧ (nx = .value v' ∨ (nx = .skip ∧ v' = undef)) ∧ RelV ρ' v v' ∧ RelS P ρ' h'.get w' ∧ Step ρ h.get h.next w ρ' h'.get h'.next w'

theorem OpSim.pure {o : Oper} {v v' : Value} (hs : RelS P ρ h.get w) (hr : (execOp a.eval o).run P w = .ok (.value v') w) (hv : RelV ρ v v') : OpSim P ρ h w a o v h :=
  fun _ => ⟨ρ, v', _, w, hr, .inl rfl, hv, hs, Step.refl _ _ _ _⟩

theorem ev_data (hF : RelF ρ fr a.tmps) {x : Operand} (hok : okOperand x = true) (hd : vdata (ev fr x) = true) : a.eval x = ev fr x := (hF.ev hok).data hd

theorem adata_run {o : Oper} {v : Value} (had : adata P fr o = some v) (hc : execOp (ev fr) o = execOp a.eval o) (w : World) : (execOp a.eval o).run P w = .ok (.value v) w ∧ vdata v = true := by
  unfold adata at had
  split at had
  · split at had
    · rename_i v' hst
      split at had
      · cases had
        rw [← hc]
        exact ⟨Sem.run_static hst w, ‹_›⟩
      · cases had
    · cases had
  · cases had

theorem adata_ops {o : Oper} {v : Value} (had : adata P fr o = some v) {x : Operand} (hx : x ∈ o.op.operands) : vdata (ev fr x) = true := by
  unfold adata at had
  split at had
  · rename_i hall
    exact List.all_eq_true.1 hall x (Array.mem_toList_iff.2 hx)
  · cases had

theorem data_sim {o : Oper} {v : Value} (hs : RelS P ρ h.get w) (had : adata P fr o = some v) (hc : execOp (ev fr) o = execOp a.eval o) : OpSim P ρ h w a o v h := by
  obtain ⟨hr, hv⟩ := adata_run (a := a) had hc w
  exact OpSim.pure hs hr (relV_data ρ hv)

/-- The words for an operation over data alone, kind by kind. -/
theorem congr_bin {o : Oper} {op : BinOp} {t : TypeId} {x y : Operand} {t' : TypeId} (ho : o.op = .binOp op t x y t') (hx : a.eval x = ev fr x) (hy : a.eval y = ev fr y) : execOp (ev fr) o = execOp a.eval o := by
  unfold execOp; rw [ho]; simp only [hx, hy]
theorem congr_un {o : Oper} {op : UnOp} {t : TypeId} {x : Operand} (ho : o.op = .unOp op t x) (hx : a.eval x = ev fr x) : execOp (ev fr) o = execOp a.eval o := by
  unfold execOp; rw [ho]; simp only [hx]
theorem congr_conv {o : Oper} {s d : TypeId} {x : Operand} (ho : o.op = .convert s d x) (hx : a.eval x = ev fr x) : execOp (ev fr) o = execOp a.eval o := by
  unfold execOp; rw [ho]; simp only [hx]
theorem congr_index {o : Oper} {t : TypeId} {x y : Operand} (ho : o.op = .index t x y) (hx : a.eval x = ev fr x) (hy : a.eval y = ev fr y) : execOp (ev fr) o = execOp a.eval o := by
  unfold execOp; rw [ho]; simp only [hx, hy]
theorem congr_slice {o : Oper} {t : TypeId} {x : Operand} {l u m : Option Operand} (ho : o.op = .slice t x l u m) (hx : a.eval x = ev fr x) (hl : ∀ y, l = some y → a.eval y = ev fr y) (hu : ∀ y, u = some y → a.eval y = ev fr y)
    (hm : ∀ y, m = some y → a.eval y = ev fr y) : execOp (ev fr) o = execOp a.eval o := by
  unfold execOp; rw [ho]
  have e1 : l.map (ev fr) = l.map a.eval := by cases l with | none => rfl | some y => simp [hl y rfl]
  have e2 : u.map (ev fr) = u.map a.eval := by cases u with | none => rfl | some y => simp [hu y rfl]
  have e3 : m.map (ev fr) = m.map a.eval := by cases m with | none => rfl | some y => simp [hm y rfl]
  simp only [hx, e1, e2, e3]
theorem congr_builtin {o : Oper} {b : Builtin} {args : Array Operand} {ts : Array TypeId} (ho : o.op = .call { callee := .builtin b, args, argTypes := ts }) (hx : ∀ x ∈ args, a.eval x = ev fr x) : execOp (ev fr) o = execOp a.eval o := by
  unfold execOp; rw [ho]
  have e : args.map (ev fr) = args.map a.eval := Array.map_congr_left fun x hm => (hx x hm).symm
  simp only [resolve, e]

/-! ### comparisons with nil -/
theorem aeqnil_in {t : TypeId} {x y x' y' : Value} {r : Bool} (he : aeqnil P t x y = some r) (hx : RelV ρ x x') (hy : RelV ρ y y') (w : World) (d : Nat) : (Op.equalIn (d + 1) t x' y').run P w = .ok r w := by
  unfold aeqnil at he
  split at he <;> simp only [Option.some.injEq, reduceCtorEq] at he <;> subst he <;> rename_i hd
  all_goals (cases hx <;> cases hy)
  all_goals (simp only [Op.equalIn, Sem.run_bind, run_underlying' hd, Result.andThen_ok]; rfl)

theorem aeqnil_rel {t : TypeId} {x y x' y' : Value} {r : Bool} (he : aeqnil P t x y = some r) (hx : RelV ρ x x') (hy : RelV ρ y y') (w : World) :
    (∀ op u v, (eqGuard op t u v x' y').run P w = .ok () w) ∧ (binOp .eql t x' y').run P w = .ok (.bool r) w ∧ (binOp .neq t x' y').run P w = .ok (.bool !r) w := by
  have key : (Op.equal t x' y').run P w = .ok r w := aeqnil_in he hx hy w 9999
  have e1 : (binOp .eql t x' y') = (do pure (.bool (← Op.equal t x' y'))) ∧ (binOp .neq t x' y') = (do pure (.bool (!(← Op.equal t x' y')))) ∧ (∀ op u v, eqGuard op t u v x' y' = if !(op matches .eql | .neq) then pure () else pure ()) := by
    unfold aeqnil at he
    split at he <;> simp only [Option.some.injEq, reduceCtorEq] at he <;> clear he key
    all_goals (cases hx <;> cases hy)
    all_goals exact ⟨rfl, rfl, fun op u v => by cases op <;> rfl⟩
  refine ⟨fun op u v => by rw [e1.2.2]; split <;> rfl, by rw [e1.1]; simp [key], by rw [e1.2.1]; simp [key]⟩

theorem bin_sim {o : Oper} {op : BinOp} {t t' : TypeId} {x y : Operand} {v : Value} (hs : RelS P ρ h.get w) (hF : RelF ρ fr a.tmps) (ho : o.op = .binOp op t x y t')
    (hx : okOperand x = true) (hy : okOperand y = true) (hv : abin P fr o op t x y = some v) : OpSim P ρ h w a o v h := by
  unfold abin at hv
  split at hv
  · rename_i hd
    simp only [Bool.and_eq_true] at hd
    exact data_sim hs hv (congr_bin ho (ev_data hF hx hd.1) (ev_data hF hy hd.2))
  · split at hv
    · cases he : aeqnil P t (ev fr x) (ev fr y) with
      | none => rw [he] at hv; cases hv
      | some r =>
        rw [he] at hv; cases hv
        obtain ⟨h2, h3, _⟩ := aeqnil_rel he (hF.ev hx) (hF.ev hy) w
        refine OpSim.pure (v' := .bool r) hs ?_ (.bool r)
        unfold execOp; rw [ho]
        simp [h2, h3]
    · cases he : aeqnil P t (ev fr x) (ev fr y) with
      | none => rw [he] at hv; cases hv
      | some r =>
        rw [he] at hv; cases hv
        obtain ⟨h2, _, h3⟩ := aeqnil_rel he (hF.ev hx) (hF.ev hy) w
        refine OpSim.pure (v' := .bool !r) hs ?_ (.bool _)
        unfold execOp; rw [ho]
        simp [h2, h3]
    · cases hv
end Go.Abs
