/- Operations that make objects or change them: alloc, box, literals, stores, maps. -/
import Derived.Test.YtgenefmhidncpaaGreatDoorOpsB
namespace Go.Abs
variable {P : Program} {ρ : Ren} {h : AHeap} {w : World} {fr : Fr} {a : Act}

/-! ### cells that are written -/
def putA (cs : Array Value) (o : Nat) : List Value → Array Value
  | [] => cs
  | v :: vs => putA (cs.setIfInBounds o v) (o + 1) vs

theorem size_putA : ∀ (vs : List Value) (cs : Array Value) (o : Nat), (putA cs o vs).size = cs.size
  | [], _, _ => rfl
  | v :: vs, cs, o => by simp [putA, size_putA vs]

theorem get_putA : ∀ (vs : List Value) (cs : Array Value) (o j : Nat), o + vs.length ≤ cs.size → (putA cs o vs)[j]? = if o ≤ j ∧ j < o + vs.length then vs[j - o]? else cs[j]?
  | [], cs, o, j, _ => by simp [putA]; omega
  | v :: vs, cs, o, j, hl => by
    simp only [List.length_cons] at hl
    rw [putA, get_putA vs _ _ _ (by simp; omega), Array.getElem?_setIfInBounds]
    by_cases h1 : o = j
    · subst h1
      rw [if_neg (by omega), if_pos rfl, if_pos (by omega), if_pos (by simp)]
      simp
    · rw [if_neg h1]
      by_cases h2 : o + 1 ≤ j ∧ j < o + 1 + vs.length
      · rw [if_pos h2, if_pos (by simp; omega), show j - o = (j - (o + 1)) + 1 by omega]
        simp
      · rw [if_neg h2, if_neg (by simp; omega)]

theorem length_splice (c : List Value) (o : Nat) (vs : List Value) (hl : o + vs.length ≤ c.length) : (splice c o vs).length = c.length := by simp [splice]; omega
theorem get_splice (c : List Value) (o : Nat) (vs : List Value) (j : Nat) (hl : o + vs.length ≤ c.length) : (splice c o vs)[j]? = if o ≤ j ∧ j < o + vs.length then vs[j - o]? else c[j]? := by
  unfold splice
  by_cases h1 : j < o
  · rw [if_neg (by omega), List.append_assoc, List.getElem?_append_left (by simp; omega), List.getElem?_take, if_pos h1]
  · by_cases h2 : j < o + vs.length
    · rw [if_pos (by omega), List.append_assoc, List.getElem?_append_right (by simp; omega), List.getElem?_append_left (by simp; omega)]
      congr 1
      simp; omega
    · rw [if_neg (by omega), List.getElem?_append_right (by simp; omega), List.getElem?_drop]
      congr 1
      simp; omega

theorem setCell_set {b j : Nat} {cs : Array Value} {e : TypeId} {fz : Nat × Nat} (hg : w.heap[b]? = some (.cells cs e fz)) (v : Value) :
    w.setCell ⟨b, j, none⟩ v = { w with heap := w.heap.setIfInBounds b (.cells (cs.setIfInBounds j v) e fz) } := by
  unfold World.setCell
  congr 1
  apply Array.ext_getElem?
  intro k
  rw [Array.getElem?_modify, Array.getElem?_setIfInBounds]
  by_cases hk : b = k
  · subst hk
    obtain ⟨hlt, hge⟩ := Array.getElem?_eq_some_iff.1 hg
    simp [hlt, hge]
  · simp [hk]

theorem run_storeCells_gen (b o : Nat) (e : TypeId) (fz : Nat × Nat) : ∀ (vs : List Value) (i : Nat) (w : World) (cs : Array Value), w.heap[b]? = some (.cells cs e fz) → o + i + vs.length ≤ cs.size → okFrozen fz (o + i) (o + i + vs.length) → (∀ v ∈ vs, v.oneCell' = true) →
    (storeCells ⟨b, o, none⟩ vs i).run P w = .ok () { w with heap := w.heap.setIfInBounds b (.cells (putA cs (o + i) vs) e fz) } := by
  intro vs
  induction vs with
  | nil =>
    intro i w cs hg hl hf h1
    simp only [storeCells, Sem.run_pure, putA]
    congr 1
    have : w.heap.setIfInBounds b (.cells cs e fz) = w.heap := by
      apply Array.ext_getElem?
      intro k
      rw [Array.getElem?_setIfInBounds]
      by_cases hk : b = k
      · subst hk
        obtain ⟨hlt, hge⟩ := Array.getElem?_eq_some_iff.1 hg
        simp [hlt, hge]
      · simp [hk]
    rw [this]
  | cons v vs ih =>
    intro i w cs hg hl hf h1
    simp only [List.length_cons] at hl hf
    have hc : w.cell? ⟨b, o + i, none⟩ = some cs[o + i] := by rw [cell_of_cells hg]; exact Array.getElem?_eq_getElem (by omega)
    have hfr : w.frozen? ⟨b, o + i, none⟩ = false := by
      have := hf (o + i) (Nat.le_refl _) (by omega)
      simp only [World.frozen?, hg]
      simpa using this
    simp only [storeCells, Sem.run_bind, addr_add, run_store P w _ v _ (h1 v (by simp)), hc, hfr]
    rw [if_neg (by simp)]
    simp only [Result.andThen_ok]
    rw [setCell_set hg]
    have hlt := (Array.getElem?_eq_some_iff.1 hg).1
    rw [ih (i + 1) _ (cs.setIfInBounds (o + i) v) (by simp [hlt]) (by simp; omega) (fun j h2 h3 => hf j (by omega) (by omega)) (fun x hx => h1 x (by simp [hx]))]
    simp only [putA, Array.setIfInBounds_setIfInBounds, Nat.add_assoc]

theorem okFrozen.sub {fz : Nat × Nat} {a b c d : Nat} (h : okFrozen fz a d) (h1 : a ≤ b) (h2 : c ≤ d) : okFrozen fz b c := fun j h3 h4 => h j (by omega) (by omega)

/-- Cells of a block are written over. -/
theorem put_sim (hs : RelS P ρ h.get w) {b o : Nat} {vs vs' : List Value} {h' : AHeap} (hp : aput h ⟨b, o, none⟩ vs = some h') (hv : Pw (RelV ρ) vs vs') {i : BI} (hi : ρ b = some i) :
    ∃ w', (storeCells ⟨i.blk, i.sh + o, none⟩ vs').run P w = .ok () w' ∧ RelS P ρ h'.get w' ∧ Step ρ h.get h.next w ρ h'.get h'.next w' ∧ h'.next = h.next := by
  simp only [aput] at hp
  split at hp
  · rename_i c e opn hb
    split at hp
    · rename_i hc
      cases hp
      simp only [Bool.and_eq_true, decide_eq_true_eq] at hc
      obtain ⟨hl, hone⟩ := hc
      obtain ⟨i', cs, e', fz, hi', hg, hlen, hop, hcs, hfz, hopn, hsz⟩ := hs.cells hb
      rw [hi] at hi'; cases hi'
      have hvl : vs'.length = vs.length := hv.1.symm
      have hone' : ∀ v ∈ vs', v.oneCell' = true := fun v' hm => by
        obtain ⟨j, hj⟩ := List.getElem?_of_mem hm
        have hjl : j < vs.length := by have := (List.getElem?_eq_some_iff.1 hj).1; omega
        have hR := hv.2 j _ v' (List.getElem?_eq_getElem hjl) hj
        rw [← hR.one]
        exact List.all_eq_true.1 hone _ (List.getElem_mem hjl)
      have hrun := run_storeCells_gen (P := P) i.blk (i.sh + o) e' fz vs' 0 w cs hg (by omega) ((hfz rfl).sub (by omega) (by omega)) hone'
      rw [Nat.add_zero] at hrun
      have hobj : RelObj P ρ i { w with heap := w.heap.setIfInBounds i.blk (.cells (putA cs (i.sh + o) vs') e' fz) } (.cells (splice c o vs) e opn false) := by
        have hlt := (Array.getElem?_eq_some_iff.1 hg).1
        refine ⟨putA cs (i.sh + o) vs', e', fz, by simp [hlt], by rw [length_splice c o vs hl]; exact hlen, hop, fun j v hj => ?_, hfz, fun ho => ?_, by rw [length_splice c o vs hl, size_putA]; exact hsz⟩
        · rw [get_splice c o vs j hl] at hj
          rw [get_putA _ _ _ _ (by omega)]
          split at hj
          · rename_i hr
            rw [if_pos (by omega)]
            obtain ⟨v', h1, h2⟩ := hv.get hj
            exact ⟨v', by rw [← h1]; congr 1; omega, h2⟩
          · rename_i hr
            have hjl : j < c.length := (List.getElem?_eq_some_iff.1 hj).1
            rw [if_neg (by omega)]
            exact hcs j v hj
        · rw [size_putA]; exact hopn ho
      obtain ⟨hR, hst⟩ := hs.set (b := b) (by rw [hb]; rfl) hi (.cells (splice c o vs) e opn false) (.cells (putA cs (i.sh + o) vs') e' fz) hobj
      exact ⟨_, hrun, hR, hst, rfl⟩
    · cases hp
  · cases hp
theorem aput_addr {ad : Addr} {vs : List Value} {h' : AHeap} (hp : aput h ad vs = some h') : ∃ b o c e opn, ad = ⟨b, o, none⟩ ∧ h.get b = .cells c e opn false ∧ o + vs.length ≤ c.length := by
  obtain ⟨b, o, s⟩ := ad
  cases s with
  | some s => simp [aput] at hp
  | none =>
    simp only [aput] at hp
    split at hp
    · rename_i c e opn hb
      split at hp
      · rename_i hc
        simp only [Bool.and_eq_true, decide_eq_true_eq] at hc
        exact ⟨b, o, c, e, opn, rfl, hb, hc.1⟩
      · cases hp
    · cases hp

theorem store_rel (hs : RelS P ρ h.get w) {t : TypeId} {v v' ad ad' : Value} {h' : AHeap} (hp : astore P h t v ad = some h') (hv : RelV ρ v v') (had : RelV ρ ad ad') :
    ∃ w', (Instr.storeAt t ad' v').run P w = .ok () w' ∧ RelS P ρ h'.get w' ∧ Step ρ h.get h.next w ρ h'.get h'.next w' ∧ h'.next = h.next := by
  unfold astore at hp
  split at hp
  · rename_i a₀
    split at hp
    · rename_i ti hti
      split at hp
      · rename_i hsz
        obtain ⟨b, o, _, _, _, rfl, _, _⟩ := aput_addr hp
        cases had with
        | ptr hi =>
          rename_i i
          obtain ⟨w', h1, h2, h3, h4⟩ := put_sim hs hp hv.cells hi
          refine ⟨w', ?_, h2, h3, h4⟩
          have hsz' : v'.cells.size = ti.size := by have := hv.cells.1; simp at this; omega
          simp [Instr.storeAt, Instr.sureAddr, storeVar, run_sizeOf' hti, hsz', h1]
      · cases hp
    · cases hp
  · cases hp

/-! ### new objects -/
theorem push_row (hs : RelS P ρ h.get w) (hf : ρ h.next = none) {c c' tl : List Value} (hc : Pw (RelV ρ) c c') (e e' : TypeId) (opn : Bool) (extra : Nat) (ho : opn = true → tl.length = extra * P.cellsOf e) :
    let i : BI := ⟨w.heap.size, 0, c.length, P.cellsOf e, extra, opn⟩
    RelS P (ρ.put h.next i) (h.push (.cells c e opn false)).get { w with heap := w.heap.push (.cells (c' ++ tl).toArray e') } ∧
      Step ρ h.get h.next w (ρ.put h.next i) (h.push (.cells c e opn false)).get (h.next + 1) { w with heap := w.heap.push (.cells (c' ++ tl).toArray e') } := by
  intro i
  refine hs.push hf _ _ i rfl ⟨(c' ++ tl).toArray, e', (0, 0), by simp [i], rfl, rfl, fun j v hj => ?_, fun _ j _ _ => by omega, fun h => ⟨rfl, ?_⟩, by simp [i, hc.1]⟩
  · obtain ⟨v', h1, h2⟩ := hc.get hj
    refine ⟨v', ?_, h2.mono (Ren.le_put hf i)⟩
    simp only [i, Nat.zero_add, List.getElem?_toArray]
    rw [List.getElem?_append_left (List.getElem?_eq_some_iff.1 h1).1]
    exact h1
  · simp only [i, List.size_toArray, List.length_append, Nat.zero_add, ho h, hc.1]
    exact Nat.le_refl _

theorem new_ptr (hs : RelS P ρ h.get w) {c c' : List Value} (hc : Pw (RelV ρ) c c') (e : TypeId) {o : Oper} (hr : (execOp a.eval o).run P w = .ok (.value (.pointer (some ⟨w.heap.size, 0, none⟩))) { w with heap := w.heap.push (.cells c'.toArray e) }) :
    OpSim P ρ h w a o (.pointer (some ⟨h.next, 0, none⟩)) (h.push (.cells c e false false)) := by
  intro hfr
  have hf : ρ h.next = none := hfr h.next (Nat.le_refl _) (by simp)
  obtain ⟨h1, h2⟩ := push_row (tl := []) hs hf hc e e false 0 (fun h => by cases h)
  simp only [List.append_nil] at h1 h2
  exact ⟨_, _, _, _, hr, .inl rfl, .ptr (Ren.put_same ρ _ _), h1, h2⟩

theorem new_slice (hs : RelS P ρ h.get w) {c c' : List Value} (hc : Pw (RelV ρ) c c') (e : TypeId) (n cap : Nat) {o : Oper} (hr : (execOp a.eval o).run P w = .ok (.value (.slice (some ⟨w.heap.size, 0, none⟩) n cap)) { w with heap := w.heap.push (.cells c'.toArray e) }) :
    OpSim P ρ h w a o (.slice (some ⟨h.next, 0, none⟩) n cap) (h.push (.cells c e false false)) := by
  intro hfr
  have hf : ρ h.next = none := hfr h.next (Nat.le_refl _) (by simp)
  obtain ⟨h1, h2⟩ := push_row (tl := []) hs hf hc e e false 0 (fun h => by cases h)
  simp only [List.append_nil] at h1 h2
  exact ⟨_, _, _, _, hr, .inl rfl, .slice (Ren.put_same ρ _ _) (.inl rfl), h1, h2⟩

theorem zcells_rel {z : Value} (hz : vdata z = true) (ρ : Ren) (n : Nat) : Pw (RelV ρ) ((Array.range n).map (z.cells[· % z.cells.size]!)).toList ((Array.range n).map (z.cells[· % z.cells.size]!)).toList := by
  have hp := (relV_data ρ hz).cells
  refine ⟨rfl, fun i x y hx hy => ?_⟩
  rw [hx] at hy; cases hy
  simp only [Array.toList_map, List.getElem?_map, Option.map_eq_some_iff] at hx
  obtain ⟨j, _, rfl⟩ := hx
  rw [getElem!_def]
  cases hj : z.cells[j % z.cells.size]? with
  | none => exact relV_data ρ rfl
  | some v => exact hp.2 (j % z.cells.size) v v (by rw [Array.getElem?_toList]; exact hj) (by rw [Array.getElem?_toList]; exact hj)

/-! ### maps -/
abbrev RelE (ρ : Ren) (x : Value × Value) (y : MapEntry) : Prop := y.key = x.1 ∧ vdata x.1 = true ∧ RelV ρ x.2 y.val

theorem find_now {kt : TypeId} {d : TypeDesc} (hd : P.underlying kt = some d) {k : Value} : ∀ (es : List (Value × Value)) (es' : List MapEntry) (i : Nat) (r : Option (Nat × Value × Value)) (r' : Option (Nat × Value)),
    Pw (RelE ρ) es es' → afind P kt k es i = some r → Instr.findNow d k es' i = some r' →
    (r = none ∧ r' = none) ∨ ∃ j k' v v', r = some (j, k', v) ∧ r' = some (j, v') ∧ RelV ρ v v' ∧ i ≤ j ∧ es[j - i]? = some (k', v)
  | [], es', i, r, r', hp, hr, hr' => by
    rw [hp.nil_left] at hr'
    simp only [afind, Option.some.injEq] at hr
    simp only [Instr.findNow, Option.some.injEq] at hr'
    exact .inl ⟨hr.symm, hr'.symm⟩
  | (k', v) :: es, es', i, r, r', hp, hr, hr' => by
    obtain ⟨e, m, rfl, ⟨hk, _, hv⟩, hm⟩ := hp.cons_left
    simp only at hk hv
    simp only [Instr.findNow, hk] at hr'
    simp only [afind] at hr
    split at hr'
    · rename_i hn
      cases hr'
      split at hr
      · cases hr
        exact .inr ⟨i, k', v, e.val, rfl, rfl, hv, Nat.le_refl _, by simp⟩
      · rename_i hst
        have := sameNow_static hd hn hst; cases this
      · cases hr
    · rename_i hn
      split at hr
      · rename_i hst
        have := sameNow_static hd hn hst; cases this
      · rcases find_now hd es m (i + 1) r r' hm hr hr' with h | ⟨j, k'', v, v', h1, h2, h3, h4, h5⟩
        · exact .inl h
        · exact .inr ⟨j, k'', v, v', h1, h2, h3, by omega, by rw [show j - i = (j - (i + 1)) + 1 by omega]; simpa using h5⟩
      · cases hr
    · cases hr'

theorem find_asking {kt : TypeId} {k : Value} : ∀ (es : List (Value × Value)) (es' : List MapEntry) (i : Nat) (r : Option (Nat × Value × Value)) (w : World),
    Pw (RelE ρ) es es' → afind P kt k es i = some r → ∃ r', (Instr.findAsking kt k es' i).run P w = .ok r' w ∧
    ((r = none ∧ r' = none) ∨ ∃ j k' v v', r = some (j, k', v) ∧ r' = some (j, v') ∧ RelV ρ v v' ∧ i ≤ j ∧ es[j - i]? = some (k', v))
  | [], es', i, r, w, hp, hr => by
    rw [hp.nil_left]
    simp only [afind, Option.some.injEq] at hr
    exact ⟨none, by simp [Instr.findAsking], .inl ⟨hr.symm, rfl⟩⟩
  | (k', v) :: es, es', i, r, w, hp, hr => by
    obtain ⟨e, m, rfl, ⟨hk, _, hv⟩, hm⟩ := hp.cons_left
    simp only at hk hv
    simp only [afind] at hr
    split at hr
    · rename_i hst
      cases hr
      exact ⟨_, by simp [Instr.findAsking, hk, Sem.run_static hst w], .inr ⟨i, k', v, e.val, rfl, rfl, hv, Nat.le_refl _, by simp⟩⟩
    · rename_i hst
      obtain ⟨r', h1, h2⟩ := find_asking es m (i + 1) r w hm hr
      refine ⟨r', by simp [Instr.findAsking, hk, Sem.run_static hst w, h1], ?_⟩
      rcases h2 with h | ⟨j, k'', v, v', h1, h2, h3, h4, h5⟩
      · exact .inl h
      · exact .inr ⟨j, k'', v, v', h1, h2, h3, by omega, by rw [show j - i = (j - (i + 1)) + 1 by omega]; simpa using h5⟩
    · cases hr

theorem checkKey_static {e : Bool} {n : Nat} {kt : TypeId} {k : Value} (hc : ((Instr.checkKey e (n + 1) kt k).static P).isSome = true) : ∃ d, P.underlying kt = some d := by
  cases hd : P.underlying kt with
  | some d => exact ⟨d, rfl⟩
  | none =>
    exfalso
    unfold Instr.checkKey at hc
    have : ∀ {β : Type} (f : TypeDesc → Sem β), ((underlying kt >>= f).static P) = none := by
      intro β f
      show ((underlying kt).bind f).static P = none
      simp only [underlying, program, Bind.bind, Sem.bind, Sem.static, hd]
      rfl
    rw [this] at hc
    cases hc

theorem findKey_rel {kt : TypeId} {d : TypeDesc} (hd : P.underlying kt = some d) {k : Value} {es : List (Value × Value)} {es' : List MapEntry} {r : Option (Nat × Value × Value)} (hp : Pw (RelE ρ) es es') (hr : afind P kt k es 0 = some r) (w : World) :
    ∃ r', (Instr.findKey kt k es').run P w = .ok r' w ∧ ((r = none ∧ r' = none) ∨ ∃ j k' v v', r = some (j, k', v) ∧ r' = some (j, v') ∧ RelV ρ v v' ∧ es[j]? = some (k', v)) := by
  have hfix : ∀ {r' : Option (Nat × Value)}, ((r = none ∧ r' = none) ∨ ∃ j k' v v', r = some (j, k', v) ∧ r' = some (j, v') ∧ RelV ρ v v' ∧ 0 ≤ j ∧ es[j - 0]? = some (k', v)) → ((r = none ∧ r' = none) ∨ ∃ j k' v v', r = some (j, k', v) ∧ r' = some (j, v') ∧ RelV ρ v v' ∧ es[j]? = some (k', v)) := by
    intro r' h
    rcases h with h | ⟨j, k', v, v', h1, h2, h3, _, h5⟩
    · exact .inl h
    · exact .inr ⟨j, k', v, v', h1, h2, h3, by simpa using h5⟩
  cases hn : Instr.findNow d k es' 0 with
  | some r' => exact ⟨r', by simp [Instr.findKey, run_underlying' hd, hn], hfix (find_now hd es es' 0 r r' hp hr hn)⟩
  | none =>
    obtain ⟨r', h1, h2⟩ := find_asking es es' 0 r w hp hr
    exact ⟨r', by simp [Instr.findKey, run_underlying' hd, hn, h1], hfix h2⟩

theorem relV_ok {v v' : Value} (hv : RelV ρ v v') {ok : Bool} (b : Bool) : RelV ρ (if ok then .tuple #[v, .bool b] else v) (if ok then .tuple #[v', .bool b] else v') := by
  split
  · exact relV_tuple (Pw.cons hv (Pw.cons (.bool b) Pw.nil))
  · exact hv

theorem lookup_rel (hz : ∀ t z, azero P t = some z → vdata z = true) (hs : RelS P ρ h.get w) {t : TypeId} {m m' k k' v : Value} {ok : Bool} (hv : alookup P h t m k ok = some v) (hm : RelV ρ m m') (hk : RelV ρ k k') :
    ∃ v', (Instr.lookup t m' k' ok).run P w = .ok v' w ∧ RelV ρ v v' := by
  unfold alookup at hv
  split at hv
  · rename_i kt et hd
    simp only at hv
    split at hv
    · rename_i es hes
      split at hv
      · rename_i hc
        simp only [Bool.and_eq_true] at hc
        obtain ⟨hkd, hck⟩ := hc
        have hkk := hk.data hkd
        subst hkk
        obtain ⟨dk, hdk⟩ := checkKey_static (n := 9999) hck
        -- the entries as they lie
        have hent : ∃ es' : Array MapEntry, Pw (RelE ρ) es es'.toList ∧ ((m' = .map none ∧ es' = #[]) ∨ ∃ blk clk, m' = .map (some blk) ∧ w.heap[blk]? = some (.map es' clk)) := by
          split at hes
          · cases hes
            cases hm
            exact ⟨#[], Pw.nil, .inl ⟨rfl, rfl⟩⟩
          · split at hes
            · rename_i hb
              cases hes
              cases hm with
              | map hi =>
                rename_i i
                obtain ⟨i', hi', hR⟩ := hs.obj _ (by rw [hb]; rfl)
                rw [hi] at hi'; cases hi'
                rw [hb] at hR
                obtain ⟨es', clk, hg, hp⟩ := hR
                exact ⟨es', hp, .inr ⟨i.blk, clk, rfl, hg⟩⟩
            · cases hes
          · cases hes
        obtain ⟨es', hp, hrun⟩ := hent
        have hemp : es'.isEmpty = es.isEmpty := by
          have := hp.1
          cases es with
          | nil => simp at this; simp [Array.eq_empty_of_size_eq_zero this.symm]
          | cons x xs => simp at this; simp; intro e; subst e; simp at this
        obtain ⟨u, hu⟩ := Option.isSome_iff_exists.1 hck
        have hck' := Sem.run_static hu w
        cases hfd : afind P kt k' es 0 with
        | none => rw [hfd] at hv; cases hv
        | some r =>
          rw [hfd] at hv
          obtain ⟨r', h1, h2⟩ := findKey_rel hdk hp hfd w
          rcases h2 with ⟨rfl, rfl⟩ | ⟨j, k'', v₁, v₁', rfl, rfl, hv₁, _⟩
          · simp only [Option.map_eq_some_iff] at hv
            obtain ⟨z, hzt, rfl⟩ := hv
            have hzr := relV_data ρ (hz et z hzt)
            refine ⟨if ok then .tuple #[z, .bool false] else z, ?_, relV_ok hzr false⟩
            rcases hrun with ⟨rfl, rfl⟩ | ⟨blk, clk, rfl, hg⟩
            · simp only [Instr.lookup, Sem.run_bind, run_underlying' hd, Result.andThen_ok, hemp, hck', h1, run_zeroValue' hzt, Sem.run_pure]
            · simp only [Instr.lookup, Sem.run_bind, run_underlying' hd, Result.andThen_ok, getObj, Sem.run, hg, hemp, hck', h1, run_zeroValue' hzt, Sem.run_pure]
          · simp only [Option.some.injEq] at hv
            subst hv
            refine ⟨if ok then .tuple #[v₁', .bool true] else v₁', ?_, relV_ok hv₁ true⟩
            rcases hrun with ⟨rfl, rfl⟩ | ⟨blk, clk, rfl, hg⟩
            · simp only [Instr.lookup, Sem.run_bind, run_underlying' hd, Result.andThen_ok, hemp, hck', h1, Sem.run_pure]
            · simp only [Instr.lookup, Sem.run_bind, run_underlying' hd, Result.andThen_ok, getObj, Sem.run, hg, hemp, hck', h1, Sem.run_pure]
      · cases hv
    · cases hv
  · cases hv

theorem mapUpdate_rel (hs : RelS P ρ h.get w) {t : TypeId} {m m' k k' v v' : Value} {h' : AHeap} (hu : amapUpdate P h t m k v = some h') (hm : RelV ρ m m') (hk : RelV ρ k k') (hv : RelV ρ v v') :
    ∃ w', (Instr.mapUpdate t m' k' v').run P w = .ok () w' ∧ RelS P ρ h'.get w' ∧ Step ρ h.get h.next w ρ h'.get h'.next w' ∧ h'.next = h.next := by
  unfold amapUpdate at hu
  split at hu
  · rename_i kt et r hd
    split at hu
    · rename_i es hb
      split at hu
      · rename_i hc
        simp only [Bool.and_eq_true] at hc
        obtain ⟨hkd, hck⟩ := hc
        have hkk := hk.data hkd
        subst hkk
        obtain ⟨dk, hdk⟩ := checkKey_static (n := 9999) hck
        obtain ⟨u, hu'⟩ := Option.isSome_iff_exists.1 hck
        have hck' := Sem.run_static hu' w
        cases hm with
        | map hi =>
          rename_i i
          obtain ⟨i', hi', hR⟩ := hs.obj _ (by rw [hb]; rfl)
          rw [hi] at hi'; cases hi'
          rw [hb] at hR
          obtain ⟨es', clk, hg, hp⟩ := hR
          have hlt := (Array.getElem?_eq_some_iff.1 hg).1
          cases hfd : afind P kt k' es 0 with
          | none => rw [hfd] at hu; cases hu
          | some r =>
            rw [hfd] at hu
            obtain ⟨r', h1, h2⟩ := findKey_rel hdk hp hfd w
            rcases h2 with ⟨rfl, rfl⟩ | ⟨j, k'', v₁, v₁', rfl, rfl, hv₁, hj⟩
            · simp only [Option.some.injEq] at hu
              subst hu
              have hobj : RelObj P ρ i { w with heap := w.heap.setIfInBounds i.blk (.map (es'.push { key := k', val := v', born := clk }) (clk + 1)) } (.map (es ++ [(k', v)])) :=
                ⟨es'.push { key := k', val := v', born := clk }, clk + 1, by simp [hlt], by
                  rw [Array.toList_push]
                  exact hp.append (Pw.cons ⟨rfl, hkd, hv⟩ Pw.nil)⟩
              obtain ⟨hR, hst⟩ := hs.set (by rw [hb]; rfl) hi _ _ hobj
              refine ⟨_, ?_, hR, hst, rfl⟩
              simp only [Instr.mapUpdate, Sem.run_bind, run_underlying' hd, Result.andThen_ok, getObj, Sem.run, hg, hck', h1, setObj]
            · simp only at hu
              split at hu
              · rename_i hsb
                cases hu
                obtain ⟨e, he, hek, _, _⟩ := hp.get hj
                rw [Array.getElem?_toList] at he
                have hobj : RelObj P ρ i { w with heap := w.heap.setIfInBounds i.blk (.map (es'.modify j fun e => { e with key := k', val := v' }) clk) } (.map (es.modify j fun _ => (k', v))) := by
                  refine ⟨es'.modify j fun e => { e with key := k', val := v' }, clk, by simp [hlt], by simpa using hp.1, fun n x y hx hy => ?_⟩
                  rw [List.getElem?_modify] at hx
                  rw [Array.getElem?_toList, Array.getElem?_modify] at hy
                  split at hx
                  · rename_i hn
                    rw [if_pos hn] at hy
                    cases hx' : es[n]? with
                    | none => rw [hx'] at hx; cases hx
                    | some x' =>
                      cases hy' : es'[n]? with
                      | none => rw [hy'] at hy; cases hy
                      | some y' =>
                        rw [hx'] at hx; rw [hy'] at hy
                        simp only [Option.map_eq_map, Option.map_some, Option.some.injEq] at hx hy
                        subst hx; subst hy
                        exact ⟨rfl, hkd, hv⟩
                  · rename_i hn
                    rw [if_neg hn] at hy
                    simp only [Option.map_eq_map, Option.map_id'] at hx
                    exact hp.2 n x y hx (by rw [Array.getElem?_toList]; exact hy)
                obtain ⟨hR, hst⟩ := hs.set (by rw [hb]; rfl) hi _ _ hobj
                refine ⟨_, ?_, hR, hst, rfl⟩
                simp only [Instr.mapUpdate, Sem.run_bind, run_underlying' hd, Result.andThen_ok, getObj, Sem.run, hg, hck', h1, setObj, he, Option.map_some, Option.getD_some, hek, Instr.keyThatStays, hsb, if_true, Sem.run_pure]
              · cases hu
      · cases hu
    · cases hu
  · cases hu
end Go.Abs
