/- Marks among the deferred calls; what a function hands back; a round's temporaries. -/
import Derived.Test.YtgenefmhidncpaaGreatDoorRunA
import Derived.RangeFuncNested
namespace Go.Abs
variable {P : Program} {ρ ρ' : Ren} {g g' : Nat → AObj} {w w' : World}

/-- The deferred calls are marks of blocks that hold none; the blocks are of this activation's time. -/
def Marks (base : Nat) (w : World) (ds : List Deferred) : Prop := ∃ rs : List Nat, ds.map (·.target) = rs.map Target.collected ∧ rs.Nodup ∧ ∀ r ∈ rs, base ≤ r ∧ w.heap[r]? = some (.deferred (some []))

theorem Marks.nil (base : Nat) (w : World) : Marks base w [] := ⟨[], rfl, List.nodup_nil, fun r h => by cases h⟩

theorem RelS.not_deferred (hs : RelS P ρ g w) {r : Nat} {x : Option (List Deferred)} (hr : w.heap[r]? = some (.deferred x)) {b : Nat} {i : BI} (hb : ρ b = some i) (ha : (g b).alive = true) : i.blk ≠ r := by
  intro e
  subst e
  obtain ⟨i', hi', ho⟩ := hs.obj b ha
  rw [hb] at hi'; cases hi'
  cases hg : g b with
  | dead => rw [hg] at ha; cases ha
  | cells c e opn ro =>
    rw [hg] at ho
    obtain ⟨cs, e', fz, h1, _⟩ := ho
    rw [hr] at h1; cases h1
  | map es =>
    rw [hg] at ho
    obtain ⟨cs, clk, h1, _⟩ := ho
    rw [hr] at h1; cases h1
  | loop st pend fn tmps ps as bd =>
    rw [hg] at ho
    obtain ⟨tm, df, fn', h1, _⟩ := ho
    rw [hr] at h1; cases h1

theorem Marks.step {base n n' : Nat} {ds : List Deferred} (hm : Marks base w ds) (hs : RelS P ρ g w) (hst : Step ρ g n w ρ' g' n' w') : Marks base w' ds := by
  obtain ⟨rs, h1, h2, h3⟩ := hm
  refine ⟨rs, h1, h2, fun r hr => ⟨(h3 r hr).1, ?_⟩⟩
  have := (h3 r hr).2
  rw [hst.kept r (Array.getElem?_eq_some_iff.1 this).1 fun b i hb hw => hs.not_deferred this hb (AObj.alive_of_mut hw)]
  exact this

/-- Something is laid that nobody names. -/
theorem RelS.alloc (hs : RelS P ρ g w) (ob : Obj) : RelS P ρ g (w.alloc ob) := by
  refine ⟨fun b hb => ?_, fun b i hb => ?_, hs.inj⟩
  · obtain ⟨i, hi, ho⟩ := hs.obj b hb
    refine ⟨i, hi, ho.mono (Ren.le_refl _) ?_⟩
    have := hs.lt b i hi
    show (w.heap.push ob)[i.blk]? = _
    rw [Array.getElem?_push, if_neg (by omega)]
  · have := hs.lt b i hb
    show i.blk < (w.heap.push ob).size
    simp; omega

theorem Step.alloc (ρ : Ren) (g : Nat → AObj) (n : Nat) (w : World) (ob : Obj) : Step ρ g n w ρ g n (w.alloc ob) :=
  ⟨rfl, rfl, rfl, by show w.heap.size ≤ (w.heap.push ob).size; simp, fun c hc _ => by show (w.heap.push ob)[c]? = _; rw [Array.getElem?_push, if_neg (by omega)], Nat.le_refl _, fun _ _ => rfl, fun b i h1 h2 => by omega, fun _ _ h => h, fun _ _ h => h⟩

/-- A mark is taken. -/
theorem Step.take {n n' : Nat} {w₀ : World} (hst : Step ρ g n w₀ ρ' g' n' w) {r : Nat} (hr : w₀.heap.size ≤ r) (ob : Obj) : Step ρ g n w₀ ρ' g' n' (w.putObj r ob) :=
  ⟨hst.os, hst.tape, hst.output, by simpa [World.putObj] using hst.size, fun c hc hn => (World.putObj_heap_other (by omega)).trans (hst.kept c hc hn), hst.le, hst.out, hst.new, hst.alive, hst.wr⟩

theorem RelS.take (hs : RelS P ρ g w) {r : Nat} {x : Option (List Deferred)} (hr : w.heap[r]? = some (.deferred x)) (ob : Obj) : RelS P ρ g (w.putObj r ob) := by
  refine ⟨fun b hb => ?_, fun b i hb => by simpa [World.putObj] using hs.lt b i hb, hs.inj⟩
  obtain ⟨i, hi, ho⟩ := hs.obj b hb
  exact ⟨i, hi, ho.mono (Ren.le_refl _) (World.putObj_heap_other (hs.not_deferred hr hi hb))⟩

/-! ### what is handed back -/
def oneResult (tm : Array Value) (x : ResultVar) : Sem Value :=
  match x with
  | .tmp t => pure (tm.getD t undef)
  | .cell a t => do loadVar t (← asAddr (tm.getD a undef))

theorem results_rel {h : AHeap} {fr : Fr} {tm : Array Value} (hs : RelS P ρ h.get w) (hF : RelF ρ fr tm) {fn : Func} {vs : List Value} (hv : aresults P fr h fn.results.toList = some vs) :
    ∃ v', (results fn tm).run P w = .ok v' w ∧ RelV ρ (single vs) v' := by
  have key : ∀ (l : List ResultVar) (vs : List Value), aresults P fr h l = some vs → ∃ vs' : List Value, (l.mapM (oneResult tm) : Sem (List Value)).run P w = .ok vs' w ∧ Pw (RelV ρ) vs vs' := by
    intro l
    induction l with
    | nil => intro vs e; cases e; exact ⟨[], by simp, Pw.nil⟩
    | cons r l ih =>
      intro vs e
      unfold aresults at e
      split at e
      · rename_i v hr
        simp only [Option.map_eq_some_iff] at e
        obtain ⟨vs₁, h1, rfl⟩ := e
        obtain ⟨vs', h2, h3⟩ := ih _ h1
        cases r with
        | tmp t =>
          cases hr
          exact ⟨_ :: vs', by simp only [List.mapM_cons, Sem.run_bind, oneResult, Sem.run_pure, Result.andThen_ok, h2], Pw.cons (hF.at t) h3⟩
        | cell a t =>
          obtain ⟨a', v', e1, e2, e3⟩ := run_loadVar_rel hs hr (hF.at a)
          have hA : (oneResult tm (.cell a t)).run P w = .ok v' w := by
            simp only [oneResult, e1, asAddr, Sem.run_bind, Sem.run_pure, Result.andThen_ok, e2]
          exact ⟨v' :: vs', by simp only [List.mapM_cons, Sem.run_bind, hA, Sem.run_pure, Result.andThen_ok, h2], Pw.cons e3 h3⟩
      · cases e
  obtain ⟨vs', h1, h2⟩ := key fn.results.toList vs hv
  refine ⟨if h : vs'.toArray.size = 1 then vs'.toArray[0] else .tuple vs'.toArray, ?_, ?_⟩
  · have hres : results fn tm = (fn.results.mapM (oneResult tm) >>= fun vs => pure (if h : vs.size = 1 then vs[0] else .tuple vs)) := rfl
    have : fn.results = fn.results.toList.toArray := by simp
    rw [hres, this, List.mapM_toArray]
    simp only [Sem.run_bind, Sem.run_map, h1, Result.andThen_ok, Sem.run_pure]
  · obtain ⟨hl, hp⟩ := h2
    match vs, vs', hl, hp with
    | [], vs', hl, hp =>
      have : vs' = [] := List.eq_nil_of_length_eq_zero hl.symm
      subst this
      exact relV_data ρ rfl
    | [v], [v'], hl, hp => exact hp 0 v v' rfl rfl
    | v :: u :: l, vs', hl, hp =>
      have hne : ¬ vs'.toArray.size = 1 := by simp at hl ⊢; omega
      rw [dif_neg hne]
      exact .tuple (by simpa using hl) (by simpa using hp)

/-! ### a round's temporaries -/
theorem setParams_rel : ∀ (ps : List Tmp) (args args' : List Value) (fr : Fr) (tm : Array Value), RelF ρ fr tm → Pw (RelV ρ) args args' →
    RelF ρ (setParams fr (ps.zip args)) ((ps.zip args').foldl (fun tmps (t, a) => tmps.setIfInBounds t a) tm)
  | [], _, _, _, _, hF, _ => by simpa [setParams] using hF
  | p :: ps, [], args', fr, tm, hF, h => by
    have := Pw.nil_left h
    subst this
    simpa [setParams] using hF
  | p :: ps, v :: args, args', fr, tm, hF, h => by
    obtain ⟨v', m, rfl, h1, h2⟩ := Pw.cons_left h
    simp only [List.zip_cons_cons, List.foldl_cons, setParams]
    refine setParams_rel ps args m _ _ ?_ h2
    unfold RelF at hF ⊢
    rw [Array.toList_setIfInBounds]
    exact Pw.set hF p h1

theorem foldl_zip_array (ps : Array Tmp) (args : List Value) (tm : Array Value) :
    (ps.zip args.toArray).foldl (fun tmps (t, a) => tmps.setIfInBounds t a) tm = (ps.toList.zip args).foldl (fun tmps (t, a) => tmps.setIfInBounds t a) tm := by
  rw [← Array.foldl_toList, Array.toList_zip]

/-! ### a call goes in -/
theorem callFunc_enter {f : FuncId} {fn : Func} {c : Code} (hf : P.funcs[f]? = some fn) (hb : fn.body = some c) (hn : fn.name ≠ "runtime.NumGoroutine") (args : Array Value) (w : World) : (callFunc f args).run P w = .ok (.enter f args) w := by
  simp [callFunc, Sem.run_bind, hf, hb, hn]

theorem acall_body {cfg : Cfg} {k : Nat} {f : FuncId} {args : List Value} {h : AHeap} {v : Value} {h' : AHeap} (hp : cfg.prim f = none) (e : acall cfg k f args h = some (v, h')) :
    cfg.ok f = true ∧ ∃ fn c, cfg.P.funcs[f]? = some fn ∧ fn.body = some c := by
  cases k with
  | zero => simp [acall] at e
  | succ k =>
    unfold acall at e
    rw [hp] at e
    simp only at e
    split at e
    · cases e
    · rename_i hok
      refine ⟨by simpa using hok, ?_⟩
      split at e
      · rename_i fn hfn
        split at e
        · rename_i c hc
          exact ⟨fn, c, hfn, hc⟩
        · cases e
      · cases e

/-- Taking all marks on the way out. -/
theorem leaves_marks {fn : Func} {tm : Array Value} {R : Ending → World → Prop} : ∀ (ds : List Deferred) (w : World) (base : Nat), Marks base w ds →
    (∀ I : World → Prop, I w → (∀ w r x, base ≤ r → w.heap[r]? = some (.deferred x) → I w → I (w.putObj r (.deferred none))) → ∃ w', I w' ∧ ((∃ v, (results fn tm).run P w' = .ok v w' ∧ R (.returned v) w') → LeavesInM (FW none) 0 P fn tm R ds .returning w)) := by
  intro ds
  induction ds with
  | nil => intro w base _ I hI _; exact ⟨w, hI, fun h => h⟩
  | cons d ds ih =>
    intro w base hm I hI hstep
    obtain ⟨rs, h1, h2, h3⟩ := hm
    cases rs with
    | nil => cases h1
    | cons r rs =>
      simp only [List.map_cons, List.cons.injEq] at h1
      obtain ⟨hb, hr⟩ := h3 r (by simp)
      have hnd := List.nodup_cons.1 h2
      obtain ⟨w', hI', hw'⟩ := ih (w.putObj r (.deferred none)) base ⟨rs, h1.2, hnd.2, fun r' hr' => ⟨(h3 r' (by simp [hr'])).1, by
        have hne : r' ≠ r := fun e => hnd.1 (e ▸ hr')
        rw [World.putObj_heap_other hne]; exact (h3 r' (by simp [hr'])).2⟩⟩ I (hstep w r _ hb hr hI) hstep
      exact ⟨w', hI', fun h => ⟨by simp, .inl ⟨r, _, h1.1, run_takeDeferred hr, hw' h⟩⟩⟩
end Go.Abs
