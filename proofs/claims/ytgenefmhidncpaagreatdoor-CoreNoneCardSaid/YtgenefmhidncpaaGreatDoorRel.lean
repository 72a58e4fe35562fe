/- What ties a plain heap to a world of the model: a renaming of blocks; values, objects, and the whole. -/
import Derived.Test.YtgenefmhidncpaaGreatDoorAbs
import Derived.RangeFuncLeaves
import Derived.Laws.AppendOwn
import Derived.Laws.IdiomCopy
import Derived.Laws.MakeOwn
import Derived.Laws.OwnMore
namespace Go.Abs

/-! ### lists, place by place -/
def Pw {α β : Type} (R : α → β → Prop) (l : List α) (l' : List β) : Prop := l.length = l'.length ∧ ∀ (i : Nat) (a : α) (b : β), l[i]? = some a → l'[i]? = some b → R a b

section
variable {α β : Type} {R S : α → β → Prop}
theorem Pw.nil : Pw R [] [] := ⟨rfl, fun i a b h _ => by simp at h⟩
theorem Pw.cons {a : α} {b : β} {l : List α} {l' : List β} (h : R a b) (t : Pw R l l') : Pw R (a :: l) (b :: l') := by
  refine ⟨by simp [t.1], fun i x y hx hy => ?_⟩
  cases i with
  | zero => simp at hx hy; subst hx; subst hy; exact h
  | succ i => simp at hx hy; exact t.2 i x y hx hy
theorem Pw.head {a : α} {b : β} {l : List α} {l' : List β} (h : Pw R (a :: l) (b :: l')) : R a b := h.2 0 a b rfl rfl
theorem Pw.tail {a : α} {b : β} {l : List α} {l' : List β} (h : Pw R (a :: l) (b :: l')) : Pw R l l' :=
  ⟨by simpa using h.1, fun i x y hx hy => h.2 (i + 1) x y (by simpa using hx) (by simpa using hy)⟩
theorem Pw.nil_left {l' : List β} (h : Pw R [] l') : l' = [] := List.eq_nil_of_length_eq_zero (by have := h.1; simp at this; exact this.symm ▸ rfl)
theorem Pw.cons_left {a : α} {l : List α} {l' : List β} (h : Pw R (a :: l) l') : ∃ b m, l' = b :: m ∧ R a b ∧ Pw R l m := by
  cases l' with
  | nil => have := h.1; simp at this
  | cons b m => exact ⟨b, m, rfl, h.head, h.tail⟩
theorem Pw.mono {l : List α} {l' : List β} (h : Pw R l l') (hs : ∀ a b, R a b → S a b) : Pw S l l' := ⟨h.1, fun i a b ha hb => hs a b (h.2 i a b ha hb)⟩
theorem Pw.append {l m : List α} {l' m' : List β} (h : Pw R l l') (k : Pw R m m') : Pw R (l ++ m) (l' ++ m') := by
  refine ⟨by simp [h.1, k.1], fun i a b ha hb => ?_⟩
  by_cases hi : i < l.length
  · rw [List.getElem?_append_left hi] at ha
    rw [List.getElem?_append_left (h.1 ▸ hi)] at hb
    exact h.2 i a b ha hb
  · rw [List.getElem?_append_right (by omega)] at ha
    rw [List.getElem?_append_right (by have := h.1; omega)] at hb
    rw [← h.1] at hb
    exact k.2 _ a b ha hb
theorem Pw.take {l : List α} {l' : List β} (h : Pw R l l') (n : Nat) : Pw R (l.take n) (l'.take n) := by
  refine ⟨by simp [h.1], fun i a b ha hb => ?_⟩
  rw [List.getElem?_take] at ha hb
  split at ha
  · rename_i hi; rw [if_pos hi] at hb; exact h.2 i a b ha hb
  · cases ha
theorem Pw.drop {l : List α} {l' : List β} (h : Pw R l l') (n : Nat) : Pw R (l.drop n) (l'.drop n) := by
  refine ⟨by simp [h.1], fun i a b ha hb => ?_⟩
  rw [List.getElem?_drop] at ha hb
  exact h.2 _ a b ha hb
theorem Pw.set {l : List α} {l' : List β} (h : Pw R l l') (n : Nat) {a : α} {b : β} (hab : R a b) : Pw R (l.set n a) (l'.set n b) := by
  refine ⟨by simp [h.1], fun i x y hx hy => ?_⟩
  rw [List.getElem?_set] at hx hy
  by_cases hn : n = i
  · subst hn
    simp only [if_true] at hx hy
    split at hx
    · rename_i hl
      rw [if_pos (h.1 ▸ hl)] at hy
      cases hx; cases hy; exact hab
    · cases hx
  · rw [if_neg hn] at hx hy
    exact h.2 i x y hx hy
theorem Pw.map {γ δ : Type} {T : γ → δ → Prop} {l : List α} {l' : List β} (h : Pw R l l') {f : α → γ} {g : β → δ} (hfg : ∀ a b, R a b → T (f a) (g b)) : Pw T (l.map f) (l'.map g) := by
  refine ⟨by simp [h.1], fun i x y hx hy => ?_⟩
  rw [List.getElem?_map] at hx hy
  cases ha : l[i]? with
  | none => rw [ha] at hx; cases hx
  | some a =>
    cases hb : l'[i]? with
    | none => rw [hb] at hy; cases hy
    | some b =>
      rw [ha] at hx; rw [hb] at hy
      simp only [Option.map_some, Option.some.injEq] at hx hy
      subst hx; subst hy
      exact hfg a b (h.2 i a b ha hb)
theorem Pw.replicate (n : Nat) {a : α} {b : β} (h : R a b) : Pw R (List.replicate n a) (List.replicate n b) :=
  ⟨by simp, fun i x y hx hy => by
    rw [List.getElem?_replicate] at hx hy
    split at hx
    · rename_i hi; rw [if_pos hi] at hy; cases hx; cases hy; exact h
    · cases hx⟩
theorem Pw.getD {l : List α} {l' : List β} (h : Pw R l l') (i : Nat) {a : α} {b : β} (hab : R a b) : R (l.getD i a) (l'.getD i b) := by
  rw [List.getD_eq_getElem?_getD, List.getD_eq_getElem?_getD]
  cases hx : l[i]? with
  | none =>
    have : l'[i]? = none := by rw [List.getElem?_eq_none_iff] at hx ⊢; have := h.1; omega
    rw [this]; exact hab
  | some x =>
    have hi : i < l'.length := by have := (List.getElem?_eq_some_iff.1 hx).1; have := h.1; omega
    rw [List.getElem?_eq_getElem hi]
    exact h.2 i x _ hx (List.getElem?_eq_getElem hi)
theorem Pw.get {l : List α} {l' : List β} (h : Pw R l l') {i : Nat} {a : α} (ha : l[i]? = some a) : ∃ b, l'[i]? = some b ∧ R a b := by
  have hi : i < l'.length := by have := (List.getElem?_eq_some_iff.1 ha).1; have := h.1; omega
  exact ⟨_, List.getElem?_eq_getElem hi, h.2 i a _ ha (List.getElem?_eq_getElem hi)⟩
theorem Pw.get_none {l : List α} {l' : List β} (h : Pw R l l') {i : Nat} (ha : l[i]? = none) : l'[i]? = none := by
  rw [List.getElem?_eq_none_iff] at ha ⊢; have := h.1; omega
theorem Pw.of_map {γ : Type} {T : γ → α} {U : γ → β} (l : List γ) (h : ∀ x ∈ l, R (T x) (U x)) : Pw R (l.map T) (l.map U) := by
  refine ⟨by simp, fun i a b ha hb => ?_⟩
  rw [List.getElem?_map] at ha hb
  cases hx : l[i]? with
  | none => rw [hx] at ha; cases ha
  | some x =>
    rw [hx] at ha hb
    simp only [Option.map_some, Option.some.injEq] at ha hb
    subst ha; subst hb
    exact h x (List.mem_of_getElem? hx)
theorem Pw.of_mem {l : List α} {l' : List β} (h : Pw R l l') {a : α} (ha : a ∈ l) : ∃ b, b ∈ l' ∧ R a b := by
  obtain ⟨i, hi⟩ := List.getElem?_of_mem ha
  obtain ⟨b, hb, hR⟩ := h.get hi
  exact ⟨b, List.mem_of_getElem? hb, hR⟩
end

/-! ### values -/
/-- Where a block of the plain heap lies in a world. -/
structure BI where
  blk : Nat
  sh : Nat
  len : Nat
  esz : Nat
  extra : Nat
  opn : Bool

abbrev Ren := Nat → Option BI

inductive RelV (ρ : Ren) : Value → Value → Prop
  | bool (b : Bool) : RelV ρ (.bool b) (.bool b)
  | int (k : IntKind) (n : Int) : RelV ρ (.int k n) (.int k n)
  | float (k : FloatKind) (n : Nat) : RelV ρ (.float k n) (.float k n)
  | complex (k : FloatKind) (n m : Nat) : RelV ρ (.complex k n m) (.complex k n m)
  | string (s : ByteArray) : RelV ρ (.string s) (.string s)
  | nilFunc : RelV ρ .nilFunc .nilFunc
  | nilIface : RelV ρ .nilIface .nilIface
  | ptrNil : RelV ρ (.pointer none) (.pointer none)
  | ptr {b o : Nat} {i : BI} (h : ρ b = some i) : RelV ρ (.pointer (some ⟨b, o, none⟩)) (.pointer (some ⟨i.blk, i.sh + o, none⟩))
  | sliceNil (n c : Nat) : RelV ρ (.slice none n c) (.slice none n c)
  | slice {b o n cap cap' : Nat} {i : BI} (h : ρ b = some i) (hc : cap' = cap ∨ (i.opn = true ∧ 0 < cap ∧ cap' = cap + i.extra)) : RelV ρ (.slice (some ⟨b, o, none⟩) n cap) (.slice (some ⟨i.blk, i.sh + o, none⟩) n cap')
  | tail {b cap' : Nat} {i : BI} {a' : Addr} (h : ρ b = some i) (ho : i.opn = true) : RelV ρ (.slice (some ⟨b, i.len, none⟩) 0 0) (.slice (some a') 0 cap')
  | mapNil : RelV ρ (.map none) (.map none)
  | map {r : Nat} {i : BI} (h : ρ r = some i) : RelV ρ (.map (some r)) (.map (some i.blk))
  | chanNil : RelV ρ (.chan none) (.chan none)
  | func (f : FuncId) {a a' c c' : List Value} (ha : a.length = a'.length) (hA : ∀ (i : Nat) v v', a[i]? = some v → a'[i]? = some v' → RelV ρ v v')
      (hc : c.length = c'.length) (hC : ∀ (i : Nat) v v', c[i]? = some v → c'[i]? = some v' → RelV ρ v v') : RelV ρ (.func (.func f) ⟨a⟩ ⟨c⟩) (.func (.func f) ⟨a'⟩ ⟨c'⟩)
  | yield {l : Nat} {i : BI} (h : ρ l = some i) : RelV ρ (.func (.yield l) #[] #[]) (.func (.yield i.blk) #[] #[])
  | iface (t : TypeId) {v v' : Value} (h : RelV ρ v v') : RelV ρ (.iface t v) (.iface t v')
  | agg {a a' : List Value} (ha : a.length = a'.length) (hA : ∀ (i : Nat) v v', a[i]? = some v → a'[i]? = some v' → RelV ρ v v') : RelV ρ (.agg ⟨a⟩) (.agg ⟨a'⟩)
  | tuple {a a' : List Value} (ha : a.length = a'.length) (hA : ∀ (i : Nat) v v', a[i]? = some v → a'[i]? = some v' → RelV ρ v v') : RelV ρ (.tuple ⟨a⟩) (.tuple ⟨a'⟩)

def Ren.le (ρ ρ' : Ren) : Prop := ∀ b i, ρ b = some i → ρ' b = some i
theorem Ren.le_refl (ρ : Ren) : Ren.le ρ ρ := fun _ _ h => h
theorem Ren.le_trans {a b c : Ren} (h : Ren.le a b) (k : Ren.le b c) : Ren.le a c := fun x i hx => k x i (h x i hx)

theorem RelV.mono {ρ ρ' : Ren} (hl : Ren.le ρ ρ') {v v' : Value} (h : RelV ρ v v') : RelV ρ' v v' := by
  induction h with
  | bool b => exact .bool b
  | int k n => exact .int k n
  | float k n => exact .float k n
  | complex k n m => exact .complex k n m
  | string s => exact .string s
  | nilFunc => exact .nilFunc
  | nilIface => exact .nilIface
  | ptrNil => exact .ptrNil
  | ptr h => exact .ptr (hl _ _ h)
  | sliceNil n c => exact .sliceNil n c
  | slice h hc => exact .slice (hl _ _ h) hc
  | tail h ho => exact .tail (hl _ _ h) ho
  | mapNil => exact .mapNil
  | map h => exact .map (hl _ _ h)
  | chanNil => exact .chanNil
  | func f ha _ hc _ ihA ihC => exact .func f ha ihA hc ihC
  | yield h => exact .yield (hl _ _ h)
  | iface t _ ih => exact .iface t ih
  | agg ha _ ih => exact .agg ha ih
  | tuple ha _ ih => exact .tuple ha ih

theorem relV_undef (ρ : Ren) : RelV ρ undef undef := .tuple rfl fun i v v' h _ => by simp at h

theorem relV_agg {ρ : Ren} {a a' : Array Value} (h : Pw (RelV ρ) a.toList a'.toList) : RelV ρ (.agg a) (.agg a') := by
  obtain ⟨a⟩ := a; obtain ⟨a'⟩ := a'
  exact .agg h.1 h.2
theorem relV_tuple {ρ : Ren} {a a' : Array Value} (h : Pw (RelV ρ) a.toList a'.toList) : RelV ρ (.tuple a) (.tuple a') := by
  obtain ⟨a⟩ := a; obtain ⟨a'⟩ := a'
  exact .tuple h.1 h.2
theorem RelV.agg_inv {ρ : Ren} {a : Array Value} {v : Value} (h : RelV ρ (.agg a) v) : ∃ a' : Array Value, v = .agg a' ∧ Pw (RelV ρ) a.toList a'.toList := by
  cases h with
  | agg ha hA => exact ⟨_, rfl, ha, hA⟩
theorem RelV.tuple_inv {ρ : Ren} {a : Array Value} {v : Value} (h : RelV ρ (.tuple a) v) : ∃ a' : Array Value, v = .tuple a' ∧ Pw (RelV ρ) a.toList a'.toList := by
  cases h with
  | tuple ha hA => exact ⟨_, rfl, ha, hA⟩

mutual
theorem relV_data (ρ : Ren) : ∀ {v : Value}, vdata v = true → RelV ρ v v
  | .bool b, _ => .bool b
  | .int k n, _ => .int k n
  | .float k n, _ => .float k n
  | .complex k n m, _ => .complex k n m
  | .string s, _ => .string s
  | .nilFunc, _ => .nilFunc
  | .nilIface, _ => .nilIface
  | .pointer none, _ => .ptrNil
  | .slice none n c, _ => .sliceNil n c
  | .map none, _ => .mapNil
  | .chan none, _ => .chanNil
  | .iface t v, h => .iface t (relV_data ρ (by simpa [vdata] using h))
  | .agg ⟨cs⟩, h => .agg rfl fun i v v' hv hv' => by
      have := ldata_rel ρ (cs := cs) (by simpa [vdata] using h)
      exact this.2 i v v' hv hv'
  | .tuple ⟨cs⟩, h => .tuple rfl fun i v v' hv hv' => by
      have := ldata_rel ρ (cs := cs) (by simpa [vdata] using h)
      exact this.2 i v v' hv hv'
  | .func (.func f) ⟨a⟩ ⟨b⟩, h => .func f rfl (fun i v v' hv hv' => by
      have := ldata_rel ρ (cs := a) (by simp [vdata] at h; exact h.1)
      exact this.2 i v v' hv hv') rfl (fun i v v' hv hv' => by
      have := ldata_rel ρ (cs := b) (by simp [vdata] at h; exact h.2)
      exact this.2 i v v' hv hv')
theorem ldata_rel (ρ : Ren) : ∀ {cs : List Value}, ldata cs = true → Pw (RelV ρ) cs cs
  | [], _ => Pw.nil
  | v :: vs, h => by
    simp only [ldata, Bool.and_eq_true] at h
    exact Pw.cons (relV_data ρ h.1) (ldata_rel ρ h.2)
end

theorem ldata_get {cs : List Value} (h : ldata cs = true) {i : Nat} {v : Value} (hv : cs[i]? = some v) : vdata v = true := by
  induction cs generalizing i with
  | nil => simp at hv
  | cons c cs ih =>
    simp only [ldata, Bool.and_eq_true] at h
    cases i with
    | zero => simp at hv; subst hv; exact h.1
    | succ i => simp at hv; exact ih h.2 hv

theorem list_eq_of_get {l l' : List Value} (hl : l.length = l'.length) (h : ∀ (i : Nat) v v', l[i]? = some v → l'[i]? = some v' → v' = v) : l' = l := by
  apply List.ext_getElem?
  intro i
  cases hx : l[i]? with
  | none => rw [List.getElem?_eq_none_iff] at hx ⊢; omega
  | some v =>
    have hi : i < l'.length := by have := (List.getElem?_eq_some_iff.1 hx).1; omega
    rw [List.getElem?_eq_getElem hi, h i v _ hx (List.getElem?_eq_getElem hi)]

theorem RelV.data {ρ : Ren} {v v' : Value} (h : RelV ρ v v') : vdata v = true → v' = v := by
  induction h with
  | ptr _ => intro h; simp [vdata] at h
  | slice _ _ => intro h; simp [vdata] at h
  | tail _ _ => intro h; simp [vdata] at h
  | map _ => intro h; simp [vdata] at h
  | yield _ => intro h; simp [vdata] at h
  | iface t _ ih => intro h; rw [ih (by simpa [vdata] using h)]
  | agg ha _ ih =>
    intro h
    simp only [vdata] at h
    rw [list_eq_of_get ha fun i v v' hv hv' => ih i v v' hv hv' (ldata_get h hv)]
  | tuple ha _ ih =>
    intro h
    simp only [vdata] at h
    rw [list_eq_of_get ha fun i v v' hv hv' => ih i v v' hv hv' (ldata_get h hv)]
  | func f ha _ hc _ ihA ihC =>
    intro h
    simp only [vdata, Bool.and_eq_true] at h
    rw [list_eq_of_get ha fun i v v' hv hv' => ihA i v v' hv hv' (ldata_get h.1.2 hv), list_eq_of_get hc fun i v v' hv hv' => ihC i v v' hv hv' (ldata_get h.2 hv)]
  | _ => intro _; rfl

theorem RelV.one {ρ : Ren} {v v' : Value} (h : RelV ρ v v') : vone v = v'.oneCell' := by cases h <;> rfl
theorem RelV.cells {ρ : Ren} {v v' : Value} (h : RelV ρ v v') : Pw (RelV ρ) v.cells.toList v'.cells.toList := by
  by_cases hv : ∃ a, v = .agg a
  · obtain ⟨a, rfl⟩ := hv
    obtain ⟨a', rfl, hp⟩ := h.agg_inv
    exact hp
  · have h1 : v.cells = #[v] := by cases v <;> first | rfl | exact absurd ⟨_, rfl⟩ hv
    have h2 : v'.cells = #[v'] := by cases h <;> first | rfl | exact absurd ⟨_, rfl⟩ hv
    rw [h1, h2]
    exact Pw.cons h Pw.nil

/-! ### objects -/
def okFrozen (fz : Nat × Nat) (lo hi : Nat) : Prop := ∀ j, lo ≤ j → j < hi → ¬ (fz.1 ≤ j ∧ j < fz.2)

/-- A piece of a function's code. -/
inductive Inside (P : Program) (fn : FuncId) : Code → Prop
  | all {f : Func} {c : Code} (hf : P.funcs[fn]? = some f) (hb : f.body = some c) : Inside P fn c
  | seqL {a b : Code} (h : Inside P fn (.seq a b)) : Inside P fn a
  | seqR {a b : Code} (h : Inside P fn (.seq a b)) : Inside P fn b
  | condL {c : Operand} {a b : Code} (h : Inside P fn (.cond c a b)) : Inside P fn a
  | condR {c : Operand} {a b : Code} (h : Inside P fn (.cond c a b)) : Inside P fn b
  | block {id : Nat} {b : Code} (h : Inside P fn (.block id b)) : Inside P fn b
  | loop {b : Code} (h : Inside P fn (.loop b)) : Inside P fn b
  | assign {g : Operand} {ps : Array Tmp} {a b : Code} (h : Inside P fn (.rangeFunc g ps a b)) : Inside P fn a
  | body {g : Operand} {ps : Array Tmp} {a b : Code} (h : Inside P fn (.rangeFunc g ps a b)) : Inside P fn b

def RelObj (P : Program) (ρ : Ren) (i : BI) (w : World) : AObj → Prop
  | .dead => True
  | .cells c e opn ro => ∃ (cs : Array Value) (e' : TypeId) (fz : Nat × Nat), w.heap[i.blk]? = some (.cells cs e' fz) ∧ i.len = c.length ∧ i.opn = opn ∧
      (∀ (j : Nat) v, c[j]? = some v → ∃ v', cs[i.sh + j]? = some v' ∧ RelV ρ v v') ∧
      (ro = false → okFrozen fz i.sh (i.sh + i.len + i.extra * i.esz)) ∧ (opn = true → i.esz = P.cellsOf e ∧ i.sh + i.len + i.extra * i.esz ≤ cs.size) ∧ i.sh + c.length ≤ cs.size
  | .map es => ∃ (es' : Array MapEntry) (clk : Nat), w.heap[i.blk]? = some (.map es' clk) ∧ Pw (fun (x : Value × Value) (y : MapEntry) => y.key = x.1 ∧ vdata x.1 = true ∧ RelV ρ x.2 y.val) es es'.toList
  | .loop st pend fn tmps ps as bd => ∃ (tm : Array Value) (df : Nat) (fn' : FuncId), w.heap[i.blk]? = some (.loop { state := st, pending := pend, fn := fn', tmps := tm, params := ps, assign := as, body := bd, defers := df }) ∧ Pw (RelV ρ) tmps tm.toList ∧ Inside P fn as ∧ Inside P fn bd

/-- What may be changed. -/
def AObj.wr : AObj → Bool
  | .dead => false
  | .cells _ _ _ ro => !ro
  | _ => true

theorem AObj.alive_of_mut {o : AObj} (h : o.wr = true) : o.alive = true := by cases o <;> simp_all [AObj.wr, AObj.alive]

structure RelS (P : Program) (ρ : Ren) (g : Nat → AObj) (w : World) : Prop where
  obj : ∀ b, (g b).alive = true → ∃ i, ρ b = some i ∧ RelObj P ρ i w (g b)
  lt : ∀ b i, ρ b = some i → i.blk < w.heap.size
  inj : ∀ b c i j, b ≠ c → (g b).wr = true → (g c).alive = true → ρ b = some i → ρ c = some j → i.blk ≠ j.blk

theorem RelObj.mono {P : Program} {ρ ρ' : Ren} (hl : Ren.le ρ ρ') {i : BI} {w w' : World} {o : AObj} (hw : w'.heap[i.blk]? = w.heap[i.blk]?) (h : RelObj P ρ i w o) : RelObj P ρ' i w' o := by
  cases o with
  | dead => trivial
  | cells c e opn ro =>
    obtain ⟨cs, e', fz, h1, h2, h3, h4, h5, h6⟩ := h
    exact ⟨cs, e', fz, hw.trans h1, h2, h3, fun j v hv => let ⟨v', a, b⟩ := h4 j v hv; ⟨v', a, b.mono hl⟩, h5, h6⟩
  | map es =>
    obtain ⟨es', clk, h1, h2⟩ := h
    exact ⟨es', clk, hw.trans h1, h2.mono fun a b ⟨x, y, z⟩ => ⟨x, y, z.mono hl⟩⟩
  | loop st pend fn tmps ps as bd =>
    obtain ⟨tm, df, fn', h1, h2, h3⟩ := h
    exact ⟨tm, df, fn', hw.trans h1, h2.mono (fun a b x => x.mono hl), h3⟩

/-! ### steps -/
/-- From one state to another: the names n0 to below n1 are new; what was not to be changed lies as it lay. -/
structure Step (ρ : Ren) (g : Nat → AObj) (n0 : Nat) (w : World) (ρ' : Ren) (g' : Nat → AObj) (n1 : Nat) (w' : World) : Prop where
  os : w'.os = w.os
  tape : w'.tape = w.tape
  output : w'.output = w.output
  size : w.heap.size ≤ w'.heap.size
  kept : ∀ c, c < w.heap.size → (∀ b i, ρ b = some i → (g b).wr = true → i.blk ≠ c) → w'.heap[c]? = w.heap[c]?
  le : n0 ≤ n1
  out : ∀ b, (b < n0 ∨ n1 ≤ b) → ρ' b = ρ b
  new : ∀ b i, n0 ≤ b → b < n1 → ρ' b = some i → w.heap.size ≤ i.blk ∨ ∃ b₀ i₀, ρ b₀ = some i₀ ∧ (g b₀).wr = true ∧ i₀.blk = i.blk
  alive : ∀ b, (b < n0 ∨ n1 ≤ b) → (g' b).alive = true → (g b).alive = true
  wr : ∀ b, (b < n0 ∨ n1 ≤ b) → (g' b).wr = true → (g b).wr = true

def Fresh (ρ : Ren) (n0 n1 : Nat) : Prop := ∀ b, n0 ≤ b → b < n1 → ρ b = none
theorem Fresh.sub {ρ : Ren} {a b c d : Nat} (h : Fresh ρ a d) (h1 : a ≤ b) (h2 : c ≤ d) : Fresh ρ b c := fun x hx hy => h x (by omega) (by omega)

theorem Step.le_ren {ρ ρ' : Ren} {g g' : Nat → AObj} {n0 n1 : Nat} {w w' : World} (h : Step ρ g n0 w ρ' g' n1 w') (hf : Fresh ρ n0 n1) : Ren.le ρ ρ' := by
  intro b i hb
  by_cases hi : n0 ≤ b ∧ b < n1
  · rw [hf b hi.1 hi.2] at hb; cases hb
  · rw [h.out b (by omega)]; exact hb

theorem Step.refl (ρ : Ren) (g : Nat → AObj) (n : Nat) (w : World) : Step ρ g n w ρ g n w :=
  ⟨rfl, rfl, rfl, Nat.le_refl _, fun _ _ _ => rfl, Nat.le_refl _, fun _ _ => rfl, fun b i h1 h2 => by omega, fun _ _ h => h, fun _ _ h => h⟩

theorem Step.fresh {ρ ρ' : Ren} {g g' : Nat → AObj} {n0 n1 n2 : Nat} {w w' : World} (h : Step ρ g n0 w ρ' g' n1 w') (hf : Fresh ρ n0 n2) : Fresh ρ' n1 n2 := by
  intro b h1 h2
  rw [h.out b (.inr h1)]
  exact hf b (by have := h.le; omega) h2

theorem Step.trans {ρ ρ₁ ρ₂ : Ren} {g g₁ g₂ : Nat → AObj} {n0 n1 n2 : Nat} {w w₁ w₂ : World} (h : Step ρ g n0 w ρ₁ g₁ n1 w₁) (k : Step ρ₁ g₁ n1 w₁ ρ₂ g₂ n2 w₂) : Step ρ g n0 w ρ₂ g₂ n2 w₂ where
  os := k.os.trans h.os
  tape := k.tape.trans h.tape
  output := k.output.trans h.output
  size := Nat.le_trans h.size k.size
  kept := fun c hc hn => by
    rw [k.kept c (Nat.lt_of_lt_of_le hc h.size) fun b i hb hm => ?_, h.kept c hc hn]
    by_cases hi : n0 ≤ b ∧ b < n1
    · rcases h.new b i hi.1 hi.2 hb with h1 | ⟨b₀, i₀, h1, h2, h3⟩
      · omega
      · rw [← h3]; exact hn b₀ i₀ h1 h2
    · exact hn b i (by rw [← h.out b (by omega)]; exact hb) (h.wr b (by omega) hm)
  le := Nat.le_trans h.le k.le
  out := fun b hb => by rw [k.out b (by have := h.le; have := k.le; omega), h.out b (by have := h.le; have := k.le; omega)]
  new := fun b i h1 h2 hb => by
    by_cases hi : b < n1
    · rw [k.out b (.inl hi)] at hb
      exact h.new b i h1 hi hb
    · rcases k.new b i (by omega) h2 hb with h3 | ⟨b₀, i₀, h3, h4, h5⟩
      · exact .inl (Nat.le_trans h.size h3)
      · by_cases hj : n0 ≤ b₀ ∧ b₀ < n1
        · rcases h.new b₀ i₀ hj.1 hj.2 h3 with h6 | ⟨b₁, i₁, h6, h7, h8⟩
          · exact .inl (h5 ▸ h6)
          · exact .inr ⟨b₁, i₁, h6, h7, h8.trans h5⟩
        · exact .inr ⟨b₀, i₀, by rw [← h.out b₀ (by omega)]; exact h3, h.wr b₀ (by omega) h4, h5⟩
  alive := fun b hb ha => h.alive b (by have := h.le; have := k.le; omega) (k.alive b (by have := h.le; have := k.le; omega) ha)
  wr := fun b hb ha => h.wr b (by have := h.le; have := k.le; omega) (k.wr b (by have := h.le; have := k.le; omega) ha)

/-- Nothing but the count of draws has turned. -/
theorem Step.drawn (ρ : Ren) (g : Nat → AObj) (n : Nat) (w : World) (d : Nat) : Step ρ g n w ρ g n { w with drawn := d } :=
  ⟨rfl, rfl, rfl, Nat.le_refl _, fun _ _ _ => rfl, Nat.le_refl _, fun _ _ => rfl, fun b i h1 h2 => by omega, fun _ _ h => h, fun _ _ h => h⟩
theorem RelS.drawn {P : Program} {ρ : Ren} {g : Nat → AObj} {w : World} (h : RelS P ρ g w) (d : Nat) : RelS P ρ g { w with drawn := d } :=
  ⟨fun b hb => let ⟨i, a, x⟩ := h.obj b hb; ⟨i, a, x.mono (Ren.le_refl _) rfl⟩, h.lt, h.inj⟩

def Ren.put (ρ : Ren) (b : Nat) (i : BI) : Ren := fun x => if x = b then some i else ρ x
@[simp] theorem Ren.put_same (ρ : Ren) (b : Nat) (i : BI) : ρ.put b i b = some i := by simp [Ren.put]
theorem Ren.put_ne (ρ : Ren) {b c : Nat} (i : BI) (h : c ≠ b) : ρ.put b i c = ρ c := by simp [Ren.put, h]
theorem Ren.le_put {ρ : Ren} {b : Nat} (h : ρ b = none) (i : BI) : Ren.le ρ (ρ.put b i) := fun c j hc => by
  rw [Ren.put_ne ρ i (fun e => by subst e; rw [h] at hc; cases hc)]; exact hc

/-- A new object. -/
theorem RelS.push {P : Program} {ρ : Ren} {h : AHeap} {w : World} (hs : RelS P ρ h.get w) (hf : ρ h.next = none) (o : AObj) (ob : Obj) (i : BI) (hi : i.blk = w.heap.size)
    (ho : RelObj P (ρ.put h.next i) i { w with heap := w.heap.push ob } o) :
    RelS P (ρ.put h.next i) (h.push o).get { w with heap := w.heap.push ob } ∧ Step ρ h.get h.next w (ρ.put h.next i) (h.push o).get (h.next + 1) { w with heap := w.heap.push ob } := by
  have hle := Ren.le_put hf i
  have hold : ∀ c, c < w.heap.size → (w.heap.push ob)[c]? = w.heap[c]? := fun c hc => by rw [Array.getElem?_push, if_neg (by omega)]
  refine ⟨⟨fun b hb => ?_, fun b j hb => ?_, fun b c j k hbc hb hc hj hk => ?_⟩, ⟨rfl, rfl, rfl, by simp, fun c hc _ => hold c hc, by omega, fun b hb => Ren.put_ne ρ i (by omega), fun b j h1 h2 hj => ?_, fun b hb ha => ?_, fun b hb ha => ?_⟩⟩
  · by_cases e : b = h.next
    · subst e
      exact ⟨i, by simp, by simpa using ho⟩
    · rw [AHeap.get_push_ne h o (Ne.symm e)] at hb ⊢
      obtain ⟨j, hj, hR⟩ := hs.obj b hb
      exact ⟨j, hle _ _ hj, hR.mono hle (hold _ (hs.lt b j hj))⟩
  · by_cases e : b = h.next
    · subst e
      simp at hb; subst hb
      simp [hi]
    · rw [Ren.put_ne ρ i e] at hb
      have := hs.lt b j hb
      simp; omega
  · by_cases e : b = h.next
    · subst e
      rw [Ren.put_ne ρ i (Ne.symm hbc)] at hk
      simp at hj; subst hj
      have := hs.lt c k hk
      omega
    · rw [Ren.put_ne ρ i e] at hj
      rw [AHeap.get_push_ne h o (Ne.symm e)] at hb
      by_cases e2 : c = h.next
      · subst e2
        simp at hk; subst hk
        have := hs.lt b j hj
        omega
      · rw [Ren.put_ne ρ i e2] at hk
        rw [AHeap.get_push_ne h o (Ne.symm e2)] at hc
        exact hs.inj b c j k hbc hb hc hj hk
  · have : b = h.next := by omega
    subst this
    simp at hj; subst hj
    exact .inl (by omega)
  · rwa [AHeap.get_push_ne h o (by omega)] at ha
  · rwa [AHeap.get_push_ne h o (by omega)] at ha

/-- An object is another one, where it lay. -/
theorem RelS.set {P : Program} {ρ : Ren} {h : AHeap} {w : World} (hs : RelS P ρ h.get w) {b : Nat} (hm : (h.get b).wr = true) {i : BI} (hi : ρ b = some i) (o : AObj) (ob : Obj)
    (ho : RelObj P ρ i { w with heap := w.heap.setIfInBounds i.blk ob } o) :
    RelS P ρ (h.set b o).get { w with heap := w.heap.setIfInBounds i.blk ob } ∧ Step ρ h.get h.next w ρ (h.set b o).get h.next { w with heap := w.heap.setIfInBounds i.blk ob } := by
  have hold : ∀ c, c ≠ i.blk → (w.heap.setIfInBounds i.blk ob)[c]? = w.heap[c]? := fun c hc => by rw [Array.getElem?_setIfInBounds, if_neg (Ne.symm hc)]
  have hal : ∀ c, ((h.set b o).get c).alive = true → (h.get c).alive = true := fun c hc => by
    by_cases e : c = b
    · subst e; exact AObj.alive_of_mut hm
    · rwa [AHeap.get_set_ne h o (Ne.symm e)] at hc
  have hmu : ∀ c, ((h.set b o).get c).wr = true → (h.get c).wr = true := fun c hc => by
    by_cases e : c = b
    · subst e; exact hm
    · rwa [AHeap.get_set_ne h o (Ne.symm e)] at hc
  refine ⟨⟨fun c hc => ?_, fun c j hj => by simpa using hs.lt c j hj, fun c d j k hcd hc hd hj hk => hs.inj c d j k hcd (hmu c hc) (hal d hd) hj hk⟩,
    ⟨rfl, rfl, rfl, by simp, fun c _ hn => hold c (Ne.symm (hn b i hi hm)), Nat.le_refl _, fun _ _ => rfl, fun _ _ h1 h2 => by omega, fun c _ hc => hal c hc, fun c _ hc => hmu c hc⟩⟩
  by_cases e : c = b
  · subst e
    exact ⟨i, hi, by rw [AHeap.get_set_lt h c o (AHeap.lt_of_alive (AObj.alive_of_mut hm))]; exact ho⟩
  · rw [AHeap.get_set_ne h o (Ne.symm e)] at hc ⊢
    obtain ⟨j, hj, hR⟩ := hs.obj c hc
    exact ⟨j, hj, hR.mono (Ren.le_refl _) (hold _ (Ne.symm (hs.inj b c i j (Ne.symm e) hm hc hi hj)))⟩

/-! ### frames -/
def RelF (ρ : Ren) (fr : Fr) (tm : Array Value) : Prop := Pw (RelV ρ) fr tm.toList
theorem RelF.mono {ρ ρ' : Ren} (hl : Ren.le ρ ρ') {fr : Fr} {tm : Array Value} (h : RelF ρ fr tm) : RelF ρ' fr tm := Pw.mono h fun _ _ x => x.mono hl
theorem RelF.at {ρ : Ren} {fr : Fr} {tm : Array Value} (h : RelF ρ fr tm) (t : Nat) : RelV ρ (fr.getD t undef) (tm.getD t undef) := by
  have := Pw.getD h t (relV_undef ρ)
  rwa [Array.getD_eq_getD_getElem?, ← Array.getElem?_toList, ← List.getD_eq_getElem?_getD]
theorem RelF.ev {ρ : Ren} {fr : Fr} {a : Act} (h : RelF ρ fr a.tmps) {x : Operand} (hx : okOperand x = true) : RelV ρ (ev fr x) (a.eval x) := by
  cases x with
  | tmp t => exact h.at t
  | const v => exact relV_data ρ hx
  | global g => simp [okOperand] at hx
  | func f => exact .func f rfl (fun i v v' h _ => by simp at h) rfl (fun i v v' h _ => by simp at h)
theorem RelF.put {ρ : Ren} {fr : Fr} {a : Act} (h : RelF ρ fr a.tmps) (d : Option Tmp) {v v' : Value} (hv : RelV ρ v v') : RelF ρ (fput fr d v) (a.put d v').tmps := by
  cases d with
  | none => exact h
  | some d =>
    simp only [fput, Act.put, RelF, Array.toList_setIfInBounds]
    exact Pw.set h d hv

theorem RelV.bool_iff {ρ : Ren} {v v' : Value} (h : RelV ρ v v') (b : Bool) : v = .bool b ↔ v' = .bool b := by
  cases h <;> simp

theorem ayielded_eq {ρ : Ren} {fr : Fr} {tm : Array Value} (h : RelF ρ fr tm) (ops : Array Oper) (j : Nat) : yielded ops tm j = ayielded ops fr j := by
  unfold yielded ayielded
  cases hd : (ops[j]?).bind (·.dst) with
  | none => rfl
  | some t =>
    simp only [Option.bind_some]
    cases hx : fr[t]? with
    | none =>
      have : tm[t]? = none := by rw [← Array.getElem?_toList]; exact Pw.get_none h hx
      rw [this]
    | some v =>
      obtain ⟨v', hv', hR⟩ := Pw.get h hx
      rw [Array.getElem?_toList] at hv'
      rw [hv']
      cases hR <;> rfl

theorem awanted_eq {ρ : Ren} {fr : Fr} {tm : Array Value} (h : RelF ρ fr tm) (ops : Array Oper) (o : Oper) : Region.wanted o (yielded ops tm) = awanted ops fr o := by
  unfold Region.wanted awanted
  cases o.guard with
  | none => rfl
  | some g => obtain ⟨j, want⟩ := g; simp only []; rw [ayielded_eq h]
end Go.Abs
