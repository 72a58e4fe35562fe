/- The machine without a tape: values, a heap of plain objects, and a run of the program's code over it. What is proved of it: nothing here; ZzRel and the texts behind it tie it to the model. -/
import GoSem.Step
import Derived.Laws.Append
namespace Go.Abs

/-! ### values -/
mutual
def vdata : Value → Bool
  | .bool _ | .int .. | .float .. | .complex .. | .string _ | .nilFunc | .nilIface => true
  | .pointer a => a.isNone
  | .slice a _ _ => a.isNone
  | .map r | .chan r => r.isNone
  | .iface _ v => vdata v
  | .agg ⟨cs⟩ => ldata cs
  | .tuple ⟨cs⟩ => ldata cs
  | .func fn ⟨a⟩ ⟨b⟩ => (match fn with | .func _ => true | _ => false) && ldata a && ldata b
def ldata : List Value → Bool
  | [] => true
  | v :: vs => vdata v && ldata vs
end

mutual
def veq : Value → Value → Bool
  | .bool a, .bool b => a == b
  | .int k a, .int l b => decide (k = l) && decide (a = b)
  | .float k a, .float l b => decide (k = l) && decide (a = b)
  | .complex k a b, .complex l c d => decide (k = l) && decide (a = c) && decide (b = d)
  | .string a, .string b => decide (a = b)
  | .nilFunc, .nilFunc => true
  | .nilIface, .nilIface => true
  | .pointer a, .pointer b => decide (a = b)
  | .slice a n c, .slice a' n' c' => decide (a = a') && decide (n = n') && decide (c = c')
  | .map a, .map b => decide (a = b)
  | .chan a, .chan b => decide (a = b)
  | .iface t v, .iface u w => decide (t = u) && veq v w
  | .agg ⟨cs⟩, .agg ⟨ds⟩ => leq cs ds
  | .tuple ⟨cs⟩, .tuple ⟨ds⟩ => leq cs ds
  | .func fn ⟨a⟩ ⟨b⟩, .func fn' ⟨a'⟩ ⟨b'⟩ => decide (fn = fn') && leq a a' && leq b b'
  | _, _ => false
def leq : List Value → List Value → Bool
  | [], [] => true
  | v :: vs, w :: ws => veq v w && leq vs ws
  | _, _ => false
end

mutual
theorem veq_eq : ∀ {a b : Value}, veq a b = true → a = b
  | .bool a, .bool b, h => by simp [veq] at h; rw [h]
  | .int k a, .int l b, h => by simp [veq] at h; rw [h.1, h.2]
  | .float k a, .float l b, h => by simp [veq] at h; rw [h.1, h.2]
  | .complex k a b, .complex l c d, h => by simp [veq] at h; rw [h.1.1, h.1.2, h.2]
  | .string a, .string b, h => by simp [veq] at h; rw [h]
  | .nilFunc, .nilFunc, _ => rfl
  | .nilIface, .nilIface, _ => rfl
  | .pointer a, .pointer b, h => by simp [veq] at h; rw [h]
  | .slice a n c, .slice a' n' c', h => by simp [veq] at h; rw [h.1.1, h.1.2, h.2]
  | .map a, .map b, h => by simp [veq] at h; rw [h]
  | .chan a, .chan b, h => by simp [veq] at h; rw [h]
  | .iface t v, .iface u w, h => by simp only [veq, Bool.and_eq_true, decide_eq_true_eq] at h; rw [h.1, veq_eq h.2]
  | .agg ⟨cs⟩, .agg ⟨ds⟩, h => by simp only [veq] at h; rw [leq_eq h]
  | .tuple ⟨cs⟩, .tuple ⟨ds⟩, h => by simp only [veq] at h; rw [leq_eq h]
  | .func fn ⟨a⟩ ⟨b⟩, .func fn' ⟨a'⟩ ⟨b'⟩, h => by simp only [veq, Bool.and_eq_true, decide_eq_true_eq] at h; rw [h.1.1, leq_eq h.1.2, leq_eq h.2]
theorem leq_eq : ∀ {a b : List Value}, leq a b = true → a = b
  | [], [], _ => rfl
  | v :: vs, w :: ws, h => by simp only [leq, Bool.and_eq_true] at h; rw [veq_eq h.1, leq_eq h.2]
end
mutual
theorem veq_refl : ∀ (a : Value), veq a a = true
  | .bool a => by simp [veq]
  | .int k a => by simp [veq]
  | .float k a => by simp [veq]
  | .complex k a b => by simp [veq]
  | .string a => by simp [veq]
  | .nilFunc => rfl
  | .nilIface => rfl
  | .pointer a => by simp [veq]
  | .slice a n c => by simp [veq]
  | .map a => by simp [veq]
  | .chan a => by simp [veq]
  | .iface t v => by simp [veq, veq_refl v]
  | .agg ⟨cs⟩ => by simp [veq, leq_refl cs]
  | .tuple ⟨cs⟩ => by simp [veq, leq_refl cs]
  | .func fn ⟨a⟩ ⟨b⟩ => by simp [veq, leq_refl a, leq_refl b]
theorem leq_refl : ∀ (a : List Value), leq a a = true
  | [] => rfl
  | v :: vs => by simp [leq, veq_refl v, leq_refl vs]
end

/-- A value that may lie in one cell. -/
def vone : Value → Bool
  | .agg _ | .tuple _ => false
  | _ => true

/-! ### the heap -/
inductive AObj where
  | dead
  | cells (c : List Value) (elem : TypeId) (opn ro : Bool)
  | map (es : List (Value × Value))
  | loop (state : LoopState) (pending : Option Code) (fn : FuncId) (tmps : List Value) (params : Array Tmp) (assign body : Code)

inductive Tr where
  | leaf
  | node (v : AObj) (l r : Tr)

def Tr.get : Tr → Nat → AObj
  | .leaf, _ => .dead
  | .node v l r, n => if n = 0 then v else if n % 2 = 1 then l.get (n / 2) else r.get (n / 2 - 1)

def Tr.set : Nat → Tr → Nat → AObj → Tr
  | 0, t, _, _ => t
  | f + 1, .leaf, n, o => if n = 0 then .node o .leaf .leaf else if n % 2 = 1 then .node .dead (Tr.set f .leaf (n / 2) o) .leaf else .node .dead .leaf (Tr.set f .leaf (n / 2 - 1) o)
  | f + 1, .node v l r, n, o => if n = 0 then .node o l r else if n % 2 = 1 then .node v (Tr.set f l (n / 2) o) r else .node v l (Tr.set f r (n / 2 - 1) o)

theorem Tr.get_set_same : ∀ (f : Nat) (t : Tr) (n : Nat) (o : AObj), n < f → (Tr.set f t n o).get n = o
  | 0, _, _, _, h => absurd h (Nat.not_lt_zero _)
  | f + 1, .leaf, n, o, h => by
    unfold Tr.set
    split
    · subst n; simp [Tr.get]
    · split
      · simp [Tr.get, *]; exact get_set_same f _ _ _ (by omega)
      · simp [Tr.get, *]; exact get_set_same f _ _ _ (by omega)
  | f + 1, .node v l r, n, o, h => by
    unfold Tr.set
    split
    · subst n; simp [Tr.get]
    · split
      · simp [Tr.get, *]; exact get_set_same f _ _ _ (by omega)
      · simp [Tr.get, *]; exact get_set_same f _ _ _ (by omega)

theorem Tr.get_node (v : AObj) (l r : Tr) (n : Nat) : (Tr.node v l r).get n = if n = 0 then v else if n % 2 = 1 then l.get (n / 2) else r.get (n / 2 - 1) := rfl
theorem Tr.get_leaf (n : Nat) : Tr.leaf.get n = .dead := rfl

theorem Tr.get_set_ne : ∀ (f : Nat) (t : Tr) (n m : Nat) (o : AObj), n ≠ m → (Tr.set f t n o).get m = t.get m
  | 0, _, _, _, _, _ => rfl
  | f + 1, .leaf, n, m, o, h => by
    unfold Tr.set
    split
    · subst n
      rw [Tr.get_node, if_neg (Ne.symm h), Tr.get_leaf, Tr.get_leaf, Tr.get_leaf, ite_self]
    · split
      · by_cases hm : m = 0
        · subst m; rw [Tr.get_node, if_pos rfl, Tr.get_leaf]
        · rw [Tr.get_node, if_neg hm]
          split
          · rw [get_set_ne f _ _ _ _ (by omega), Tr.get_leaf, Tr.get_leaf]
          · rw [Tr.get_leaf, Tr.get_leaf]
      · by_cases hm : m = 0
        · subst m; rw [Tr.get_node, if_pos rfl, Tr.get_leaf]
        · rw [Tr.get_node, if_neg hm]
          split
          · rw [Tr.get_leaf, Tr.get_leaf]
          · rw [get_set_ne f _ _ _ _ (by omega), Tr.get_leaf, Tr.get_leaf]
  | f + 1, .node v l r, n, m, o, h => by
    unfold Tr.set
    split
    · subst n
      rw [Tr.get_node, Tr.get_node, if_neg (Ne.symm h), if_neg (Ne.symm h)]
    · split
      · by_cases hm : m = 0
        · subst m; rw [Tr.get_node, Tr.get_node, if_pos rfl, if_pos rfl]
        · rw [Tr.get_node, Tr.get_node, if_neg hm, if_neg hm]
          split
          · rw [get_set_ne f _ _ _ _ (by omega)]
          · rfl
      · by_cases hm : m = 0
        · subst m; rw [Tr.get_node, Tr.get_node, if_pos rfl, if_pos rfl]
        · rw [Tr.get_node, Tr.get_node, if_neg hm, if_neg hm]
          split
          · rfl
          · rw [get_set_ne f _ _ _ _ (by omega)]

structure AHeap where
  next : Nat
  tr : Tr

def AHeap.get (h : AHeap) (b : Nat) : AObj := if b < h.next then h.tr.get b else .dead
def AHeap.set (h : AHeap) (b : Nat) (o : AObj) : AHeap := ⟨h.next, Tr.set (b + 1) h.tr b o⟩
def AHeap.push (h : AHeap) (o : AObj) : AHeap := ⟨h.next + 1, Tr.set (h.next + 1) h.tr h.next o⟩
def AHeap.empty : AHeap := ⟨0, .leaf⟩
def AHeap.emptyAt (n : Nat) : AHeap := ⟨n, .leaf⟩

def AObj.alive : AObj → Bool
  | .dead => false
  | _ => true

@[simp] theorem AHeap.next_set (h : AHeap) (b : Nat) (o : AObj) : (h.set b o).next = h.next := rfl
@[simp] theorem AHeap.next_push (h : AHeap) (o : AObj) : (h.push o).next = h.next + 1 := rfl
theorem AHeap.get_set_lt (h : AHeap) (b : Nat) (o : AObj) (hb : b < h.next) : (h.set b o).get b = o := by
  show (if b < h.next then _ else _) = _
  rw [if_pos hb]; exact Tr.get_set_same _ _ _ _ (by omega)
@[simp] theorem AHeap.get_set_dead (h : AHeap) (b : Nat) : (h.set b .dead).get b = .dead := by
  show (if b < h.next then _ else _) = _
  split
  · exact Tr.get_set_same _ _ _ _ (by omega)
  · rfl
theorem AHeap.get_set_ne (h : AHeap) {b c : Nat} (o : AObj) (hn : b ≠ c) : (h.set b o).get c = h.get c := by
  show (if c < h.next then _ else _) = (if c < h.next then _ else _)
  rw [show (h.set b o).tr.get c = h.tr.get c from Tr.get_set_ne _ _ _ _ _ hn]
@[simp] theorem AHeap.get_push_same (h : AHeap) (o : AObj) : (h.push o).get h.next = o := by
  show (if h.next < h.next + 1 then _ else _) = _
  rw [if_pos (by omega)]; exact Tr.get_set_same _ _ _ _ (by omega)
theorem AHeap.get_push_ne (h : AHeap) {c : Nat} (o : AObj) (hn : h.next ≠ c) : (h.push o).get c = h.get c := by
  show (if c < h.next + 1 then _ else _) = (if c < h.next then _ else _)
  rw [show (h.push o).tr.get c = h.tr.get c from Tr.get_set_ne _ _ _ _ _ hn]
  by_cases hc : c < h.next
  · rw [if_pos hc, if_pos (by omega)]
  · rw [if_neg hc, if_neg (by omega)]
@[simp] theorem AHeap.get_empty (b : Nat) : AHeap.empty.get b = .dead := rfl
@[simp] theorem AHeap.get_emptyAt (n b : Nat) : (AHeap.emptyAt n).get b = .dead := by
  show (if b < n then Tr.leaf.get b else _) = _
  split <;> rfl
theorem AHeap.lt_of_alive {h : AHeap} {b : Nat} (hb : (h.get b).alive = true) : b < h.next := by
  unfold AHeap.get at hb
  split at hb
  · assumption
  · simp [AObj.alive] at hb

/-! ### what a computation answers without looking at the world -/
def _root_.Go.Sem.static {α : Type} (P : Program) : Sem α → Option α
  | .pure a => some a
  | .program k => (k P).static P
  | .choose q k => if q.forced then (k 0).static P else none
  | _ => none

theorem _root_.Go.Sem.run_static {α : Type} {P : Program} : ∀ {s : Sem α} {a : α}, s.static P = some a → ∀ w, s.run P w = .ok a w
  | .pure b, a, h, w => by simp [Sem.static] at h; simp [Sem.run, h]
  | .program k, a, h, w => by
    simp only [Sem.static] at h
    simp only [Sem.run]
    exact Sem.run_static h w
  | .choose q k, a, h, w => by
    simp only [Sem.static] at h
    split at h
    · rename_i hq
      simp only [Sem.run, hq, if_true]
      exact Sem.run_static h w
    · cases h
  | .load .., _, h, _ | .store .., _, h, _ | .new .., _, h, _ | .shape .., _, h, _ | .freeze .., _, h, _ | .frozen .., _, h, _ | .getObj .., _, h, _ | .setObj .., _, h, _ | .sys .., _, h, _ | .mark .., _, h, _ | .halt .., _, h, _ => by simp [Sem.static] at h

/-! ### operations -/
abbrev Fr := List Value

def ev (fr : Fr) : Operand → Value
  | .tmp t => fr.getD t undef
  | .const v => v
  | .global g => .pointer (some ⟨g, 0, none⟩)
  | .func f => .func (.func f) #[] #[]

/-- No variable of a package; a constant without an address. -/
def okOperand : Operand → Bool
  | .tmp _ | .func _ => true
  | .const v => vdata v
  | .global _ => false

def splice (c : List Value) (o : Nat) (vs : List Value) : List Value := c.take o ++ vs ++ c.drop (o + vs.length)

def aggT (P : Program) (t : TypeId) : Option Bool :=
  match P.underlying t with
  | some (.struct _) | some (.array _ _) => some true
  | some _ => some false
  | none => none

/-- What lies at an address, as a value of a type. -/
def aload (P : Program) (h : AHeap) (t : TypeId) : Value → Option Value
  | .pointer (some ⟨b, o, none⟩) =>
    match h.get b with
    | .cells c _ _ _ =>
      match aggT P t with
      | some true =>
        match P.info? t with
        | some i => if o + i.size ≤ c.length then some (.agg ((c.drop o).take i.size).toArray) else none
        | none => none
      | some false => c[o]?
      | none => none
    | _ => none
  | _ => none

/-- So many cells from an address on. -/
def acells (h : AHeap) (n : Nat) : Addr → Option (List Value)
  | ⟨b, o, none⟩ =>
    match h.get b with
    | .cells c _ _ _ => if o + n ≤ c.length then some ((c.drop o).take n) else none
    | _ => none
  | _ => none

def aput (h : AHeap) (a : Addr) (vs : List Value) : Option AHeap :=
  match a with
  | ⟨b, o, none⟩ =>
    match h.get b with
    | .cells c e opn false => if o + vs.length ≤ c.length && vs.all vone then some (h.set b (.cells (splice c o vs) e opn false)) else none
    | _ => none
  | _ => none

def astore (P : Program) (h : AHeap) (t : TypeId) (v : Value) : Value → Option AHeap
  | .pointer (some a) =>
    match P.info? t with
    | some i => if v.cells.size = i.size then aput h a v.cells.toList else none
    | none => none
  | _ => none

def azero (P : Program) (t : TypeId) : Option Value := if t < P.types.size then (P.info? t).bind (·.zero) else none

def abuild (P : Program) (t : TypeId) (parts : List (Nat × Value)) : Option Value :=
  match azero P t, P.underlying t with
  | some z, some (.struct fields) =>
    if fields.toList.all fun f => (P.info? f.type).isSome then
      (Instr.fill (fun i => (fields[i]?).map fun f => (f.offset, P.cellsOf f.type)) z.cells parts).map .agg
    else none
  | some z, some (.array _ elem) =>
    if (P.info? elem).isSome then (Instr.fill (fun i => some (i * P.cellsOf elem, P.cellsOf elem)) z.cells parts).map .agg else none
  | _, _ => none

def abuildSlice (P : Program) (h : AHeap) (t : TypeId) (len : Nat) (parts : List (Nat × Value)) : Option (Value × AHeap) :=
  match P.underlying t with
  | some (.slice elem) =>
    match P.info? elem, azero P elem with
    | some i, some z =>
      if len * i.size > 2 ^ 24 then none else
      match Instr.fill (fun j => some (j * i.size, i.size)) ((Array.range (len * i.size)).map (z.cells[· % z.cells.size]!)) parts with
      | some cells => some (.slice (some ⟨h.next, 0, none⟩) len len, h.push (.cells cells.toList elem false false))
      | none => none
    | _, _ => none
  | _ => none

def aeqnil (P : Program) (t : TypeId) (x y : Value) : Option Bool :=
  match P.underlying t, x, y with
  | some (.pointer _), .pointer none, .pointer b => some b.isNone
  | some (.pointer _), .pointer (some _), .pointer none => some false
  | some (.slice _), .slice none _ _, .slice b _ _ => some b.isNone
  | some (.slice _), .slice (some _) _ _, .slice none _ _ => some false
  | some (.map _ _), .map none, .map b => some b.isNone
  | some (.map _ _), .map (some _), .map none => some false
  | some (.func _ _ _), .nilFunc, .nilFunc => some true
  | some (.func _ _ _), .nilFunc, .func .. => some false
  | some (.func _ _ _), .func .., .nilFunc => some false
  | _, _, _ => none

/-- An operation over plain data alone: as the model reckons it. -/
def adata (P : Program) (fr : Fr) (o : Oper) : Option Value :=
  if o.op.operands.toList.all fun x => vdata (ev fr x) then
    match (execOp (ev fr) o).static P with
    | some (.value v) => if vdata v then some v else none
    | _ => none
  else none

def abin (P : Program) (fr : Fr) (o : Oper) (op : BinOp) (t : TypeId) (x y : Operand) : Option Value :=
  if vdata (ev fr x) && vdata (ev fr y) then adata P fr o else
  match op with
  | .eql => (aeqnil P t (ev fr x) (ev fr y)).map .bool
  | .neq => (aeqnil P t (ev fr x) (ev fr y)).map fun b => .bool !b
  | _ => none

def aint : Value → Option Int
  | .int .i64 n => some n
  | _ => none

def aoptInt (v : Option Value) : Option (Option Int) :=
  match v with
  | none => some none
  | some v => (aint v).map some

def aslice (P : Program) (h : AHeap) (t : TypeId) (x : Value) (lo hi mx : Option Value) : Option Value :=
  match P.underlying t, x, aoptInt lo, aoptInt hi, aoptInt mx with
  | some (.slice elem), .slice a len cap, some lo, some hi, some mx =>
    let l := lo.getD 0
    let u := hi.getD len
    let m := mx.getD cap
    if 0 ≤ l ∧ l ≤ u ∧ u ≤ m ∧ m ≤ cap ∧ (mx.isSome = true → hi.isSome = true) ∧ (P.info? elem).isSome = true then
      match a with
      | none => some (.slice none (u.toNat - l.toNat) (m.toNat - l.toNat))
      | some ⟨b, o, none⟩ =>
        match h.get b with
        | .cells c _ opn _ =>
          if m = l then
            if opn && mx.isNone then some (.slice (some ⟨b, c.length, none⟩) 0 0) else some (.slice (some ⟨b, o, none⟩) 0 0)
          else some (.slice (some ⟨b, o + l.toNat * P.cellsOf elem, none⟩) (u.toNat - l.toNat) (m.toNat - l.toNat))
        | _ => none
      | _ => none
    else none
  | _, _, _, _, _ => none

def aindexAddr (P : Program) (t : TypeId) (x i : Value) : Option Value :=
  match P.underlying t, x, i with
  | some (.slice elem), .slice (some ⟨b, o, none⟩) len _, .int _ n =>
    if 0 ≤ n ∧ n < len ∧ (P.info? elem).isSome = true then some (.pointer (some ⟨b, o + n.toNat * P.cellsOf elem, none⟩)) else none
  | some (.array len elem), .pointer (some ⟨b, o, none⟩), .int _ n =>
    if 0 ≤ n ∧ n < len ∧ (P.info? elem).isSome = true then some (.pointer (some ⟨b, o + n.toNat * P.cellsOf elem, none⟩)) else none
  | _, _, _ => none

def afieldAddr (P : Program) (t : TypeId) (x : Value) (f : Nat) : Option Value :=
  match P.underlying t, x with
  | some (.struct fields), .pointer (some ⟨b, o, none⟩) =>
    match fields[f]? with
    | some f => if (P.info? f.type).isSome && P.cellsOf f.type ≠ 0 then some (.pointer (some ⟨b, o + f.offset, none⟩)) else none
    | none => none
  | _, _ => none

def afield (P : Program) (t : TypeId) (x : Value) (f : Nat) : Option Value :=
  match P.underlying t, x with
  | some (.struct fields), .agg cs =>
    match fields[f]? with
    | some f =>
      match aggT P f.type, P.info? f.type with
      | some true, some i => some (.agg (cs.extract f.offset (f.offset + i.size)))
      | some false, some _ => cs[f.offset]?
      | _, _ => none
    | none => none
  | _, _ => none

def afind (P : Program) (kt : TypeId) (k : Value) : List (Value × Value) → Nat → Option (Option (Nat × Value × Value))
  | [], _ => some none
  | (k', v) :: es, i =>
    match (Op.equal kt k k').static P with
    | some true => some (some (i, k', v))
    | some false => afind P kt k es (i + 1)
    | none => none

def alookup (P : Program) (h : AHeap) (t : TypeId) (m k : Value) (ok : Bool) : Option Value :=
  match P.underlying t with
  | some (.map kt et) =>
    let es : Option (List (Value × Value)) := match m with
      | .map none => some []
      | .map (some r) => match h.get r with | .map es => some es | _ => none
      | _ => none
    match es with
    | some es =>
      if vdata k && ((Instr.checkKey es.isEmpty 10000 kt k).static P).isSome then
        match afind P kt k es 0 with
        | some (some (_, _, v)) => some (if ok then .tuple #[v, .bool true] else v)
        | some none => (azero P et).map fun z => if ok then .tuple #[z, .bool false] else z
        | none => none
      else none
    | none => none
  | _ => none

def amapUpdate (P : Program) (h : AHeap) (t : TypeId) (m k v : Value) : Option AHeap :=
  match P.underlying t, m with
  | some (.map kt _), .map (some r) =>
    match h.get r with
    | .map es =>
      if vdata k && ((Instr.checkKey false 10000 kt k).static P).isSome then
        match afind P kt k es 0 with
        | some (some (i, k', _)) => if Instr.sameBits 10000 k' k then some (h.set r (.map (es.modify i fun _ => (k, v)))) else none
        | some none => some (h.set r (.map (es ++ [(k, v)])))
        | none => none
      else none
    | _ => none
  | _, _ => none

def abytes : List Value → Option (List UInt8)
  | [] => some []
  | .int .u8 n :: vs => if 0 ≤ n ∧ n < 256 then (abytes vs).map (UInt8.ofNat n.toNat :: ·) else none
  | _ => none

def aconvert (P : Program) (h : AHeap) (fr : Fr) (o : Oper) (src dst : TypeId) (x : Value) : Option (Value × AHeap) :=
  match P.underlying src, P.underlying dst, x with
  | some .string, some (.slice e), .string s =>
    match P.underlying e with
    | some (.int .u8) =>
      if s.size < 2 ^ 47 ∧ P.cellsOf e = 1 then some (.slice (some ⟨h.next, 0, none⟩) s.size s.size, h.push (.cells (s.data.toList.map fun b => .int .u8 b.toNat) e true false)) else none
    | _ => none
  | some (.slice e), some .string, .slice a len _ =>
    match P.underlying e with
    | some (.int .u8) =>
      match a with
      | none => some (.string .empty, h)
      | some a =>
        match acells h len a with
        | some vs => (abytes vs).map fun bs => (.string ⟨bs.toArray⟩, h)
        | none => none
    | _ => none
  | some .string, some (.slice _), _ => none
  | _, _, _ => (adata P fr o).map fun v => (v, h)

def anewCells (P : Program) (h : AHeap) (e : TypeId) (size : Nat) (zeros : Bool) (x : Value) : Option (Nat × List Value) :=
  if zeros then
    match x, azero P e with
    | .int _ n, some z => if 0 ≤ n ∧ n ≤ 2 ^ 47 then some (n.toNat, (Builtin.zeroCells z.cells n.toNat).toList) else none
    | _, _ => none
  else
    match x with
    | .slice none n _ => if n = 0 then some (0, []) else none
    | .slice (some a) n _ => (acells h (n * size) a).map fun vs => (n, vs)
    | .string s => some (s.size, s.data.toList.map fun b => .int .u8 b.toNat)
    | _ => none

def aappend (P : Program) (h : AHeap) (ts : Array TypeId) (s x : Value) : Option (Value × AHeap) :=
  match ts[0]?, ts[1]?, s with
  | some st, some xt, .slice base sLen sCap =>
    match P.underlying st, P.underlying xt with
    | some (.slice e), some xd =>
      match P.info? e with
      | some i =>
        if i.size = 0 then none else
        let zeros := match xd with | .int _ => true | _ => false
        match anewCells P h e i.size zeros x with
        | some (n, new) =>
          if !(new.all vone) || new.length ≠ n * i.size || n * i.bytes > 2 ^ 47 then none else
          let need := sLen + n
          if need ≤ sCap then
            match base with
            | none => if n = 0 then some (.slice none need sCap, h) else none
            | some a => if n = 0 then some (.slice base need sCap, h) else (aput h ⟨a.block, a.off + sLen * i.size, a.spot⟩ new).map fun h' => (.slice base need sCap, h')
          else if need * i.bytes > 2 ^ 47 ∨ need ≥ 2 ^ 62 ∨ (azero P e).isNone then none else
            match base with
            | none => if sLen = 0 then some (.slice (some ⟨h.next, 0, none⟩) need need, h.push (.cells new e true false)) else none
            | some ⟨b, o, none⟩ =>
              match h.get b, acells h (sLen * i.size) ⟨b, o, none⟩ with
              | .cells c e' opn ro, some old =>
                if !opn then some (.slice (some ⟨h.next, 0, none⟩) need need, h.push (.cells (old ++ new) e true false))
                else if sCap = 0 then
                  if o ≠ c.length then some (.slice (some ⟨h.next, 0, none⟩) need need, h.push (.cells (old ++ new) e true false)) else none
                else if e' = e ∧ o + sCap * i.size = c.length ∧ ro = false then
                  some (.slice (some ⟨h.next, 0, none⟩) need need, (h.set b .dead).push (.cells (old ++ new) e true false))
                else none
              | _, _ => none
            | _ => none
        | none => none
      | none => none
    | _, _ => none
  | _, _, _ => none

def acopy (P : Program) (h : AHeap) (ts : Array TypeId) (d s : Value) : Option (Value × AHeap) :=
  match ts[0]?, d with
  | some dt, .slice base dLen _ =>
    match P.underlying dt with
    | some (.slice e) =>
      match P.info? e with
      | some i =>
        match s with
        | .slice sb sn _ =>
          let n := Nat.min sn dLen
          if n = 0 then some (goInt 0, h) else
          match sb, base with
          | some sa, some da =>
            match acells h (n * i.size) sa with
            | some vs => (aput h da vs).map fun h' => (goInt n, h')
            | none => none
          | _, _ => none
        | _ => none
      | none => none
    | _ => none
  | _, _ => none

def aclear (P : Program) (h : AHeap) (ts : Array TypeId) (x : Value) : Option (Value × AHeap) :=
  match ts[0]?, x with
  | some t, .slice base n _ =>
    match P.underlying t with
    | some (.slice e) =>
      match base with
      | none => some (.tuple #[], h)
      | some a =>
        if n = 0 then some (.tuple #[], h) else
        match azero P e with
        | some z => (aput h a (Builtin.zeroCells z.cells n).toList).map fun h' => (.tuple #[], h')
        | none => none
    | _ => none
  | _, _ => none

def alen (P : Program) (h : AHeap) (ts : Array TypeId) (x : Value) : Option Value :=
  match ts[0]? with
  | some t =>
    match P.underlying t, x with
    | some .string, .string s => some (goInt s.size)
    | some (.slice _), .slice _ n _ => some (goInt n)
    | some (.map _ _), .map none => some (goInt 0)
    | some (.map _ _), .map (some r) => match h.get r with | .map es => some (goInt es.length) | _ => none
    | some (.array n _), _ => some (goInt n)
    | _, _ => none
  | none => none

def acap (P : Program) (h : AHeap) (ts : Array TypeId) (x : Value) : Option Value :=
  match ts[0]? with
  | some t =>
    match P.underlying t, x with
    | some (.slice _), .slice none _ c => some (goInt c)
    | some (.slice _), .slice (some ⟨b, _, none⟩) _ c => match h.get b with | .cells _ _ false _ => some (goInt c) | _ => none
    | _, _ => none
  | none => none

def amakeSlice (P : Program) (h : AHeap) (t : TypeId) (l c : Value) : Option (Value × AHeap) :=
  match P.underlying t, aint l, aint c with
  | some (.slice e), some l, some c =>
    match P.info? e, azero P e with
    | some i, some z =>
      if 0 ≤ l ∧ l ≤ c ∧ c * i.bytes ≤ 2 ^ 47 ∧ c ≤ 2 ^ 47 then
        some (.slice (some ⟨h.next, 0, none⟩) l.toNat c.toNat, h.push (.cells ((Array.range (c.toNat * i.size)).map (z.cells[· % z.cells.size]!)).toList e false false))
      else none
    | _, _ => none
  | _, _, _ => none

/-- What an operation does: an answer; a call; a round of a loop. -/
inductive AStep where
  | val (v : Value) (h : AHeap)
  | call (f : FuncId) (args : List Value)
  | round (l : Nat) (args : List Value)

def some1 (h : AHeap) (v : Option Value) : Option AStep := v.map (.val · h)
def some2 (r : Option (Value × AHeap)) : Option AStep := r.map fun (v, h) => .val v h
def some3 (r : Option AHeap) : Option AStep := r.map (.val undef ·)

def abuiltin (P : Program) (fr : Fr) (h : AHeap) (o : Oper) (b : Builtin) (ts : Array TypeId) (args : List Value) : Option AStep :=
  match b, args with
  | .append, [s, x] => some2 (aappend P h ts s x)
  | .cap, [x] => some1 h (acap P h ts x)
  | .clear, [x] => some2 (aclear P h ts x)
  | .copy, [d, s] => some2 (acopy P h ts d s)
  | .len, [x] => some1 h (alen P h ts x)
  | .max, _ | .min, _ => some1 h (adata P fr o)
  | _, _ => none

def aop (P : Program) (fr : Fr) (h : AHeap) (o : Oper) : Option AStep :=
  if !(o.op.operands.toList.all okOperand) then none else
  match o.op with
  | .move x | .assign x => some (.val (ev fr x) h)
  | .pick c a b => match ev fr c with | .bool t => some (.val (if t then ev fr a else ev fr b) h) | _ => none
  | .alloc t => (azero P t).map fun z => .val (.pointer (some ⟨h.next, 0, none⟩)) (h.push (.cells z.cells.toList t false false))
  | .box t x => some (.val (.pointer (some ⟨h.next, 0, none⟩)) (h.push (.cells (ev fr x).cells.toList t false false)))
  | .build t parts => some1 h (abuild P t (parts.toList.map fun (i, x) => (i, ev fr x)))
  | .buildSlice t len parts => some2 (abuildSlice P h t len (parts.toList.map fun (i, x) => (i, ev fr x)))
  | .load t a => some1 h (aload P h t (ev fr a))
  | .store t a x => some3 (astore P h t (ev fr x) (ev fr a))
  | .nilCheck x => match ev fr x with | .pointer (some a) => some (.val (.pointer (some a)) h) | _ => none
  | .binOp op t x y _ => some1 h (abin P fr o op t x y)
  | .unOp _ _ _ => some1 h (adata P fr o)
  | .convert s d x => some2 (aconvert P h fr o s d (ev fr x))
  | .makeFunc (.func f) first captured => some (.val (.func (.func f) (first.map (ev fr)) (captured.map (ev fr))) h)
  | .makeMap _ r => match r with | none => some (.val (.map (some h.next)) (h.push (.map []))) | some _ => none
  | .makeSlice t l c => some2 (amakeSlice P h t (ev fr l) (ev fr c))
  | .slice t x lo hi mx =>
    match ev fr x with
    | .string _ => some1 h (adata P fr o)
    | v => some1 h (aslice P h t v (lo.map (ev fr)) (hi.map (ev fr)) (mx.map (ev fr)))
  | .fieldAddr t x f => some1 h (afieldAddr P t (ev fr x) f)
  | .field t x f => some1 h (afield P t (ev fr x) f)
  | .indexAddr t x i => some1 h (aindexAddr P t (ev fr x) (ev fr i))
  | .index _ _ _ => some1 h (adata P fr o)
  | .lookup t m k ok => some1 h (alookup P h t (ev fr m) (ev fr k) ok)
  | .mapUpdate t m k x | .insert t m k x => some3 (amapUpdate P h t (ev fr m) (ev fr k) (ev fr x))
  | .extract t i => match ev fr t with | .tuple vs => some1 h vs[i]? | _ => none
  | .call c =>
    match c.callee with
    | .builtin b => abuiltin P fr h o b c.argTypes (c.args.toList.map (ev fr))
    | .value f =>
      match ev fr f with
      | .func (.func g) first captured => some (.call g (first.toList ++ c.args.toList.map (ev fr) ++ captured.toList))
      | .func (.yield l) first captured => if first.size = 0 && captured.size = 0 then some (.round l (c.args.toList.map (ev fr))) else none
      | _ => none
    | .invoke _ _ => none
  | _ => none

/-! ### the run -/
inductive AExit where
  | normal
  | exit (id : Nat)
  | ret

/-- What is taken as given: functions that are told by a contract; the pairs of a region that are looked at again. -/
structure Cfg where
  P : Program
  ok : FuncId → Bool
  prim : FuncId → Option (List Value → AHeap → Option (Value × AHeap))
  rw : FuncId → Nat → List (Nat × Nat)

def fput (fr : Fr) (dst : Option Tmp) (v : Value) : Fr :=
  match dst with
  | some d => fr.set d v
  | none => fr

def ayielded (ops : Array Oper) (fr : Fr) (j : Nat) : Option Bool :=
  match ((ops[j]?).bind (·.dst)).bind (fr[·]?) with
  | some (.bool b) => some b
  | _ => none

def awanted (ops : Array Oper) (fr : Fr) (o : Oper) : Bool :=
  match o.guard with
  | none => true
  | some (j, want) => ayielded ops fr j == some want

/-- One operation, calls by what is handed in. -/
def aone (P : Program) (call : FuncId → List Value → AHeap → Option (Value × AHeap)) (round : Nat → List Value → AHeap → Option (Value × AHeap))
    (ops : Array Oper) (o : Oper) (fr : Fr) (h : AHeap) : Option (Fr × AHeap) :=
  if awanted ops fr o then
    match aop P fr h o with
    | some (.val v h') => some (fput fr o.dst v, h')
    | some (.call f args) => (call f args h).map fun (v, h') => (fput fr o.dst v, h')
    | some (.round l args) => (round l args h).map fun (v, h') => (fput fr o.dst v, h')
    | none => none
  else some (fput fr o.dst undef, h)

def aops (P : Program) (call : FuncId → List Value → AHeap → Option (Value × AHeap)) (round : Nat → List Value → AHeap → Option (Value × AHeap))
    (ops : Array Oper) : List Oper → Fr → AHeap → Option (Fr × AHeap)
  | [], fr, h => some (fr, h)
  | o :: os, fr, h =>
    match aone P call round ops o fr h with
    | some (fr', h') => aops P call round ops os fr' h'
    | none => none

/-- Likewise, with the states ahead of each operation, the last one first. -/
def aopsT (P : Program) (call : FuncId → List Value → AHeap → Option (Value × AHeap)) (round : Nat → List Value → AHeap → Option (Value × AHeap))
    (ops : Array Oper) : List Oper → Fr → AHeap → List (Fr × AHeap) → Option (Fr × AHeap × List (Fr × AHeap))
  | [], fr, h, tr => some (fr, h, (fr, h) :: tr)
  | o :: os, fr, h, tr =>
    match aone P call round ops o fr h with
    | some (fr', h') => aopsT P call round ops os fr' h' ((fr, h) :: tr)
    | none => none

/-- What operation r reads is the same ahead of operation j, if that stands ahead of it, or behind it. -/
def arwOk (P : Program) (ops : Array Oper) (states : Array (Fr × AHeap)) (r j : Nat) : Bool :=
  match ops[r]?, states[r]?, states[if j < r then j else j + 1]? with
  | some o, some (fr, h), some (_, h') =>
    if awanted ops fr o then
      match aop P fr h o, aop P fr h' o with
      | some (.val v _), some (.val v' _) => veq v v'
      | _, _ => false
    else true
  | _, _, _ => false

def aregion (cfg : Cfg) (fn : FuncId) (call : FuncId → List Value → AHeap → Option (Value × AHeap)) (round : Nat → List Value → AHeap → Option (Value × AHeap))
    (id : Nat) (ops : Array Oper) (draw : Bool) (fr : Fr) (h : AHeap) : Option (Fr × AHeap) :=
  if draw then
    match cfg.rw fn id with
    | [] => aops cfg.P call round ops ops.toList fr h
    | ps =>
      match aopsT cfg.P call round ops ops.toList fr h [] with
      | some (fr', h', tr) => if ps.all fun (r, j) => arwOk cfg.P ops tr.reverse.toArray r j then some (fr', h') else none
      | none => none
  else aops cfg.P call round ops ops.toList fr h

def aresult (P : Program) (fr : Fr) (h : AHeap) : ResultVar → Option Value
  | .tmp t => some (fr.getD t undef)
  | .cell a t => aload P h t (fr.getD a undef)

def aresults (P : Program) (fr : Fr) (h : AHeap) : List ResultVar → Option (List Value)
  | [] => some []
  | r :: rs => match aresult P fr h r with
    | some v => (aresults P fr h rs).map (v :: ·)
    | none => none

def single (vs : List Value) : Value :=
  match vs with
  | [v] => v
  | vs => .tuple vs.toArray

def setParams (fr : Fr) (ps : List (Tmp × Value)) : Fr := ps.foldl (fun fr (t, v) => fr.set t v) fr

def aroundOk (h : AHeap) : Option Nat → Bool
  | none => true
  | some l => match h.get l with | .loop .. => true | _ => false

mutual
def acode (cfg : Cfg) (fn : FuncId) (ro : Option Nat) : Nat → Code → Fr → AHeap → Option (AExit × Fr × AHeap)
  | 0, _, _, _ => none
  | k + 1, c, fr, h =>
    match c with
    | .skip | .label _ => some (.normal, fr, h)
    | .region id ops draw => (aregion cfg fn (acall cfg k) (around cfg k) id ops draw fr h).map fun (fr, h) => (.normal, fr, h)
    | .seq a b =>
      match acode cfg fn ro k a fr h with
      | some (.normal, fr, h) => acode cfg fn ro k b fr h
      | r => r
    | .cond c a b =>
      match ev fr c with
      | .bool t => acode cfg fn ro k (if t then a else b) fr h
      | _ => none
    | .block id b =>
      match acode cfg fn ro k b fr h with
      | some (.exit i, fr, h) => if i = id then some (.normal, fr, h) else some (.exit i, fr, h)
      | r => r
    | .loop b =>
      match acode cfg fn ro k b fr h with
      | some (.normal, fr, h) => acode cfg fn ro k (.loop b) fr h
      | r => r
    | .exit id => some (.exit id, fr, h)
    | .ret => some (.ret, fr, h)
    | .rangeFunc f params assign body =>
      match okOperand f, ev fr f with
      | true, .func (.func g) first captured =>
        let l := h.next
        if !(aroundOk h ro && cfg.ok g && (cfg.prim g).isNone) then none else
        match acall cfg k g (first.toList ++ [.func (.yield l) #[] #[]] ++ captured.toList) (h.push (.loop .ready none fn fr params assign body)) with
        | some (_, h') =>
          match h'.get l with
          | .loop st pending fn' tmps ps as bd =>
            if st = .busy then none else
            let h'' := h'.set l (.loop .exhausted pending fn' tmps ps as bd)
            match pending with
            | none => some (.normal, fr, h'')
            | some .ret => some (.ret, fr, h'')
            | some (.exit id) => some (.exit id, fr, h'')
            | some _ => none
          | _ => none
        | none => none
      | _, _ => none
    | _ => none
def acall (cfg : Cfg) : Nat → FuncId → List Value → AHeap → Option (Value × AHeap)
  | 0, _, _, _ => none
  | k + 1, f, args, h =>
    match cfg.prim f with
    | some p => p args h
    | none =>
      if !cfg.ok f then none else
      match cfg.P.funcs[f]? with
      | some fn =>
        match fn.body with
        | some c =>
          match acode cfg f none k c (args ++ List.replicate (fn.ntmps - args.length) undef) h with
          | some (.normal, fr, h) | some (.ret, fr, h) => (aresults cfg.P fr h fn.results.toList).map fun vs => (single vs, h)
          | _ => none
        | none => none
      | none => none
def around (cfg : Cfg) : Nat → Nat → List Value → AHeap → Option (Value × AHeap)
  | 0, _, _, _ => none
  | k + 1, l, args, h =>
    match h.get l with
    | .loop .ready _ fn tmps ps as bd =>
      if args.length = ps.size && cfg.ok fn then
        match acode cfg fn (some l) k as (setParams tmps (ps.toList.zip args)) h with
        | some (.normal, fr, h) =>
          match h.get l with
          | .loop .ready pending fn' tmps' ps' as' bd' =>
            match acode cfg fn (some l) k bd fr (h.set l (.loop .busy pending fn' tmps' ps' as' bd')) with
            | some (e, _, h) =>
              match h.get l with
              | .loop _ _ fn tmps ps as bd =>
                match e with
                | .normal => some (.bool true, h.set l (.loop .ready none fn tmps ps as bd))
                | .ret => some (.bool false, h.set l (.loop .done (some .ret) fn tmps ps as bd))
                | .exit id => some (.bool false, h.set l (.loop .done (some (.exit id)) fn tmps ps as bd))
              | _ => none
            | none => none
          | _ => none
        | _ => none
      else none
    | _ => none
end
end Go.Abs
