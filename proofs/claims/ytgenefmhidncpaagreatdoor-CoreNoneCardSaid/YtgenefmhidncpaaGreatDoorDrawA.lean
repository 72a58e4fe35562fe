/- What may come in any order: classes of operations, what each hangs on; the static look at a region. -/
import Derived.Test.YtgenefmhidncpaaGreatDoorOne
namespace Go.Abs
variable {P : Program} {h : AHeap} {fr : Fr}

inductive Cls where
  | q | r | n | w
  deriving DecidableEq

def cls (P : Program) : Op → Cls
  | .load .. | .lookup .. | .slice .. => .r
  | .convert s d _ => match P.underlying s, P.underlying d with
    | some .string, some (.slice _) => .n
    | some (.slice _), _ => .r
    | _, _ => .q
  | .alloc _ | .box .. | .buildSlice .. | .makeMap .. | .makeSlice .. => .n
  | .store .. | .mapUpdate .. | .insert .. => .w
  | .call { callee := .builtin b, argTypes, .. } => match b with
    | .len => match (argTypes[0]?).bind P.underlying with | some (.map ..) => .r | _ => .q
    | .cap => .r
    | .min | .max => .q
    | _ => .w
  | .call _ => .w
  | _ => .q

/-! ### an operation hangs on its operands alone -/
def actOf (fr : Fr) : Act := { tmps := fr.toArray, defers := [] }
theorem ev_actOf (fr : Fr) (x : Operand) : (actOf fr).eval x = ev fr x := by
  cases x with
  | tmp t => simp only [actOf, Act.eval, ev, Array.getD_eq_getD_getElem?, List.getElem?_toArray, List.getD_eq_getElem?_getD]
  | _ => rfl

theorem adata_congr {f f' : Fr} {o : Oper} (hx : ∀ x ∈ o.op.operands, ev f x = ev f' x) (he : execOp (ev f) o = execOp (ev f') o) : adata P f o = adata P f' o := by
  unfold adata
  have : (o.op.operands.toList.all fun x => vdata (ev f x)) = (o.op.operands.toList.all fun x => vdata (ev f' x)) := by
    rw [Bool.eq_iff_iff, List.all_eq_true, List.all_eq_true]
    exact ⟨fun h x hm => by rw [← hx x (Array.mem_toList_iff.1 hm)]; exact h x hm, fun h x hm => by rw [hx x (Array.mem_toList_iff.1 hm)]; exact h x hm⟩
  rw [this, he]

theorem execOp_actOf (fr : Fr) (o : Oper) : execOp (actOf fr).eval o = execOp (ev fr) o := by
  rw [funext (ev_actOf fr)]

theorem map_ev {f f' : Fr} {xs : Array Operand} (h : ∀ x ∈ xs, ev f x = ev f' x) : xs.map (ev f) = xs.map (ev f') := Array.map_congr_left h
theorem mapL_ev {f f' : Fr} {xs : Array Operand} (h : ∀ x ∈ xs, ev f x = ev f' x) : xs.toList.map (ev f) = xs.toList.map (ev f') := List.map_congr_left fun x hx => h x (Array.mem_toList_iff.1 hx)
theorem optmap_ev {f f' : Fr} {x : Option Operand} (h : ∀ y, x = some y → ev f y = ev f' y) : x.map (ev f) = x.map (ev f') := by
  cases x with
  | none => rfl
  | some y => simp [h y rfl]

theorem aop_congr {f f' : Fr} {o : Oper} (hx : ∀ x ∈ o.op.operands, ev f x = ev f' x) : aop P f h o = aop P f' h o := by
  unfold aop
  split
  · rfl
  · cases ho : o.op with
    | move x => simp only [hx x (by rw [ho]; simp [Op.operands])]
    | assign x => simp only [hx x (by rw [ho]; simp [Op.operands])]
    | pick c x y => simp only [hx c (by rw [ho]; simp [Op.operands]), hx x (by rw [ho]; simp [Op.operands]), hx y (by rw [ho]; simp [Op.operands])]
    | box t x => simp only [hx x (by rw [ho]; simp [Op.operands])]
    | build t parts =>
      have : (parts.toList.map fun (i, x) => (i, ev f x)) = (parts.toList.map fun (i, x) => (i, ev f' x)) := List.map_congr_left fun x hm => by
        simp only [hx x.2 (by rw [ho]; simp only [Op.operands, List.mem_toArray, List.mem_map]; exact ⟨x, hm, rfl⟩)]
      simp only [this]
    | buildSlice t len parts =>
      have : (parts.toList.map fun (i, x) => (i, ev f x)) = (parts.toList.map fun (i, x) => (i, ev f' x)) := List.map_congr_left fun x hm => by
        simp only [hx x.2 (by rw [ho]; simp only [Op.operands, List.mem_toArray, List.mem_map]; exact ⟨x, hm, rfl⟩)]
      simp only [this]
    | load t x => simp only [hx x (by rw [ho]; simp [Op.operands])]
    | store t x y => simp only [hx x (by rw [ho]; simp [Op.operands]), hx y (by rw [ho]; simp [Op.operands])]
    | nilCheck x => simp only [hx x (by rw [ho]; simp [Op.operands])]
    | binOp op t x y t' =>
      have h1 := hx x (by rw [ho]; simp [Op.operands])
      have h2 := hx y (by rw [ho]; simp [Op.operands])
      have hd : adata P f o = adata P f' o := adata_congr hx (by rw [← execOp_actOf f']; exact congr_bin ho (by rw [ev_actOf]; exact h1.symm) (by rw [ev_actOf]; exact h2.symm))
      simp only [abin, h1, h2, hd]
    | unOp op t x =>
      have h1 := hx x (by rw [ho]; simp [Op.operands])
      have hd : adata P f o = adata P f' o := adata_congr hx (by rw [← execOp_actOf f']; exact congr_un ho (by rw [ev_actOf]; exact h1.symm))
      simp only [hd]
    | convert s d x =>
      have h1 := hx x (by rw [ho]; simp [Op.operands])
      have hd : adata P f o = adata P f' o := adata_congr hx (by rw [← execOp_actOf f']; exact congr_conv ho (by rw [ev_actOf]; exact h1.symm))
      simp only [aconvert, h1, hd]
    | makeFunc fn first captured =>
      cases fn with
      | func g => simp only [map_ev (xs := first) (f := f) (f' := f') (fun x hm => hx x (by rw [ho]; simp [Op.operands, hm])), map_ev (xs := captured) (f := f) (f' := f') (fun x hm => hx x (by rw [ho]; simp [Op.operands, hm]))]
      | _ => rfl
    | makeSlice t l c => simp only [hx l (by rw [ho]; simp [Op.operands]), hx c (by rw [ho]; simp [Op.operands])]
    | slice t x lo hi mx =>
      have h1 := hx x (by rw [ho]; simp [Op.operands])
      have h2 : ∀ y, lo = some y → ev f y = ev f' y := fun y hy => hx y (by rw [ho]; simp [Op.operands, hy])
      have h3 : ∀ y, hi = some y → ev f y = ev f' y := fun y hy => hx y (by rw [ho]; simp [Op.operands, hy])
      have h4 : ∀ y, mx = some y → ev f y = ev f' y := fun y hy => hx y (by rw [ho]; simp [Op.operands, hy])
      have hd : adata P f o = adata P f' o := adata_congr hx (by rw [← execOp_actOf f']; exact congr_slice ho (by rw [ev_actOf]; exact h1.symm) (fun y hy => by rw [ev_actOf]; exact (h2 y hy).symm) (fun y hy => by rw [ev_actOf]; exact (h3 y hy).symm) (fun y hy => by rw [ev_actOf]; exact (h4 y hy).symm))
      simp only [h1, hd, optmap_ev h2, optmap_ev h3, optmap_ev h4]
    | fieldAddr t x g => simp only [hx x (by rw [ho]; simp [Op.operands])]
    | field t x g => simp only [hx x (by rw [ho]; simp [Op.operands])]
    | indexAddr t x i => simp only [hx x (by rw [ho]; simp [Op.operands]), hx i (by rw [ho]; simp [Op.operands])]
    | index t x i =>
      have h1 := hx x (by rw [ho]; simp [Op.operands])
      have h2 := hx i (by rw [ho]; simp [Op.operands])
      have hd : adata P f o = adata P f' o := adata_congr hx (by rw [← execOp_actOf f']; exact congr_index ho (by rw [ev_actOf]; exact h1.symm) (by rw [ev_actOf]; exact h2.symm))
      simp only [hd]
    | lookup t m k ok => simp only [hx m (by rw [ho]; simp [Op.operands]), hx k (by rw [ho]; simp [Op.operands])]
    | mapUpdate t m k x => simp only [hx m (by rw [ho]; simp [Op.operands]), hx k (by rw [ho]; simp [Op.operands]), hx x (by rw [ho]; simp [Op.operands])]
    | insert t m k x => simp only [hx m (by rw [ho]; simp [Op.operands]), hx k (by rw [ho]; simp [Op.operands]), hx x (by rw [ho]; simp [Op.operands])]
    | extract t i => simp only [hx t (by rw [ho]; simp [Op.operands])]
    | call c =>
      obtain ⟨callee, args, argTypes⟩ := c
      cases callee with
      | builtin b =>
        have h1 : ∀ x ∈ args, ev f x = ev f' x := fun x hm => hx x (by rw [ho]; simp [Op.operands, Call.operands, hm])
        have hd : adata P f o = adata P f' o := adata_congr hx (by rw [← execOp_actOf f']; exact congr_builtin ho (fun x hm => by rw [ev_actOf]; exact (h1 x hm).symm))
        simp only [abuiltin, mapL_ev h1, hd]
      | value g =>
        have h1 : ∀ x ∈ args, ev f x = ev f' x := fun x hm => hx x (by rw [ho]; simp [Op.operands, Call.operands, hm])
        have h2 := hx g (by rw [ho]; simp [Op.operands, Call.operands])
        simp only [mapL_ev h1, h2]
      | invoke r m => rfl
    | _ => rfl

/-! ### what each class hangs on -/
theorem cls_val {o : Oper} {st : AStep} (hc : cls P o.op ≠ .w) (hop : aop P fr h o = some st) : ∃ v h', st = .val v h' := by
  cases st with
  | val v h' => exact ⟨v, h', rfl⟩
  | call f args =>
    exfalso
    unfold aop at hop
    split at hop
    · cases hop
    · cases ho : o.op with
      | call c =>
        obtain ⟨callee, args', argTypes⟩ := c
        cases callee with
        | builtin b => simp only [ho] at hop; unfold abuiltin at hop; split at hop <;> simp [some1, some2] at hop
        | value g => simp [cls, ho] at hc
        | invoke r m => simp [ho] at hop
      | makeFunc fn x y => cases fn <;> simp [ho] at hop
      | makeMap t r => cases r <;> simp [ho] at hop
      | pick c x y => simp only [ho] at hop; split at hop <;> simp at hop
      | nilCheck x => simp only [ho] at hop; split at hop <;> simp at hop
      | slice t x lo hi mx => simp only [ho] at hop; split at hop <;> simp [some1] at hop
      | extract t i => simp only [ho] at hop; split at hop <;> simp [some1] at hop
      | _ => simp [ho, some1, some2, some3] at hop
  | round l args =>
    exfalso
    unfold aop at hop
    split at hop
    · cases hop
    · cases ho : o.op with
      | call c =>
        obtain ⟨callee, args', argTypes⟩ := c
        cases callee with
        | builtin b => simp only [ho] at hop; unfold abuiltin at hop; split at hop <;> simp [some1, some2] at hop
        | value g => simp [cls, ho] at hc
        | invoke r m => simp [ho] at hop
      | makeFunc fn x y => cases fn <;> simp [ho] at hop
      | makeMap t r => cases r <;> simp [ho] at hop
      | pick c x y => simp only [ho] at hop; split at hop <;> simp at hop
      | nilCheck x => simp only [ho] at hop; split at hop <;> simp at hop
      | slice t x lo hi mx => simp only [ho] at hop; split at hop <;> simp [some1] at hop
      | extract t i => simp only [ho] at hop; split at hop <;> simp [some1] at hop
      | _ => simp [ho, some1, some2, some3] at hop

theorem some1_any {x : Option Value} {v : Value} {h' : AHeap} (hb : some1 h x = some (.val v h')) : h' = h ∧ ∀ h2, some1 h2 x = some (.val v h2) := by
  simp only [some1, Option.map_eq_some_iff, AStep.val.injEq] at hb
  obtain ⟨_, rfl, rfl, rfl⟩ := hb
  exact ⟨rfl, fun h2 => rfl⟩

/-- Who reckons alone. -/
theorem aop_q {o : Oper} {v : Value} {h' : AHeap} (hc : cls P o.op = .q) (hop : aop P fr h o = some (.val v h')) : h' = h ∧ ∀ h2, aop P fr h2 o = some (.val v h2) := by
  unfold aop at hop ⊢
  split at hop
  · cases hop
  · rename_i hall
    simp only [hall, Bool.false_eq_true, if_false]
    cases ho : o.op with
    | move x => simp only [ho, Option.some.injEq, AStep.val.injEq] at hop ⊢; obtain ⟨rfl, rfl⟩ := hop; exact ⟨rfl, fun _ => by simp⟩
    | assign x => simp only [ho, Option.some.injEq, AStep.val.injEq] at hop ⊢; obtain ⟨rfl, rfl⟩ := hop; exact ⟨rfl, fun _ => by simp⟩
    | pick c x y =>
      simp only [ho] at hop ⊢
      split at hop
      · rename_i t ht
        simp only [Option.some.injEq, AStep.val.injEq] at hop
        obtain ⟨rfl, rfl⟩ := hop
        exact ⟨rfl, fun _ => by simp⟩
      · cases hop
    | build t parts => simp only [ho] at hop ⊢; exact some1_any hop
    | nilCheck x =>
      simp only [ho] at hop ⊢
      split at hop
      · rename_i ad hx
        simp only [Option.some.injEq, AStep.val.injEq] at hop
        obtain ⟨rfl, rfl⟩ := hop
        exact ⟨rfl, fun _ => by simp⟩
      · cases hop
    | binOp op t x y t' => simp only [ho] at hop ⊢; exact some1_any hop
    | unOp op t x => simp only [ho] at hop ⊢; exact some1_any hop
    | makeFunc fn x y =>
      cases fn with
      | func g => simp only [ho, Option.some.injEq, AStep.val.injEq] at hop ⊢; obtain ⟨rfl, rfl⟩ := hop; exact ⟨rfl, fun _ => by simp⟩
      | _ => simp [ho] at hop
    | fieldAddr t x g => simp only [ho] at hop ⊢; exact some1_any hop
    | field t x g => simp only [ho] at hop ⊢; exact some1_any hop
    | indexAddr t x i => simp only [ho] at hop ⊢; exact some1_any hop
    | index t x i => simp only [ho] at hop ⊢; exact some1_any hop
    | extract t i =>
      simp only [ho] at hop ⊢
      split at hop
      · rename_i vs hx
        have := some1_any hop
        exact ⟨this.1, fun h2 => this.2 h2⟩
      · cases hop
    | convert s d x =>
      simp only [ho] at hop ⊢
      have hx := some2_up hop
      simp only [cls, ho] at hc
      have key : ∀ h2, aconvert P h2 fr o s d (ev fr x) = (adata P fr o).map fun v => (v, h2) := by
        intro h2
        unfold aconvert
        split at hc <;> simp only [reduceCtorEq] at hc
        rename_i h2' h1
        split
        · rename_i e1 e2 _; exact (h1 _ e1 e2).elim
        · rename_i e1 e2 _; exact (h2' _ e1).elim
        · rename_i e1 e2 _; exact (h1 _ e1 e2).elim
        · rfl
      rw [key] at hx
      simp only [Option.map_eq_some_iff, Prod.mk.injEq] at hx
      obtain ⟨_, hd, rfl, rfl⟩ := hx
      exact ⟨rfl, fun h2 => by simp [key, hd, some2]⟩
    | call c =>
      obtain ⟨callee, args, argTypes⟩ := c
      cases callee with
      | builtin b =>
        simp only [ho] at hop ⊢
        simp only [cls, ho] at hc
        unfold abuiltin at hop ⊢
        split at hop
        · simp at hc
        · simp at hc
        · simp at hc
        · simp at hc
        · rename_i x hargs
          simp only at hc
          have hx := hop
          simp only [some1, Option.map_eq_some_iff, AStep.val.injEq] at hx
          obtain ⟨v₁, hl, rfl, rfl⟩ := hx
          refine ⟨rfl, fun h2 => ?_⟩
          have : alen P h2 argTypes x = some v₁ := by
            unfold alen at hl ⊢
            split at hl
            · rename_i t ht
              rw [ht] at hc
              simp only [Option.bind_some] at hc
              split at hl
              all_goals (first | exact hl | (rename_i hd; rw [hd] at hc; simp at hc; done) | cases hl)
            · cases hl
          simp only [this, some1, Option.map_some]
        · exact some1_any hop
        · exact some1_any hop
        · cases hop
      | value g => simp [cls, ho] at hc
      | invoke r m => simp [cls, ho] at hc
    | load t x => simp [cls, ho] at hc
    | lookup t m k ok => simp [cls, ho] at hc
    | slice t x lo hi mx => simp [cls, ho] at hc
    | alloc t => simp [cls, ho] at hc
    | box t x => simp [cls, ho] at hc
    | buildSlice t l p => simp [cls, ho] at hc
    | makeMap t r => simp [cls, ho] at hc
    | makeSlice t l c => simp [cls, ho] at hc
    | store t x y => simp [cls, ho] at hc
    | mapUpdate t m k x => simp [cls, ho] at hc
    | insert t m k x => simp [cls, ho] at hc
    | _ => simp [ho] at hop
end Go.Abs
