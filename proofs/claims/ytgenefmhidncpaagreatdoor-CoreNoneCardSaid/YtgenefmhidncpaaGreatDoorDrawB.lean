/- Operations that read one block; operations that make one. -/
import Derived.Test.YtgenefmhidncpaaGreatDoorDrawA
namespace Go.Abs
variable {P : Program} {h : AHeap} {fr : Fr}

def vblk : Value → Option Nat
  | .pointer (some a) => some a.block
  | .slice (some a) _ _ => some a.block
  | .map (some r) => some r
  | _ => none

def Reads (P : Program) (fr : Fr) (h : AHeap) (o : Oper) (v : Value) (x : Operand) : Prop :=
  (∀ b, vblk (ev fr x) = some b → (h.get b).alive = true) ∧ ∀ h2 : AHeap, (∀ b, vblk (ev fr x) = some b → h2.get b = h.get b) → aop P fr h2 o = some (.val v h2)

theorem aload_reads {t : TypeId} {x v : Value} (hl : aload P h t x = some v) : (∀ b, vblk x = some b → (h.get b).alive = true) ∧ ∀ h2 : AHeap, (∀ b, vblk x = some b → h2.get b = h.get b) → aload P h2 t x = some v := by
  unfold aload at hl
  split at hl
  · rename_i b o
    split at hl
    · rename_i c e opn ro hb
      refine ⟨fun b' hb' => by simp only [vblk, Option.some.injEq] at hb'; subst hb'; rw [hb]; rfl, fun h2 h2e => ?_⟩
      simp only [aload, h2e b rfl, hb]
      exact hl
    · cases hl
  · cases hl

theorem acells_reads {n : Nat} {a : Addr} {vs : List Value} (hl : acells h n a = some vs) : (h.get a.block).alive = true ∧ ∀ h2 : AHeap, h2.get a.block = h.get a.block → acells h2 n a = some vs := by
  obtain ⟨b, o, c, e, opn, ro, rfl, hb, hle, rfl⟩ := acells_block hl
  exact ⟨by simp only [hb]; rfl, fun h2 h2e => by simp only at h2e; simp [acells, h2e, hb, hle]⟩

theorem aop_r {o : Oper} {v : Value} {h' : AHeap} (hc : cls P o.op = .r) (hop : aop P fr h o = some (.val v h')) : h' = h ∧ ∃ x, x ∈ o.op.operands ∧ Reads P fr h o v x := by
  have hop' := hop
  unfold aop at hop
  split at hop
  · cases hop
  · rename_i hall
    have hgo : ∀ h2, aop P fr h2 o = (match o.op with
        | .load t a => some1 h2 (aload P h2 t (ev fr a))
        | .convert s d x => some2 (aconvert P h2 fr o s d (ev fr x))
        | .slice t x lo hi mx => (match ev fr x with
          | .string _ => some1 h2 (adata P fr o)
          | v => some1 h2 (aslice P h2 t v (lo.map (ev fr)) (hi.map (ev fr)) (mx.map (ev fr))))
        | .lookup t m k ok => some1 h2 (alookup P h2 t (ev fr m) (ev fr k) ok)
        | .call { callee := .builtin b, args, argTypes } => abuiltin P fr h2 o b argTypes (args.toList.map (ev fr))
        | _ => aop P fr h2 o) := by
      intro h2
      unfold aop
      rw [if_neg hall]
      cases ho : o.op with
      | call c => obtain ⟨callee, args, argTypes⟩ := c; cases callee <;> rfl
      | _ => rfl
    cases ho : o.op with
    | load t x =>
      simp only [ho] at hop hgo
      have hx := hop
      simp only [some1, Option.map_eq_some_iff, AStep.val.injEq] at hx
      obtain ⟨v₁, hl, rfl, rfl⟩ := hx
      refine ⟨rfl, x, by simp [Op.operands], (aload_reads hl).1, fun h2 h2e => ?_⟩
      rw [hgo, (aload_reads hl).2 h2 h2e]; rfl
    | lookup t m k ok =>
      simp only [ho] at hop hgo
      have hx := hop
      simp only [some1, Option.map_eq_some_iff, AStep.val.injEq] at hx
      obtain ⟨v₁, hl, rfl, rfl⟩ := hx
      have key : (∀ b, vblk (ev fr m) = some b → (h.get b).alive = true) ∧ ∀ h2 : AHeap, (∀ b, vblk (ev fr m) = some b → h2.get b = h.get b) → alookup P h2 t (ev fr m) (ev fr k) ok = some v₁ := by
        generalize ev fr m = mv at hl
        unfold alookup at hl
        split at hl
        · rename_i kt et hd
          simp only at hl
          cases mv with
          | map r =>
            cases r with
            | none => exact ⟨fun b hb => by simp [vblk] at hb, fun h2 _ => by simp only [alookup, hd]; exact hl⟩
            | some r =>
              simp only at hl
              cases hb : h.get r with
              | map es =>
                rw [hb] at hl
                refine ⟨fun b' hb' => by simp only [vblk, Option.some.injEq] at hb'; subst hb'; rw [hb]; rfl, fun h2 h2e => ?_⟩
                simp only [alookup, hd, h2e r rfl, hb]
                exact hl
              | _ => rw [hb] at hl; simp at hl
          | _ => simp at hl
        · cases hl
      refine ⟨rfl, m, by simp [Op.operands], key.1, fun h2 h2e => ?_⟩
      rw [hgo, key.2 h2 h2e]; rfl
    | slice t x lo hi mx =>
      simp only [ho] at hop hgo
      refine ⟨?_, x, by simp [Op.operands], ?_⟩
      · split at hop <;> exact some1_up hop
      · split at hop
        · rename_i s hxs
          have := some1_any hop
          refine ⟨fun b hb => by rw [hxs] at hb; simp [vblk] at hb, fun h2 _ => ?_⟩
          rw [hgo, hxs]
          exact this.2 h2
        · rename_i hns
          have hx := hop
          simp only [some1, Option.map_eq_some_iff, AStep.val.injEq] at hx
          obtain ⟨v₁, hl, rfl, rfl⟩ := hx
          have key : (∀ b, vblk (ev fr x) = some b → (h.get b).alive = true) ∧ ∀ h2 : AHeap, (∀ b, vblk (ev fr x) = some b → h2.get b = h.get b) → aslice P h2 t (ev fr x) (lo.map (ev fr)) (hi.map (ev fr)) (mx.map (ev fr)) = some v₁ := by
            generalize ev fr x = xv at hl
            unfold aslice at hl
            split at hl
            · rename_i elem ad len cap lo₁ hi₁ mx₁ hd h1 h2 h3
              simp only at hl
              split at hl
              · rename_i hcnd
                cases ad with
                | none => exact ⟨fun b hb => by simp [vblk] at hb, fun h2' _ => by simp only [aslice, hd, h1, h2, h3]; rw [if_pos hcnd]; exact hl⟩
                | some ad =>
                  obtain ⟨b, o₁, s⟩ := ad
                  cases s with
                  | some s => simp at hl
                  | none =>
                    simp only at hl
                    cases hb : h.get b with
                    | cells c e opn ro =>
                      rw [hb] at hl
                      refine ⟨fun b' hb' => by simp only [vblk, Option.some.injEq] at hb'; subst hb'; rw [hb]; rfl, fun h2' h2e => ?_⟩
                      simp only [aslice, hd, h1, h2, h3, h2e b rfl, hb]
                      rw [if_pos hcnd]
                      exact hl
                    | _ => rw [hb] at hl; simp at hl
              · cases hl
            · cases hl
          refine ⟨key.1, fun h2 h2e => ?_⟩
          rw [hgo]
          split
          · rename_i s hxs; exact absurd hxs (hns s)
          · rw [key.2 h2 h2e]; rfl
    | convert s d x =>
      simp only [ho] at hop hgo
      have hx := some2_up hop
      simp only [cls, ho] at hc
      have key : h' = h ∧ (∀ b, vblk (ev fr x) = some b → (h.get b).alive = true) ∧ ∀ h2 : AHeap, (∀ b, vblk (ev fr x) = some b → h2.get b = h.get b) → aconvert P h2 fr o s d (ev fr x) = some (v, h2) := by
        have hev : vdata (ev fr x) = true → ∀ b, vblk (ev fr x) = some b → False := fun hd b hb => by
          generalize ev fr x = xv at hd hb
          cases xv <;> simp [vblk] at hb
          all_goals (rename_i a; cases a <;> simp_all [vdata])
        unfold aconvert at hx
        split at hx
        · rename_i e str h1 h2 h3
          rw [h1, h2] at hc; simp at hc
        · rename_i e ad len cap h1 h2 h3
          simp only [aconvert, h1, h2, h3]
          split at hx
          · rename_i he
            split at hx
            · cases hx
              refine ⟨rfl, fun b hb => by simp [vblk] at hb, fun h2' _ => by simp⟩
            · rename_i ad₀
              split at hx
              · rename_i vs hvs
                simp only [Option.map_eq_some_iff, Prod.mk.injEq] at hx
                obtain ⟨bs, hbs, rfl, rfl⟩ := hx
                obtain ⟨k1, k2⟩ := acells_reads hvs
                refine ⟨rfl, fun b hb => by simp only [vblk, Option.some.injEq] at hb; subst hb; exact k1, fun h2' h2e => ?_⟩
                simp only [k2 h2' (h2e _ rfl), hbs, Option.map_some]
              · cases hx
          · cases hx
        · cases hx
        · rename_i h1 h2 h3
          simp only [Option.map_eq_some_iff, Prod.mk.injEq] at hx
          obtain ⟨v₁, hd, rfl, rfl⟩ := hx
          have hdx := hev (adata_ops hd (x := x) (by rw [ho]; simp [Op.operands]))
          refine ⟨rfl, fun b hb => (hdx b hb).elim, fun h2' _ => ?_⟩
          unfold aconvert
          split
          · rename_i e1 e2 e3; exact (h2 _ _ e1 e2 e3).elim
          · rename_i e1 e2 e3; exact (h3 _ _ _ _ e1 e2 e3).elim
          · rename_i e1 e2 _; exact (h1 _ e1 e2).elim
          · rw [hd]; rfl
      obtain ⟨rfl, k1, k2⟩ := key
      refine ⟨rfl, x, by simp [Op.operands], k1, fun h2 h2e => ?_⟩
      rw [hgo, k2 h2 h2e]; rfl
    | call c =>
      obtain ⟨callee, args, argTypes⟩ := c
      cases callee with
      | builtin b =>
        simp only [ho] at hop hgo
        simp only [cls, ho] at hc
        have hargs1 : ∀ {y : Value}, args.toList.map (ev fr) = [y] → ∃ x, x ∈ args ∧ ev fr x = y := by
          intro y hy
          cases hl : args.toList with
          | nil => rw [hl] at hy; simp at hy
          | cons x xs =>
            rw [hl] at hy
            simp only [List.map_cons, List.cons.injEq] at hy
            exact ⟨x, Array.mem_toList_iff.1 (by rw [hl]; simp), hy.1⟩
        have hop2 := hop
        unfold abuiltin at hop2
        split at hop2
        · simp at hc
        · rename_i y hy
          obtain ⟨x, hxm, rfl⟩ := hargs1 hy
          simp only [some1, Option.map_eq_some_iff, AStep.val.injEq] at hop2
          obtain ⟨v₁, hl, rfl, rfl⟩ := hop2
          refine ⟨rfl, x, by simp [Op.operands, Call.operands, hxm], ?_⟩
          have key : (∀ b, vblk (ev fr x) = some b → (h.get b).alive = true) ∧ ∀ h2 : AHeap, (∀ b, vblk (ev fr x) = some b → h2.get b = h.get b) → acap P h2 argTypes (ev fr x) = some v₁ := by
            generalize ev fr x = xv at hl
            unfold acap at hl
            split at hl
            · rename_i t ht
              split at hl
              · rename_i hd
                exact ⟨fun b hb => by simp [vblk] at hb, fun h2 _ => by simp only [acap, ht, hd]; exact hl⟩
              · rename_i e b o₁ n c hd
                split at hl
                · rename_i hb
                  refine ⟨fun b' hb' => by simp only [vblk, Option.some.injEq] at hb'; subst hb'; rw [hb]; rfl, fun h2 h2e => ?_⟩
                  simp only [acap, ht, hd, h2e b rfl, hb]
                  exact hl
                · cases hl
              · cases hl
            · cases hl
          refine ⟨key.1, fun h2 h2e => ?_⟩
          rw [hgo]
          unfold abuiltin
          simp only [hy, key.2 h2 h2e, some1, Option.map_some]
        · simp at hc
        · simp at hc
        · rename_i y hy
          obtain ⟨x, hxm, rfl⟩ := hargs1 hy
          simp only [some1, Option.map_eq_some_iff, AStep.val.injEq] at hop2
          obtain ⟨v₁, hl, rfl, rfl⟩ := hop2
          refine ⟨rfl, x, by simp [Op.operands, Call.operands, hxm], ?_⟩
          have key : (∀ b, vblk (ev fr x) = some b → (h.get b).alive = true) ∧ ∀ h2 : AHeap, (∀ b, vblk (ev fr x) = some b → h2.get b = h.get b) → alen P h2 argTypes (ev fr x) = some v₁ := by
            unfold alen at hl
            split at hl
            · rename_i t ht
              rw [ht] at hc
              simp only [Option.bind_some] at hc
              split at hc
              · rename_i k e hd
                rw [hd] at hl
                generalize ev fr x = xv at hl
                cases xv with
                | map r =>
                  cases r with
                  | none => exact ⟨fun b hb => by simp [vblk] at hb, fun h2 _ => by simp only [alen, ht, hd]; exact hl⟩
                  | some r =>
                    simp only at hl
                    cases hb : h.get r with
                    | map es =>
                      rw [hb] at hl
                      refine ⟨fun b' hb' => by simp only [vblk, Option.some.injEq] at hb'; subst hb'; rw [hb]; rfl, fun h2 h2e => ?_⟩
                      simp only [alen, ht, hd, h2e r rfl, hb]
                      exact hl
                    | _ => rw [hb] at hl; simp at hl
                | _ => simp at hl
              · cases hc
            · cases hl
          refine ⟨key.1, fun h2 h2e => ?_⟩
          rw [hgo]
          unfold abuiltin
          simp only [hy, key.2 h2 h2e, some1, Option.map_some]
        · simp at hc
        · simp at hc
        · cases hop2
      | value g => simp [cls, ho] at hc
      | invoke r m => simp [cls, ho] at hc
    | _ => simp [cls, ho] at hc

theorem aop_n {o : Oper} {v : Value} {h' : AHeap} (hc : cls P o.op = .n) (hop : aop P fr h o = some (.val v h')) : ∃ ob, ob.alive = true ∧ h' = h.push ob ∧ aop P fr (AHeap.emptyAt h.next) o = some (.val v ((AHeap.emptyAt h.next).push ob)) := by
  unfold aop at hop ⊢
  split at hop
  · cases hop
  · rename_i hall
    rw [if_neg hall]
    cases ho : o.op with
    | alloc t =>
      simp only [ho, Option.map_eq_some_iff, AStep.val.injEq] at hop
      obtain ⟨z, hz, rfl, rfl⟩ := hop
      exact ⟨_, rfl, rfl, by simp [hz, AHeap.emptyAt]⟩
    | box t x =>
      simp only [ho, Option.some.injEq, AStep.val.injEq] at hop
      obtain ⟨rfl, rfl⟩ := hop
      exact ⟨_, rfl, rfl, by simp [AHeap.emptyAt]⟩
    | buildSlice t len parts =>
      simp only [ho] at hop
      have hx := some2_up hop
      unfold abuildSlice at hx
      split at hx
      · rename_i e hd
        split at hx
        · rename_i i z hi hz
          split at hx
          · cases hx
          · rename_i hb
            split at hx
            · rename_i cells hf
              cases hx
              refine ⟨_, rfl, rfl, ?_⟩
              simp only [abuildSlice, hd, hi, hz, hf]
              rw [if_neg hb]
              simp [some2, AHeap.emptyAt]
            · cases hx
        · cases hx
      · cases hx
    | makeMap t r =>
      cases r with
      | none =>
        simp only [ho, Option.some.injEq, AStep.val.injEq] at hop
        obtain ⟨rfl, rfl⟩ := hop
        exact ⟨_, rfl, rfl, by simp [AHeap.emptyAt]⟩
      | some r => simp [ho] at hop
    | makeSlice t l c =>
      simp only [ho] at hop
      have hx := some2_up hop
      unfold amakeSlice at hx
      split at hx
      · rename_i e ln cn hd hl hcn
        split at hx
        · rename_i i z hi hz
          split at hx
          · rename_i hb
            cases hx
            refine ⟨_, rfl, rfl, ?_⟩
            simp only [amakeSlice, hd, hl, hcn, hi, hz]
            rw [if_pos hb]
            simp [some2, AHeap.emptyAt]
          · cases hx
        · cases hx
      · cases hx
    | convert s d x =>
      simp only [ho] at hop
      have hx := some2_up hop
      simp only [cls, ho] at hc
      split at hc
      · rename_i e h1 h2
        unfold aconvert at hx
        rw [h1, h2] at hx
        split at hx
        · rename_i e' str _ e2 hv
          cases e2
          split at hx
          · rename_i he
            split at hx
            · rename_i hs
              cases hx
              refine ⟨_, rfl, rfl, ?_⟩
              simp only [aconvert, h1, h2, hv, he]
              rw [if_pos hs]
              simp [some2, AHeap.emptyAt]
            · cases hx
          · cases hx
        · rename_i e1 _ _; cases e1
        · cases hx
        · rename_i n1 n2 n3
          exact (n1 _ rfl rfl).elim
      · cases hc
      · cases hc
    | call c =>
      obtain ⟨callee, args, argTypes⟩ := c
      cases callee with
      | builtin b => cases b <;> simp [cls, ho] at hc; split at hc <;> simp at hc
      | value g => simp [cls, ho] at hc
      | invoke r m => simp [cls, ho] at hc
    | _ => simp [cls, ho] at hc
end Go.Abs
