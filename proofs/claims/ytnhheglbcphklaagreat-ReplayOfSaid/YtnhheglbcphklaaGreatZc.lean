/- The texts of the proof, part 3, in order. -/
import Derived.Test.YtnhheglbcphklaaGreatZb
import Derived.Orders
import Derived.Lib.SliceRun
import Derived.SizedLaws
import Derived.ChangeArms
import Derived.ChangeSlices
import Derived.Test.YtnhheglbcphklaaGreatProg
import Derived.KernelRfl
import Derived.Test.YtnhheglbcphklaaGreatShelf
import Derived.Tactics
import Derived.WalkKit
import Derived.Lib.Strings
import Derived.Lib.Walk
import Derived.Lib.Builder
import Derived.Lib.UnsafeStr
import Derived.Laws.Externs
import Derived.Lib.Hide
import Derived.WalkSpells
import Derived.Below
import Derived.Laws.RangeString
import Derived.Laws.RangeAny
/- Regions that draw their order: what an operation hangs on, and what it leaves alone. -/
set_option linter.unusedVariables false
set_option linter.unusedSimpArgs false
namespace Go.Rx

section
variable {P : Program} {T : Tab}

/-! ### Blocks behind an operation -/
/-- Nothing that is known has turned; something may stay as it is from now on. -/
def Ext (bk bk' : List Blk) : Prop := ∀ (b : Nat) (B : Blk), bk[b]? = some B → ∃ B', bk'[b]? = some B' ∧ (B' = B ∨ frzB B = some B')
/-- The rows are as long as they were. -/
def Sim (bk bk' : List Blk) : Prop := ∀ b sz rows, rowsOf bk b = some (sz, rows) → ∃ rows', rowsOf bk' b = some (sz, rows') ∧ rows'.length = rows.length
theorem Ext.refl (bk : List Blk) : Ext bk bk := fun b B h => ⟨B, h, .inl rfl⟩
theorem frzB_frzB {B B' B'' : Blk} (h : frzB B = some B') (k : frzB B' = some B'') : B'' = B' := by
  cases B <;> simp [frzB] at h
  case var cells => obtain ⟨l, _, rfl⟩ := h; simp [frzB] at k; exact k.symm
  all_goals (subst h; simp [frzB] at k; exact k.symm)
theorem Ext.trans {a b c : List Blk} (h : Ext a b) (k : Ext b c) : Ext a c := fun i B hB => by
  obtain ⟨B1, h1, h2⟩ := h i B hB
  obtain ⟨B2, h3, h4⟩ := k i B1 h1
  refine ⟨B2, h3, ?_⟩
  rcases h2 with rfl | h2
  · exact h4
  · rcases h4 with rfl | h4
    · exact .inr h2
    · rw [frzB_frzB h2 h4]; exact .inr h2
/-- What is in variables has not turned; it may stay as it is from now on. -/
def Far (bk bk' : List Blk) : Prop := ∀ (b : Nat) (B : Blk), bk[b]? = some B → ((∃ c, B = .var c) ∨ ∃ c, B = .frv c) → ∃ B', bk'[b]? = some B' ∧ (B' = B ∨ frzB B = some B')
theorem Ext.far {a b : List Blk} (h : Ext a b) : Far a b := fun i B hB _ => h i B hB
theorem Far.refl (bk : List Blk) : Far bk bk := (Ext.refl bk).far
theorem Far.trans {a b c : List Blk} (h : Far a b) (k : Far b c) : Far a c := fun i B hB hv => by
  obtain ⟨B1, h1, h2⟩ := h i B hB hv
  have hv1 : (∃ c, B1 = .var c) ∨ ∃ c, B1 = .frv c := by
    rcases h2 with rfl | h2
    · exact hv
    · rcases hv with ⟨c, rfl⟩ | ⟨c, rfl⟩
      · simp only [frzB, Option.map_eq_some_iff] at h2
        obtain ⟨l, _, rfl⟩ := h2
        exact .inr ⟨l, rfl⟩
      · simp only [frzB, Option.some.injEq] at h2
        exact .inr ⟨c, h2.symm⟩
  obtain ⟨B2, h3, h4⟩ := k i B1 h1 hv1
  refine ⟨B2, h3, ?_⟩
  rcases h2 with rfl | h2
  · exact h4
  · rcases h4 with rfl | h4
    · exact .inr h2
    · rw [frzB_frzB h2 h4]; exact .inr h2
theorem Far.arr {bk : List Blk} {b e sz : Nat} {rows : List (List PV)} (h : bk[b]? = some (.arr e sz rows)) (B : Blk) : Far bk (bk.set b B) := fun i X hX hv => by
  by_cases e : i = b
  · subst e
    rw [h] at hX
    cases hX
    rcases hv with ⟨c, hc⟩ | ⟨c, hc⟩ <;> cases hc
  · exact ⟨X, by rw [List.getElem?_set_ne (Ne.symm e)]; exact hX, .inl rfl⟩
theorem Ext.append (bk l : List Blk) : Ext bk (bk ++ l) := fun b B h => ⟨B, by rw [List.getElem?_append_left (List.getElem?_eq_some_iff.1 h).1]; exact h, .inl rfl⟩
theorem Ext.frz {bk : List Blk} {b : Nat} {B B' : Blk} (h : bk[b]? = some B) (k : frzB B = some B') : Ext bk (bk.set b B') := fun i X hX => by
  by_cases e : i = b
  · subst e
    rw [h] at hX
    cases hX
    exact ⟨B', List.getElem?_set_self (List.getElem?_eq_some_iff.1 h).1, .inr k⟩
  · exact ⟨X, by rw [List.getElem?_set_ne (Ne.symm e)]; exact hX, .inl rfl⟩
theorem Ext.rows {bk bk' : List Blk} (h : Ext bk bk') {b : Nat} {x : Nat × List (List PV)} (hr : rowsOf bk b = some x) : rowsOf bk' b = some x := by
  unfold rowsOf at *
  cases hb : bk[b]? with
  | none => rw [hb] at hr; cases hr
  | some B =>
    obtain ⟨B', h1, h2⟩ := h b B hb
    rw [hb] at hr
    rw [h1]
    rcases h2 with rfl | h2
    · exact hr
    · cases B <;> simp [frzB] at h2 <;> first | (subst h2; exact hr) | (obtain ⟨l, _, rfl⟩ := h2; cases hr)
theorem Ext.sim {bk bk' : List Blk} (h : Ext bk bk') : Sim bk bk' := fun b sz rows hr => ⟨rows, h.rows hr, rfl⟩
theorem Sim.refl (bk : List Blk) : Sim bk bk := fun _ _ rows h => ⟨rows, h, rfl⟩

theorem pvK_ext {bk : List Blk} {l : Lf} {K : List Blk → PV → Prop} (hh : pvK bk l K) : ∃ b p, Ext bk b ∧ K b p ∧ ∀ K' : List Blk → PV → Prop, K' b p → pvK bk l K' := by
  cases l with
  | pv p => exact ⟨bk, p, Ext.refl _, hh, fun _ h => h⟩
  | own b len =>
    simp only [pvK] at hh ⊢
    cases hb : bk[b]? with
    | none => rw [hb] at hh; exact hh.elim
    | some B =>
      rw [hb] at hh
      cases B with
      | arr e sz rows => exact ⟨_, _, Ext.frz hb rfl, hh.2, fun _ h => ⟨hh.1, h⟩⟩
      | frz sz rows => exact ⟨_, _, Ext.refl _, hh.2, fun _ h => ⟨hh.1, h⟩⟩
      | _ => exact hh.elim
  | view b n k =>
    simp only [pvK] at hh ⊢
    cases hb : bk[b]? with
    | none => rw [hb] at hh; exact hh.elim
    | some B =>
      rw [hb] at hh
      cases B with
      | arr e sz rows => exact ⟨_, _, Ext.frz hb rfl, hh.2, fun _ h => ⟨hh.1, h⟩⟩
      | frz sz rows => exact ⟨_, _, Ext.refl _, hh.2, fun _ h => ⟨hh.1, h⟩⟩
      | _ => exact hh.elim
  | _ => exact hh.elim
theorem pvsK_ext : ∀ {ls : List Lf} {bk : List Blk} {K : List Blk → List PV → Prop}, pvsK bk ls K → ∃ b ps, Ext bk b ∧ K b ps ∧ ∀ K' : List Blk → List PV → Prop, K' b ps → pvsK bk ls K'
  | [], bk, K, h => ⟨bk, [], Ext.refl _, h, fun _ h => h⟩
  | l :: ls, bk, K, h => by
    obtain ⟨b1, p, e1, h1, k1⟩ := pvK_ext h
    obtain ⟨b2, ps, e2, h2, k2⟩ := pvsK_ext h1
    exact ⟨b2, p :: ps, e1.trans e2, h2, fun K' h' => k1 _ (k2 _ h')⟩
theorem argL_ext {bk : List Blk} {l : Lf} {K : List Blk → Lf → Prop} (hh : argL bk l K) : ∃ b p, Ext bk b ∧ K b p ∧ ∀ K' : List Blk → Lf → Prop, K' b p → argL bk l K' := by
  cases l with
  | pv p => exact ⟨bk, _, Ext.refl _, hh, fun _ h => h⟩
  | ro p => exact ⟨bk, _, Ext.refl _, hh, fun _ h => h⟩
  | fn f c => exact ⟨bk, _, Ext.refl _, hh, fun _ h => h⟩
  | bad b t => exact hh.elim
  | frs b q => exact hh.elim
  | bnd f b off => exact hh.elim
  | own b len =>
    simp only [argL] at hh ⊢
    obtain ⟨b1, p, e1, h1, k1⟩ := pvK_ext hh
    exact ⟨b1, .pv p, e1, h1, fun K' h' => k1 (fun bk p => K' bk (.pv p)) h'⟩
  | view b n k =>
    simp only [argL] at hh ⊢
    obtain ⟨b1, p, e1, h1, k1⟩ := pvK_ext hh
    exact ⟨b1, .pv p, e1, h1, fun K' h' => k1 (fun bk p => K' bk (.pv p)) h'⟩
  | ptr b off =>
    simp only [argL] at hh ⊢
    cases hb : bk[b]? with
    | none => rw [hb] at hh; exact hh.elim
    | some B =>
      rw [hb] at hh
      cases B with
      | var cells =>
        simp only at hh ⊢
        cases hq : cells.mapM pvOf with
        | none => rw [hq] at hh; exact hh.elim
        | some ps => rw [hq] at hh; exact ⟨_, _, Ext.frz hb (by simp [frzB, hq]), hh, fun _ h => h⟩
      | frv ps => exact ⟨_, _, Ext.refl _, hh, fun _ h => h⟩
      | _ => exact hh.elim
  | ept b n i sz off => exact hh.elim
theorem argLs_ext : ∀ {ls : List Lf} {bk : List Blk} {K : List Blk → List Lf → Prop}, argLs bk ls K → ∃ b ps, Ext bk b ∧ K b ps ∧ ∀ K' : List Blk → List Lf → Prop, K' b ps → argLs bk ls K'
  | [], bk, K, h => ⟨bk, [], Ext.refl _, h, fun _ h => h⟩
  | l :: ls, bk, K, h => by
    obtain ⟨b1, p, e1, h1, k1⟩ := argL_ext h
    obtain ⟨b2, ps, e2, h2, k2⟩ := argLs_ext h1
    exact ⟨b2, p :: ps, e1.trans e2, h2, fun K' h' => k1 _ (k2 _ h')⟩
theorem argA_ext {bk : List Blk} {x : AV} {K : List Blk → AV → Prop} (hh : argA bk x K) : ∃ b p, Ext bk b ∧ K b p ∧ ∀ K' : List Blk → AV → Prop, K' b p → argA bk x K' := by
  cases x with
  | lf l =>
    simp only [argA] at hh ⊢
    obtain ⟨b1, p, e1, h1, k1⟩ := argL_ext hh
    exact ⟨b1, .lf p, e1, h1, fun K' h' => k1 (fun bk p => K' bk (.lf p)) h'⟩
  | agg ls =>
    simp only [argA] at hh ⊢
    obtain ⟨b1, p, e1, h1, k1⟩ := argLs_ext hh
    exact ⟨b1, .agg p, e1, h1, fun K' h' => k1 (fun bk p => K' bk (.agg p)) h'⟩
  | _ => exact hh.elim
theorem argsK_ext : ∀ {xs : List AV} {bk : List Blk} {K : List Blk → List AV → Prop}, argsK bk xs K → ∃ b ps, Ext bk b ∧ K b ps ∧ ∀ K' : List Blk → List AV → Prop, K' b ps → argsK bk xs K'
  | [], bk, K, h => ⟨bk, [], Ext.refl _, h, fun _ h => h⟩
  | x :: xs, bk, K, h => by
    obtain ⟨b1, p, e1, h1, k1⟩ := argA_ext h
    obtain ⟨b2, ps, e2, h2, k2⟩ := argsK_ext h1
    exact ⟨b2, p :: ps, e1.trans e2, h2, fun K' h' => k1 _ (k2 _ h')⟩

theorem loadR_came {ty : Ty} {u : Value} {bk : List Blk} {K : AV → Prop} (h : loadR ty u bk K) : ∃ x, K x ∧ (∀ K' : AV → Prop, K' x → loadR ty u bk K') ∧ ∀ bk', Ext bk bk' → ∀ K' : AV → Prop, K' x → loadR ty u bk' K' := by
  unfold loadR at *
  split at h
  · rename_i g o
    obtain ⟨b, hh, e, cur, hb, hg, hl, h1, hk⟩ := h
    refine ⟨_, hk, fun K' k => ⟨b, hh, e, cur, hb, hg, hl, h1, k⟩, fun bk' he K' k => ?_⟩
    obtain ⟨B', k1, k2⟩ := he b _ hb
    have : B' = .reg hh := by
      rcases k2 with rfl | k2
      · rfl
      · simp [frzB] at k2
    subst this
    exact ⟨b, hh, e, cur, k1, hg, hl, h1, k⟩
  · exact h.elim
theorem loadK_came {t : TypeId} {p : AV} {bk : List Blk} {K : AV → Prop} (h : loadK T t p bk K) : ∃ x, K x ∧ (∀ K' : AV → Prop, K' x → loadK T t p bk K') ∧ ∀ bk', Ext bk bk' → ∀ K' : AV → Prop, K' x → loadK T t p bk' K' := by
  unfold loadK at *
  cases ht : T.find t with
  | none => rw [ht] at h; exact h.elim
  | some ty =>
    rw [ht] at h
    simp only at h ⊢
    cases p with
    | lf l =>
      cases l with
      | ptr b off =>
        simp only at h ⊢
        cases hb : bk[b]? with
        | none => rw [hb] at h; exact h.elim
        | some B =>
          rw [hb] at h
          cases B with
          | var cells =>
            simp only at h ⊢
            cases hc : (Nat.ble (off + ty.size) cells.length && (ty.d.agg || Nat.beq ty.size 1)) with
            | false => rw [hc] at h; exact h.elim
            | true =>
              rw [hc] at h
              refine ⟨_, h, fun _ h => h, fun bk' he K' hk => ?_⟩
              obtain ⟨B', h1, h2⟩ := he b _ hb
              rw [h1]
              rcases h2 with rfl | h2
              · simp only [hc]; exact hk
              · simp only [frzB, Option.map_eq_some_iff] at h2
                obtain ⟨ps, h3, rfl⟩ := h2
                have := mapM_pv h3
                subst this
                rw [List.length_map] at hc
                simp only [hc, cond_true, ← List.map_drop, ← List.map_take] at hk ⊢
                exact hk
          | frv cells =>
            simp only at h ⊢
            cases hc : (Nat.ble (off + ty.size) cells.length && (ty.d.agg || Nat.beq ty.size 1)) with
            | false => rw [hc] at h; exact h.elim
            | true =>
              rw [hc] at h
              refine ⟨_, h, fun _ h => h, fun bk' he K' hk => ?_⟩
              obtain ⟨B', h1, h2⟩ := he b _ hb
              rw [h1]
              have : B' = .frv cells := by
                rcases h2 with rfl | h2
                · rfl
                · simp [frzB] at h2; exact h2.symm
              subst this
              simp only [hc]
              exact hk
          | _ => exact h.elim
      | ro l =>
        simp only at h ⊢
        cases hc : (Nat.ble ty.size l.length && (ty.d.agg || Nat.beq ty.size 1)) with
        | false => rw [hc] at h; exact h.elim
        | true => rw [hc] at h; exact ⟨_, h, fun _ h => h, fun _ _ _ h => h⟩
      | ept b n i sz off =>
        simp only at h ⊢
        cases hr : rowsOf bk b with
        | none => rw [hr] at h; exact h.elim
        | some x =>
          obtain ⟨sz', rows⟩ := x
          rw [hr] at h
          obtain ⟨h1, h2, r, h3, h4⟩ := h
          cases hc : (Nat.ble (off + ty.size) r.length && (ty.d.agg || Nat.beq ty.size 1)) with
          | false => rw [hc] at h4; exact h4.elim
          | true =>
            rw [hc] at h4
            refine ⟨_, h4, fun _ h => ⟨h1, h2, r, h3, by rw [hc]; exact h⟩, fun bk' he K' hk => ?_⟩
            rw [he.rows hr]
            exact ⟨h1, h2, r, h3, by rw [hc]; exact hk⟩
      | pv p =>
        cases p with
        | sc u => exact loadR_came h
        | _ => exact h.elim
      | _ => exact h.elim
    | _ => exact h.elim
theorem binK_came {op : BinOp} {t : TypeId} {x y : AV} {K : AV → Prop} (h : binK T op t x y K) : ∃ z, K z ∧ ∀ K' : AV → Prop, K' z → binK T op t x y K' := by
  unfold binK at *
  split at h
  · rename_i u v
    cases hv : vBin op u v with
    | some z =>
      rw [hv] at h
      simp only at h ⊢
      cases hc : (tyB T t u) with
      | false => rw [hc] at h; exact h.elim
      | true => rw [hc] at h; exact ⟨_, h, fun _ h => h⟩
    | none =>
      rw [hv] at h
      simp only at h ⊢
      unfold binX at *
      split at h
      · exact ⟨_, h.2, fun _ k => ⟨h.1, k⟩⟩
      · exact ⟨_, h.2.2.2, fun _ k => ⟨h.1, h.2.1, h.2.2.1, k⟩⟩
      · rcases h with h | h
        · exact ⟨_, h.2.2.2, fun _ k => .inl ⟨h.1, h.2.1, h.2.2.1, k⟩⟩
        · exact ⟨_, h.2, fun _ k => .inr ⟨h.1, k⟩⟩
      · exact ⟨_, h.2.2, fun _ k => ⟨h.1, h.2.1, k⟩⟩
      · exact ⟨_, h.2, fun _ k => ⟨h.1, k⟩⟩
      · exact ⟨_, h.2, fun _ k => ⟨h.1, k⟩⟩
      · exact ⟨_, h.2, fun _ k => ⟨h.1, k⟩⟩
      · exact ⟨_, h.2, fun _ k => ⟨h.1, k⟩⟩
      · exact h.elim
  · rename_i ls ms
    split at h
    · rename_i fs a b c ht
      cases hr : eqFs T 0 fs ls ms with
      | none => rw [hr] at h; exact h.elim
      | some r =>
        rw [hr] at h
        simp only at h ⊢
        cases op <;> first | exact h.elim | exact ⟨_, h, fun _ h => h⟩
    · exact h.elim
  · exact h.elim

/-- Operations whose value hangs on no memory (beyond how long rows are); that read memory; that leave all that is known alone; that store. -/
def qN (T : Tab) : Op → Bool
  | .move _ | .assign _ | .pick _ _ _ | .build _ _ | .binOp _ _ _ _ _ | .unOp _ _ _ | .extract _ _ | .fieldAddr _ _ _ | .nilCheck _ | .index _ _ _ => true
  | .convert s d _ => (intKind T s).isSome || (isStr T s && isStr T d)
  | _ => false
def qR (T : Tab) : Op → Bool
  | .load _ _ | .indexAddr _ _ _ => true
  | .convert _ d _ => isStr T d
  | .call c => (match c.callee with | .builtin .len => true | _ => false)
  | _ => false
def eB (T : Tab) : Op → Bool
  | .store _ _ _ => false
  | .call c => (match c.callee with | .builtin .append => false | .value f => !lendB T f c.argTypes.toList | _ => true)
  | _ => true
def sB (T : Tab) : Op → Bool
  | .call c => (match c.callee with | .builtin .append => false | .value f => !lendB T f c.argTypes.toList | _ => true)
  | _ => true

def fB (T : Tab) : Op → Bool
  | .store _ _ _ => false
  | .call c => (match c.callee with | .value f => !lendB T f c.argTypes.toList | _ => true)
  | _ => true
/-- What came out of an operation: it would have come out for any other aim; what it leaves alone; and whence it hangs. -/
structure Came (P : Program) (T : Tab) (op : Op) (ρ : Operand → AV) (bk : List Blk) (K : AV → List Blk → Prop) (x : AV) (b : List Blk) : Prop where
  got : K x b
  any : ∀ K' : AV → List Blk → Prop, K' x b → opV P T op ρ bk K'
  ext : eB T op = true → Ext bk b
  sim : sB T op = true → Sim bk b
  qn : qN T op = true → b = bk ∧ ∀ bk', Sim bk bk' → ∀ K' : AV → List Blk → Prop, K' x bk' → opV P T op ρ bk' K'
  qr : qR T op = true → b = bk ∧ ∀ bk', Ext bk bk' → ∀ K' : AV → List Blk → Prop, K' x bk' → opV P T op ρ bk' K'
  far : fB T op = true → Far bk b

theorem Came.still {op : Op} {ρ : Operand → AV} {bk : List Blk} {K : AV → List Blk → Prop} {x : AV} (hk : K x bk) (h : ∀ bk', Sim bk bk' → ∀ K' : AV → List Blk → Prop, K' x bk' → opV P T op ρ bk' K') : Came P T op ρ bk K x bk :=
  ⟨hk, h bk (Sim.refl _), fun _ => Ext.refl _, fun _ => Sim.refl _, fun _ => ⟨rfl, h⟩, fun _ => ⟨rfl, fun bk' he => h bk' he.sim⟩, fun _ => Far.refl _⟩
theorem Came.reads {op : Op} {ρ : Operand → AV} {bk : List Blk} {K : AV → List Blk → Prop} {x : AV} (hq : qN T op = false) (hk : K x bk) (h : ∀ bk', Ext bk bk' → ∀ K' : AV → List Blk → Prop, K' x bk' → opV P T op ρ bk' K') : Came P T op ρ bk K x bk :=
  ⟨hk, h bk (Ext.refl _), fun _ => Ext.refl _, fun _ => Sim.refl _, fun e => (by rw [hq] at e; cases e), fun _ => ⟨rfl, h⟩, fun _ => Far.refl _⟩
theorem Came.grows {op : Op} {ρ : Operand → AV} {bk b : List Blk} {K : AV → List Blk → Prop} {x : AV} (h1 : qN T op = false) (h2 : qR T op = false) (he : Ext bk b) (hk : K x b) (h : ∀ K' : AV → List Blk → Prop, K' x b → opV P T op ρ bk K') : Came P T op ρ bk K x b :=
  ⟨hk, h, fun _ => he, fun _ => he.sim, fun e => (by rw [h1] at e; cases e), fun e => (by rw [h2] at e; cases e), fun _ => he.far⟩

theorem callK_lent {fop : AV} {xs : List AV} {bk : List Blk} {K : AV → List Blk → Prop} (h : callK P true fop xs bk K) : ∃ x b, K x b ∧ ∀ K' : AV → List Blk → Prop, K' x b → callK P true fop xs bk K' := by
  unfold callK at *
  split at h
  · obtain ⟨idx, B0, cargs, cargs', r, B1, h1, h2, h3, h4, h5, hk⟩ := h
    exact ⟨_, _, hk, fun K' hk' => ⟨idx, B0, cargs, cargs', r, B1, h1, h2, h3, h4, h5, hk'⟩⟩
  · obtain ⟨idx, B0, cargs, cargs', r, B1, h1, h2, h3, h4, h5, hk⟩ := h
    exact ⟨_, _, hk, fun K' hk' => ⟨idx, B0, cargs, cargs', r, B1, h1, h2, h3, h4, h5, hk'⟩⟩
  · exact h.elim
theorem ifcK_came {op : BinOp} {xo yo : Operand} {x y : AV} {K : AV → Prop} (h : ifcK op xo yo x y K) : ∃ z, K z ∧ ∀ K' : AV → Prop, K' z → ifcK op xo yo x y K' := by
  unfold ifcK at h ⊢
  split at h
  · cases op <;> first | exact h.2.elim | exact ⟨_, h.2, fun K' k => ⟨h.1, k⟩⟩
  · cases op <;> first | exact h.elim | exact ⟨_, h, fun K' k => k⟩
  · cases op <;> first | exact h.elim | exact ⟨_, h, fun K' k => k⟩
  · exact h.elim
theorem callK_came {fop : AV} {xs : List AV} {bk : List Blk} {K : AV → List Blk → Prop} (h : callK P false fop xs bk K) : ∃ x b, Ext bk b ∧ K x b ∧ ∀ K' : AV → List Blk → Prop, K' x b → callK P false fop xs bk K' := by
  unfold callK at *
  split at h
  · rename_i f caps
    obtain ⟨b1, ys, e1, ⟨cs, r, nb, h1, h2, h3⟩, k1⟩ := argsK_ext h
    rcases h3 with (⟨h3, h4, h5⟩ | ⟨h3, h4, h5, h6, h7⟩) | h3
    · exact ⟨r, bk, Ext.refl _, h5, fun K' hk => k1 _ ⟨cs, r, nb, h1, h2, .inl (.inl ⟨h3, h4, hk⟩)⟩⟩
    · exact ⟨_, _, e1.trans (Ext.append _ _), h7, fun K' hk => k1 _ ⟨cs, r, nb, h1, h2, .inl (.inr ⟨h3, h4, h5, h6, hk⟩)⟩⟩
    · exact ⟨_, _, e1.trans (Ext.append _ _), h3, fun K' hk => k1 _ ⟨cs, r, nb, h1, h2, .inr hk⟩⟩
  · exact h.elim
  · exact h.elim

theorem storeK_came {t : TypeId} {p x : AV} {bk : List Blk} {K : List Blk → Prop} (h : storeK T t p x bk K) : ∃ b, Sim bk b ∧ K b ∧ ∀ K' : List Blk → Prop, K' b → storeK T t p x bk K' := by
  have simset : ∀ {b : Nat} {B B' : Blk} {bk : List Blk}, bk[b]? = some B → ((∃ cells cells', B = .var cells ∧ B' = .var cells') ∨ ∃ e sz rows rows', B = .arr e sz rows ∧ B' = .arr e sz rows' ∧ rows'.length = rows.length) → Sim bk (bk.set b B') := fun {b B B' bk} hb hc i sz rows hr => by
    by_cases e : i = b
    · subst e
      have hn : (bk.set i B')[i]? = some B' := List.getElem?_set_self (List.getElem?_eq_some_iff.1 hb).1
      unfold rowsOf at hr ⊢
      rw [hb] at hr
      rw [hn]
      rcases hc with ⟨c, c', rfl, rfl⟩ | ⟨e', sz', r1, r2, rfl, rfl, hl⟩
      · cases hr
      · cases hr; exact ⟨r2, rfl, hl⟩
    · exact ⟨rows, by unfold rowsOf at hr ⊢; rw [List.getElem?_set_ne (Ne.symm e)]; exact hr, rfl⟩
  unfold storeK at *
  split at h
  · rename_i ty ls ht hls
    split at h
    · rename_i b off
      cases hb : bk[b]? with
      | none => rw [hb] at h; exact h.elim
      | some B =>
        rw [hb] at h
        cases B with
        | var cells =>
          simp only at h ⊢
          cases hc : (Nat.beq ls.length ty.size && (Nat.ble (off + ty.size) cells.length && ls.all notBad)) with
          | false => rw [hc] at h; exact h.elim
          | true => rw [hc] at h; exact ⟨_, simset hb (.inl ⟨_, _, rfl, rfl⟩), h, fun _ h => h⟩
        | _ => exact h.elim
    · rename_i b n i sz off
      obtain ⟨b1, ps, e1, h, k1⟩ := pvsK_ext h
      cases hb : b1[b]? with
      | none => rw [hb] at h; exact h.elim
      | some B =>
        rw [hb] at h
        cases B with
        | arr e sz' rows =>
          obtain ⟨h1, h2, r, h3, h4⟩ := h
          cases hc : Nat.beq ps.length ty.size with
          | false => rw [hc] at h4; exact h4.elim
          | true =>
            rw [hc] at h4
            subst h1
            refine ⟨_, fun j s rows0 hr => ?_, h4.2, fun K' hk => k1 _ (by rw [hb]; exact ⟨rfl, h2, r, h3, by rw [hc]; exact ⟨h4.1, hk⟩⟩)⟩
            exact simset hb (.inr ⟨_, _, _, _, rfl, rfl, by simp⟩) j s rows0 (e1.rows hr)
        | _ => exact h.elim
    · rename_i u
      unfold storeR at *
      split at h
      · rename_i g o
        obtain ⟨b, hh, e, cur, vs, hb, hg, hl, hv, hk⟩ := h
        refine ⟨_, fun i sz rows hr => ?_, hk, fun K' k => ⟨b, hh, e, cur, vs, hb, hg, hl, hv, k⟩⟩
        have hne : i ≠ b := fun q => by
          subst q
          unfold rowsOf at hr
          rw [hb] at hr
          cases hr
        exact ⟨rows, by unfold rowsOf at hr ⊢; rw [List.getElem?_set_ne (Ne.symm hne)]; exact hr, rfl⟩
      · exact h.elim
    · exact h.elim
  · exact h.elim

theorem opV_came {op : Op} {ρ : Operand → AV} {bk : List Blk} {K : AV → List Blk → Prop} (h : opV P T op ρ bk K) : ∃ x b, Came P T op ρ bk K x b := by
  cases op with
  | move x => exact ⟨_, _, .still h fun _ _ _ h => h⟩
  | assign x => exact ⟨_, _, .still h fun _ _ _ h => h⟩
  | pick c x y =>
    simp only [opV] at h
    split at h
    · rename_i hc; exact ⟨_, _, .still h fun _ _ _ h => by simp only [opV, hc]; exact h⟩
    · rename_i hc; exact ⟨_, _, .still h fun _ _ _ h => by simp only [opV, hc]; exact h⟩
    · exact h.elim
  | alloc t =>
    simp only [opV] at h
    split at h
    · rename_i ty ht; exact ⟨_, _, .grows rfl rfl (Ext.append _ _) h fun _ h => by simp only [opV, ht]; exact h⟩
    · exact h.elim
  | box t x =>
    simp only [opV] at h
    split at h
    · rename_i ls hl
      cases hno : ls.all notBad with
      | false => rw [hno] at h; exact h.elim
      | true =>
        rw [hno] at h
        exact ⟨_, _, .grows rfl rfl (Ext.append _ _) h fun _ h => by simp only [opV, hl, hno, cond_true]; exact h⟩
    · exact h.elim
  | build t parts =>
    simp only [opV] at h
    split at h
    · rename_i fs a b zero ht
      split at h
      · rename_i ls hl; exact ⟨_, _, .still h fun _ _ _ h => by simp only [opV, ht, hl]; exact h⟩
      · exact h.elim
    · exact h.elim
  | buildSlice t len parts =>
    simp only [opV] at h
    split at h
    · rename_i e te ht
      cases hc : (Nat.blt 0 te.size && Nat.ble (len * te.size) 16777216 && Nat.ble len 9223372036854775807) with
      | false => rw [hc] at h; exact h.elim
      | true =>
        rw [hc] at h
        simp only [cond_true] at h
        split at h
        · rename_i ls hl
          obtain ⟨b, ps, e1, h1, k1⟩ := pvsK_ext h
          exact ⟨_, _, .grows rfl rfl (e1.trans (Ext.append _ _)) h1 fun K' hk => by simp only [opV, ht, hc, cond_true, hl]; exact k1 (fun bk ps => K' (.lf (.own bk.length len)) (bk ++ [.arr e te.size (chunk te.size len ps)])) hk⟩
        · exact h.elim
    · exact h.elim
  | makeSlice t l c =>
    simp only [opV] at h
    split at h
    · rename_i e te kl n kc m ht hl hc
      cases hb : (Nat.beq te.size 1 && Nat.blt 0 te.bytes) with
      | false => rw [hb] at h; exact h.elim
      | true =>
        rw [hb] at h
        obtain ⟨h1, N, h2, h3, h4⟩ := h
        exact ⟨_, _, .grows rfl rfl (Ext.append _ _) h4 fun K' hk => by simp only [opV, ht, hl, hc, hb, cond_true]; exact ⟨h1, N, h2, h3, hk⟩⟩
    · exact h.elim
  | load t p =>
    simp only [opV] at h
    obtain ⟨x, h1, h2, h3⟩ := loadK_came h
    exact ⟨x, bk, .reads rfl h1 fun bk' he K' hk => by simp only [opV]; exact h3 bk' he (fun x => K' x bk') hk⟩
  | store t p x =>
    simp only [opV] at h
    obtain ⟨b, e1, h1, k1⟩ := storeK_came h
    exact ⟨.un, b, h1, fun K' hk => by simp only [opV]; exact k1 (fun bk => K' .un bk) hk, fun e => (by cases e), fun _ => e1, fun e => (by cases e), fun e => (by cases e), fun e => (by cases e)⟩
  | nilCheck x =>
    simp only [opV] at h
    split at h
    · rename_i hx; exact ⟨_, _, .still h fun _ _ _ h => by simp only [opV, hx]; exact h⟩
    · rename_i hx; exact ⟨_, _, .still h fun _ _ _ h => by simp only [opV, hx]; exact h⟩
    · rename_i b n i sz o hx
      cases hr : rowsOf bk b with
      | none => rw [hr] at h; exact h.elim
      | some y =>
        obtain ⟨sz', rows⟩ := y
        rw [hr] at h
        refine ⟨_, _, .still h.2 fun bk' hs K' k => ?_⟩
        obtain ⟨rows', h1, h2⟩ := hs b _ _ hr
        simp only [opV, hx, h1]
        exact ⟨by rw [h2]; exact h.1, k⟩
    · rename_i hx; exact ⟨_, _, .still h fun _ _ _ h => by simp only [opV, hx]; exact h⟩
    · exact h.elim
  | binOp op t x y yt =>
    simp only [opV] at h
    cases hc : isIfc T t with
    | true =>
      rw [hc] at h
      simp only [cond_true] at h
      obtain ⟨z, h1, k1⟩ := ifcK_came h
      exact ⟨z, bk, .still h1 fun bk' _ K' hk => by simp only [opV, hc, cond_true]; exact k1 (fun z => K' z bk') hk⟩
    | false =>
      rw [hc] at h
      simp only [cond_false] at h
      obtain ⟨z, h1, k1⟩ := binK_came h
      exact ⟨z, bk, .still h1 fun bk' _ K' hk => by simp only [opV, hc, cond_false]; exact k1 (fun z => K' z bk') hk⟩
  | unOp op t x =>
    simp only [opV] at h
    split at h
    · rename_i u hx
      split at h
      · rename_i z hz; exact ⟨_, _, .still h fun _ _ _ h => by simp only [opV, hx, hz]; exact h⟩
      · exact h.elim
    · exact h.elim
  | convert s d x =>
    simp only [opV] at h
    split at h
    · rename_i k n hx
      split at h
      · rename_i k1 k2 hs hd; exact ⟨_, _, .still h fun _ _ _ h => by simp only [opV, hx, hs, hd]; exact h⟩
      · exact h.elim
    · rename_i z hx
      cases hs : isStr T s with
      | false => rw [hs] at h; exact h.elim
      | true =>
        rw [hs] at h
        simp only [cond_true] at h
        cases hd : isStr T d with
        | true => rw [hd] at h; exact ⟨_, _, .still h fun _ _ _ h => by simp only [opV, hx, hs, hd, cond_true]; exact h⟩
        | false =>
          rw [hd] at h
          simp only [cond_false] at h
          cases hb : isBytes T d with
          | false => rw [hb] at h; exact h.elim
          | true =>
            rw [hb] at h
            simp only [cond_true] at h
            rcases h with h | ⟨hz, h⟩
            · exact ⟨_, _, .grows (by simp [qN, (str_kinds hs).1, hd]) (by simp [qR, hd]) (Ext.append _ _) h fun _ h => by simp only [opV, hx, hs, hd, hb, cond_true, cond_false]; exact .inl h⟩
            · cases hel : elemOf? T d with
              | none => rw [hel] at h; exact h.elim
              | some q =>
                rw [hel] at h
                simp only at h
                have htx : txtB = true := by
                  cases htx : txtB with
                  | true => rfl
                  | false => rw [htx] at h; exact h.elim
                rw [htx] at h
                simp only at h
                exact ⟨_, _, .grows (by simp [qN, (str_kinds hs).1, hd]) (by simp [qR, hd]) (Ext.append _ _) h fun _ h => by simp only [opV, hx, hs, hd, hb, hel, cond_true, cond_false]; exact .inr ⟨hz, by rw [htx]; exact h⟩⟩
    · rename_i sz rows hx
      cases hc : (isBytes T s && isStr T d && Nat.beq sz 1) with
      | false => rw [hc] at h; exact h.elim
      | true =>
        rw [hc] at h
        obtain ⟨z, hz, h⟩ := h
        have hs : isBytes T s = true := by simp only [Bool.and_eq_true] at hc; exact hc.1.1
        exact ⟨_, _, .reads (by simp [qN, (bytes_kinds hs).1, (bytes_kinds hs).2]) h fun _ _ _ h => by simp only [opV, hx, hc, cond_true]; exact ⟨z, hz, h⟩⟩
    · rename_i hx
      cases hc : (isBytes T s && isStr T d) with
      | false => rw [hc] at h; exact h.elim
      | true =>
        rw [hc] at h
        have hs : isBytes T s = true := by simp only [Bool.and_eq_true] at hc; exact hc.1
        exact ⟨_, _, .reads (by simp [qN, (bytes_kinds hs).1, (bytes_kinds hs).2]) h fun _ _ _ h => by simp only [opV, hx, hc, cond_true]; exact h⟩
    · rename_i b len hx
      cases hs : isBytes T s with
      | false => rw [hs] at h; exact h.elim
      | true =>
        rw [hs] at h
        simp only [cond_true] at h
        cases hd : isStr T d with
        | true =>
          rw [hd] at h
          simp only [cond_true] at h
          split at h
          · rename_i sz rows hrw
            cases hb : Nat.beq sz 1 with
            | false => rw [hb] at h; exact h.elim
            | true =>
              rw [hb] at h
              obtain ⟨hl, z, hz, h⟩ := h
              exact ⟨_, _, .reads (by simp [qN, (bytes_kinds hs).1, (bytes_kinds hs).2]) h fun bk' he K' h => by simp only [opV, hx, hs, hd, cond_true, he.rows hrw, hb]; exact ⟨hl, z, hz, h⟩⟩
          · exact h.elim
        | false =>
          rw [hd] at h
          simp only [cond_false] at h
          cases hb : (isBytes T d && Nat.beq s d && Nat.blt 0 len) with
          | false => rw [hb] at h; exact h.elim
          | true =>
            rw [hb] at h
            simp only [cond_true] at h
            obtain ⟨b1, p, e1, h1, k1⟩ := pvK_ext h
            exact ⟨_, _, .grows (by simp [qN, (bytes_kinds hs).1, (bytes_kinds hs).2]) (by simp [qR, hd]) e1 h1 fun K' hk => by simp only [opV, hx, hs, hd, hb, cond_true, cond_false]; exact k1 (fun bk p => K' (.lf (.pv p)) bk) hk⟩
    · exact h.elim
  | slice t x lo hi mx =>
    cases mx with
    | some m => exact h.elim
    | none =>
      simp only [opV] at h
      split at h
      · rename_i s hx
        cases hc : isStr T t with
        | false => rw [hc] at h; exact h.elim
        | true =>
          rw [hc] at h
          simp only [cond_true] at h
          split at h
          · rename_i l hh h1 h2; exact ⟨_, _, .grows rfl rfl (Ext.refl _) h.2.2.2 fun _ k => by simp only [opV, hx, hc, cond_true, h1, h2]; exact ⟨h.1, h.2.1, h.2.2.1, k⟩⟩
          · exact h.elim
      · rename_i l0 hn hx
        obtain ⟨b, p, e1, h1, k1⟩ := pvK_ext h
        split at h1
        · rename_i sz rows e te ht
          cases hc : Nat.beq te.size sz with
          | false => rw [hc] at h1; exact h1.elim
          | true =>
            rw [hc] at h1
            simp only [cond_true] at h1
            split at h1
            · rename_i l hh h3 h4
              refine ⟨_, _, .grows rfl rfl e1 h1.2.2.2 fun K' k => ?_⟩
              simp only [opV, hx]
              refine k1 _ ?_
              simp only [ht, hc, cond_true, h3, h4]
              exact ⟨h1.1, h1.2.1, h1.2.2.1, k⟩
            · exact h1.elim
        · exact h1.elim
      · exact h.elim
  | fieldAddr s x f =>
    simp only [opV] at h
    split at h
    · rename_i off ho
      split at h
      · rename_i hx; exact ⟨_, _, .still h fun _ _ _ h => by simp only [opV, ho, hx]; exact h⟩
      · rename_i hx; exact ⟨_, _, .still h fun _ _ _ h => by simp only [opV, ho, hx]; exact h⟩
      · rename_i b n i sz o hx
        cases hr : rowsOf bk b with
        | none => rw [hr] at h; exact h.elim
        | some y =>
          obtain ⟨sz', rows⟩ := y
          rw [hr] at h
          refine ⟨_, _, .still h.2 fun bk' hs K' k => ?_⟩
          obtain ⟨rows', h1, h2⟩ := hs b _ _ hr
          simp only [opV, ho, hx, h1]
          exact ⟨by rw [h2]; exact h.1, k⟩
      · rename_i hx; exact ⟨_, _, .still h fun _ _ _ h => by simp only [opV, ho, hx]; exact h⟩
      · exact h.elim
    · exact h.elim
  | indexAddr t x ix =>
    simp only [opV] at h
    split at h
    · rename_i e te k i ht hi
      split at h
      · rename_i sz rows hx
        cases hc : Nat.beq te.size sz with
        | false => rw [hc] at h; exact h.elim
        | true =>
          rw [hc] at h
          obtain ⟨h1, r, h2, h3⟩ := h
          exact ⟨_, _, .reads rfl h3 fun _ _ _ k => by simp only [opV, ht, hi, hx, hc, cond_true]; exact ⟨h1, r, h2, k⟩⟩
      · rename_i e0 sz rows hx
        cases hc : Nat.beq te.size sz with
        | false => rw [hc] at h; exact h.elim
        | true =>
          rw [hc] at h
          obtain ⟨h1, r, h2, h3⟩ := h
          exact ⟨_, _, .reads rfl h3 fun _ _ _ k => by simp only [opV, ht, hi, hx, hc, cond_true]; exact ⟨h1, r, h2, k⟩⟩
      · rename_i b len hx
        cases hr : rowsOf bk b with
        | none => rw [hr] at h; exact h.elim
        | some y =>
          obtain ⟨sz, rows⟩ := y
          rw [hr] at h
          cases hc : Nat.beq te.size sz with
          | false => simp only [hc] at h; exact h.elim
          | true =>
            simp only [hc, cond_true] at h
            obtain ⟨h1, h2, h3, h4⟩ := h
            exact ⟨_, _, .reads rfl h4 fun bk' he _ k => by simp only [opV, ht, hi, hx, he.rows hr, hc, cond_true]; exact ⟨h1, h2, h3, k⟩⟩
      · rename_i hx
        exact ⟨_, _, .reads rfl h.2.2 fun _ _ _ k => by simp only [opV, ht, hi, hx]; exact ⟨h.1, h.2.1, k⟩⟩
      · exact h.elim
    · exact h.elim
  | index t x ix =>
    simp only [opV] at h
    split at h
    · rename_i s k i hx hi
      cases hc : isStr T t with
      | false => rw [hc] at h; exact h.elim
      | true =>
        rw [hc] at h
        obtain ⟨h1, c, h2, h3⟩ := h
        exact ⟨_, _, .still h3 fun _ _ _ k => by simp only [opV, hx, hi, hc, cond_true]; exact ⟨h1, c, h2, k⟩⟩
    · exact h.elim
  | extract x k =>
    simp only [opV] at h
    split at h
    · rename_i ts hx
      split at h
      · rename_i l hl; exact ⟨_, _, .still h fun _ _ _ h => by simp only [opV, hx, hl]; exact h⟩
      · rename_i l hl; exact ⟨_, _, .still h fun _ _ _ h => by simp only [opV, hx, hl]; exact h⟩
      · exact h.elim
    · exact h.elim
  | makeFunc fn first caps =>
    cases fn with
    | func f =>
      simp only [opV] at h
      split at h
      · rename_i hf
        split at h
        · rename_i ls hl
          obtain ⟨b, xs, e1, h1, k1⟩ := argLs_ext h
          split at h1
          · rename_i cs hc
            exact ⟨_, _, .grows rfl rfl e1 h1 fun K' k => by simp only [opV, hf, hl]; exact k1 _ (by simp only [hc]; exact k)⟩
          · exact h1.elim
        · exact h.elim
      · rename_i x hf
        split at h
        · rename_i b off hcp hx
          exact ⟨_, _, .still h fun bk' _ K' k => by simp only [opV, hf, hcp, hx]; exact k⟩
        · exact h.elim
      · exact h.elim
    | _ => exact h.elim
  | makeInterface t x =>
    simp only [opV] at h
    split at h
    · rename_i ht hx
      exact ⟨_, _, .still h fun bk' _ K' k => by simp only [opV, ht, hx]; exact k⟩
    · rename_i b off ht hx
      exact ⟨_, _, .still h fun bk' _ K' k => by simp only [opV, ht, hx]; exact k⟩
    · exact h.elim
  | call c =>
    obtain ⟨callee, args, tys⟩ := c
    simp only [opV] at h
    split at h
    · rename_i x t ha htys
      have key : ∀ {z : AV}, K z bk → (∀ bk', Ext bk bk' → ∀ K' : AV → List Blk → Prop, K' z bk' → opV P T (.call ⟨.builtin .len, args, tys⟩) ρ bk' K') → ∃ x b, Came P T (.call ⟨.builtin .len, args, tys⟩) ρ bk K x b := fun hk hh => ⟨_, _, .reads rfl hk hh⟩
      split at h
      · rename_i s hx
        cases hc : isStr T t with
        | false => rw [hc] at h; exact h.elim
        | true => rw [hc] at h; exact key h fun _ _ _ k => by simp only [opV, ha, htys, hx, hc, cond_true]; exact k
      · rename_i sz rows hx
        split at h
        · rename_i et ht; exact key h fun _ _ _ k => by simp only [opV, ha, htys, hx, ht]; exact k
        · exact h.elim
      · rename_i e0 sz rows hx
        split at h
        · rename_i et ht; exact key h fun _ _ _ k => by simp only [opV, ha, htys, hx, ht]; exact k
        · exact h.elim
      · rename_i hx
        split at h
        · rename_i et ht; exact key h fun _ _ _ k => by simp only [opV, ha, htys, hx, ht]; exact k
        · exact h.elim
      · rename_i b len hx
        split at h
        · rename_i et sz rows ht hr; exact key h.2 fun bk' he _ k => by simp only [opV, ha, htys, hx, ht, he.rows hr]; exact ⟨h.1, k⟩
        · exact h.elim
      · rename_i hx
        split at h
        · rename_i et ht; exact key h fun _ _ _ k => by simp only [opV, ha, htys, hx, ht]; exact k
        · exact h.elim
      · exact h.elim
    · rename_i x y t t' ha htys
      have key : ∀ {z : AV} {b : List Blk}, Far bk b → K z b → (∀ K' : AV → List Blk → Prop, K' z b → opV P T (.call ⟨.builtin .append, args, tys⟩) ρ bk K') → ∃ x b, Came P T (.call ⟨.builtin .append, args, tys⟩) ρ bk K x b := fun hf hk hh =>
        ⟨_, _, hk, hh, fun e => (by cases e), fun e => (by cases e), fun e => (by cases e), fun e => (by cases e), fun _ => hf⟩
      cases hc0 : Nat.beq t t' with
      | false =>
        rw [hc0] at h
        simp only [cond_false] at h
        cases hbs : (isBytes T t && isStr T t') with
        | false => rw [hbs] at h; exact h.elim
        | true =>
        rw [hbs] at h
        simp only [cond_true] at h
        split at h
        · rename_i e te s ht hy
          cases hc : (Nat.beq te.size 1 && Nat.blt 0 te.bytes) with
          | false => rw [hc] at h; exact h.elim
          | true =>
            rw [hc] at h
            simp only [cond_true] at h
            split at h
            · rename_i bb len hx
              cases hb : bk[bb]? with
              | none => rw [hb] at h; exact h.elim
              | some B =>
                rw [hb] at h
                cases B with
                | arr e' sz rows =>
                  simp only at h
                  cases hc2 : (Nat.beq e' e && Nat.beq sz te.size) with
                  | false => rw [hc2] at h; exact h.elim
                  | true =>
                    rw [hc2] at h
                    exact key (Far.arr hb _) h.2.2 fun K' k => by
                      simp only [opV, ha, htys, hc0, cond_false, hbs, cond_true, ht, hy, hc, hx, hb, hc2]
                      exact ⟨h.1, h.2.1, k⟩
                | _ => exact h.elim
            · exact h.elim
        · exact h.elim
      | true =>
        rw [hc0] at h
        simp only [cond_true] at h
        split at h
        · rename_i e te ht
          cases hc : (Nat.blt 0 te.size && Nat.blt 0 te.bytes) with
          | false => rw [hc] at h; exact h.elim
          | true =>
            rw [hc] at h
            simp only [cond_true] at h
            split at h
            · rename_i l hl
              obtain ⟨b, p, e1, ⟨rows2, h1, h2⟩, k1⟩ := pvK_ext h
              split at h2
              · rename_i bb len hx
                cases hb : b[bb]? with
                | none => rw [hb] at h2; exact h2.elim
                | some B =>
                  rw [hb] at h2
                  cases B with
                  | arr e' sz rows =>
                    simp only at h2
                    cases hc2 : (Nat.beq e' e && Nat.beq sz te.size) with
                    | false => rw [hc2] at h2; exact h2.elim
                    | true =>
                      rw [hc2] at h2
                      exact key (e1.far.trans (Far.arr hb _)) h2.2.2 fun K' k => by
                        simp only [opV, ha, htys, hc0, cond_true, ht, hc, hl, hx]
                        exact k1 _ ⟨rows2, h1, by simp only [hb, hc2, cond_true]; exact ⟨h2.1, h2.2.1, k⟩⟩
                  | _ => exact h2.elim
              · rename_i hx
                exact key (e1.far.trans (Ext.append _ _).far) h2.2 fun K' k => by
                  simp only [opV, ha, htys, hc0, cond_true, ht, hc, hl, hx]
                  exact k1 _ ⟨rows2, h1, h2.1, k⟩
              · exact h2.elim
            · exact h.elim
        · exact h.elim
    · rename_i x y t t' ha htys
      split at h
      · rename_i k a k' b hx hy
        exact ⟨_, _, .grows rfl rfl (Ext.refl _) h fun K' q => by simp only [opV, ha, htys, hx, hy]; exact q⟩
      · exact h.elim
    · rename_i x y t t' ha htys
      split at h
      · rename_i k a k' b hx hy
        exact ⟨_, _, .grows rfl rfl (Ext.refl _) h fun K' q => by simp only [opV, ha, htys, hx, hy]; exact q⟩
      · exact h.elim
    · rename_i f
      cases hln : lendB T f tys.toList with
      | false =>
        rw [hln] at h
        obtain ⟨x, b, e1, h1, k1⟩ := callK_came h
        exact ⟨x, b, .grows rfl rfl e1 h1 fun K' k => by simp only [opV, hln]; exact k1 K' k⟩
      | true =>
        rw [hln] at h
        obtain ⟨x, b, h1, k1⟩ := callK_lent h
        exact ⟨x, b, h1, fun K' k => (by simp only [opV, hln]; exact k1 K' k), fun e => (by simp [eB, hln] at e), fun e => (by simp [sB, hln] at e), fun e => (by simp [qN] at e), fun e => (by simp [qR] at e), fun e => (by simp [fB, hln] at e)⟩
    · exact h.elim
  | _ => exact h.elim
end
end Go.Rx

/- Regions that draw their order: whatever the order, what one plan tells comes of it. -/
set_option linter.unusedVariables false
set_option linter.unusedSimpArgs false
namespace Go.Rx

section
variable {P : Program} {T : Tab} {ops : Array Oper}

theorem opV_congr {op : Op} {ρ ρ' : Operand → AV} {bk : List Blk} {K : AV → List Blk → Prop} (h : ∀ x ∈ op.operands, ρ x = ρ' x) : opV P T op ρ bk K = opV P T op ρ' bk K := by
  have pr : ∀ ps : Array (Nat × Operand), (∀ x ∈ (ps.toList.map (·.2)).toArray, ρ x = ρ' x) → (ps.toList.map fun p => (p.1, leaves (ρ p.2))) = ps.toList.map fun p => (p.1, leaves (ρ' p.2)) := fun ps hp =>
    List.map_congr_left fun p hm => by rw [hp p.2 (by simp only [List.mem_toArray]; exact List.mem_map_of_mem hm)]
  cases op with
  | move x => simp only [opV, h x (by simp [Op.operands])]
  | assign x => simp only [opV, h x (by simp [Op.operands])]
  | pick c x y => simp only [opV, h c (by simp [Op.operands]), h x (by simp [Op.operands]), h y (by simp [Op.operands])]
  | box t x => simp only [opV, h x (by simp [Op.operands])]
  | build t ps => simp only [opV, pr ps (by simpa [Op.operands] using h)]
  | buildSlice t n ps => simp only [opV, pr ps (by simpa [Op.operands] using h)]
  | makeSlice t l c => simp only [opV, h l (by simp [Op.operands]), h c (by simp [Op.operands])]
  | load t p => simp only [opV, h p (by simp [Op.operands])]
  | store t p x => simp only [opV, h p (by simp [Op.operands]), h x (by simp [Op.operands])]
  | nilCheck x => simp only [opV, h x (by simp [Op.operands])]
  | binOp op t x y yt => simp only [opV, h x (by simp [Op.operands]), h y (by simp [Op.operands])]
  | unOp op t x => simp only [opV, h x (by simp [Op.operands])]
  | convert s d x => simp only [opV, h x (by simp [Op.operands])]
  | slice t x lo hi mx =>
    cases mx with
    | some m => rfl
    | none =>
      have h1 : lo.map ρ = lo.map ρ' := by cases lo with
        | none => rfl
        | some y => simp [h y (by simp [Op.operands])]
      have h2 : hi.map ρ = hi.map ρ' := by cases hi with
        | none => rfl
        | some y => simp [h y (by simp [Op.operands])]
      simp only [opV, h x (by simp [Op.operands]), h1, h2]
  | fieldAddr s x f => simp only [opV, h x (by simp [Op.operands])]
  | indexAddr t x ix => simp only [opV, h x (by simp [Op.operands]), h ix (by simp [Op.operands])]
  | index t x ix => simp only [opV, h x (by simp [Op.operands]), h ix (by simp [Op.operands])]
  | extract x k => simp only [opV, h x (by simp [Op.operands])]
  | makeFunc fn first caps =>
    cases fn with
    | func f =>
      have h1 : caps.toList.map ρ = caps.toList.map ρ' := List.map_congr_left fun x hx => h x (by simp [Op.operands] at hx ⊢; exact .inr hx)
      have h2 : ∀ x ∈ first.toList, ρ x = ρ' x := fun x hx => h x (by simp [Op.operands] at hx ⊢; exact .inl hx)
      cases hfl : first.toList with
      | nil => simp only [opV, hfl, h1]
      | cons x l =>
        cases l with
        | nil => simp only [opV, hfl, h2 x (by rw [hfl]; exact List.mem_singleton.2 rfl)]
        | cons y l => simp only [opV, hfl]
    | _ => rfl
  | makeInterface t x => simp only [opV, h x (by simp [Op.operands])]
  | call c =>
    obtain ⟨callee, args, tys⟩ := c
    have ha : ∀ x ∈ args.toList, ρ x = ρ' x := fun x hx => h x (by simp [Op.operands, Call.operands] at hx ⊢; exact .inr hx)
    cases callee with
    | value f =>
      have hf : ρ f = ρ' f := h f (by simp [Op.operands, Call.operands])
      simp only [opV, hf, List.map_congr_left ha]
    | invoke r m => rfl
    | builtin b =>
      simp only [opV]
      split
      · rename_i x t hc hx _
        rw [hx] at ha
        simp only [ha _ (List.mem_singleton.2 rfl)]
      · rename_i x t hc hx _
        rw [hx] at ha
        have e1 := ha _ (List.mem_cons_self)
        have e2 := ha _ (List.mem_cons_of_mem _ List.mem_cons_self)
        simp only [e1, e2]
      · rename_i x y _ _ _ hx _
        rw [hx] at ha
        have e1 := ha _ (List.mem_cons_self)
        have e2 := ha _ (List.mem_cons_of_mem _ List.mem_cons_self)
        simp only [e1, e2]
      · rename_i x y _ _ _ hx _
        rw [hx] at ha
        have e1 := ha _ (List.mem_cons_self)
        have e2 := ha _ (List.mem_cons_of_mem _ List.mem_cons_self)
        simp only [e1, e2]
      · rename_i hc; cases hc
      · rfl
  | _ => rfl

def AgreeOn (L : List Tmp) (sl sl' : Slots) : Prop := ∀ t ∈ L, sl t = sl' t
theorem AgreeOn.put {L : List Tmp} {sl : Slots} {d : Option Nat} {x : AV} (h : ∀ k, d = some k → k ∉ L) : AgreeOn L sl (putO sl d x) := fun t ht => by
  cases d with
  | none => rfl
  | some k =>
    have : t ≠ k := fun e => h k rfl (e ▸ ht)
    simp [putO, Rx.put, this]
theorem AgreeOn.symm {L : List Tmp} {sl sl' : Slots} (h : AgreeOn L sl sl') : AgreeOn L sl' sl := fun t ht => (h t ht).symm
theorem AgreeOn.trans {L : List Tmp} {a b c : Slots} (h : AgreeOn L a b) (k : AgreeOn L b c) : AgreeOn L a c := fun t ht => (h t ht).trans (k t ht)
theorem putO_comm {sl : Slots} {d e : Option Nat} {x y : AV} (h : ∀ k, d = some k → e ≠ some k) : putO (putO sl d x) e y = putO (putO sl e y) d x := by
  cases d with
  | none => rfl
  | some k => cases e with
    | none => rfl
    | some m =>
      have hne : k ≠ m := fun e => h k rfl (e ▸ rfl)
      funext t
      simp only [putO, Rx.put]
      by_cases h1 : t = k <;> by_cases h2 : t = m <;> simp_all
theorem Sim.trans {a b c : List Blk} (h : Sim a b) (k : Sim b c) : Sim a c := fun i sz rows hr => by
  obtain ⟨r1, h1, h2⟩ := h i sz rows hr
  obtain ⟨r2, h3, h4⟩ := k i sz r1 h1
  exact ⟨r2, h3, by omega⟩

theorem ev_agree {o : Oper} {sl sl' : Slots} (h : AgreeOn (o.looksAt ops) sl sl') : ∀ x ∈ o.op.operands, ev sl x = ev sl' x := fun x hx => by
  cases x with
  | tmp t => exact h t (List.mem_append_left _ (List.mem_filterMap.2 ⟨.tmp t, by simpa using hx, rfl⟩))
  | _ => rfl

/-- Operations whose value hangs on variables alone, as their operands are. -/
def pinB (op : Op) (ρ : Operand → AV) : Bool :=
  match op with
  | .move _ | .assign _ | .extract _ _ => true
  | .fieldAddr _ x _ => (match ρ x with | .lf (.ptr _ _) => true | .lf (.ro _) => true | _ => false)
  | .load _ x => (match ρ x with | .lf (.ptr _ _) => true | .lf (.ro _) => true | _ => false)
  | .slice _ x _ _ none => (match ρ x with | .lf (.pv _) => true | _ => false)
  | .binOp _ _ _ _ _ => true
  | _ => false
theorem loadK_far {t : TypeId} {p : AV} {bk : List Blk} {K : AV → Prop} (hp : (∃ b off, p = .lf (.ptr b off)) ∨ ∃ l, p = .lf (.ro l)) (h : loadK T t p bk K) : ∃ x, K x ∧ ∀ bk', Far bk bk' → ∀ K' : AV → Prop, K' x → loadK T t p bk' K' := by
  unfold loadK at *
  cases ht : T.find t with
  | none => rw [ht] at h; exact h.elim
  | some ty =>
    rw [ht] at h
    simp only at h ⊢
    rcases hp with ⟨b, off, rfl⟩ | ⟨l, rfl⟩
    · simp only at h ⊢
      cases hb : bk[b]? with
      | none => rw [hb] at h; exact h.elim
      | some B =>
        rw [hb] at h
        cases B with
        | var cells =>
          simp only at h
          cases hc : (Nat.ble (off + ty.size) cells.length && (ty.d.agg || Nat.beq ty.size 1)) with
          | false => rw [hc] at h; exact h.elim
          | true =>
            rw [hc] at h
            refine ⟨_, h, fun bk' hf K' hk => ?_⟩
            obtain ⟨B', h1, h2⟩ := hf b _ hb (.inl ⟨_, rfl⟩)
            rw [h1]
            rcases h2 with rfl | h2
            · simp only [hc]; exact hk
            · simp only [frzB, Option.map_eq_some_iff] at h2
              obtain ⟨ps, h3, rfl⟩ := h2
              have := mapM_pv h3
              subst this
              rw [List.length_map] at hc
              simp only [hc, cond_true, ← List.map_drop, ← List.map_take] at hk ⊢
              exact hk
        | frv cells =>
          simp only at h
          cases hc : (Nat.ble (off + ty.size) cells.length && (ty.d.agg || Nat.beq ty.size 1)) with
          | false => rw [hc] at h; exact h.elim
          | true =>
            rw [hc] at h
            refine ⟨_, h, fun bk' hf K' hk => ?_⟩
            obtain ⟨B', h1, h2⟩ := hf b _ hb (.inr ⟨_, rfl⟩)
            rw [h1]
            have : B' = .frv cells := by
              rcases h2 with rfl | h2
              · rfl
              · simp [frzB] at h2; exact h2.symm
            subst this
            simp only [hc]
            exact hk
        | _ => exact h.elim
    · simp only at h ⊢
      cases hc : (Nat.ble ty.size l.length && (ty.d.agg || Nat.beq ty.size 1)) with
      | false => rw [hc] at h; exact h.elim
      | true => rw [hc] at h; exact ⟨_, h, fun _ _ K' hk => hk⟩
theorem opV_pin {op : Op} {ρ : Operand → AV} {bk : List Blk} {K : AV → List Blk → Prop} (hp : pinB op ρ = true) (h : opV P T op ρ bk K) : ∃ x, K x bk ∧ ∀ bk', Far bk bk' → ∀ K' : AV → List Blk → Prop, K' x bk' → opV P T op ρ bk' K' := by
  unfold pinB at hp
  cases op with
  | move x => exact ⟨_, h, fun _ _ _ k => k⟩
  | assign x => exact ⟨_, h, fun _ _ _ k => k⟩
  | extract x k =>
    simp only [opV] at h
    split at h
    · rename_i ts hx
      split at h
      · rename_i l hl; exact ⟨_, h, fun _ _ _ k => by simp only [opV, hx, hl]; exact k⟩
      · rename_i l hl; exact ⟨_, h, fun _ _ _ k => by simp only [opV, hx, hl]; exact k⟩
      · exact h.elim
    · exact h.elim
  | fieldAddr s x f =>
    simp only [opV] at h
    split at h
    · rename_i off hoff
      split at h
      · rename_i b o hx; exact ⟨_, h, fun _ _ _ k => by simp only [opV, hoff, hx]; exact k⟩
      · rename_i l hx; exact ⟨_, h, fun _ _ _ k => by simp only [opV, hoff, hx]; exact k⟩
      · rename_i b n i sz o hx; simp only [hx] at hp; cases hp
      · rename_i hx; simp only [hx] at hp; cases hp
      · exact h.elim
    · exact h.elim
  | load t x =>
    simp only [opV] at h
    have hx : (∃ b off, ρ x = .lf (.ptr b off)) ∨ ∃ l, ρ x = .lf (.ro l) := by
      simp only at hp
      split at hp
      · rename_i b off hx; exact .inl ⟨b, off, hx⟩
      · rename_i l hx; exact .inr ⟨l, hx⟩
      · cases hp
    obtain ⟨y, h1, h2⟩ := loadK_far hx h
    exact ⟨y, h1, fun bk' hf K' k => by simp only [opV]; exact h2 bk' hf (fun x => K' x bk') k⟩
  | slice t x lo hi mx =>
    cases mx with
    | some m => cases hp
    | none =>
      simp only at hp
      split at hp
      · rename_i p hx
        simp only [opV, hx] at h
        cases p with
        | sc v =>
          cases v with
          | string s =>
            simp only at h
            cases hc : isStr T t with
            | false => rw [hc] at h; exact h.elim
            | true =>
              rw [hc] at h
              simp only [cond_true] at h
              split at h
              · rename_i l hh h1 h2; exact ⟨_, h.2.2.2, fun _ _ _ k => by simp only [opV, hx, hc, cond_true, h1, h2]; exact ⟨h.1, h.2.1, h.2.2.1, k⟩⟩
              · exact h.elim
          | _ => simp only [pvK] at h <;> exact h.elim
        | sl sz rows =>
          simp only [pvK] at h
          split at h
          · rename_i sz' rows' e te hq ht
            cases hq
            cases hc : Nat.beq te.size sz with
            | false => rw [hc] at h; exact h.elim
            | true =>
              rw [hc] at h
              simp only [cond_true] at h
              split at h
              · rename_i l hh h1 h2; exact ⟨_, h.2.2.2, fun _ _ _ k => by simp only [opV, hx, pvK, ht, hc, cond_true, h1, h2]; exact ⟨h.1, h.2.1, h.2.2.1, k⟩⟩
              · exact h.elim
          · exact h.elim
        | fs e sz rows => simp only [pvK] at h <;> exact h.elim
      · cases hp
  | binOp op t x y yt =>
    simp only [opV] at h
    cases hc : isIfc T t with
    | true =>
      rw [hc] at h
      simp only [cond_true] at h
      obtain ⟨z, h1, h2⟩ := ifcK_came h
      exact ⟨z, h1, fun bk' _ K' k => by simp only [opV, hc, cond_true]; exact h2 _ k⟩
    | false =>
      rw [hc] at h
      simp only [cond_false] at h
      obtain ⟨z, h1, h2⟩ := binK_came h
      exact ⟨z, h1, fun bk' _ K' k => by simp only [opV, hc, cond_false]; exact h2 _ k⟩
  | _ => cases hp
/-- What came out of an operation in its region. -/
structure CameO (P : Program) (T : Tab) (ops : Array Oper) (o : Oper) (sl : Slots) (bk : List Blk) (K : Slots → List Blk → Prop) (x : AV) (b : List Blk) : Prop where
  got : K (putO sl o.dst x) b
  any : ∀ sl', AgreeOn (o.looksAt ops) sl sl' → ∀ K' : Slots → List Blk → Prop, K' (putO sl' o.dst x) b → arOp P T ops o sl' bk K'
  ext : eB T o.op = true → Ext bk b
  sim : sB T o.op = true → Sim bk b
  qn : qN T o.op = true → b = bk ∧ ∀ sl' bk', AgreeOn (o.looksAt ops) sl sl' → Sim bk bk' → ∀ K' : Slots → List Blk → Prop, K' (putO sl' o.dst x) bk' → arOp P T ops o sl' bk' K'
  qr : qR T o.op = true → b = bk ∧ ∀ sl' bk', AgreeOn (o.looksAt ops) sl sl' → Ext bk bk' → ∀ K' : Slots → List Blk → Prop, K' (putO sl' o.dst x) bk' → arOp P T ops o sl' bk' K'
  far : fB T o.op = true → Far bk b

theorem arOp_came {o : Oper} {sl : Slots} {bk : List Blk} {K : Slots → List Blk → Prop} (h : arOp P T ops o sl bk K) : ∃ x b, CameO P T ops o sl bk K x b := by
  -- carried out
  have runs : (∀ (sl' : Slots) (bk' : List Blk) (K' : Slots → List Blk → Prop), AgreeOn (o.looksAt ops) sl sl' → opV P T o.op (ev sl') bk' (fun x b => K' (putO sl' o.dst x) b) → arOp P T ops o sl' bk' K') →
      opV P T o.op (ev sl) bk (fun x b => K (putO sl o.dst x) b) → ∃ x b, CameO P T ops o sl bk K x b := fun hg hr => by
    obtain ⟨x, b, c⟩ := opV_came hr
    refine ⟨x, b, c.got, fun sl' ha K' hk => hg sl' bk K' ha ?_, c.ext, c.sim, fun hq => ⟨(c.qn hq).1, fun sl' bk' ha hs K' hk => hg sl' bk' K' ha ?_⟩, fun hq => ⟨(c.qr hq).1, fun sl' bk' ha hs K' hk => hg sl' bk' K' ha ?_⟩, c.far⟩
    · rw [← opV_congr (ev_agree ha)]; exact c.any _ hk
    · rw [← opV_congr (ev_agree ha)]; exact (c.qn hq).2 bk' hs _ hk
    · rw [← opV_congr (ev_agree ha)]; exact (c.qr hq).2 bk' hs _ hk
  have skips : (∀ (sl' : Slots) (bk' : List Blk) (K' : Slots → List Blk → Prop), AgreeOn (o.looksAt ops) sl sl' → K' (putO sl' o.dst (.tup [])) bk' → arOp P T ops o sl' bk' K') → K (putO sl o.dst (.tup [])) bk → ∃ x b, CameO P T ops o sl bk K x b := fun hg hk =>
    ⟨.tup [], bk, hk, fun sl' ha K' hk => hg sl' bk K' ha hk, fun _ => Ext.refl _, fun _ => Sim.refl _, fun _ => ⟨rfl, fun sl' bk' ha _ K' hk => hg sl' bk' K' ha hk⟩, fun _ => ⟨rfl, fun sl' bk' ha _ K' hk => hg sl' bk' K' ha hk⟩, fun _ => Far.refl _⟩
  unfold arOp guardK at h
  cases hgd : o.guard with
  | none =>
    rw [hgd] at h
    exact runs (fun sl' bk' K' _ hr => by unfold arOp guardK; rw [hgd]; exact hr) h
  | some jw =>
    obtain ⟨j, want⟩ := jw
    rw [hgd] at h
    simp only at h
    cases hs : gslot ops j with
    | none => rw [hs] at h; exact h.elim
    | some d =>
      rw [hs] at h
      simp only at h
      have hd : d ∈ o.looksAt ops := by
        unfold Oper.looksAt
        refine List.mem_append_right _ ?_
        rw [hgd]
        unfold gslot at hs
        simp [hs]
      split at h
      · rename_i b hb
        have same : ∀ sl' : Slots, AgreeOn (o.looksAt ops) sl sl' → sl' d = sc (.bool b) := fun sl' ha => (ha d hd).symm.trans hb
        cases b <;> cases want <;> simp only at h <;> rw [put_self hb] at h
        · exact runs (fun sl' bk' K' ha hr => by unfold arOp guardK; rw [hgd]; simp only [hs, same sl' ha]; rw [put_self (same sl' ha)]; exact hr) h
        · exact skips (fun sl' bk' K' ha hr => by unfold arOp guardK; rw [hgd]; simp only [hs, same sl' ha]; rw [put_self (same sl' ha)]; exact hr) h
        · exact skips (fun sl' bk' K' ha hr => by unfold arOp guardK; rw [hgd]; simp only [hs, same sl' ha]; rw [put_self (same sl' ha)]; exact hr) h
        · exact runs (fun sl' bk' K' ha hr => by unfold arOp guardK; rw [hgd]; simp only [hs, same sl' ha]; rw [put_self (same sl' ha)]; exact hr) h
      · rename_i hb
        have same : ∀ sl' : Slots, AgreeOn (o.looksAt ops) sl sl' → sl' d = .tup [] := fun sl' ha => (ha d hd).symm.trans hb
        exact skips (fun sl' bk' K' ha hr => by unfold arOp guardK; rw [hgd]; simp only [hs, same sl' ha]; exact hr) h
      · exact h.elim

/-! ### Any order -/
def arAt (P : Program) (T : Tab) (ops : Array Oper) (i : Nat) (K : Slots → List Blk → Prop) (sl : Slots) (bk : List Blk) : Prop :=
  match ops[i]? with
  | some o => arOp P T ops o sl bk K
  | none => K sl bk
def arAny (P : Program) (T : Tab) (ops : Array Oper) (K : Slots → List Blk → Prop) : Nat → Array Bool → Slots → List Blk → Prop
  | 0, listed, sl, bk => Region.ready .any ops listed = [] ∧ K sl bk
  | f + 1, listed, sl, bk => (Region.ready .any ops listed = [] → K sl bk) ∧ ∀ i ∈ Region.ready .any ops listed, arAt P T ops i (arAny P T ops K f (listed.setIfInBounds i true)) sl bk

theorem arAny_sound (hT : TabOK P T) {C : Ctx} (hgl : Glob C.S0 C.w0) {Q : Exit → Act → World → Prop} {K : Slots → List Blk → Prop} (hQ : ∀ a w, Ok C K a w → Q .normal a w) (hd : ∀ (i : Nat) (o : Oper), ops[i]? = some o → ∀ k, o.dst = some k → k < C.n) :
    ∀ (f : Nat) (listed : Array Bool) {G : Gh} {sl : Slots} {bk : List Blk} {a : Act} {w : World}, Rel C G sl bk a w → arAny P T ops K f listed sl bk → wpAny P .any ops Q f listed a w
  | 0, listed, G, sl, bk, a, w, hr, h => ⟨h.1, hQ _ _ ⟨G, sl, bk, h.2, hr⟩⟩
  | f + 1, listed, G, sl, bk, a, w, hr, h => by
    refine ⟨fun h0 => hQ _ _ ⟨G, sl, bk, h.1 h0, hr⟩, fun i hi => ?_⟩
    have h1 := h.2 i hi
    unfold wpOp
    unfold arAt at h1
    cases ho : ops[i]? with
    | none => rw [ho] at h1; exact arAny_sound hT hgl hQ hd f _ hr h1
    | some o =>
      rw [ho] at h1
      simp only at h1 ⊢
      rcases arOp_sound (Q := Q) hT hgl hr (hd i o ho) (fun a w ⟨G', sl', bk', hk', h'⟩ => arAny_sound hT hgl hQ hd f (listed.setIfInBounds i true) h' hk') h1 with ⟨hw, h2⟩ | ⟨hw, h2⟩
      · rw [if_pos hw]; exact .inl h2
      · rw [if_neg (by simp [hw])]; exact h2

/-- Does oj wait for one of these? -/
def onB (oj : Oper) (l : List Nat) : Bool := oj.after.any fun e => Region.binds .any e && l.any (Nat.beq e.on)
/-- What waits for operation i, or for what waits for it. -/
def blk (ops : Array Oper) (i : Nat) (listed : Array Bool) : Nat → List Nat → List Nat
  | 0, l => l
  | n + 1, l => blk ops i listed n ((List.range ops.size).filter fun j => !(listed.getD j true) && (match ops[j]? with | some oj => onB oj (i :: l) | none => false))
def blkB (ops : Array Oper) (i : Nat) (listed : Array Bool) (l : List Nat) : Bool := l.all fun j => (match listed[j]? with | some b => !b | none => false) && (match ops[j]? with | some oj => onB oj (i :: l) | none => false)
/-- May operation i be taken first? Every other one that is left waits for it, or has nothing to do with it. -/
def frB (T : Tab) (ops : Array Oper) (i : Nat) (listed : Array Bool) : Bool :=
  match ops[i]? with
  | some oi => (qN T oi.op || qR T oi.op) && (blkB ops i listed (blk ops i listed ops.size []) && (List.range ops.size).all fun j =>
      Nat.beq j i || listed.getD j true || (blk ops i listed ops.size []).any (Nat.beq j) || (match ops[j]? with
        | some oj => oi.apart ops oj && (if qN T oi.op then sB T oj.op else eB T oj.op)
        | none => true))
  | none => false
/-- May operation i, whose value hangs on variables alone, be taken first? -/
def frF (T : Tab) (ops : Array Oper) (i : Nat) (listed : Array Bool) : Bool :=
  match ops[i]? with
  | some oi => oi.guard.isNone && (blkB ops i listed (blk ops i listed ops.size []) && (List.range ops.size).all fun j =>
      Nat.beq j i || listed.getD j true || (blk ops i listed ops.size []).any (Nat.beq j) || (match ops[j]? with
        | some oj => oi.apart ops oj && fB T oj.op
        | none => true))
  | none => false
/-- May operation i, whose value hangs on slots alone, be taken first, whatever else is there? -/
def frG (T : Tab) (ops : Array Oper) (i : Nat) (listed : Array Bool) : Bool :=
  match ops[i]? with
  | some oi => oi.guard.isNone && (blkB ops i listed (blk ops i listed ops.size []) && (List.range ops.size).all fun j =>
      Nat.beq j i || listed.getD j true || (blk ops i listed ops.size []).any (Nat.beq j) || (match ops[j]? with
        | some oj => oi.apart ops oj
        | none => true))
  | none => false
def pinF (op : Op) (ρ : Operand → AV) : Bool :=
  match op with
  | .move _ | .assign _ => true
  | .fieldAddr _ x _ => (match ρ x with | .lf (.ptr _ _) => true | .lf (.ro _) => true | _ => false)
  | _ => false
theorem opV_fre {op : Op} {ρ : Operand → AV} {bk : List Blk} {K : AV → List Blk → Prop} (hp : pinF op ρ = true) (h : opV P T op ρ bk K) : ∃ x, K x bk ∧ ∀ bk' (K' : AV → List Blk → Prop), K' x bk' → opV P T op ρ bk' K' := by
  unfold pinF at hp
  cases op with
  | move x => exact ⟨_, h, fun _ _ k => k⟩
  | assign x => exact ⟨_, h, fun _ _ k => k⟩
  | fieldAddr s x f =>
    simp only [opV] at h
    split at h
    · rename_i off hoff
      split at h
      · rename_i b o hx; exact ⟨_, h, fun _ _ k => by simp only [opV, hoff, hx]; exact k⟩
      · rename_i l hx; exact ⟨_, h, fun _ _ k => by simp only [opV, hoff, hx]; exact k⟩
      · rename_i b n i sz o hx; simp only [hx] at hp; cases hp
      · rename_i hx; simp only [hx] at hp; cases hp
      · exact h.elim
    · exact h.elim
  | _ => cases hp
/-- The class of what may happen beside an operation. -/
def Bes (T : Tab) (o : Oper) (bk bk' : List Blk) : Prop := if qN T o.op = true then Sim bk bk' else Ext bk bk'
theorem Bes.refl (o : Oper) (bk : List Blk) : Bes T o bk bk := by unfold Bes; split; exact Sim.refl _; exact Ext.refl _
theorem Bes.trans {o : Oper} {a b c : List Blk} (h : Bes T o a b) (k : Bes T o b c) : Bes T o a c := by
  unfold Bes at *
  by_cases hq : qN T o.op = true
  · rw [if_pos hq] at *; exact Sim.trans h k
  · rw [if_neg hq] at *; exact Ext.trans h k

theorem arAny_first {K : Slots → List Blk → Prop} {i : Nat} {oi : Oper} (hi : ops[i]? = some oi) {x : AV} {R : List Blk → List Blk → Prop} (hrefl : ∀ b, R b b) (htrans : ∀ {a b c}, R a b → R b c → R a c) {good : Oper → Bool} (hgood : ∀ (oj : Oper) (sl : Slots) (bk : List Blk) (K : Slots → List Blk → Prop) (y : AV) (b : List Blk), good oj = true → CameO P T ops oj sl bk K y b → R bk b) {Bk : Nat → Prop} (hbk : ∀ (j : Nat) (oj : Oper), ops[j]? = some oj → Bk j → ∃ e ∈ oj.after, Region.binds .any e = true ∧ (e.on = i ∨ Bk e.on)) : ∀ (f : Nat) (listed : Array Bool) (sl : Slots) (bk : List Blk),
    (∀ j, Bk j → listed[j]? = some false) →
    (∀ (j : Nat) (oj : Oper), ops[j]? = some oj → j ≠ i → listed.getD j true = false → ¬ Bk j → oi.apart ops oj = true ∧ good oj = true) →
    i ∈ Region.ready .any ops listed →
    (∀ sl' bk', AgreeOn (oi.looksAt ops) sl sl' → R bk bk' → ∀ K' : Slots → List Blk → Prop, K' (putO sl' oi.dst x) bk' → arOp P T ops oi sl' bk' K') →
    arAny P T ops K f (listed.setIfInBounds i true) (putO sl oi.dst x) bk → arAny P T ops K (f + 1) listed sl bk := by
  intro f
  induction f with
  | zero =>
    intro listed sl bk _ _ hr hq H
    refine ⟨fun h => (by rw [h] at hr; cases hr), fun j hj => ?_⟩
    by_cases hji : j = i
    · subst hji
      unfold arAt
      rw [hi]
      exact hq sl bk (fun _ _ => rfl) (hrefl _) _ H
    · have := ready_mono hj hji
      rw [H.1] at this
      cases this
  | succ f ih =>
    intro listed sl bk hun0 hfree hr hq H
    refine ⟨fun h => (by rw [h] at hr; cases hr), fun j hj => ?_⟩
    by_cases hji : j = i
    · subst hji
      unfold arAt
      rw [hi]
      exact hq sl bk (fun _ _ => rfl) (hrefl _) _ H
    · have h1 := H.2 j (ready_mono hj hji)
      obtain ⟨hjun, oj, hoj, hall⟩ := mem_ready.1 hj
      have hnot : ¬ Bk j := fun hB => by
        obtain ⟨e, he, hb, heq⟩ := hbk j oj hoj hB
        have h1 := hall e he hb
        rcases heq with heq | heq
        · have h0 := (mem_ready.1 hr).1
          rw [heq] at h1
          rcases Nat.lt_or_ge i listed.size with h' | h'
          · simp [h'] at h0 h1; rw [h0] at h1; cases h1
          · simp [Array.getElem?_eq_none h'] at h1
        · have h0 := hun0 _ heq
          simp [h0] at h1
      obtain ⟨hap, hcl⟩ := hfree j oj hoj hji hjun hnot
      obtain ⟨a1, a2, a3⟩ := Oper.apart_spec hap
      unfold arAt at h1 ⊢
      rw [hoj] at h1 ⊢
      simp only at h1 ⊢
      obtain ⟨xj, bj, c⟩ := arOp_came h1
      have hbes : R bk bj := hgood oj _ bk _ xj bj hcl c
      refine c.any sl (AgreeOn.put a1).symm _ ?_
      refine ih _ _ _ (fun k hk => by rw [Array.getElem?_setIfInBounds_ne (fun e => hnot (by rw [e]; exact hk))]; exact hun0 k hk) (fun k ok hk hki hun hno => ?_) (ready_mono hr (Ne.symm hji)) (fun sl' bk' hag hb K' hk' => hq sl' bk' ((AgreeOn.put a3).trans hag) (htrans hbes hb) K' hk') ?_
      · refine hfree k ok hk hki ?_ hno
        by_cases hjk : j = k
        · subst hjk; exact hjun
        · rw [getD_set_ne true hjk] at hun; exact hun
      · have := c.got
        rw [putO_comm a2] at this
        rw [Array.setIfInBounds_comm _ _ hji]
        exact this

/-! ### A plan -/
inductive Pl where
  | done
  | pre (i : Nat) (p : Pl)
  | fre (i : Nat) (p : Pl)
  | one (i : Nat) (p : Pl)
  | two (i : Nat) (p : Pl) (j : Nat) (q : Pl)
  | three (i : Nat) (p : Pl) (j : Nat) (q : Pl) (k : Nat) (r : Pl)
def plB (T : Tab) (ops : Array Oper) : Nat → Pl → Array Bool → Bool
  | _, .done, listed => (Region.ready .any ops listed).isEmpty
  | 0, _, _ => false
  | f + 1, .pre i p, listed => (Region.ready .any ops listed).contains i && frF T ops i listed && plB T ops f p (listed.setIfInBounds i true)
  | f + 1, .fre i p, listed => (Region.ready .any ops listed).contains i && frG T ops i listed && plB T ops f p (listed.setIfInBounds i true)
  | f + 1, .one i p, listed => (ops[i]?).isSome && (Region.ready .any ops listed).contains i && (decide (Region.ready .any ops listed = [i]) || frB T ops i listed) && plB T ops f p (listed.setIfInBounds i true)
  | f + 1, .two i p j q, listed => (ops[i]?).isSome && (ops[j]?).isSome && decide (Region.ready .any ops listed = [i, j]) && plB T ops f p (listed.setIfInBounds i true) && plB T ops f q (listed.setIfInBounds j true)
  | f + 1, .three i p j q k r, listed => decide (Region.ready .any ops listed = [i, j, k]) && plB T ops f p (listed.setIfInBounds i true) && plB T ops f q (listed.setIfInBounds j true) && plB T ops f r (listed.setIfInBounds k true)
def awpPl (P : Program) (T : Tab) (ops : Array Oper) (K : Slots → List Blk → Prop) : Pl → Slots → List Blk → Prop
  | .done, sl, bk => K sl bk
  | .pre i p, sl, bk => (match ops[i]? with | some o => (match pinB o.op (ev sl) with | true => arAt P T ops i (awpPl P T ops K p) sl bk | false => False) | none => False)
  | .fre i p, sl, bk => (match ops[i]? with | some o => (match pinF o.op (ev sl) with | true => arAt P T ops i (awpPl P T ops K p) sl bk | false => False) | none => False)
  | .one i p, sl, bk => arAt P T ops i (awpPl P T ops K p) sl bk
  | .two i p j q, sl, bk => arAt P T ops i (awpPl P T ops K p) sl bk ∧ arAt P T ops j (awpPl P T ops K q) sl bk
  | .three i p j q k r, sl, bk => arAt P T ops i (awpPl P T ops K p) sl bk ∧ arAt P T ops j (awpPl P T ops K q) sl bk ∧ arAt P T ops k (awpPl P T ops K r) sl bk
/-- The plan that is the text's order. -/
def seqPl (i : Nat) : Nat → Pl
  | 0 => .done
  | n + 1 => .one i (seqPl (i + 1) n)
def listPl : List Nat → Pl
  | [] => .done
  | i :: l => .one i (listPl l)

theorem arAt_mono {i : Nat} {sl : Slots} {bk : List Blk} {K K' : Slots → List Blk → Prop} (h : ∀ sl bk, K sl bk → K' sl bk) (hh : arAt P T ops i K sl bk) : arAt P T ops i K' sl bk := by
  unfold arAt at *
  cases ho : ops[i]? with
  | none => rw [ho] at hh; exact h _ _ hh
  | some o =>
    rw [ho] at hh
    obtain ⟨x, b, c⟩ := arOp_came hh
    exact c.any sl (fun _ _ => rfl) _ (h _ _ c.got)

theorem arAny_of_plan {K : Slots → List Blk → Prop} : ∀ (f : Nat) (p : Pl) (listed : Array Bool) (sl : Slots) (bk : List Blk), plB T ops f p listed = true → awpPl P T ops K p sl bk → arAny P T ops K f listed sl bk
  | 0, p, listed, sl, bk, hB, h => by
    cases p with
    | done => exact ⟨by simpa [plB] using hB, h⟩
    | _ => simp [plB] at hB
  | f + 1, p, listed, sl, bk, hB, h => by
    cases p with
    | done =>
      have h0 : Region.ready .any ops listed = [] := by simpa [plB] using hB
      exact ⟨fun _ => h, by rw [h0]; simp⟩
    | pre i p =>
      simp only [plB, Bool.and_eq_true, List.contains_iff_mem] at hB
      obtain ⟨⟨hc, hB1⟩, hB2⟩ := hB
      unfold frF at hB1
      cases hi : ops[i]? with
      | none => rw [hi] at hB1; cases hB1
      | some oi =>
        rw [hi] at hB1
        simp only [Bool.and_eq_true, Bool.or_eq_true, List.all_eq_true, List.mem_range] at hB1
        obtain ⟨hg, hbB, hall⟩ := hB1
        simp only [awpPl, hi] at h
        cases hpin : pinB oi.op (ev sl) with
        | false => rw [hpin] at h; exact h.elim
        | true =>
        rw [hpin] at h
        simp only [arAt, hi] at h
        have hgn : oi.guard = none := by simpa using hg
        unfold arOp guardK at h
        rw [hgn] at h
        obtain ⟨x, hx, hany⟩ := opV_pin hpin h
        have mem : ∀ {l : List Nat} {j : Nat}, l.any (Nat.beq j) = true → j ∈ l := fun {l j} h => by
          obtain ⟨y, hy, h2⟩ := List.any_eq_true.1 h
          rw [Nat.eq_of_beq_eq_true h2]; exact hy
        have bl := List.all_eq_true.1 hbB
        refine arAny_first hi (R := Far) Far.refl (fun h k => h.trans k) (good := fun oj => fB T oj.op) (fun oj sl bk K y b hcl c => c.far hcl) (Bk := fun j => j ∈ blk ops i listed ops.size []) (fun j oj hoj hB => ?_) f listed sl bk (x := x) (fun j hB => ?_) (fun j oj hoj hji hun hno => ?_) hc (fun sl' bk' ha hbs K' hk' => ?_) (arAny_of_plan f p _ _ _ hB2 hx)
        · have h1 := bl j hB
          rw [hoj] at h1
          simp only [Bool.and_eq_true] at h1
          obtain ⟨e, he, h2⟩ := Array.any_eq_true'.1 h1.2
          simp only [Bool.and_eq_true] at h2
          refine ⟨e, he, h2.1, ?_⟩
          have := mem h2.2
          simpa using this
        · have h1 := bl j hB
          simp only [Bool.and_eq_true] at h1
          have h2 := h1.1
          cases hl : listed[j]? with
          | none => rw [hl] at h2; cases h2
          | some v => rw [hl] at h2; simp at h2; rw [h2]
        · have hjl : j < ops.size := (Array.getElem?_eq_some_iff.1 hoj).1
          rcases hall j hjl with ((h1 | h1) | h1) | h1
          · exact absurd (Nat.eq_of_beq_eq_true h1) hji
          · rw [hun] at h1; cases h1
          · exact absurd (mem h1) hno
          · rw [hoj] at h1
            simp only [Bool.and_eq_true] at h1
            exact h1
        · unfold arOp guardK
          rw [hgn]
          show opV P T oi.op (ev sl') bk' (fun x bk => K' (putO sl' oi.dst x) bk)
          rw [← opV_congr (ev_agree ha)]
          exact hany bk' hbs (fun x b => K' (putO sl' oi.dst x) b) hk'
    | fre i p =>
      simp only [plB, Bool.and_eq_true, List.contains_iff_mem] at hB
      obtain ⟨⟨hc, hB1⟩, hB2⟩ := hB
      unfold frG at hB1
      cases hi : ops[i]? with
      | none => rw [hi] at hB1; cases hB1
      | some oi =>
        rw [hi] at hB1
        simp only [Bool.and_eq_true, Bool.or_eq_true, List.all_eq_true, List.mem_range] at hB1
        obtain ⟨hg, hbB, hall⟩ := hB1
        simp only [awpPl, hi] at h
        cases hpin : pinF oi.op (ev sl) with
        | false => rw [hpin] at h; exact h.elim
        | true =>
        rw [hpin] at h
        simp only [arAt, hi] at h
        have hgn : oi.guard = none := by simpa using hg
        unfold arOp guardK at h
        rw [hgn] at h
        obtain ⟨x, hx, hany⟩ := opV_fre hpin h
        have mem : ∀ {l : List Nat} {j : Nat}, l.any (Nat.beq j) = true → j ∈ l := fun {l j} h => by
          obtain ⟨y, hy, h2⟩ := List.any_eq_true.1 h
          rw [Nat.eq_of_beq_eq_true h2]; exact hy
        have bl := List.all_eq_true.1 hbB
        refine arAny_first hi (R := fun _ _ => True) (fun _ => trivial) (fun _ _ => trivial) (good := fun _ => true) (fun oj sl bk K y b hcl c => trivial) (Bk := fun j => j ∈ blk ops i listed ops.size []) (fun j oj hoj hB => ?_) f listed sl bk (x := x) (fun j hB => ?_) (fun j oj hoj hji hun hno => ?_) hc (fun sl' bk' ha hbs K' hk' => ?_) (arAny_of_plan f p _ _ _ hB2 hx)
        · have h1 := bl j hB
          rw [hoj] at h1
          simp only [Bool.and_eq_true] at h1
          obtain ⟨e, he, h2⟩ := Array.any_eq_true'.1 h1.2
          simp only [Bool.and_eq_true] at h2
          refine ⟨e, he, h2.1, ?_⟩
          have := mem h2.2
          simpa using this
        · have h1 := bl j hB
          simp only [Bool.and_eq_true] at h1
          have h2 := h1.1
          cases hl : listed[j]? with
          | none => rw [hl] at h2; cases h2
          | some v => rw [hl] at h2; simp at h2; rw [h2]
        · have hjl : j < ops.size := (Array.getElem?_eq_some_iff.1 hoj).1
          rcases hall j hjl with ((h1 | h1) | h1) | h1
          · exact absurd (Nat.eq_of_beq_eq_true h1) hji
          · rw [hun] at h1; cases h1
          · exact absurd (mem h1) hno
          · rw [hoj] at h1
            exact ⟨h1, rfl⟩
        · unfold arOp guardK
          rw [hgn]
          show opV P T oi.op (ev sl') bk' (fun x bk => K' (putO sl' oi.dst x) bk)
          rw [← opV_congr (ev_agree ha)]
          exact hany bk' (fun x b => K' (putO sl' oi.dst x) b) hk'
    | one i p =>
      simp only [plB, Bool.and_eq_true, Bool.or_eq_true, decide_eq_true_eq, List.contains_iff_mem] at hB
      obtain ⟨⟨⟨hs, hc⟩, hB1⟩, hB2⟩ := hB
      obtain ⟨oi, hi⟩ := Option.isSome_iff_exists.1 hs
      rcases hB1 with hB1 | hB1
      · refine ⟨fun h0 => (by rw [h0] at hc; cases hc), fun j hj => ?_⟩
        rw [hB1] at hj
        obtain rfl : j = i := by simpa using hj
        exact arAt_mono (fun sl bk h => arAny_of_plan f p _ sl bk hB2 h) h
      · unfold frB at hB1
        rw [hi] at hB1
        simp only [Bool.and_eq_true, Bool.or_eq_true, List.all_eq_true, List.mem_range] at hB1
        obtain ⟨hq, hbB, hall⟩ := hB1
        simp only [awpPl, arAt, hi] at h
        obtain ⟨x, b, c⟩ := arOp_came h
        have hb : b = bk := by
          rcases hq with hq | hq
          · exact (c.qn hq).1
          · exact (c.qr hq).1
        subst hb
        have mem : ∀ {l : List Nat} {j : Nat}, l.any (Nat.beq j) = true → j ∈ l := fun {l j} h => by
          obtain ⟨y, hy, h2⟩ := List.any_eq_true.1 h
          rw [Nat.eq_of_beq_eq_true h2]; exact hy
        have bl := List.all_eq_true.1 hbB
        refine arAny_first hi (R := Bes T oi) (Bes.refl oi) (fun h k => h.trans k) (good := fun oj => if qN T oi.op then sB T oj.op else eB T oj.op) (fun oj sl bk K y b hcl c => (by
          unfold Bes
          split
          · rename_i hqn; rw [if_pos hqn] at hcl; exact c.sim hcl
          · rename_i hqn; rw [if_neg hqn] at hcl; exact c.ext hcl)) (Bk := fun j => j ∈ blk ops i listed ops.size []) (fun j oj hoj hB => ?_) f listed sl b (x := x) (fun j hB => ?_) (fun j oj hoj hji hun hno => ?_) hc (fun sl' bk' ha hbs K' hk' => ?_) (arAny_of_plan f p _ _ _ hB2 c.got)
        · have h1 := bl j hB
          rw [hoj] at h1
          simp only [Bool.and_eq_true] at h1
          obtain ⟨e, he, h2⟩ := Array.any_eq_true'.1 h1.2
          simp only [Bool.and_eq_true] at h2
          refine ⟨e, he, h2.1, ?_⟩
          have := mem h2.2
          simpa using this
        · have h1 := bl j hB
          simp only [Bool.and_eq_true] at h1
          have h2 := h1.1
          cases hl : listed[j]? with
          | none => rw [hl] at h2; cases h2
          | some v => rw [hl] at h2; simp at h2; rw [h2]
        · have hjl : j < ops.size := (Array.getElem?_eq_some_iff.1 hoj).1
          rcases hall j hjl with ((h1 | h1) | h1) | h1
          · exact absurd (Nat.eq_of_beq_eq_true h1) hji
          · rw [hun] at h1; cases h1
          · exact absurd (mem h1) hno
          · rw [hoj] at h1
            simp only [Bool.and_eq_true] at h1
            exact h1
        · by_cases hqn : qN T oi.op = true
          · unfold Bes at hbs; rw [if_pos hqn] at hbs; exact (c.qn hqn).2 sl' bk' ha hbs K' hk'
          · unfold Bes at hbs; rw [if_neg hqn] at hbs
            rcases hq with hq | hq
            · exact absurd hq hqn
            · exact (c.qr hq).2 sl' bk' ha hbs K' hk'
    | two i p j q =>
      simp only [plB, Bool.and_eq_true, decide_eq_true_eq] at hB
      obtain ⟨⟨⟨_, hr⟩, hB1⟩, hB2⟩ := hB
      refine ⟨fun h0 => (by rw [h0] at hr; cases hr), fun k hk => ?_⟩
      rw [hr] at hk
      simp only [List.mem_cons, List.not_mem_nil, or_false] at hk
      rcases hk with rfl | rfl
      · exact arAt_mono (fun sl bk h => arAny_of_plan f p _ sl bk hB1 h) h.1
      · exact arAt_mono (fun sl bk h => arAny_of_plan f q _ sl bk hB2 h) h.2
    | three i p j q k r =>
      simp only [plB, Bool.and_eq_true, decide_eq_true_eq] at hB
      obtain ⟨⟨⟨hr, hB1⟩, hB2⟩, hB3⟩ := hB
      refine ⟨fun h0 => (by rw [h0] at hr; cases hr), fun n hn => ?_⟩
      rw [hr] at hn
      simp only [List.mem_cons, List.not_mem_nil, or_false] at hn
      rcases hn with rfl | rfl | rfl
      · exact arAt_mono (fun sl bk h => arAny_of_plan f p _ sl bk hB1 h) h.1
      · exact arAt_mono (fun sl bk h => arAny_of_plan f q _ sl bk hB2 h) h.2.1
      · exact arAt_mono (fun sl bk h => arAny_of_plan f r _ sl bk hB3 h) h.2.2

/-- A region that draws its order, by a plan. -/
theorem AW.draw {n : Fr} {id : Nat} {Q : Post} {sl : Slots} {bk : List Blk} (hT : TabOK P T) (hm : P.follows .mixedOrders = true) (p : Pl) (hp : plB T ops ops.size p (Array.replicate ops.size false) = true) (hd : dstB n.n (.region id ops true) = true)
    (h : awpPl P T ops (Q .normal) p sl bk) : AW P n (.region id ops true) Q sl bk := by
  refine ⟨fun C G a w hn hr => ?_⟩
  refine wp_region_any hm ?_
  obtain ⟨t, m⟩ := hr.mem.drew
  have hr' : Rel C G sl bk a w.drew := ⟨hr.size, hr.dfr, fun t' => t.repA (hr.slots t'), m⟩
  refine arAny_sound hT hn.2.2 (K := Q .normal) (fun a w h => h) (fun i o ho k hk => ?_) _ _ hr' (arAny_of_plan _ p _ sl bk hp h)
  have := (Array.all_eq_true'.1 hd) o (Array.mem_of_getElem? ho)
  rw [hk] at this
  rw [hn.1]
  exact Nat.le_of_ble_eq_true this
end
end Go.Rx

/- Is a slice nil? It may be where it has no rows; either way what follows must hold. -/
set_option linter.unusedVariables false
set_option linter.unusedSimpArgs false
namespace Go.Rx
open Go.RowKit
section
variable {P : Program} {T : Tab}
theorem AW.nilTest {n : Fr} {id d1 d2 t : Nat} {ty yt ty1 ty2 e : TypeId} {te : Ty} {p1 p2 : String} {af1 af2 : Array Edge} {Q : Post} {sl : Slots} {bk : List Blk} {sz : Nat} {rows : List (List PV)} (hT : TabOK P T) (he : elemOf? T ty = some (e, te))
    (h1 : sl t = .lf (.pv (.sl sz rows))) (hd : d1 < n.n ∧ d2 < n.n) (k1 : rows = [] → Q .normal (put (put sl d1 (sl t)) d2 (sc (.bool true))) bk) (k2 : Q .normal (put (put sl d1 (sl t)) d2 (sc (.bool false))) bk) :
    AW P n (.region id #[⟨some d1, .move (.tmp t), ty1, p1, af1, none⟩, ⟨some d2, .binOp .eql ty (.tmp d1) (.const (.slice none 0 0)) yt, ty2, p2, af2, none⟩] false) Q sl bk := by
  refine ⟨fun C G a w hn hr => wp_region_list ?_⟩
  have hu := (elemOf_spec hT he).1
  have go : ∀ (ops : Array Oper) (o : Oper) (l : List Oper) (a : Act) (w : World) (Qf : Exit → Act → World → Prop), o.guard = none → o.wp P a w (fun a w => wpList P ops Qf l a w) Qf → wpList P ops Qf (o :: l) a w := fun ops o l a w Qf hg h => by
    unfold wpList
    rw [if_pos (by unfold Region.wanted; rw [hg])]
    exact .inl h
  refine go _ _ _ _ _ _ rfl ?_
  have hv := hr.slots t
  have r1 := hr.put_of (Trn.refl _ _ _) hr.mem (x := sl t) (v := a.tmps.getD t undef) hv (some d1) (fun k hk => by cases hk; rw [hn.1]; exact hd.1)
  have e0 : (execOp a.eval ⟨some d1, .move (.tmp t), ty1, p1, af1, none⟩).run P w = .ok (.value (a.tmps.getD t undef)) w := rfl
  unfold Oper.wp
  rw [e0]
  generalize a.tmps.getD t undef = v at *
  have e2 : (a.put (some d1) v).eval (.tmp d1) = v := by
    show (a.put (some d1) v).tmps.getD d1 undef = v
    simp [Act.put, hr.size, hn.1, hd.1]
  rw [h1] at hv
  replace hv : RepP G.S w (.sl sz rows) v := hv
  refine go _ _ _ _ _ _ rfl ?_
  have fin : ∀ b : Bool, Q .normal (put (put sl d1 (sl t)) d2 (sc (.bool b))) bk → Ok C (Q .normal) ((a.put (some d1) v).put (some d2) (.bool b)) w := fun b hq =>
    ⟨G, _, bk, hq, r1.put_of (Trn.refl _ _ _) r1.mem (x := sc (.bool b)) (rep_sc rfl) (some d2) (fun k hk => by cases hk; rw [hn.1]; exact hd.2)⟩
  have ex : ∀ (o : Option Addr) (l c : Nat), v = .slice o l c → (execOp (a.put (some d1) v).eval ⟨some d2, .binOp .eql ty (.tmp d1) (.const (.slice none 0 0)) yt, ty2, p2, af2, none⟩).run P w = .ok (.value (.bool o.isNone)) w := fun o l c hvv => by
    have hq := Lib.run_eql_slice_nil (P := P) w ty e o l c 0 0 hu
    simp only [execOp]
    rw [e2, hvv]
    have e4 : (a.put (some d1) (Value.slice o l c)).eval (.const (.slice none 0 0)) = .slice none 0 0 := rfl
    rw [e4]
    simp [eqGuard, hq]
  unfold Oper.wp
  cases hv with
  | nil => rw [ex none 0 0 rfl]; exact fin true (k1 rfl)
  | emp => rw [ex _ _ _ rfl]; exact fin false k2
  | sl _ g o cap _ vs _ _ _ _ => rw [ex _ _ _ rfl]; exact fin false k2
/-- The same as awp, but what follows block z, or the statement whose first region is z - 1000, or region z - 2000, is left as it is: ways meet there. -/
def awpC (P : Program) (n : Fr) (T : Tab) (z : Nat) : Code → Post → Slots → List Blk → Prop
  | .skip, Q, sl, bk => Q .normal sl bk
  | .region id ops draw, Q, sl, bk =>
    (match draw with
     | false => awpOps P T ops ops.toList sl bk (Q .normal)
     | true => AW P n (.region id ops true) Q sl bk)
  | .seq (.block id a) b, Q, sl, bk => (match Nat.beq id z with | true => AW P n (.seq (.block id a) b) Q sl bk | false => awpC P n T z (.block id a) (thenQ (awpC P n T z b Q) Q) sl bk)
  | .seq (.seq (.region id ops draw) a) b, Q, sl, bk => (match Nat.beq (id + 1000) z with | true => AW P n (.seq (.seq (.region id ops draw) a) b) Q sl bk | false => awpC P n T z (.seq (.region id ops draw) a) (thenQ (awpC P n T z b Q) Q) sl bk)
  | .seq (.region id ops draw) b, Q, sl, bk => (match Nat.beq (id + 2000) z with | true => AW P n (.seq (.region id ops draw) b) Q sl bk | false => awpC P n T z (.region id ops draw) (thenQ (awpC P n T z b Q) Q) sl bk)
  | .seq a b, Q, sl, bk => awpC P n T z a (thenQ (awpC P n T z b Q) Q) sl bk
  | .cond c x y, Q, sl, bk =>
    (match ev sl c with
     | .lf (.pv (.sc (.bool b))) => (match b with | true => awpC P n T z x Q (know sl c true) bk | false => awpC P n T z y Q (know sl c false) bk)
     | _ => False)
  | .block id c, Q, sl, bk => awpC P n T z c (inBlk id Q) sl bk
  | .exit id, Q, sl, bk => Q (.exit id) sl bk
  | .ret, Q, sl, bk => Q .ret sl bk
  | c, Q, sl, bk => AW P n c Q sl bk
theorem aw_ofC {n : Fr} (hT : TabOK P T) (z : Nat) : ∀ {c : Code} {Q : Post} {sl : Slots} {bk : List Blk}, dstB n.n c = true → awpC P n T z c Q sl bk → AW P n c Q sl bk := by
  intro c
  induction c with
  | skip => intro Q sl bk hd h; exact aw_of hT hd h
  | region id ops draw => intro Q sl bk hd h; cases draw <;> exact aw_of hT hd h
  | seq x y ihx ihy =>
    intro Q sl bk hd h
    have hd' := hd
    simp only [dstB, Bool.and_eq_true] at hd
    cases x with
    | block id a =>
      simp only [awpC] at h
      cases hb : Nat.beq id z with
      | true => rw [hb] at h; exact h
      | false => rw [hb] at h; exact AW.seq (ihx hd.1 h) fun sl bk h => ihy hd.2 h
    | region id ops draw =>
      simp only [awpC] at h
      cases hb : Nat.beq (id + 2000) z with
      | true => rw [hb] at h; exact h
      | false => rw [hb] at h; exact AW.seq (ihx hd.1 (by simpa only [awpC] using h)) fun sl bk h => ihy hd.2 h
    | seq x1 x2 =>
      cases x1 with
      | region id ops draw =>
        simp only [awpC] at h
        cases hb : Nat.beq (id + 1000) z with
        | true => rw [hb] at h; exact h
        | false => rw [hb] at h; exact AW.seq (ihx hd.1 (by simpa only [awpC] using h)) fun sl bk h => ihy hd.2 h
      | _ => exact AW.seq (ihx hd.1 h) fun sl bk h => ihy hd.2 h
    | _ => exact AW.seq (ihx hd.1 h) fun sl bk h => ihy hd.2 h
  | cond c x y ihx ihy =>
    intro Q sl bk hd h
    refine ⟨fun C G a w hn hr => ?_⟩
    simp only [dstB, Bool.and_eq_true] at hd
    simp only [awpC] at h
    split at h
    · rename_i b hb
      have h0 := ev_rep hr c
      rw [hb] at h0
      have h1 := (sc_rep h0).1
      cases b with
      | true => rw [know_self hb] at h; exact wp_cond_true h1 ((ihx hd.1 h).out C G a w hn hr)
      | false => rw [know_self hb] at h; exact wp_cond_false h1 ((ihy hd.2 h).out C G a w hn hr)
    · exact h.elim
  | block id c ih => intro Q sl bk hd h; exact AW.block (ih hd h)
  | exit id => intro Q sl bk hd h; exact aw_of hT hd h
  | ret => intro Q sl bk hd h; exact aw_of hT hd h
  | _ => intro Q sl bk hd h; exact h
end
end Go.Rx

/- A contract of a function that blocks are lent to, out of its body. -/
set_option linter.unusedVariables false
set_option linter.unusedSimpArgs false
namespace Go.Rx
open Go.RowKit
/-- The first so many places are the same. -/
def heads : Nat → List Nat → Bool
  | _, [] => true
  | k, b :: l => Nat.beq b k && heads (k + 1) l
theorem heads_get : ∀ {l : List Nat} {k p b : Nat}, heads k l = true → l[p]? = some b → b = k + p
  | [], k, p, b, _, h => by simp at h
  | c :: l, k, p, b, h, hp => by
    simp only [heads, Bool.and_eq_true] at h
    cases p with
    | zero => simp at hp; subst hp; have := Nat.eq_of_beq_eq_true h.1; omega
    | succ p => have := heads_get h.2 (by simpa using hp : l[p]? = some b); omega
def nodupB : List Nat → Bool
  | [] => true
  | b :: l => !(l.any (Nat.beq b)) && nodupB l
theorem nodupB_ok : ∀ {l : List Nat}, nodupB l = true → l.Nodup
  | [], _ => List.nodup_nil
  | b :: l, h => by
    simp only [nodupB, Bool.and_eq_true, Bool.not_eq_true'] at h
    refine List.nodup_cons.2 ⟨fun hb => ?_, nodupB_ok h.2⟩
    have := List.any_eq_false.1 h.1 b hb
    exact this (Nat.beq_refl b)
section
variable {P : Program} {T : Tab} {C : Ctx} {G : Gh} {bk : List Blk} {w : World} {idx : List Nat}
/-- Only these blocks are kept in view. -/
theorem Mem.sel (h : Mem C G bk w) (hnd : idx.Nodup) {B : List Blk} (hB : pickB idx bk idx = some B) (hm : C.m ≤ idx.length) (hh : heads 0 (idx.take C.m) = true) :
    Mem C (G.pick idx) B w ∧ ∀ l l' v, renL idx l = some l' → RepL G bk w l v → RepL (G.pick idx) B w l' v := by
  obtain ⟨m1, rep⟩ := h.pick hnd hB 0
  obtain ⟨hlen, hget⟩ := pickB_get hB
  have hid : ∀ p, p < C.m → idx[p]? = some p := fun p hp => by
    have h1 : (idx.take C.m)[p]? = some (idx[p]'(by omega)) := by rw [List.getElem?_take_of_lt hp]; exact List.getElem?_eq_getElem _
    have h2 := heads_get hh h1
    rw [List.getElem?_eq_getElem (by omega), h2, Nat.zero_add]
  have hat : ∀ p, p < B.length → ∃ b, idx[p]? = some b ∧ b < bk.length := fun p hp => by
    have hp' : p < idx.length := by rw [hlen] at hp; exact hp
    obtain ⟨X, Y, h1, _, _⟩ := hget p idx[p] (List.getElem?_eq_getElem hp')
    exact ⟨idx[p], List.getElem?_eq_getElem hp', (List.getElem?_eq_some_iff.1 h1).1⟩
  have hM : ∀ p b, idx[p]? = some b → (G.pick idx).M p = G.M b := fun p b hp => by simp [Gh.pick, hp]
  have hcp : ∀ p b, idx[p]? = some b → (G.pick idx).cp p = G.cp b := fun p b hp => by simp [Gh.pick, hp]
  have hrows : ∀ p b, idx[p]? = some b → rowsOf B p = rowsOf bk b := fun p b hp => by
    obtain ⟨X, Y, h1, h2, h3⟩ := hget p b hp
    unfold rowsOf
    rw [h1, h3]
    cases X with
    | var cells => simp [renB] at h2; obtain ⟨c, _, rfl⟩ := h2; rfl
    | _ => simp [renB] at h2; subst h2; rfl
  have hhp : ∀ p b X, idx[p]? = some b → B[p]? = some X → hpB X = true → bk[b]? = some X := fun p b X hp hX hh => by
    obtain ⟨X0, Y, h1, h2, h3⟩ := hget p b hp
    rw [hX] at h3
    cases h3
    cases X0 with
    | var cells => simp only [renB, Option.map_eq_some_iff] at h2; obtain ⟨c, _, rfl⟩ := h2; cases hh
    | _ => simp [renB] at h2; subst h2; exact h1
  have hHH : ∀ p b, idx[p]? = some b → (G.pick idx).H p = G.H b := fun p b hp => by simp [Gh.pick, hp]
  have hhpo : ∀ p b hh, idx[p]? = some b → hpOf (G.pick idx) B p = some hh → hpOf G bk b = some hh := fun p b hh hp e => by
    unfold hpOf at *
    split at e
    · rename_i hb; cases e; rw [hhp p b _ hp hb rfl, hHH p b hp]
    · rename_i h0 hb; cases e; rw [hhp p b _ hp hb rfl]
    · cases e
  have hlt0 : ∀ b x, rowsOf C.B0 b = some x → b < C.m := fun b x h => by
    unfold rowsOf at h
    rcases Nat.lt_or_ge b C.B0.length with hl | hl
    · exact hl
    · rw [List.getElem?_eq_none hl] at h; cases h
  refine ⟨⟨m1.blk, m1.inj, m1.sdis, m1.slt, m1.mlt, fun p g hp e => ?_, h.s0, h.snew, h.fnew, h.fty, m1.fdis, h.os, h.tape, h.output, h.size, h.block, ⟨fun p hh g x e hg => (by
    obtain ⟨b, hpb, _⟩ := hat p (hpOf_lt e)
    exact h.regs.own b hh g x (hhpo p b hh hpb e) hg), m1.regs.dis, m1.regs.inj⟩, by rw [hlen]; exact hm, ⟨h.t0.S, h.t0.F, h.t0.cell, fun p hp e => (by
    have hi := hid p hp
    obtain ⟨q1, q3, q2⟩ := h.t0.hp p hp (hhp p p _ hi e rfl)
    exact ⟨q1, (hHH p p hi).trans q3, q2⟩), by rw [hlen]; exact hm, fun b hb hr => ?_, fun b sz rows hr => ?_⟩⟩, rep⟩
  · obtain ⟨b, hpb, hb⟩ := hat p hp
    rw [hM p b hpb] at e
    exact h.new b g hb e
  · have hi := hid b hb
    obtain ⟨h1, h2⟩ := h.t0.var b hb hr
    exact ⟨by rw [hrows b b hi]; exact h1, by rw [hM b b hi]; exact h2⟩
  · have hi := hid b (hlt0 b _ hr)
    obtain ⟨rows', h1, h2, h3⟩ := h.t0.row b sz rows hr
    exact ⟨rows', by rw [hrows b b hi]; exact h1, h2, fun e => by rw [hM b b hi, hcp b b hi]; exact h3 e⟩
/-- Behind the body r is returned, and these blocks are there: idx says which of the call's they are; slices that are nil may become the call's own first. -/
def RetG (T : Tab) (m : Nat) (rs : List ResultVar) (r : AV) (B1 : List Blk) : Post
  | .ret, sl, bk => ∃ l, nilsK l sl bk fun sl bk => resK T rs sl bk fun xs => ∃ idx zs ys, (nodupB idx && (Nat.ble m idx.length && heads 0 (idx.take m))) = true ∧ pickB idx bk idx = some B1 ∧ renAs idx xs = some ys ∧ Fa WkA ys zs ∧ pack zs = some r
  | .normal, sl, bk => ∃ l, nilsK l sl bk fun sl bk => resK T rs sl bk fun xs => ∃ idx zs ys, (nodupB idx && (Nat.ble m idx.length && heads 0 (idx.take m))) = true ∧ pickB idx bk idx = some B1 ∧ renAs idx xs = some ys ∧ Fa WkA ys zs ∧ pack zs = some r
  | _, _, _ => False
theorem pack_repG {B : List Blk} {zs : List AV} {vs : List Value} {r : AV} (h : Fa (RepA G B w) zs vs) (hp : pack zs = some r) :
    RepA G B w r (if h : vs.toArray.size = 1 then vs.toArray[0] else .tuple vs.toArray) := by
  have tc : ∀ {zs : List AV} {vs : List Value} {ts : List TC}, Fa (RepA G B w) zs vs → zs.mapM toTC = some ts → Fa (RepT G B w) ts vs := fun {zs} => by
    induction zs with
    | nil => intro vs ts h hm; simp at hm; subst hm; cases vs <;> exact h
    | cons z zs ih =>
      intro vs ts h hm
      cases vs with
      | nil => exact h.elim
      | cons v vs =>
        rw [List.mapM_cons] at hm
        cases z with
        | lf l =>
          simp only [toTC, Option.bind_eq_bind, Option.bind_some] at hm
          cases hq : zs.mapM toTC with
          | none => rw [hq] at hm; simp at hm
          | some l' => rw [hq] at hm; simp at hm; subst hm; exact ⟨h.1, ih h.2 hq⟩
        | agg l =>
          simp only [toTC, Option.bind_eq_bind, Option.bind_some] at hm
          cases hq : zs.mapM toTC with
          | none => rw [hq] at hm; simp at hm
          | some l' => rw [hq] at hm; simp at hm; subst hm; exact ⟨h.1, ih h.2 hq⟩
        | _ => simp [toTC] at hm
  cases zs with
  | nil => cases vs with
    | nil => simp [pack] at hp; subst hp; exact ⟨[], rfl, trivial⟩
    | cons v vs => exact h.elim
  | cons z zs => cases zs with
    | nil => cases vs with
      | nil => exact h.elim
      | cons v vs => cases vs with
        | nil => simp [pack] at hp; subst hp; exact h.1
        | cons v' vs => exact h.2.elim
    | cons z' zs => cases vs with
      | nil => exact h.elim
      | cons v vs => cases vs with
        | nil => exact h.2.elim
        | cons v' vs =>
          simp only [pack, Option.map_eq_some_iff] at hp
          obtain ⟨ts, h1, rfl⟩ := hp
          rw [dif_neg (by simp)]
          exact ⟨_, rfl, tc h h1⟩
theorem ConG.of {f : FuncId} {fn : Func} {c : Code} {B0 B1 : List Blk} {args : List AV} {r : AV} (hT : TabOK P T) (hf : P.funcs[f]? = some fn) (hb : fn.body = some c) (hn : fnOK P f = true)
    (hsz : Nat.ble args.length fn.ntmps = true)
    (h : AW P ⟨fn.ntmps, B0.length⟩ c (RetG T B0.length fn.results.toList r B1) (mkS (args.zipIdx.map fun p => (p.2, p.1))) B0) : ConG P f B0 args r B1 := by
  refine ⟨hn, fun w G0 us ⟨hm0, hgl⟩ hargs => ?_⟩
  refine calls_of_wp hf hb ?_
  have hlen := hargs.length
  have hsz' := Nat.le_of_ble_eq_true hsz
  have hrel : Rel ⟨w, G0, B0, fn.ntmps⟩ G0 (mkS (args.zipIdx.map fun p => (p.2, p.1))) B0 { tmps := us.toArray ++ Array.replicate (fn.ntmps - us.toArray.size) undef, defers := [] } w := by
    refine ⟨?_, rfl, fun t => ?_, ⟨hm0.blk, hm0.inj, hm0.sdis, hm0.slt, hm0.mlt, hm0.new, hm0.s0, hm0.snew, hm0.fnew, hm0.fty, hm0.fdis, hm0.os, hm0.tape, hm0.output, hm0.size, hm0.block, ⟨hm0.regs.own, hm0.regs.dis, hm0.regs.inj⟩, hm0.mle, hm0.t0⟩⟩
    · simp; omega
    · have hmk : mkS (args.zipIdx.map fun p => (p.2, p.1)) t = (args[t]?).getD .un := by
        unfold mkS
        have gen : ∀ (l : List AV) (k : Nat), ((l.zipIdx k).map fun p => (p.2, p.1)).lookup t = if t < k then none else l[t - k]? := fun l => by
          induction l with
          | nil => intro k; simp
          | cons x l ih =>
            intro k
            rw [List.zipIdx_cons, List.map_cons, List.lookup]
            by_cases e : t = k
            · subst e; simp
            · have hb : (t == k) = false := by simpa using e
              rw [hb, ih (k + 1)]
              by_cases hlt : t < k
              · rw [if_pos (by omega), if_pos hlt]
              · rw [if_neg (by omega), if_neg hlt]
                have : t - k = (t - (k + 1)) + 1 := by omega
                rw [this]; simp
        have := gen args 0
        simp at this
        simp [this]
      rw [hmk]
      rcases Nat.lt_or_ge t args.length with hl | hl
      · obtain ⟨v, hv, hrv⟩ := hargs.get (List.getElem?_eq_getElem hl)
        rw [List.getElem?_eq_getElem hl, Option.getD_some]
        have e1 : (us.toArray ++ Array.replicate (fn.ntmps - us.toArray.size) undef).getD t undef = v := by
          simp [Array.getElem?_append_left (show t < us.toArray.size by simp; omega), hv]
        rw [e1]
        exact hrv
      · rw [List.getElem?_eq_none hl]
        trivial
  refine wp_mono (h.out ⟨w, G0, B0, fn.ntmps⟩ _ _ w ⟨rfl, rfl, hgl⟩ hrel) fun e a' w' ⟨G', sl', bk', hq, hr'⟩ => ?_
  have fin : (∃ l, nilsK l sl' bk' fun sl' bk' => resK T fn.results.toList sl' bk' fun xs => ∃ idx zs ys, (nodupB idx && (Nat.ble B0.length idx.length && heads 0 (idx.take B0.length))) = true ∧ pickB idx bk' idx = some B1 ∧ renAs idx xs = some ys ∧ Fa WkA ys zs ∧ pack zs = some r) →
      a'.defers = [] ∧ ∃ v, (results fn a'.tmps).run P w' = .ok v w' ∧ ∃ u G'', Ending.returned v = .returned u ∧ RepA G'' B1 w' r u ∧ Mem ⟨w, G0, B0, 0⟩ G'' B1 w' := fun hq => by
    obtain ⟨l, hq⟩ := hq
    obtain ⟨G', sl', bk', hq, hr'⟩ := nilsK_sound hr' hq
    obtain ⟨xs, vs, h1, h2, idx, zs, ys, hx, hB, hys, hwk, hpk⟩ := resK_sound hT hr' hq
    simp only [Bool.and_eq_true] at hx
    obtain ⟨m2, rep⟩ := hr'.mem.sel (nodupB_ok hx.1) hB (Nat.le_of_ble_eq_true hx.2.1) hx.2.2
    refine ⟨hr'.dfr, _, ?_, _, G'.pick idx, rfl, pack_repG (wks_rep hwk (renAs_rep rep hys h2)) hpk, ?_⟩
    · unfold results
      rw [Sem.run_bind, Array.mapM_eq_mapM_toList, Sem.run_map]
      exact congrArg (fun r : Result (List Value) => Result.andThen (Result.andThen r fun a w' => Result.ok a.toArray w') fun a w' => Sem.run P (pure (if h : a.size = 1 then a[0] else Value.tuple a)) w') h1
    · exact ⟨m2.blk, m2.inj, m2.sdis, m2.slt, m2.mlt, m2.new, m2.s0, m2.snew, m2.fnew, m2.fty, m2.fdis, m2.os, m2.tape, m2.output, m2.size, m2.block, ⟨m2.regs.own, m2.regs.dis, m2.regs.inj⟩, m2.mle, m2.t0⟩
  cases e with
  | normal => exact fin hq
  | ret => exact fin hq
  | _ => exact hq.elim
/-- A contract without lent blocks, whose result holds rows of its own. -/
theorem ConG.con {f : FuncId} {args : List AV} {r : AV} {nb : List Blk} (h : ConG P f [] args r nb) (hn : nb.all isArr = true) : Con P f args r nb := by
  refine ⟨h.1, hn, fun w S us ⟨hS, hgl⟩ hSf hargs => h.2 w (Gh.base S) us ⟨?_, hgl⟩ hargs⟩
  exact ⟨fun b B hb => by simp at hb, fun b b' g hb => by simp at hb, fun g o b hs ha => absurd (alive_lt ha) (by simp), hS, fun b g hb => by simp at hb, fun b g hb => by simp at hb, fun g o hs => hs, fun g o hs => .inl hs, fun g e hs => .inl hs, hSf, fun g e b hf ha => absurd (alive_lt ha) (by simp), rfl, rfl, rfl, Nat.le_refl _, fun _ _ _ _ => rfl, Regs.nil _ _, Nat.le_refl _, Trn.refl _ _ _⟩
end
end Go.Rx

/- The program's own data as plain Lean, and what may be, in plain Lean: no program here. -/
namespace Go.Rx

/-! ### Words for calls and ends -/
theorem callS {P : Program} {f : FuncId} {cargs : List AV} {r : AV} {bk bk' : List Blk} {caps : List (List PV)} {K : AV → List Blk → Prop} (hc : Con P f cargs r []) (hs : scalA r = true) (k : K r bk) :
    ∃ cargs' r nb, Fa WkA cargs cargs' ∧ Con P f cargs' r nb ∧ (((scalA r = true ∧ nb = [] ∧ K r bk) ∨ (nb = [] ∧ FrA r ∧ caps = [] ∧ (∀ x ∈ cargs', NoA x) ∧ K (frA bk'.length r) (bk' ++ [.hp]))) ∨ K (shA bk'.length r) (bk' ++ nb)) := ⟨cargs, r, [], wk_refl _, hc, .inl (.inl ⟨hs, rfl, k⟩)⟩
theorem callW {P : Program} {f : FuncId} {cargs cs : List AV} {r : AV} {bk bk' : List Blk} {caps : List (List PV)} {K : AV → List Blk → Prop} (hc : Con P f cs r []) (hw : Fa WkA cargs cs) (hs : scalA r = true) (k : K r bk) :
    ∃ cargs' r nb, Fa WkA cargs cargs' ∧ Con P f cargs' r nb ∧ (((scalA r = true ∧ nb = [] ∧ K r bk) ∨ (nb = [] ∧ FrA r ∧ caps = [] ∧ (∀ x ∈ cargs', NoA x) ∧ K (frA bk'.length r) (bk' ++ [.hp]))) ∨ K (shA bk'.length r) (bk' ++ nb)) := ⟨cs, r, [], hw, hc, .inl (.inl ⟨hs, rfl, k⟩)⟩
/-- A result that holds slices: what was handed over stays as it is. -/
theorem callP {P : Program} {f : FuncId} {cargs cs : List AV} {r : AV} {bk bk' : List Blk} {caps : List (List PV)} {K : AV → List Blk → Prop} (hc : Con P f cs r []) (hw : Fa WkA cargs cs) (hr : ∀ n, shA n r = r) (k : K r bk') :
    ∃ cargs' r nb, Fa WkA cargs cargs' ∧ Con P f cargs' r nb ∧ (((scalA r = true ∧ nb = [] ∧ K r bk) ∨ (nb = [] ∧ FrA r ∧ caps = [] ∧ (∀ x ∈ cargs', NoA x) ∧ K (frA bk'.length r) (bk' ++ [.hp]))) ∨ K (shA bk'.length r) (bk' ++ nb)) := ⟨cs, r, [], hw, hc, .inr (by rw [hr, List.append_nil]; exact k)⟩
theorem callU {P : Program} {f : FuncId} {cargs : List AV} {r : AV} {bk bk' : List Blk} {caps : List (List PV)} {K : AV → List Blk → Prop} (hc : Con P f cargs r []) (hr : ∀ n, shA n r = r) (k : K r bk') :
    ∃ cargs' r nb, Fa WkA cargs cargs' ∧ Con P f cargs' r nb ∧ (((scalA r = true ∧ nb = [] ∧ K r bk) ∨ (nb = [] ∧ FrA r ∧ caps = [] ∧ (∀ x ∈ cargs', NoA x) ∧ K (frA bk'.length r) (bk' ++ [.hp]))) ∨ K (shA bk'.length r) (bk' ++ nb)) := callP hc (wk_refl _) hr k
/-- An answer that is written over later: its rows, that the call has made, stand by themselves. -/
theorem callH {P : Program} {f : FuncId} {cargs cs : List AV} {r : AV} {bk bk' : List Blk} {K : AV → List Blk → Prop} (hc : Con P f cs r []) (hw : Fa WkA cargs cs) (hn : ∀ x ∈ cs, NoA x) (hr : FrA r) (k : K (frA bk'.length r) (bk' ++ [.hp])) :
    ∃ cargs' r nb, Fa WkA cargs cargs' ∧ Con P f cargs' r nb ∧ (((scalA r = true ∧ nb = [] ∧ K r bk) ∨ (nb = [] ∧ FrA r ∧ ([] : List (List PV)) = [] ∧ (∀ x ∈ cargs', NoA x) ∧ K (frA bk'.length r) (bk' ++ [.hp]))) ∨ K (shA bk'.length r) (bk' ++ nb)) := ⟨cs, r, [], hw, hc, .inl (.inr ⟨rfl, hr, rfl, hn, k⟩)⟩
/-- What is left where a walk ends. -/
structure Fin {α : Type} (x y : α) : Prop where
  out : x = y
theorem finB {x y : Bool} (h : Fin x y) : ∃ zs, Fa WkA [Bl x] zs ∧ pack zs = some (Bl y) := retB h.out
theorem finI {x y : Int} (h : Fin x y) : ∃ zs, Fa WkA [Go.Rx.I x] zs ∧ pack zs = some (Go.Rx.I y) := retI h.out
theorem finA {xs : List AV} {y : AV} (h : Fin (pack xs) (some y)) : ∃ zs, Fa WkA xs zs ∧ pack zs = some y := ⟨xs, wk_refl _, h.out⟩
theorem retA {xs : List AV} {y : AV} (h : pack xs = some y) : ∃ zs, Fa WkA xs zs ∧ pack zs = some y := ⟨xs, wk_refl _, h⟩
theorem wkPN (sz : Nat) : WkP (.sc (.slice none 0 0)) (.sl sz []) := fun S w v h => by cases h; exact .nil sz
theorem wkPE (p : PV) : WkP p p := fun _ _ _ h => h
/-- Rows, one by one. -/
theorem wkPR {sz : Nat} {rows rows' : List (List PV)} (h : Fa (Fa WkP) rows rows') : WkP (.sl sz rows) (.sl sz rows') := fun S w v hv => by
  have hl := h.length
  have back : ∀ {j r' c q}, rows'[j]? = some r' → r'[c]? = some q → ∃ r p, rows[j]? = some r ∧ r[c]? = some p ∧ WkP p q := fun {j r' c q} hj hc => by
    have hjl : j < rows.length := by rw [hl]; exact (List.getElem?_eq_some_iff.1 hj).1
    obtain ⟨r2, h1, h2⟩ := h.get (List.getElem?_eq_getElem hjl)
    rw [hj] at h1
    cases h1
    have hcl : c < rows[j].length := by rw [h2.length]; exact (List.getElem?_eq_some_iff.1 hc).1
    obtain ⟨q2, h3, h4⟩ := h2.get (List.getElem?_eq_getElem hcl)
    rw [hc] at h3
    cases h3
    exact ⟨_, _, List.getElem?_eq_getElem hjl, List.getElem?_eq_getElem hcl, h4⟩
  have none : rows = [] → rows' = [] := fun e => List.eq_nil_of_length_eq_zero (by rw [← hl, e]; rfl)
  generalize hr : rows = rw at hv
  cases hv with
  | nil => rw [none hr]; exact .nil sz
  | emp _ a cap => rw [none hr]; exact .emp sz a cap
  | sl _ g o cap _ vs hc hu hm hrp =>
    subst hr
    rw [hl]
    refine .sl sz g o cap rows' vs (by omega) (fun r' hr' => ?_) (fun j r' c q hj hcq => ?_) (fun j r' c q hj hcq => ?_)
    · obtain ⟨j, hj⟩ := List.getElem?_of_mem hr'
      have hjl : j < rows.length := by rw [hl]; exact (List.getElem?_eq_some_iff.1 hj).1
      obtain ⟨r2, h1, h2⟩ := h.get (List.getElem?_eq_getElem hjl)
      rw [hj] at h1
      cases h1
      rw [← h2.length]
      exact hu _ (List.getElem_mem hjl)
    · obtain ⟨r, p, h1, h2, _⟩ := back hj hcq
      exact hm j r c p h1 h2
    · obtain ⟨r, p, h1, h2, h3⟩ := back hj hcq
      exact h3 _ _ _ (hrp j r c p h1 h2)
theorem fa_maps {α β : Type} {R : β → β → Prop} {f g : α → β} (h : ∀ a, R (f a) (g a)) : ∀ l : List α, Fa R (l.map f) (l.map g)
  | [] => trivial
  | a :: l => ⟨h a, fa_maps h l⟩
theorem wkR {sz : Nat} {rows rows' : List (List PV)} (h : Fa (Fa WkP) rows rows') : WkL (.pv (.sl sz rows)) (.pv (.sl sz rows')) := .inr ⟨_, _, rfl, rfl, wkPR h⟩
theorem wkN (sz : Nat) : WkL (.pv (.sc (.slice none 0 0))) (.pv (.sl sz [])) := .inr ⟨_, _, rfl, rfl, wkPN sz⟩
theorem wkE (l : Lf) : WkL l l := .inl rfl

/-- A callee's contract in the kit's own form, for plain values. -/
theorem Con.plain {P : Program} {f : FuncId} {vs : List Value} {v : Value} (hn : fnOK P f = true) (hv : v.oneCell' = true) (h : ∀ w, Calls P f vs.toArray w fun e w' => e = .returned v ∧ Go.RowKit.Below w.heap.size w w') : Con P f (vs.map sc) (sc v) [] := by
  refine ⟨hn, rfl, fun w S us ⟨hS, hgl⟩ hSf hargs => ?_⟩
  have hus : us = vs := by
    have : ∀ {vs us : List Value}, Fa (RepA (Gh.base S) [] w) (vs.map sc) us → us = vs := fun {vs} => by
      induction vs with
      | nil => intro us h; cases us with
        | nil => rfl
        | cons u us => exact h.elim
      | cons v vs ih => intro us h; cases us with
        | nil => exact h.elim
        | cons u us => rw [(sc_rep h.1).1, ih h.2]
    exact this hargs
  subst hus
  refine (h w).mono ?_
  rintro e w' ⟨rfl, hb⟩
  exact ⟨v, Gh.base S, rfl, RepP.sc v hv, ⟨fun b B hb => by simp at hb, fun b b' g hb => by simp at hb, fun g o b hs ha => absurd (alive_lt ha) (by simp), fun g o hs => Nat.lt_of_lt_of_le (hS g o hs) hb.size, fun b g hb => by simp at hb, fun b g hb => by simp at hb,
    fun g o hs => hs, fun g o hs => .inl hs, fun g e hs => .inl hs, fun g e hs => (hSf g e hs).keep (hb.block g (hSf g e hs).lt), fun g e b hf ha => absurd (alive_lt ha) (by simp), hb.os, hb.tape, hb.output, hb.size, fun g hg _ _ => hb.block g hg, Regs.nil _ _, Nat.le_refl _, ⟨fun g o hs => hs, fun g e hs => hs, fun g o hs => World.cell?_of_block (a := ⟨g, o, none⟩) (hb.block g (hS g o hs)), fun b hb => absurd hb (Nat.not_lt_zero _), Nat.le_refl _, fun b hb => absurd hb (Nat.not_lt_zero _), fun b sz rows h => (by unfold rowsOf at h; simp [Ctx.base] at h)⟩⟩⟩
theorem Con.plains {P : Program} {f : FuncId} {vs rs : List Value} (hn : fnOK P f = true) (hv : ∀ v ∈ rs, v.oneCell' = true) (h : ∀ w, Calls P f vs.toArray w fun e w' => e = .returned (.tuple rs.toArray) ∧ Go.RowKit.Below w.heap.size w w') :
    Con P f (vs.map sc) (.tup (rs.map fun v => .lf (lsc v))) [] := by
  refine ⟨hn, rfl, fun w S us ⟨hS, hgl⟩ hSf hargs => ?_⟩
  have hus : us = vs := by
    have : ∀ {vs us : List Value}, Fa (RepA (Gh.base S) [] w) (vs.map sc) us → us = vs := fun {vs} => by
      induction vs with
      | nil => intro us h; cases us with
        | nil => rfl
        | cons u us => exact h.elim
      | cons v vs ih => intro us h; cases us with
        | nil => exact h.elim
        | cons u us => rw [(sc_rep h.1).1, ih h.2]
    exact this hargs
  subst hus
  refine (h w).mono ?_
  rintro e w' ⟨rfl, hb⟩
  have hf : ∀ {rs : List Value}, (∀ v ∈ rs, v.oneCell' = true) → Fa (RepT (Gh.base S) [] w') (rs.map fun v => .lf (lsc v)) rs := fun {rs} => by
    induction rs with
    | nil => intro _; trivial
    | cons v rs ih => intro h; exact ⟨RepP.sc v (h v (by simp)), ih fun u hu => h u (by simp [hu])⟩
  exact ⟨_, Gh.base S, rfl, ⟨rs, rfl, hf hv⟩, ⟨fun b B hb => by simp at hb, fun b b' g hb => by simp at hb, fun g o b hs ha => absurd (alive_lt ha) (by simp), fun g o hs => Nat.lt_of_lt_of_le (hS g o hs) hb.size, fun b g hb => by simp at hb, fun b g hb => by simp at hb,
    fun g o hs => hs, fun g o hs => .inl hs, fun g e hs => .inl hs, fun g e hs => (hSf g e hs).keep (hb.block g (hSf g e hs).lt), fun g e b hf ha => absurd (alive_lt ha) (by simp), hb.os, hb.tape, hb.output, hb.size, fun g hg _ _ => hb.block g hg, Regs.nil _ _, Nat.le_refl _, ⟨fun g o hs => hs, fun g e hs => hs, fun g o hs => World.cell?_of_block (a := ⟨g, o, none⟩) (hb.block g (hS g o hs)), fun b hb => absurd hb (Nat.not_lt_zero _), Nat.le_refl _, fun b hb => absurd hb (Nat.not_lt_zero _), fun b sz rows h => (by unfold rowsOf at h; simp [Ctx.base] at h)⟩⟩⟩

theorem baEq (x y : ByteArray) : (x == y) = decide (x = y) := by
  rw [beq_toListBytes, Bool.eq_iff_iff, beq_iff_eq, decide_eq_true_eq, ByteArray.toList_eq, ByteArray.toList_eq]
  exact ⟨fun h => ByteArray.ext (Array.toList_inj.mp h), fun h => by rw [h]⟩
instance : ReflBEq ByteArray := ⟨by intro a; rw [baEq]; exact decide_eq_true rfl⟩
instance : LawfulBEq ByteArray := ⟨fun h => by rw [baEq] at h; exact of_decide_eq_true h⟩
/-! ### Data -/
structure Step where
  nm : ByteArray
  service : Int
  op : ByteArray
  undo : ByteArray
  who : ByteArray
  n : Int
theorem Step.eq_of {a b : Step} (h : a.nm = b.nm ∧ a.service = b.service ∧ a.op = b.op ∧ a.undo = b.undo ∧ a.who = b.who ∧ a.n = b.n) : a = b := by cases a; cases b; simp_all
instance : DecidableEq Step := fun a b => decidable_of_iff (a.nm = b.nm ∧ a.service = b.service ∧ a.op = b.op ∧ a.undo = b.undo ∧ a.who = b.who ∧ a.n = b.n) ⟨Step.eq_of, fun h => by subst h; simp⟩
def Step.enc (s : Step) : List PV := [pS s.nm, pI s.service, pS s.op, pS s.undo, pS s.who, pI s.n]
abbrev encSteps (l : List Step) : PV := .sl 6 (l.map Step.enc)
structure Rec where
  kind : Int
  id : Int
  n : Int
  key : ByteArray
  body : ByteArray
  steps : List Step
abbrev Rec.enc (r : Rec) : List PV := [pI r.kind, pI r.id, pI r.n, pS r.key, pS r.body, encSteps r.steps]
abbrev encRec (r : Rec) : AV := .agg [.pv (pI r.kind), .pv (pI r.id), .pv (pI r.n), .pv (pS r.key), .pv (pS r.body), .pv (encSteps r.steps)]
structure Saga where
  id : Int
  key : ByteArray
  body : ByteArray
  steps : List Step
  done : Int
  out : Bool
  back : Bool
  left : Int
  status : Int
abbrev Saga.enc (s : Saga) : List PV := [pI s.id, pS s.key, pS s.body, encSteps s.steps, pI s.done, pB s.out, pB s.back, pI s.left, pI s.status]
abbrev encSaga (s : Saga) : AV := .agg [.pv (pI s.id), .pv (pS s.key), .pv (pS s.body), .pv (encSteps s.steps), .pv (pI s.done), .pv (pB s.out), .pv (pB s.back), .pv (pI s.left), .pv (pI s.status)]
theorem Rec.eq_of {a b : Rec} (h : a.kind = b.kind ∧ a.id = b.id ∧ a.n = b.n ∧ a.key = b.key ∧ a.body = b.body ∧ a.steps = b.steps) : a = b := by cases a; cases b; simp_all
instance : DecidableEq Rec := fun a b => decidable_of_iff (a.kind = b.kind ∧ a.id = b.id ∧ a.n = b.n ∧ a.key = b.key ∧ a.body = b.body ∧ a.steps = b.steps) ⟨Rec.eq_of, fun h => by subst h; simp⟩
theorem Saga.eq_of {a b : Saga} (h : a.id = b.id ∧ a.key = b.key ∧ a.body = b.body ∧ a.steps = b.steps ∧ a.done = b.done ∧ a.out = b.out ∧ a.back = b.back ∧ a.left = b.left ∧ a.status = b.status) : a = b := by cases a; cases b; simp_all
instance : DecidableEq Saga := fun a b => decidable_of_iff (a.id = b.id ∧ a.key = b.key ∧ a.body = b.body ∧ a.steps = b.steps ∧ a.done = b.done ∧ a.out = b.out ∧ a.back = b.back ∧ a.left = b.left ∧ a.status = b.status) ⟨Saga.eq_of, fun h => by subst h; simp⟩
theorem stepEq (x y : Step) : ((x.nm == y.nm) && ((x.service == y.service) && ((x.op == y.op) && ((x.undo == y.undo) && ((x.who == y.who) && ((x.n == y.n) && true)))))) = decide (x = y) := by
  rw [Bool.eq_iff_iff]
  simp only [Bool.and_eq_true, beq_iff_eq, decide_eq_true_eq, and_true]
  exact ⟨Step.eq_of, fun h => by subst h; simp⟩
theorem recEq (a b : Rec) : decide (a = b) = (a.kind == b.kind && a.id == b.id && a.n == b.n && a.key == b.key && a.body == b.body && decide (a.steps = b.steps)) := by
  rw [Bool.eq_iff_iff]
  simp only [Bool.and_eq_true, beq_iff_eq, decide_eq_true_eq]
  exact ⟨fun h => by subst h; simp, fun h => Rec.eq_of ⟨h.1.1.1.1.1, h.1.1.1.1.2, h.1.1.1.2, h.1.1.2, h.1.2, h.2⟩⟩
theorem sagaEq (a b : Saga) : decide (a = b) = (a.id == b.id && a.key == b.key && a.body == b.body && decide (a.steps = b.steps) && a.done == b.done && a.out == b.out && a.back == b.back && a.left == b.left && a.status == b.status) := by
  rw [Bool.eq_iff_iff]
  simp only [Bool.and_eq_true, beq_iff_eq, decide_eq_true_eq]
  exact ⟨fun h => by subst h; simp, fun h => Saga.eq_of ⟨h.1.1.1.1.1.1.1.1, h.1.1.1.1.1.1.1.2, h.1.1.1.1.1.1.2, h.1.1.1.1.1.2, h.1.1.1.1.2, h.1.1.1.2, h.1.1.2, h.1.2, h.2⟩⟩
/-- May a saga end so? -/
def endsB (s : Saga) (st : Int) : Bool :=
  if st = 0 then true else if st = 1 then !s.back && s.done == s.steps.length && !s.out else if st = 2 then s.back && s.left == 0 else if st = 3 then s.back && decide (0 < s.left) else false
def mostI (s : Saga) : Int := if s.out then s.done + 1 else s.done
theorem wrapI {n : Int} (h : -9223372036854775808 ≤ n ∧ n ≤ 9223372036854775807) : IntKind.i64.wrap n = n := Go.IntWalk.i64_in n h
theorem take_succ' {α : Type} {l : List α} {k : Nat} (h : k < l.length) : l.take (k + 1) = l.take k ++ [l[k]] := List.take_succ_eq_append_getElem h
end Go.Rx

/- What a reading of an argument tells: the plain values that it holds. -/
set_option linter.unusedVariables false
set_option linter.unusedSimpArgs false
namespace Go.Rx.Lift
open Go.RowKit Go.WideShapes Go.ChangeShapes Go.Rx
/-- What was there. -/
def Was (w : World) : Sp := ⟨fun g _ => g < w.heap.size, fun _ => none⟩
/-- A value of type t that reads as data is, cell by cell, what e says of some a, and ok holds of it. -/
def Opens (P : Program) (t : TypeId) {α : Type} (e : α → List PV) (ok : α → Prop) : Prop :=
  ∀ (H : Type) (enc : TypeId × Value → H) (w : World) (base : Nat) (spare : Nat → Bool) (held : Bool) (fuel : Nat) (cs : List Value) (x : DataW H × List MemPlace),
    DataW.trod enc P w base spare held fuel t cs = some x → (∀ n ∈ x.1.weights P t, n ≤ reachBytes) → ∃ a, Fa (fun p v => RepP (Was w) w p v) (e a) cs ∧ ok a

variable {P : Program}

theorem opens_int {t : TypeId} {k : IntKind} (ht : P.underlying t = some (.int k)) : Opens P t (fun n : Int => [.sc (.int k n)]) (fun n => (Lit.int k n).wf = true) := by
  intro H enc w base spare held fuel cs x h _
  obtain ⟨n, rfl, _, hw⟩ := DataW.trod_int ht h
  exact ⟨n, ⟨.sc _ rfl, trivial⟩, hw⟩
theorem opens_bool {t : TypeId} (ht : P.underlying t = some .bool) : Opens P t (fun b : Bool => [.sc (.bool b)]) (fun _ => True) := by
  intro H enc w base spare held fuel cs x h _
  obtain ⟨b, rfl, _⟩ := DataW.trod_bool ht h
  exact ⟨b, ⟨.sc _ rfl, trivial⟩, trivial⟩
theorem opens_string {t : TypeId} (ht : P.underlying t = some .string) : Opens P t (fun s : ByteArray => [.sc (.string s)]) (fun s => s.size ≤ 140737488351232) := by
  intro H enc w base spare held fuel cs x h hw
  obtain ⟨s, rfl, rfl, _⟩ := DataW.trod_string ht h
  refine ⟨s, ⟨.sc _ rfl, trivial⟩, ?_⟩
  have := hw s.data.toList.length (by simp [DataW.weights])
  rw [Array.length_toList] at this
  exact this
theorem cells_get {w : World} {base : Nat} {a : Addr} {n : Nat} {cs : List Value} (h : w.cells? base a n = some cs) : cs.length = n ∧ ∀ i u, cs[i]? = some u → w.cell? (a.add i) = some u := by
  obtain ⟨_, hl, hc⟩ := World.cells?_some h
  refine ⟨hl, fun i u hu => ?_⟩
  have hi : i < n := by rw [← hl]; exact (List.getElem?_eq_some_iff.1 hu).1
  rw [hc i hi, hu]
theorem weightsAll_mem {H : Type} {e : TypeId} : ∀ {l : List (DataW H)} {d : DataW H}, d ∈ l → ∀ n ∈ d.weights P e, n ∈ DataW.weightsAll P e l
  | d0 :: l, d, hd, n, hn => by
    simp only [DataW.weightsAll, List.mem_append]
    rcases List.mem_cons.1 hd with rfl | hd
    · exact .inl hn
    · exact .inr (weightsAll_mem hd n hn)
theorem list_of {α : Type} {Q : Nat → α → Prop} : ∀ {len : Nat}, (∀ i, i < len → ∃ p, Q i p) → ∃ l : List α, l.length = len ∧ ∀ i p, l[i]? = some p → Q i p
  | 0, _ => ⟨[], rfl, by simp⟩
  | m + 1, each => by
    obtain ⟨l, h1, h2⟩ := list_of (len := m) (fun i hi => each i (by omega))
    obtain ⟨p, hp⟩ := each m (by omega)
    refine ⟨l ++ [p], by simp [h1], fun i q hq => ?_⟩
    rcases Nat.lt_trichotomy i m with hi | hi | hi
    · rw [List.getElem?_append_left (by omega)] at hq
      exact h2 i q hq
    · subst hi
      rw [List.getElem?_append_right (by omega), h1] at hq
      simp at hq
      subst hq
      exact hp
    · rw [List.getElem?_eq_none (by simp; omega)] at hq
      cases hq
theorem cell_spot {w : World} {a : Addr} {u : Value} (h : w.cell? a = some u) : a.spot = none ∧ a.block < w.heap.size := by
  unfold World.cell? at h
  cases hb : w.heap[a.block]? with
  | none => rw [hb] at h; cases h
  | some o =>
    rw [hb] at h
    have hlt : a.block < w.heap.size := by
      rcases Nat.lt_or_ge a.block w.heap.size with h' | h'
      · exact h'
      · rw [Array.getElem?_eq_none h'] at hb; cases hb
    cases o with
    | cells c e fz =>
      refine ⟨?_, hlt⟩
      simp only at h
      split at h
      · cases h
      · rename_i hs; simpa using hs
    | _ => cases h
theorem opens_slice {t el : TypeId} {α : Type} {e : α → List PV} {ok : α → Prop} {sz B : Nat} (ht : P.underlying t = some (.slice el)) (hc : P.cellsOf el = sz) (hpos : 0 < sz) (hB : P.bytesOf el = B) (he : Opens P el e ok) :
    Opens P t (fun l : List α => [.sl sz (l.map e)]) (fun l => l.length * B ≤ 140737488351232 ∧ ∀ a ∈ l, ok a) := by
  intro H enc w base spare held fuel cs x h hw
  rcases DataW.trod_slice ht h with ⟨rfl, rfl⟩ | ⟨a, len, cap, elems, rest, n, _, rfl, rfl, _, hl, hm, hlen, hel, _, _⟩
  · exact ⟨[], ⟨.nil sz, trivial⟩, by simp, by simp⟩
  · have each : ∀ i, i < len → ∃ p : α, ok p ∧ ∃ c, c.length = sz ∧ Fa (fun p v => RepP (Was w) w p v) (e p) c ∧ ∀ j u, c[j]? = some u → w.cell? (a.add (i * sz + j)) = some u := by
      intro i hi
      have h1 := hel i hi
      rw [hc] at h1
      have hil : i < elems.length := by omega
      rw [List.getElem?_eq_getElem hil, Option.bind_eq_some_iff] at h1
      obtain ⟨c, hcs, hr⟩ := h1
      obtain ⟨hlc, hcell⟩ := cells_get hcs
      obtain ⟨p, hK, hok⟩ := he H enc w base spare held n c _ hr (fun m hm => hw m (by
        simp only [DataW.weights, ht, List.mem_cons, List.mem_append]
        refine .inr (.inl ?_)
        exact weightsAll_mem (List.mem_map_of_mem (List.getElem_mem hil)) m hm))
      refine ⟨p, hok, c, hlc, hK, fun j u hu => ?_⟩
      have := hcell j u hu
      rw [Addr.add_add] at this
      exact this
    obtain ⟨l, h1, h2⟩ := list_of each
    have hbytes : (elems.length + rest.length) * B ≤ 140737488351232 := by
      have := hw ((elems.length + rest.length) * B) (by simp [DataW.weights, ht, hB])
      exact this
    refine ⟨l, ⟨?_, trivial⟩, ?_, fun p hp => ?_⟩
    · by_cases h0 : len = 0
      · subst h0
        have : l = [] := List.eq_nil_of_length_eq_zero h1
        subst this
        exact RepP.emp sz a cap
      · -- there is a row: the address has no spot
        have sp : a.spot = none ∧ a.block < w.heap.size := by
          obtain ⟨p, hp⟩ : ∃ p, l[0]? = some p := ⟨l[0]'(by omega), List.getElem?_eq_getElem (by omega)⟩
          obtain ⟨_, c, hcl, _, hcc⟩ := h2 0 p hp
          obtain ⟨u, hu⟩ : ∃ u, c[0]? = some u := ⟨c[0]'(by omega), List.getElem?_eq_getElem (by omega)⟩
          have := hcc 0 u hu
          rw [Nat.zero_mul, Nat.add_zero] at this
          have e0 : a.add 0 = a := by unfold Addr.add; rw [if_pos rfl]
          rw [e0] at this
          exact cell_spot this
        obtain ⟨g, o, s⟩ := a
        obtain ⟨hs1, hs2⟩ := sp
        simp only at hs1 hs2
        subst hs1
        have hcl : ∀ (i : Nat) (p : α) (k : Nat) (q : PV), l[i]? = some p → (e p)[k]? = some q → ∃ u, w.cell? ⟨g, o + (i * sz + k), none⟩ = some u ∧ RepP (Was w) w q u := fun i p k q hi hk => by
          obtain ⟨_, c, hcl, hK, hcc⟩ := h2 i p hi
          obtain ⟨u, hu, hr⟩ := hK.get hk
          have := hcc k u hu
          rw [Addr.add_lit] at this
          exact ⟨u, this, hr⟩
        rw [show len = (l.map e).length by rw [List.length_map, h1]]
        refine RepP.sl sz g o cap (l.map e) (fun i k => (w.cell? ⟨g, o + (i * sz + k), none⟩).getD undef) (by rw [List.length_map]; omega) (fun r hr => ?_) (fun j r c p hj hp => ?_) (fun j r c p hj hp => ?_)
        · obtain ⟨p, hp, rfl⟩ := List.mem_map.1 hr
          obtain ⟨i, hi⟩ := List.getElem?_of_mem hp
          obtain ⟨_, c, hcl', hK, _⟩ := h2 i p hi
          rw [hK.length, hcl']
        · rw [List.getElem?_map, Option.map_eq_some_iff] at hj
          obtain ⟨q, hq, rfl⟩ := hj
          obtain ⟨u, hu, _⟩ := hcl j q c p hq hp
          rw [hu]
          exact ⟨hs2, rfl⟩
        · rw [List.getElem?_map, Option.map_eq_some_iff] at hj
          obtain ⟨q, hq, rfl⟩ := hj
          obtain ⟨u, hu, hr⟩ := hcl j q c p hq hp
          rw [hu]
          exact hr
    · rw [h1]
      exact Nat.le_trans (Nat.mul_le_mul_right _ (by omega)) hbytes
    · obtain ⟨i, hi⟩ := List.getElem?_of_mem hp
      exact (h2 i p hi).1
/-- The same of values of another make. -/
theorem opens_iso {t : TypeId} {α β : Type} {e : α → List PV} {ok : α → Prop} {e' : β → List PV} {ok' : β → Prop} (f : α → β) (he : ∀ a, e' (f a) = e a) (hok : ∀ a, ok a → ok' (f a)) (h : Opens P t e ok) : Opens P t e' ok' := by
  intro H enc w base spare held fuel cs x hx hw
  obtain ⟨a, hK, hk⟩ := h H enc w base spare held fuel cs x hx hw
  exact ⟨f a, by rw [he]; exact hK, hok a hk⟩

/-- A struct's fields from field i on, whose cells begin at off. -/
def From (P : Program) (fs : Array Field) (i off total : Nat) {α : Type} (e : α → List PV) (ok : α → Prop) : Prop :=
  ∀ (H : Type) (enc : TypeId × Value → H) (w : World) (base : Nat) (spare : Nat → Bool) (held : Bool) (n : Nat) (cs : List Value) (xs : List (DataW H × List MemPlace)),
    cs.length = total → xs.length = fs.size →
    (∀ (j : Nat) (f : Field), fs[j]? = some f → DataW.trod enc P w base spare held n f.type ((cs.drop f.offset).take (P.cellsOf f.type)) = xs[j]?) →
    (∀ (j : Nat) (f : Field) (d : DataW H × List MemPlace), fs[j]? = some f → xs[j]? = some d → ∀ m ∈ d.1.weights P f.type, m ≤ reachBytes) →
    ∃ a, Fa (fun p v => RepP (Was w) w p v) (e a) (cs.drop off) ∧ ok a
theorem from_last {fs : Array Field} {i off total : Nat} {f : Field} {α : Type} {e : α → List PV} {ok : α → Prop} (sz : Nat) (hf : fs[i]? = some f) (ho : f.offset = off) (hs : P.cellsOf f.type = sz) (htot : off + sz = total) (h : Opens P f.type e ok) : From P fs i off total e ok := by
  intro H enc w base spare held n cs xs hcs hxs hr hw
  have hi : i < fs.size := by
    rcases Nat.lt_or_ge i fs.size with h | h
    · exact h
    · rw [Array.getElem?_eq_none h] at hf; cases hf
  have h1 := hr i f hf
  have hx : i < xs.length := by omega
  rw [List.getElem?_eq_getElem hx, ho, hs, List.take_of_length_le (by rw [List.length_drop]; omega)] at h1
  exact h H enc w base spare held n _ _ h1 (hw i f _ hf (List.getElem?_eq_getElem hx))
theorem from_cons {fs : Array Field} {i off total : Nat} {f : Field} {α β : Type} {e : α → List PV} {ok : α → Prop} {e2 : β → List PV} {ok2 : β → Prop} (sz : Nat) (hf : fs[i]? = some f) (ho : f.offset = off) (hs : P.cellsOf f.type = sz) (h : Opens P f.type e ok) (hr2 : From P fs (i + 1) (off + sz) total e2 ok2) :
    From P fs i off total (fun p : α × β => e p.1 ++ e2 p.2) (fun p => ok p.1 ∧ ok2 p.2) := by
  intro H enc w base spare held n cs xs hcs hxs hr hw
  have hi : i < fs.size := by
    rcases Nat.lt_or_ge i fs.size with h | h
    · exact h
    · rw [Array.getElem?_eq_none h] at hf; cases hf
  have h1 := hr i f hf
  have hx : i < xs.length := by omega
  rw [List.getElem?_eq_getElem hx, ho, hs] at h1
  obtain ⟨a, hK, hok⟩ := h H enc w base spare held n _ _ h1 (hw i f _ hf (List.getElem?_eq_getElem hx))
  obtain ⟨b, hK2, hok2⟩ := hr2 H enc w base spare held n cs xs hcs hxs hr hw
  refine ⟨(a, b), ?_, hok, hok2⟩
  have e0 : cs.drop off = (cs.drop off).take sz ++ cs.drop (off + sz) := by rw [← List.drop_drop, List.take_append_drop]
  rw [e0]
  exact hK.append hK2
theorem opens_struct {t : TypeId} {fs : Array Field} {total : Nat} {α : Type} {e : α → List PV} {ok : α → Prop} (ht : P.underlying t = some (.struct fs)) (htot : P.cellsOf t = total) (h : From P fs 0 0 total e ok) : Opens P t e ok := by
  intro H enc w base spare held fuel cs x hx hw
  obtain ⟨xs, n, _, rfl, hl, hlen, hr⟩ := DataW.trod_struct ht hx
  obtain ⟨a, hK, hok⟩ := h H enc w base spare held n cs xs (hl.trans htot) hlen hr (fun j f d hf hd m hm => hw m (by
    simp only [DataW.weights, ht]
    exact DataW.weights_mem_each (j := j) (t := f.type) (d := d.1) (by rw [List.getElem?_map]; simp [hf]) (by rw [List.getElem?_map, hd]; rfl) m hm))
  exact ⟨a, by simpa using hK, hok⟩
/-- A parameter, opened. -/
theorem opened {H : Type} {enc : TypeId × Value → H} {w : World} {base : Nat} {spare : Nat → Bool} {held : Bool} {t : TypeId} {v : Value} {d : DataW H} {ps : List MemPlace} {ts : List TypeId} {ds : List (DataW H)} {j : Nat} {α : Type} {e : α → List PV} {ok : α → Prop}
    (ho : Opens P t e ok) (hsz : (DataW.weightsEach P ts ds).all (· ≤ reachBytes) = true) (ht : ts[j]? = some t) (hd : ds[j]? = some d) (h : DataW.Trod enc P w base spare held t v d ps) : ∃ a, Fa (fun p v => RepP (Was w) w p v) (e a) v.cells.toList ∧ ok a := by
  obtain ⟨fuel, hf⟩ := h
  exact ho H enc w base spare held fuel _ _ hf (fun n hn => by
    have := List.all_eq_true.1 hsz _ (DataW.weights_mem_each ht hd n hn)
    simpa using this)
/-- Cells that stand for values, as leaves of an argument. -/
theorem leaves_of {w : World} : ∀ {ps : List PV} {cs : List Value}, Fa (fun p v => RepP (Was w) w p v) ps cs → Fa (RepL (Gh.base (Was w)) [] w) (ps.map .pv) cs
  | [], [], _ => trivial
  | _ :: _, _ :: _, h => ⟨h.1, leaves_of h.2⟩
  | [], _ :: _, h => h.elim
  | _ :: _, [], h => h.elim
/-- A call by contract, from a world as a law has it. -/
theorem Con.law {f : FuncId} {args : List AV} {r : AV} (h : Con P f args r []) (hs : scalA r = true) {w : World} {us : List Value} (hu : Fa (RepA (Gh.base (Was w)) [] w) args us) {v : Value} (hv : ∀ (G : Gh) (w' : World) (u : Value), RepA G [] w' r u → u = v) (hg : Glob (Was w) w := by intro x hx; cases hx) :
    Calls P f us.toArray w fun e w' => e = .returned v ∧ Below w.heap.size w w' := by
  refine (h.2.2 w (Was w) us ⟨fun g o h => h, hg⟩ (fun g e h => by cases h) hu).mono ?_
  rintro e w' ⟨u, G, rfl, hr, hm⟩
  rw [hv G w' u hr]
  exact ⟨rfl, hm.os, hm.tape, hm.output, hm.size, fun g hg => hm.block g hg (fun b hb => absurd hb (Nat.not_lt_zero _)) (regX_nil _ g)⟩
end Go.Rx.Lift

/- The types of the translation that the functions use, in short, against the program's own. -/
namespace Go.Proofs.YtnhheglbcphklaaGreat.Rx
open Go.Rx Go.Proofs
noncomputable abbrev P := Tryz.prog
def T : Tab := ⟨[
  (2, ⟨.int .i64, 1, 8, [.int .i64 0]⟩),
  (3, ⟨.int .i64, 1, 8, [.int .i64 0]⟩),
  (4, ⟨.bool, 1, 1, [.bool false]⟩),
  (5, ⟨.int .u8, 1, 1, [.int .u8 0]⟩),
  (6, ⟨.int .u8, 1, 1, [.int .u8 0]⟩),
  (7, ⟨.strct [(0, 2), (1, 3), (2, 4), (3, 6)], 4, 24, [.int .i64 0, .int .i64 0, .bool false, .int .u8 0]⟩),
  (8, ⟨.strct [(0, 2), (1, 3), (2, 4), (3, 6)], 4, 24, [.int .i64 0, .int .i64 0, .bool false, .int .u8 0]⟩),
  (9, ⟨.str, 1, 16, [.string ⟨#[]⟩]⟩),
  (10, ⟨.str, 1, 16, [.string ⟨#[]⟩]⟩),
  (11, ⟨.str, 1, 16, [.string ⟨#[]⟩]⟩),
  (12, ⟨.int .u64, 1, 8, [.int .u64 0]⟩),
  (20, ⟨.ifc, 1, 16, [.nilIface]⟩),
  (21, ⟨.int .i32, 1, 4, [.int .i32 0]⟩),
  (22, ⟨.slice 44, 1, 24, [.slice none 0 0]⟩),
  (23, ⟨.slice 9, 1, 24, [.slice none 0 0]⟩),
  (24, ⟨.slice 3, 1, 24, [.slice none 0 0]⟩),
  (25, ⟨.strct [(0, 23), (1, 24)], 2, 48, [.slice none 0 0, .slice none 0 0]⟩),
  (26, ⟨.strct [(0, 23), (1, 24)], 2, 48, [.slice none 0 0, .slice none 0 0]⟩),
  (27, ⟨.strct [(0, 22), (1, 26)], 3, 72, [.slice none 0 0, .slice none 0 0, .slice none 0 0]⟩),
  (28, ⟨.strct [(0, 22), (1, 26)], 3, 72, [.slice none 0 0, .slice none 0 0, .slice none 0 0]⟩),
  (29, ⟨.slice 54, 1, 24, [.slice none 0 0]⟩),
  (30, ⟨.strct [(0, 28), (3, 29)], 4, 96, [.slice none 0 0, .slice none 0 0, .slice none 0 0, .slice none 0 0]⟩),
  (31, ⟨.strct [(0, 28), (3, 29)], 4, 96, [.slice none 0 0, .slice none 0 0, .slice none 0 0, .slice none 0 0]⟩),
  (32, ⟨.slice 22, 1, 24, [.slice none 0 0]⟩),
  (33, ⟨.strct [(0, 31), (4, 32)], 5, 120, [.slice none 0 0, .slice none 0 0, .slice none 0 0, .slice none 0 0, .slice none 0 0]⟩),
  (34, ⟨.strct [(0, 31), (4, 32)], 5, 120, [.slice none 0 0, .slice none 0 0, .slice none 0 0, .slice none 0 0, .slice none 0 0]⟩),
  (36, ⟨.slice 29, 1, 24, [.slice none 0 0]⟩),
  (38, ⟨.int .i64, 1, 8, [.int .i64 0]⟩),
  (42, ⟨.slice 87, 1, 24, [.slice none 0 0]⟩),
  (43, ⟨.strct [(0, 3), (1, 3), (2, 3), (3, 9), (4, 9), (5, 42)], 6, 80, [.int .i64 0, .int .i64 0, .int .i64 0, .string ⟨#[]⟩, .string ⟨#[]⟩, .slice none 0 0]⟩),
  (44, ⟨.strct [(0, 3), (1, 3), (2, 3), (3, 9), (4, 9), (5, 42)], 6, 80, [.int .i64 0, .int .i64 0, .int .i64 0, .string ⟨#[]⟩, .string ⟨#[]⟩, .slice none 0 0]⟩),
  (53, ⟨.strct [(0, 3), (1, 9), (2, 9), (3, 42), (4, 3), (5, 4), (6, 4), (7, 3), (8, 3)], 9, 96, [.int .i64 0, .string ⟨#[]⟩, .string ⟨#[]⟩, .slice none 0 0, .int .i64 0, .bool false, .bool false, .int .i64 0, .int .i64 0]⟩),
  (54, ⟨.strct [(0, 3), (1, 9), (2, 9), (3, 42), (4, 3), (5, 4), (6, 4), (7, 3), (8, 3)], 9, 96, [.int .i64 0, .string ⟨#[]⟩, .string ⟨#[]⟩, .slice none 0 0, .int .i64 0, .bool false, .bool false, .int .i64 0, .int .i64 0]⟩),
  (86, ⟨.strct [(0, 9), (1, 3), (2, 9), (3, 9), (4, 9), (5, 3)], 6, 80, [.string ⟨#[]⟩, .int .i64 0, .string ⟨#[]⟩, .string ⟨#[]⟩, .string ⟨#[]⟩, .int .i64 0]⟩),
  (87, ⟨.strct [(0, 9), (1, 3), (2, 9), (3, 9), (4, 9), (5, 3)], 6, 80, [.string ⟨#[]⟩, .int .i64 0, .string ⟨#[]⟩, .string ⟨#[]⟩, .string ⟨#[]⟩, .int .i64 0]⟩),
  (109, ⟨.slice 23, 1, 24, [.slice none 0 0]⟩),
  (115, ⟨.slice 5, 1, 24, [.slice none 0 0]⟩),
  (125, ⟨.strct [(0, 124), (1, 115)], 2, 32, [.pointer none, .slice none 0 0]⟩),
  (126, ⟨.strct [(0, 124), (1, 115)], 2, 32, [.pointer none, .slice none 0 0]⟩),
  (128, ⟨.ifc, 1, 16, [.nilIface]⟩),
  (129, ⟨.ifc, 1, 16, [.nilIface]⟩),
  (140, ⟨.int .u32, 1, 4, [.int .u32 0]⟩),
  (141, ⟨.int .u8, 1, 1, [.int .u8 0]⟩),
  (142, ⟨.int .u8, 1, 1, [.int .u8 0]⟩),
  (144, ⟨.int .i32, 1, 4, [.int .i32 0]⟩),
  (145, ⟨.int .i32, 1, 4, [.int .i32 0]⟩)
], [0, 1, 2, 10, 12, 27, 35, 58, 104, 105, 108, 112, 114, 116, 118, 119, 120, 121, 122, 123, 125, 126], [126], []⟩
theorem T_ok : TabOK P T := tabOK_of (by kernel_rfl)
end Go.Proofs.YtnhheglbcphklaaGreat.Rx

/- What the small functions return. -/
set_option linter.unusedVariables false
set_option linter.unusedSimpArgs false
namespace Go.Proofs.YtnhheglbcphklaaGreat.Rx
open Go.Rx Go.Proofs

theorem num_con (n : Int) (h : -9223372036854775808 ≤ n ∧ n ≤ 9223372036854775807) : Con P 9 [I n] (I n) [] := by
  refine Con.of T_ok Tryz.func9 rfl (by kernel_rfl) (by kernel_rfl) (aw_of T_ok (by kernel_rfl) ?_)
  conv => whnf
  exact retI rfl
theorem numB_con (n m : Int) : Con P 30 [I n, I m] (Bl (decide (0 ≤ n) && decide (n ≤ m))) [] := by
  refine Con.of T_ok Tryz.func30 rfl (by kernel_rfl) (by kernel_rfl) (aw_of T_ok (by kernel_rfl) ?_)
  conv => whnf
  split <;> rename_i h <;> conv => whnf
  · refine retB ?_; rw [show decide (0 ≤ n) = true from h]; rfl
  · refine retB ?_; rw [show decide (0 ≤ n) = false from h]; rfl
theorem between_con (n lo hi : Int) : Con P 18 [I n, I lo, I hi] (Bl (decide (lo ≤ n) && decide (n ≤ hi))) [] := by
  refine Con.of T_ok Tryz.func18 rfl (by kernel_rfl) (by kernel_rfl) (aw_of T_ok (by kernel_rfl) ?_)
  conv => whnf
  split <;> rename_i h <;> conv => whnf
  · refine retB ?_; rw [show decide (lo ≤ n) = true from h]; rfl
  · refine retB ?_; rw [show decide (lo ≤ n) = false from h]; rfl

theorem eqSteps_con (a b : List Step) (ha : a.length * 80 ≤ 140737488351232) : Con P 57 [.lf (.pv (encSteps a)), .lf (.pv (encSteps b))] (Bl (decide (a = b))) [] := by
  refine Con.of T_ok Tryz.func57 rfl (by kernel_rfl) (by kernel_rfl) (aw_of T_ok (by kernel_rfl) ?_)
  conv => whnf
  split <;> rename_i h <;> conv => whnf
  · refine retB ?_
    symm
    rw [decide_eq_false_iff_not]
    rintro rfl
    simp at h
  · have hl : a.length = b.length := by simp at h; omega
    refine AW.loop (fun k : Nat => k ≤ a.length ∧ ∀ j, j < k → a[j]? = b[j]?) (fun k => [(0, .lf (.pv (encSteps a))), (1, .lf (.pv (encSteps b))), (5, Go.Rx.I k)]) (fun _ => []) (fun k => a.length - k) [] ?_ ?_
    · exact ⟨0, ⟨Nat.zero_le _, fun j hj => absurd hj (Nat.not_lt_zero _)⟩, ⟨rfl, rfl, rfl, trivial⟩, ⟨[], rfl⟩, rfl, rfl⟩
    · rintro k ⟨hk, hpre⟩
      refine aw_of T_ok (by kernel_rfl) ?_
      conv => whnf
      split <;> rename_i hlt <;> conv => whnf
      · have hka : k < a.length := by simp at hlt; omega
        have hkb : k < b.length := by omega
        refine AW.draw T_ok rfl (seqPl 0 9) (by kernel_rfl) (by kernel_rfl) ?_
        conv => whnf
        refine ⟨by omega, (a[k]).enc, by simp [hka], ?_⟩
        conv => whnf
        refine ⟨by omega, (b[k]).enc, by simp [hkb], ?_⟩
        conv => whnf
        split <;> rename_i hne <;> conv => whnf
        · refine retB ?_
          symm
          rw [decide_eq_false_iff_not]
          rintro rfl
          have h2 : (!(decide (a[k] = a[k]))) = true := by rw [← stepEq]; exact hne
          simp at h2
        · have he : a[k] = b[k] := by
            have h2 : (!(decide (a[k] = b[k]))) = false := by rw [← stepEq]; exact hne
            simpa using h2
          refine ⟨k + 1, ⟨⟨by omega, fun j hj => ?_⟩, by omega⟩, ⟨rfl, rfl, ?_, trivial⟩, ⟨[], rfl⟩, rfl, rfl⟩
          · by_cases e : j = k
            · subst e; rw [List.getElem?_eq_getElem hka, List.getElem?_eq_getElem hkb, he]
            · exact hpre j (by omega)
          · exact congrArg Go.Rx.I (wrapI (by omega))
      · refine retB ?_
        symm
        rw [decide_eq_true_eq]
        have hka : k = a.length := by simp at hlt; omega
        apply List.ext_getElem?
        intro j
        rcases Nat.lt_or_ge j k with hj | hj
        · exact hpre j hj
        · rw [List.getElem?_eq_none (by omega), List.getElem?_eq_none (by omega)]

theorem copySteps_con (l : List Step) (hl : l.length * 80 ≤ 140737488351232) : Con P 43 [.lf (.pv (encSteps l))] (.lf (.pv (encSteps l))) [] := by
  refine Con.of T_ok Tryz.func43 rfl (by kernel_rfl) (by kernel_rfl) (aw_of T_ok (by kernel_rfl) ?_)
  conv => whnf
  refine AW.loop (fun k : Nat => k ≤ l.length) (fun k => [(0, .lf (.pv (encSteps l))), (3, .lf (.own 0 k)), (4, Go.Rx.I k)]) (fun k => [.arr 87 6 ((l.take k).map Step.enc)]) (fun k => l.length - k) [.slot 3 87 6] ?_ ?_
  · exact ⟨rfl, 0, Nat.zero_le _, ⟨rfl, rfl, rfl, trivial⟩, ⟨[], rfl⟩, rfl, rfl⟩
  · intro k hk
    refine aw_of T_ok (by kernel_rfl) ?_
    conv => whnf
    split <;> rename_i hlt <;> conv => whnf
    · have hkl : k < l.length := by simp at hlt; omega
      refine ⟨by omega, (l[k]).enc, by simp [hkl], ?_⟩
      conv => whnf
      refine ⟨rfl, _, .inl rfl, ?_⟩
      conv => whnf
      refine ⟨by simp; omega, by show (k + 1) * 80 ≤ _; omega, ?_⟩
      conv => whnf
      refine ⟨k + 1, ⟨by omega, by omega⟩, ⟨rfl, rfl, congrArg Go.Rx.I (wrapI (by omega)), trivial⟩, ⟨[?r], ?e⟩, rfl, rfl⟩
      case e => show _ = [Blk.arr _ _ (List.map Step.enc (l.take (k + 1)))] ++ [_]; rw [take_succ' hkl, List.map_append]; rfl
    · have hkl : k = l.length := by simp at hlt; omega
      subst hkl
      refine ⟨by simp, ?_⟩
      refine retA ?_
      show some (AV.lf (.pv (.sl 6 _))) = _
      rw [List.take_length]
end Go.Proofs.YtnhheglbcphklaaGreat.Rx

/- Sagas and records: the same, copied, begun, ended. -/
set_option linter.unusedVariables false
set_option linter.unusedSimpArgs false
namespace Go.Proofs.YtnhheglbcphklaaGreat.Rx
open Go.Rx Go.Proofs

theorem eqSlices_con (a b : List Step) (ha : a.length * 80 ≤ 140737488351232) : Con P 63 [.lf (.pv (encSteps a)), .lf (.pv (encSteps b))] (Bl (decide (a = b))) [] := by
  refine Con.of T_ok Tryz.func63 rfl (by kernel_rfl) (by kernel_rfl) (aw_of T_ok (by kernel_rfl) ?_)
  conv => whnf
  split <;> rename_i h <;> conv => whnf
  · refine retB ?_
    symm
    rw [decide_eq_false_iff_not]
    rintro rfl
    simp at h
  · have hl : a.length = b.length := by simp at h; omega
    refine AW.loop (fun k : Nat => k ≤ a.length ∧ ∀ j, j < k → a[j]? = b[j]?) (fun k => [(0, .lf (.pv (encSteps a))), (1, .lf (.pv (encSteps b))), (12, Go.Rx.I a.length), (13, Go.Rx.I k)]) (fun _ => []) (fun k => a.length - k) [] ?_ ?_
    · exact ⟨0, ⟨Nat.zero_le _, fun j hj => absurd hj (Nat.not_lt_zero _)⟩, ⟨rfl, rfl, congrArg (fun n : Nat => Go.Rx.I (n : Int)) (List.length_map ..), rfl, trivial⟩, ⟨[], rfl⟩, rfl, rfl⟩
    · rintro k ⟨hk, hpre⟩
      refine aw_of T_ok (by kernel_rfl) ?_
      conv => whnf
      split <;> rename_i hlt <;> conv => whnf
      · have hka : k < a.length := by simp at hlt; omega
        have hkb : k < b.length := by omega
        refine AW.draw T_ok rfl (seqPl 0 9) (by kernel_rfl) (by kernel_rfl) ?_
        conv => whnf
        refine ⟨by omega, (a[k]).enc, by simp [hka], ?_⟩
        conv => whnf
        refine ⟨by omega, (b[k]).enc, by simp [hkb], ?_⟩
        conv => whnf
        split <;> rename_i hne <;> conv => whnf
        · refine retB ?_
          symm
          rw [decide_eq_false_iff_not]
          rintro rfl
          have h2 : (!(decide (a[k] = a[k]))) = true := by rw [← stepEq]; exact hne
          simp at h2
        · have he : a[k] = b[k] := by
            have h2 : (!(decide (a[k] = b[k]))) = false := by rw [← stepEq]; exact hne
            simpa using h2
          refine ⟨k + 1, ⟨⟨by omega, fun j hj => ?_⟩, by omega⟩, ⟨rfl, rfl, rfl, congrArg Go.Rx.I (wrapI (by omega)), trivial⟩, ⟨[], rfl⟩, rfl, rfl⟩
          by_cases e : j = k
          · subst e; rw [List.getElem?_eq_getElem hka, List.getElem?_eq_getElem hkb, he]
          · exact hpre j (by omega)
      · refine retB ?_
        symm
        rw [decide_eq_true_eq]
        have hka : k = a.length := by simp at hlt; omega
        apply List.ext_getElem?
        intro j
        rcases Nat.lt_or_ge j k with hj | hj
        · exact hpre j hj
        · rw [List.getElem?_eq_none (by omega), List.getElem?_eq_none (by omega)]

theorem eqSaga_con (a b : Saga) (ha : a.steps.length * 80 ≤ 140737488351232) : Con P 33 [encSaga a, encSaga b] (Bl (decide (a = b))) [] := by
  refine Con.of T_ok Tryz.func33 rfl (by kernel_rfl) (by kernel_rfl) (aw_of T_ok (by kernel_rfl) ?_)
  conv => whnf
  repeat' first | refine finB ?_ | (refine callS (eqSteps_con _ _ ha) rfl ?_; conv => whnf) | (split <;> conv => whnf)
  all_goals (refine ⟨?_⟩; rw [sagaEq]; simp [*])
theorem eqRec_con (a b : Rec) (ha : a.steps.length * 80 ≤ 140737488351232) : Con P 34 [encRec a, encRec b] (Bl (decide (a = b))) [] := by
  refine Con.of T_ok Tryz.func34 rfl (by kernel_rfl) (by kernel_rfl) (aw_of T_ok (by kernel_rfl) ?_)
  conv => whnf
  repeat' first | refine finB ?_ | (refine callS (eqSteps_con _ _ ha) rfl ?_; conv => whnf) | (split <;> conv => whnf)
  all_goals (refine ⟨?_⟩; rw [recEq]; simp [*])
theorem same_con (a b : Rec) (ha : a.steps.length * 80 ≤ 140737488351232) : Con P 45 [encRec a, encRec b] (Bl (decide (a = b))) [] := by
  refine Con.of T_ok Tryz.func45 rfl (by kernel_rfl) (by kernel_rfl) (aw_of T_ok (by kernel_rfl) ?_)
  conv => whnf
  repeat' first | refine finB ?_ | (refine callS (eqSlices_con _ _ ha) rfl ?_; conv => whnf) | (split <;> conv => whnf)
  all_goals (refine ⟨?_⟩; rw [recEq]; simp [*])
theorem copySaga_con (s : Saga) (hl : s.steps.length * 80 ≤ 140737488351232) : Con P 55 [encSaga s] (encSaga s) [] := by
  refine Con.of T_ok Tryz.func55 rfl (by kernel_rfl) (by kernel_rfl) (aw_of T_ok (by kernel_rfl) ?_)
  conv => whnf
  refine callU (copySteps_con _ hl) (fun _ => rfl) ?_
  conv => whnf
  exact finA ⟨rfl⟩
theorem begin_con (s : Saga) : Con P 77 [encSaga s] (encRec ⟨1, s.id, 0, s.key, s.body, s.steps⟩) [] := by
  refine Con.of T_ok Tryz.func77 rfl (by kernel_rfl) (by kernel_rfl) (aw_of T_ok (by kernel_rfl) ?_)
  conv => whnf
  exact finA ⟨rfl⟩
theorem bare_con (r : Rec) : Con P 46 [encRec r] (encRec ⟨r.kind, r.id, r.n, ⟨#[]⟩, ⟨#[]⟩, []⟩) [] := by
  refine Con.of T_ok Tryz.func46 rfl (by kernel_rfl) (by kernel_rfl) (aw_of T_ok (by kernel_rfl) ?_)
  conv => whnf
  refine ⟨[encRec ⟨r.kind, r.id, r.n, ⟨#[]⟩, ⟨#[]⟩, []⟩], ⟨.inr (.inr ⟨_, _, rfl, rfl, wkE _, wkE _, wkE _, wkE _, wkE _, wkN 6, trivial⟩), trivial⟩, rfl⟩
theorem most_con (s : Saga) (h : -9223372036854775808 ≤ s.done + 1 ∧ s.done + 1 ≤ 9223372036854775807) : Con P 78 [encSaga s] (Go.Rx.I (mostI s)) [] := by
  refine Con.of T_ok Tryz.func78 rfl (by kernel_rfl) (by kernel_rfl) (aw_of T_ok (by kernel_rfl) ?_)
  conv => whnf
  repeat' first | refine finI ?_ | (split <;> conv => whnf)
  all_goals (refine ⟨?_⟩; simp [mostI, wrapI h, *])
theorem ended_con (s : Saga) (st : Int) : Con P 79 [encSaga s, Go.Rx.I st] (Bl (endsB s st)) [] := by
  refine Con.of T_ok Tryz.func79 rfl (by kernel_rfl) (by kernel_rfl) (aw_of T_ok (by kernel_rfl) ?_)
  conv => whnf
  repeat' first | refine finB ?_ | (split <;> conv => whnf)
  all_goals (refine ⟨?_⟩; simp_all [endsB])
theorem ends_con (s : Saga) (st : Int) (h : 1 ≤ st ∧ st ≤ 3) : Con P 56 [encSaga s, Go.Rx.I st] (Bl (endsB s st)) [] := by
  refine Con.of T_ok Tryz.func56 rfl (by kernel_rfl) (by kernel_rfl) (aw_of T_ok (by kernel_rfl) ?_)
  conv => whnf
  repeat' first | refine finB ?_ | (split <;> conv => whnf)
  all_goals (refine ⟨?_⟩; try simp_all [endsB])
  all_goals (have e3 : st = 3 := by omega)
  all_goals (subst e3; simp_all)
end Go.Proofs.YtnhheglbcphklaaGreat.Rx

/- How much the input is: a number, whatever it is. -/
set_option linter.unusedVariables false
set_option linter.unusedSimpArgs false
namespace Go.Rx
/-- A sum that stops where it is great. -/
def capSum : List Int → Int → Int
  | [], n => n
  | x :: l, n => if n < 1048576 then capSum l (IntKind.i64.wrap (n + x)) else n
theorem capSum_go {l : List Int} {k : Nat} {n : Int} (h : k < l.length) (hn : n < 1048576) : capSum (l.drop k) n = capSum (l.drop (k + 1)) (IntKind.i64.wrap (n + l[k])) := by
  rw [List.drop_eq_getElem_cons h, capSum, if_pos hn]
theorem capSum_stop {l : List Int} {n : Int} (hn : ¬ n < 1048576) : capSum l n = n := by
  cases l with
  | nil => rfl
  | cons x l => rw [capSum, if_neg hn]
abbrev okS (s : ByteArray) : Prop := s.size ≤ 140737488351232
structure Step.Ok (s : Step) : Prop where
  nm : okS s.nm
  op : okS s.op
  undo : okS s.undo
  who : okS s.who
def Step.w (s : Step) : Int := IntKind.i64.wrap (IntKind.i64.wrap (IntKind.i64.wrap ((s.nm.size : Int) + s.op.size) + s.undo.size) + s.who.size) / 8
def stepsW (l : List Step) : Int := capSum (l.map Step.w) l.length
def sumW (a b : ByteArray) : Int := IntKind.i64.wrap ((a.size : Int) + b.size) / 64
theorem Step.sum_eq {s : Step} (h : s.Ok) : IntKind.i64.wrap (IntKind.i64.wrap (IntKind.i64.wrap ((s.nm.size : Int) + s.op.size) + s.undo.size) + s.who.size) = s.nm.size + s.op.size + s.undo.size + s.who.size := by
  have := h.nm; have := h.op; have := h.undo; have := h.who
  simp only [okS] at *
  rw [wrapI (n := (s.nm.size : Int) + s.op.size) (by omega), wrapI (n := (s.nm.size : Int) + s.op.size + s.undo.size) (by omega), wrapI (by omega)]
abbrev encStrs (l : List ByteArray) : PV := .sl 1 (l.map fun s => [pS s])
abbrev encInts (l : List Int) : PV := .sl 1 (l.map fun n => [pI n])
abbrev encSagas (l : List Saga) : PV := .sl 9 (l.map Saga.enc)
abbrev encRecs (l : List Rec) : PV := .sl 6 (l.map Rec.enc)
def textsW (l : List ByteArray) : Int := capSum (l.map fun s => (s.size : Int)) l.length
def recW (r : Rec) : Int := IntKind.i64.wrap (IntKind.i64.wrap (1 + sumW r.key r.body) + stepsW r.steps)
def sagaW (s : Saga) : Int := IntKind.i64.wrap (IntKind.i64.wrap (1 + sumW s.key s.body) + stepsW s.steps)
structure StepsOk (l : List Step) : Prop where
  len : l.length * 80 ≤ 140737488351232
  each : ∀ x ∈ l, x.Ok
structure Rec.Ok (r : Rec) : Prop where
  key : okS r.key
  body : okS r.body
  steps : StepsOk r.steps
structure Saga.Ok (s : Saga) : Prop where
  key : okS s.key
  body : okS s.body
  steps : StepsOk s.steps
def heavy2B (S : List ByteArray) (N : List Int) : Bool := decide (7000 < IntKind.i64.wrap (textsW S + (N.map fun n => [pI n]).length))
def heavy11B (R : List Rec) (S : List ByteArray) (N : List Int) : Bool := decide (400 < capSum (R.map recW) R.length) || heavy2B S N
end Go.Rx
namespace Go.Proofs.YtnhheglbcphklaaGreat.Rx
open Go.Rx Go.Proofs

theorem texts_con (l : List ByteArray) (hl : l.length * 16 ≤ 140737488351232) : Con P 80 [.lf (.pv (encStrs l))] (I (textsW l)) [] := by
  refine Con.of T_ok Tryz.func80 rfl (by kernel_rfl) (by kernel_rfl) (aw_of T_ok (by kernel_rfl) ?_)
  conv => whnf
  refine AW.loop (fun p : Nat × Int => p.1 ≤ l.length ∧ capSum ((l.map fun s => (s.size : Int)).drop p.1) p.2 = textsW l) (fun p => [(0, .lf (.pv (encStrs l))), (3, Go.Rx.I p.2), (4, Go.Rx.I p.1)]) (fun _ => []) (fun p => l.length - p.1) [] ?_ ?_
  · exact ⟨(0, l.length), ⟨Nat.zero_le _, rfl⟩, ⟨rfl, congrArg (fun n : Nat => Go.Rx.I (n : Int)) (List.length_map ..), rfl, trivial⟩, ⟨[], rfl⟩, rfl, rfl⟩
  · rintro ⟨k, n⟩ ⟨hk, hsum⟩
    refine aw_of T_ok (by kernel_rfl) ?_
    conv => whnf
    split <;> rename_i hlt <;> conv => whnf
    · have hkl : k < l.length := by simp at hlt; omega
      split <;> rename_i hn <;> conv => whnf
      · refine ⟨by omega, [pS l[k]], by simp [hkl], ?_⟩
        conv => whnf
        have hn' : n < 1048576 := of_decide_eq_true hn
        refine ⟨(k + 1, IntKind.i64.wrap (n + l[k].size)), ⟨⟨by show k + 1 ≤ _; omega, ?_⟩, by show _ - (k + 1) < _; omega⟩, ⟨rfl, rfl, congrArg Go.Rx.I (wrapI (by omega)), trivial⟩, ⟨[], rfl⟩, rfl, rfl⟩
        rw [← hsum]
        have h3 := capSum_go (l := l.map fun s => (s.size : Int)) (k := k) (by simpa using hkl) hn'
        rw [List.getElem_map] at h3
        exact h3.symm
      · refine finI ⟨?_⟩
        rw [← hsum, capSum_stop (of_decide_eq_false hn)]
    · refine finI ⟨?_⟩
      have hkl : k = l.length := by simp at hlt; omega
      rw [← hsum, hkl, List.drop_of_length_le (by simp)]
      rfl

theorem stepsWeight_con (l : List Step) (hl : StepsOk l) : Con P 40 [.lf (.pv (encSteps l))] (I (stepsW l)) [] := by
  refine Con.of T_ok Tryz.func40 rfl (by kernel_rfl) (by kernel_rfl) (aw_of T_ok (by kernel_rfl) ?_)
  conv => whnf
  have hlen := hl.len
  refine AW.loop (fun p : Nat × Int => p.1 ≤ l.length ∧ capSum ((l.map Step.w).drop p.1) p.2 = stepsW l) (fun p => [(0, .lf (.pv (encSteps l))), (3, Go.Rx.I p.2), (4, Go.Rx.I p.1)]) (fun _ => []) (fun p => l.length - p.1) [] ?_ ?_
  · exact ⟨(0, l.length), ⟨Nat.zero_le _, rfl⟩, ⟨rfl, congrArg (fun n : Nat => Go.Rx.I (n : Int)) (List.length_map ..), rfl, trivial⟩, ⟨[], rfl⟩, rfl, rfl⟩
  · rintro ⟨k, n⟩ ⟨hk, hsum⟩
    refine aw_of T_ok (by kernel_rfl) ?_
    conv => whnf
    split <;> rename_i hlt <;> conv => whnf
    · have hkl : k < l.length := by simp at hlt; omega
      have hok := hl.each _ (List.getElem_mem hkl)
      split <;> rename_i hn <;> conv => whnf
      · have hn' : n < 1048576 := of_decide_eq_true hn
        refine AW.draw T_ok rfl (seqPl 0 31) (by kernel_rfl) (by kernel_rfl) ?_
        conv => whnf
        refine ⟨by omega, (l[k]).enc, by simp [hkl], ?_⟩
        conv => whnf
        refine ⟨by omega, (l[k]).enc, by simp [hkl], ?_⟩
        conv => whnf
        refine ⟨by omega, (l[k]).enc, by simp [hkl], ?_⟩
        conv => whnf
        refine ⟨by omega, (l[k]).enc, by simp [hkl], ?_⟩
        conv => whnf
        have h4 := Step.sum_eq hok
        have h5 : (l[k].nm.size : Int) + l[k].op.size + l[k].undo.size + l[k].who.size ≤ 9223372036854775807 := by
          have := hok.nm; have := hok.op; have := hok.undo; have := hok.who
          simp only [okS] at *
          omega
        refine ⟨by show 0 ≤ IntKind.i64.wrap (IntKind.i64.wrap (IntKind.i64.wrap ((l[k].nm.size : Int) + l[k].op.size) + l[k].undo.size) + l[k].who.size); rw [h4]; omega, by decide, by show IntKind.i64.wrap (IntKind.i64.wrap (IntKind.i64.wrap ((l[k].nm.size : Int) + l[k].op.size) + l[k].undo.size) + l[k].who.size) ≤ _; rw [h4]; exact h5, ?_⟩
        conv => whnf
        refine ⟨(k + 1, IntKind.i64.wrap (n + l[k].w)), ⟨⟨by show k + 1 ≤ _; omega, ?_⟩, by show _ - (k + 1) < _; omega⟩, ⟨rfl, rfl, congrArg Go.Rx.I (wrapI (by omega)), trivial⟩, ⟨[], rfl⟩, rfl, rfl⟩
        rw [← hsum]
        have h3 := capSum_go (l := l.map Step.w) (k := k) (by simpa using hkl) hn'
        rw [List.getElem_map] at h3
        exact h3.symm
      · refine finI ⟨?_⟩
        rw [← hsum, capSum_stop (of_decide_eq_false hn)]
    · refine finI ⟨?_⟩
      have hkl : k = l.length := by simp at hlt; omega
      rw [← hsum, hkl, List.drop_of_length_le (by simp)]
      rfl
theorem recW_con (r : Rec) (h : r.Ok) : Con P 21 [encRec r] (I (recW r)) [] := by
  refine Con.of T_ok Tryz.func21 rfl (by kernel_rfl) (by kernel_rfl) (aw_of T_ok (by kernel_rfl) ?_)
  conv => whnf
  refine AW.draw T_ok rfl (seqPl 0 14) (by kernel_rfl) (by kernel_rfl) ?_
  conv => whnf
  have h1 := h.key
  have h2 := h.body
  have h3 : IntKind.i64.wrap ((r.key.size : Int) + r.body.size) = r.key.size + r.body.size := wrapI (by simp only [okS] at *; omega)
  refine ⟨by show 0 ≤ IntKind.i64.wrap ((r.key.size : Int) + r.body.size); rw [h3]; omega, by decide, by show IntKind.i64.wrap ((r.key.size : Int) + r.body.size) ≤ _; rw [h3]; simp only [okS] at *; omega, ?_⟩
  conv => whnf
  refine callS (stepsWeight_con _ h.steps) rfl ?_
  conv => whnf
  exact finI ⟨rfl⟩
theorem sagaW_con (s : Saga) (h : s.Ok) : Con P 41 [encSaga s] (I (sagaW s)) [] := by
  refine Con.of T_ok Tryz.func41 rfl (by kernel_rfl) (by kernel_rfl) (aw_of T_ok (by kernel_rfl) ?_)
  conv => whnf
  refine AW.draw T_ok rfl (seqPl 0 14) (by kernel_rfl) (by kernel_rfl) ?_
  conv => whnf
  have h1 := h.key
  have h2 := h.body
  have h3 : IntKind.i64.wrap ((s.key.size : Int) + s.body.size) = s.key.size + s.body.size := wrapI (by simp only [okS] at *; omega)
  refine ⟨by show 0 ≤ IntKind.i64.wrap ((s.key.size : Int) + s.body.size); rw [h3]; omega, by decide, by show IntKind.i64.wrap ((s.key.size : Int) + s.body.size) ≤ _; rw [h3]; simp only [okS] at *; omega, ?_⟩
  conv => whnf
  refine callS (stepsWeight_con _ h.steps) rfl ?_
  conv => whnf
  exact finI ⟨rfl⟩
theorem heavy2V_con (S : List ByteArray) (N : List Int) (hS : S.length * 16 ≤ 140737488351232) : Con P 62 [.agg [.pv (encStrs S), .pv (encInts N)]] (Bl (heavy2B S N)) [] := by
  refine Con.of T_ok Tryz.func62 rfl (by kernel_rfl) (by kernel_rfl) (aw_of T_ok (by kernel_rfl) ?_)
  conv => whnf
  refine AW.draw T_ok rfl (listPl [0, 1, 3, 4, 5, 2, 6, 7, 8]) (by kernel_rfl) (by kernel_rfl) ?_
  conv => whnf
  refine callS (texts_con _ hS) rfl ?_
  conv => whnf
  exact finB ⟨rfl⟩
theorem heavy11V_con (R : List Rec) (S : List ByteArray) (N : List Int) (hR : R.length * 80 ≤ 140737488351232) (hRs : ∀ r ∈ R, r.Ok) (hS : S.length * 16 ≤ 140737488351232) : Con P 42 [.agg [.pv (encRecs R), .pv (encStrs S), .pv (encInts N)]] (Bl (heavy11B R S N)) [] := by
  have hb2 := heavy2V_con S N hS
  have hB : heavy11B R S N = (decide (400 < capSum (R.map recW) R.length) || heavy2B S N) := rfl
  rw [hB]
  generalize heavy2B S N = b2 at hb2
  refine Con.of T_ok Tryz.func42 rfl (by kernel_rfl) (by kernel_rfl) (aw_of T_ok (by kernel_rfl) ?_)
  conv => whnf
  refine AW.loop (fun p : Nat × Int => p.1 ≤ R.length ∧ capSum ((R.map recW).drop p.1) p.2 = capSum (R.map recW) R.length) (fun p => [(1, .lf (.ptr 0 0)), (3, Go.Rx.I p.2), (4, Go.Rx.I p.1)]) (fun _ => [.var [.pv (encRecs R), .pv (encStrs S), .pv (encInts N)]]) (fun p => R.length - p.1) [] ?_ ?_
  · exact ⟨(0, R.length), ⟨Nat.zero_le _, rfl⟩, ⟨rfl, congrArg (fun n : Nat => Go.Rx.I (n : Int)) (List.length_map ..), rfl, trivial⟩, ⟨[], rfl⟩, rfl, rfl⟩
  · rintro ⟨k, n⟩ ⟨hk, hsum⟩
    refine aw_of T_ok (by kernel_rfl) ?_
    conv => whnf
    have fin : ∀ m, m = capSum (R.map recW) R.length → (decide (400 < m) || b2) = (decide (400 < capSum (R.map recW) R.length) || b2) := fun m h => by rw [h]
    split <;> rename_i hlt <;> conv => whnf
    · have hkl : k < R.length := by simp at hlt; omega
      split <;> rename_i hn <;> conv => whnf
      · refine ⟨by omega, (R[k]).enc, by simp [hkl], ?_⟩
        conv => whnf
        refine callS (recW_con _ (hRs _ (List.getElem_mem hkl))) rfl ?_
        conv => whnf
        have hn' : n < 1048576 := of_decide_eq_true hn
        refine ⟨(k + 1, IntKind.i64.wrap (n + recW R[k])), ⟨⟨by show k + 1 ≤ _; omega, ?_⟩, by show _ - (k + 1) < _; omega⟩, ⟨rfl, rfl, congrArg Go.Rx.I (wrapI (by omega)), trivial⟩, ⟨[], rfl⟩, rfl, rfl⟩
        rw [← hsum]
        have h3 := capSum_go (l := R.map recW) (k := k) (by simpa using hkl) hn'
        rw [List.getElem_map] at h3
        exact h3.symm
      · have hm : n = capSum (R.map recW) R.length := by rw [← hsum, capSum_stop (of_decide_eq_false hn)]
        split <;> rename_i h4 <;> conv => whnf
        · refine finB ⟨?_⟩
          rw [← fin n hm, show decide (400 < n) = true from h4]; rfl
        · refine callS hb2 rfl ?_
          conv => whnf
          refine finB ⟨?_⟩
          rw [← fin n hm, show decide (400 < n) = false from h4]; rfl
    · have hkl : k = R.length := by simp at hlt; omega
      have hm : n = capSum (R.map recW) R.length := by rw [← hsum, hkl, List.drop_of_length_le (by simp)]; rfl
      split <;> rename_i h4 <;> conv => whnf
      · refine finB ⟨?_⟩
        rw [← fin n hm, show decide (400 < n) = true from h4]; rfl
      · refine callS hb2 rfl ?_
        conv => whnf
        refine finB ⟨?_⟩
        rw [← fin n hm, show decide (400 < n) = false from h4]; rfl
theorem heavy11_con (R : List Rec) (S : List ByteArray) (N : List Int) (hR : R.length * 80 ≤ 140737488351232) (hRs : ∀ r ∈ R, r.Ok) (hS : S.length * 16 ≤ 140737488351232) : ∃ b, Con P 42 [.agg [.pv (encRecs R), .pv (encStrs S), .pv (encInts N)]] (Bl b) [] := ⟨_, heavy11V_con R S N hR hRs hS⟩
structure AskOk (R : List Rec) (S : List ByteArray) (N : List Int) (G : List Saga) : Prop where
  hR : R.length * 80 ≤ 140737488351232
  hRs : ∀ r ∈ R, r.Ok
  hS : S.length * 16 ≤ 140737488351232
  hG : G.length * 96 ≤ 140737488351232
  hGs : ∀ s ∈ G, s.Ok
theorem heavy14_con (R : List Rec) (S : List ByteArray) (N : List Int) (G : List Saga) (h : AskOk R S N G) : ∃ b, Con P 22 [.agg [.pv (encRecs R), .pv (encStrs S), .pv (encInts N), .pv (encSagas G)]] (Bl b) [] := by
  obtain ⟨b2, hb2⟩ := heavy11_con R S N h.hR h.hRs h.hS
  have hG := h.hG
  refine ⟨decide (400 < capSum (G.map sagaW) G.length) || b2, Con.of T_ok Tryz.func22 rfl (by kernel_rfl) (by kernel_rfl) (aw_of T_ok (by kernel_rfl) ?_)⟩
  conv => whnf
  refine AW.loop (fun p : Nat × Int => p.1 ≤ G.length ∧ capSum ((G.map sagaW).drop p.1) p.2 = capSum (G.map sagaW) G.length) (fun p => [(1, .lf (.ptr 0 0)), (3, Go.Rx.I p.2), (4, Go.Rx.I p.1)]) (fun _ => [.var [.pv (encRecs R), .pv (encStrs S), .pv (encInts N), .pv (encSagas G)]]) (fun p => G.length - p.1) [] ?_ ?_
  · exact ⟨(0, G.length), ⟨Nat.zero_le _, rfl⟩, ⟨rfl, congrArg (fun n : Nat => Go.Rx.I (n : Int)) (List.length_map ..), rfl, trivial⟩, ⟨[], rfl⟩, rfl, rfl⟩
  · rintro ⟨k, n⟩ ⟨hk, hsum⟩
    refine aw_of T_ok (by kernel_rfl) ?_
    conv => whnf
    have fin : ∀ m, m = capSum (G.map sagaW) G.length → (decide (400 < m) || b2) = (decide (400 < capSum (G.map sagaW) G.length) || b2) := fun m h => by rw [h]
    split <;> rename_i hlt <;> conv => whnf
    · have hkl : k < G.length := by simp at hlt; omega
      split <;> rename_i hn <;> conv => whnf
      · refine ⟨by omega, (G[k]).enc, by simp [hkl], ?_⟩
        conv => whnf
        refine callS (sagaW_con _ (h.hGs _ (List.getElem_mem hkl))) rfl ?_
        conv => whnf
        have hn' : n < 1048576 := of_decide_eq_true hn
        refine ⟨(k + 1, IntKind.i64.wrap (n + sagaW G[k])), ⟨⟨by show k + 1 ≤ _; omega, ?_⟩, by show _ - (k + 1) < _; omega⟩, ⟨rfl, rfl, congrArg Go.Rx.I (wrapI (by omega)), trivial⟩, ⟨[], rfl⟩, rfl, rfl⟩
        rw [← hsum]
        have h3 := capSum_go (l := G.map sagaW) (k := k) (by simpa using hkl) hn'
        rw [List.getElem_map] at h3
        exact h3.symm
      · have hm : n = capSum (G.map sagaW) G.length := by rw [← hsum, capSum_stop (of_decide_eq_false hn)]
        split <;> rename_i h4 <;> conv => whnf
        · refine finB ⟨?_⟩
          rw [← fin n hm, show decide (400 < n) = true from h4]; rfl
        · refine callS hb2 rfl ?_
          conv => whnf
          refine finB ⟨?_⟩
          rw [← fin n hm, show decide (400 < n) = false from h4]; rfl
    · have hkl : k = G.length := by simp at hlt; omega
      have hm : n = capSum (G.map sagaW) G.length := by rw [← hsum, hkl, List.drop_of_length_le (by simp)]; rfl
      split <;> rename_i h4 <;> conv => whnf
      · refine finB ⟨?_⟩
        rw [← fin n hm, show decide (400 < n) = true from h4]; rfl
      · refine callS hb2 rfl ?_
        conv => whnf
        refine finB ⟨?_⟩
        rw [← fin n hm, show decide (400 < n) = false from h4]; rfl
end Go.Proofs.YtnhheglbcphklaaGreat.Rx

/- Bytes, short texts, numbers, services and their ops. -/
set_option linter.unusedVariables false
set_option linter.unusedSimpArgs false
namespace Go.Rx
abbrev U8 (n : Int) : AV := sc (.int .u8 n)
abbrev pU8 (n : Int) : PV := .sc (.int .u8 n)
def letN (n : Int) : Bool := (decide (97 ≤ n) && decide (n ≤ 122)) || (decide (65 ≤ n) && decide (n ≤ 90)) || (n == 95)
def digN (n : Int) : Bool := decide (48 ≤ n) && decide (n ≤ 57)
/-- Is a byte one that a text may have? Are all? -/
def okB (c : UInt8) : Bool := !(decide ((c.toNat : Int) < 32) || decide (126 < (c.toNat : Int)))
def plainB (s : ByteArray) : Bool := s.data.toList.all okB
def shortB (s : ByteArray) : Bool := plainB s && decide (s.size ≤ 40)
theorem atB {s : ByteArray} {k : Nat} (h : k < s.size) : s[k]? = some s[k] := by simp [h]
theorem plain_go {s : ByteArray} {k : Nat} (h : k < s.size) : (s.data.toList.drop k).all okB = (okB s[k] && (s.data.toList.drop (k + 1)).all okB) := by
  rw [List.drop_eq_getElem_cons (by simpa using h), List.all_cons]
  rfl
theorem plain_end {s : ByteArray} {k : Nat} (h : s.size ≤ k) : (s.data.toList.drop k).all okB = true := by
  rw [List.drop_of_length_le (by simpa using h)]; rfl
end Go.Rx
namespace Go.Proofs.YtnhheglbcphklaaGreat.Rx
open Go.Rx Go.Proofs

theorem letter2_con (n : Int) : Con P 75 [U8 n] (Bl (letN n)) [] := by
  refine Con.of T_ok Tryz.func75 rfl (by kernel_rfl) (by kernel_rfl) (aw_of T_ok (by kernel_rfl) ?_)
  conv => whnf
  repeat' first | refine finB ?_ | (split <;> conv => whnf)
  all_goals (refine ⟨?_⟩; simp_all [letN] <;> omega)
theorem digit2_con (n : Int) : Con P 92 [U8 n] (Bl (digN n)) [] := by
  refine Con.of T_ok Tryz.func92 rfl (by kernel_rfl) (by kernel_rfl) (aw_of T_ok (by kernel_rfl) ?_)
  conv => whnf
  repeat' first | refine finB ?_ | (split <;> conv => whnf)
  all_goals (refine ⟨?_⟩; simp_all [digN] <;> omega)
theorem letter_con (n : Int) : Con P 84 [U8 n] (Bl (letN n)) [] := by
  refine Con.of T_ok Tryz.func84 rfl (by kernel_rfl) (by kernel_rfl) (aw_of T_ok (by kernel_rfl) ?_)
  conv => whnf
  repeat' first | refine finB ?_ | (split <;> conv => whnf)
  all_goals (refine ⟨?_⟩; simp_all [letN] <;> omega)
theorem digit_con (n : Int) : Con P 98 [U8 n] (Bl (digN n)) [] := by
  refine Con.of T_ok Tryz.func98 rfl (by kernel_rfl) (by kernel_rfl) (aw_of T_ok (by kernel_rfl) ?_)
  conv => whnf
  repeat' first | refine finB ?_ | (split <;> conv => whnf)
  all_goals (refine ⟨?_⟩; simp_all [digN] <;> omega)
theorem digit1_con (n : Int) : Con P 103 [U8 n] (Bl (digN n)) [] := by
  refine Con.of T_ok Tryz.func103 rfl (by kernel_rfl) (by kernel_rfl) (aw_of T_ok (by kernel_rfl) ?_)
  conv => whnf
  repeat' first | refine finB ?_ | (split <;> conv => whnf)
  all_goals (refine ⟨?_⟩; simp_all [digN] <;> omega)
theorem isNum_con (n : Int) : Con P 70 [I n] (Bl (decide (-1073741824 ≤ n) && decide (n ≤ 1073741824))) [] := by
  refine Con.of T_ok Tryz.func70 rfl (by kernel_rfl) (by kernel_rfl) (aw_of T_ok (by kernel_rfl) ?_)
  conv => whnf
  repeat' first | refine finB ?_ | (split <;> conv => whnf)
  all_goals (refine ⟨?_⟩; simp_all <;> omega)
theorem isService_con (n : Int) : Con P 68 [I n] (Bl (decide (1 ≤ n) && decide (n ≤ 4))) [] := by
  refine Con.of T_ok Tryz.func68 rfl (by kernel_rfl) (by kernel_rfl) (aw_of T_ok (by kernel_rfl) ?_)
  conv => whnf
  repeat' first | refine finB ?_ | (split <;> conv => whnf)
  all_goals (refine ⟨?_⟩; simp_all <;> omega)
theorem string_con (s : ByteArray) (hs : okS s) : Con P 52 [Sx s] (Bl (plainB s && decide (s.size ≤ 3000))) [] := by
  simp only [okS] at hs
  refine Con.of T_ok Tryz.func52 rfl (by kernel_rfl) (by kernel_rfl) (aw_of T_ok (by kernel_rfl) ?_)
  conv => whnf
  refine AW.loop (fun k : Nat => k ≤ s.size ∧ k ≤ 3001 ∧ plainB s = (s.data.toList.drop k).all okB) (fun k => [(0, Sx s), (3, Go.Rx.I k)]) (fun _ => []) (fun k => s.size - k) [] ?_ ?_
  · exact ⟨0, ⟨Nat.zero_le _, by omega, rfl⟩, ⟨rfl, rfl, trivial⟩, ⟨[], rfl⟩, rfl, rfl⟩
  · rintro k ⟨hk, hk2, hpre⟩
    refine aw_of T_ok (by kernel_rfl) ?_
    conv => whnf
    split <;> rename_i hlt <;> conv => whnf
    · have hks : k < s.size := by simpa using hlt
      split <;> rename_i h3 <;> conv => whnf
      · have h3' : k ≤ 3000 := by simp at h3; omega
        refine ⟨by omega, s[k], atB hks, ?_⟩
        conv => whnf
        rw [plain_go hks] at hpre
        split <;> rename_i h4 <;> conv => whnf
        · refine finB ⟨?_⟩
          rw [hpre, okB, show decide ((s[k].toNat : Int) < 32) = true from h4]; rfl
        · refine ⟨by omega, s[k], atB hks, ?_⟩
          conv => whnf
          split <;> rename_i h5 <;> conv => whnf
          · refine finB ⟨?_⟩
            rw [hpre, okB, show decide (126 < (s[k].toNat : Int)) = true from h5, Bool.or_true]; rfl
          · refine ⟨k + 1, ⟨⟨by omega, by omega, ?_⟩, by omega⟩, ⟨rfl, congrArg Go.Rx.I (wrapI (by omega)), trivial⟩, ⟨[], rfl⟩, rfl, rfl⟩
            rw [hpre, okB, show decide ((s[k].toNat : Int) < 32) = false from h4, show decide (126 < (s[k].toNat : Int)) = false from h5]; rfl
      · refine finB ⟨?_⟩
        have h3' : ¬ k ≤ 3000 := by simp at h3; omega
        rw [decide_eq_false (by omega), decide_eq_false (by omega), Bool.and_false]
    · refine finB ⟨?_⟩
      have hks : s.size ≤ k := by simpa using hlt
      rw [hpre, plain_end hks, Bool.true_and]
      exact decide_eq_decide.2 (by omega)
theorem short1_con (s : ByteArray) (hs : okS s) : Con P 28 [Sx s] (Bl (shortB s)) [] := by
  refine Con.of T_ok Tryz.func28 rfl (by kernel_rfl) (by kernel_rfl) (aw_of T_ok (by kernel_rfl) ?_)
  conv => whnf
  refine callS (string_con s hs) rfl ?_
  conv => whnf
  split <;> rename_i h <;> conv => whnf
  · refine finB ⟨?_⟩
    simp only [Bool.and_eq_true, decide_eq_true_eq] at h
    rw [shortB, h.1, Bool.true_and]
    exact decide_eq_decide.2 (by omega)
  · refine finB ⟨?_⟩
    rw [shortB]
    cases hp : plainB s with
    | false => rfl
    | true =>
      rw [hp, Bool.true_and] at h
      simp at h
      simp
      omega
end Go.Proofs.YtnhheglbcphklaaGreat.Rx

/- Ops and their pairs; is a text, or a step, among others? -/
set_option linter.unusedVariables false
set_option linter.unusedSimpArgs false
namespace Go.Rx
def idxL {α : Type} (p : α → Bool) : List α → Nat → Int
  | [], _ => -1
  | y :: l, k => if p y then k else idxL p l (k + 1)
theorem idx_go {α : Type} {p : α → Bool} {l : List α} {k : Nat} (h : k < l.length) : idxL p (l.drop k) k = if p l[k] then (k : Int) else idxL p (l.drop (k + 1)) (k + 1) := by
  rw [List.drop_eq_getElem_cons h, idxL]
theorem idx_end {α : Type} {p : α → Bool} {l : List α} {k : Nat} (h : l.length ≤ k) : idxL p (l.drop k) k = -1 := by
  rw [List.drop_of_length_le h, idxL]
theorem idx_any {α : Type} {p : α → Bool} : ∀ (l : List α) (k : Nat), decide (0 ≤ idxL p l k) = l.any p
  | [], _ => rfl
  | y :: l, k => by
    rw [idxL, List.any_cons]
    cases hp : p y with
    | true => simp
    | false => simpa using idx_any l (k + 1)
abbrev encStep (s : Step) : AV := .agg [.pv (pS s.nm), .pv (pI s.service), .pv (pS s.op), .pv (pS s.undo), .pv (pS s.who), .pv (pI s.n)]
def opsS (n : Int) : List ByteArray :=
  if n = 1 then [⟨#[99, 114, 101, 100, 105, 116]⟩, ⟨#[100, 101, 98, 105, 116]⟩] else if n = 2 then [⟨#[112, 117, 116]⟩, ⟨#[116, 97, 107, 101]⟩]
  else if n = 3 then [⟨#[98, 111, 111, 107]⟩, ⟨#[99, 97, 110, 99, 101, 108]⟩] else if n = 4 then [⟨#[115, 101, 110, 100]⟩, ⟨#[114, 101, 99, 97, 108, 108]⟩] else []
def pairB (n : Int) (d u : ByteArray) : Bool := (opsS n).any (d == ·) && (opsS n).any (u == ·) && !(d == u)
end Go.Rx
namespace Go.Proofs.YtnhheglbcphklaaGreat.Rx
open Go.Rx Go.Proofs

theorem index_con (l : List ByteArray) (x : ByteArray) (hl : l.length * 16 ≤ 140737488351232) : Con P 91 [.lf (.pv (encStrs l)), Sx x] (I (idxL (x == ·) l 0)) [] := by
  refine Con.of T_ok Tryz.func91 rfl (by kernel_rfl) (by kernel_rfl) (aw_of T_ok (by kernel_rfl) ?_)
  conv => whnf
  refine AW.loop (fun k : Nat => k ≤ l.length ∧ idxL (x == ·) (l.drop k) k = idxL (x == ·) l 0) (fun k => [(0, .lf (.pv (encStrs l))), (1, Sx x), (7, Go.Rx.I l.length), (8, Go.Rx.I k)]) (fun _ => []) (fun k => l.length - k) [] ?_ ?_
  · exact ⟨0, ⟨Nat.zero_le _, rfl⟩, ⟨rfl, rfl, congrArg (fun n : Nat => Go.Rx.I (n : Int)) (List.length_map ..), rfl, trivial⟩, ⟨[], rfl⟩, rfl, rfl⟩
  · rintro k ⟨hk, hpre⟩
    refine aw_of T_ok (by kernel_rfl) ?_
    conv => whnf
    split <;> rename_i hlt <;> conv => whnf
    · have hkl : k < l.length := by simpa using hlt
      rw [idx_go hkl] at hpre
      refine ⟨by omega, [pS l[k]], by simp [hkl], ?_⟩
      conv => whnf
      split <;> rename_i he <;> conv => whnf
      · refine finI ⟨?_⟩
        rw [← hpre, if_pos (show (x == l[k]) = true from he)]
      · refine ⟨k + 1, ⟨⟨by omega, ?_⟩, by omega⟩, ⟨rfl, rfl, rfl, congrArg Go.Rx.I (wrapI (by omega)), trivial⟩, ⟨[], rfl⟩, rfl, rfl⟩
        rw [← hpre, if_neg (by rw [show (x == l[k]) = false from he]; decide)]
    · refine finI ⟨?_⟩
      have hkl : l.length ≤ k := by simpa using hlt
      rw [← hpre, idx_end hkl]
theorem contains_con (l : List ByteArray) (x : ByteArray) (hl : l.length * 16 ≤ 140737488351232) : Con P 87 [.lf (.pv (encStrs l)), Sx x] (Bl (l.any (x == ·))) [] := by
  refine Con.of T_ok Tryz.func87 rfl (by kernel_rfl) (by kernel_rfl) (aw_of T_ok (by kernel_rfl) ?_)
  conv => whnf
  refine callS (index_con l x hl) rfl ?_
  conv => whnf
  exact finB ⟨idx_any l 0⟩
theorem may1_con (s x : Step) : Con P 67 [encStep s, .lf (.ro x.enc)] (Bl (s.nm == x.nm)) [] := by
  refine Con.of T_ok Tryz.func67 rfl (by kernel_rfl) (by kernel_rfl) (aw_of T_ok (by kernel_rfl) ?_)
  conv => whnf
  exact finB ⟨rfl⟩
theorem indexFunc_con (l : List Step) (x : Step) (hl : l.length * 80 ≤ 140737488351232) : Con P 85 [.lf (.pv (encSteps l)), .lf (.fn 67 [x.enc])] (I (idxL (fun s : Step => s.nm == x.nm) l 0)) [] := by
  refine Con.of T_ok Tryz.func85 rfl (by kernel_rfl) (by kernel_rfl) (aw_of T_ok (by kernel_rfl) ?_)
  conv => whnf
  refine AW.loop (fun k : Nat => k ≤ l.length ∧ idxL (fun s : Step => s.nm == x.nm) (l.drop k) k = idxL (fun s : Step => s.nm == x.nm) l 0) (fun k => [(0, .lf (.pv (encSteps l))), (1, .lf (.fn 67 [x.enc])), (7, Go.Rx.I l.length), (8, Go.Rx.I k)]) (fun _ => []) (fun k => l.length - k) [] ?_ ?_
  · exact ⟨0, ⟨Nat.zero_le _, rfl⟩, ⟨rfl, rfl, congrArg (fun n : Nat => Go.Rx.I (n : Int)) (List.length_map ..), rfl, trivial⟩, ⟨[], rfl⟩, rfl, rfl⟩
  · rintro k ⟨hk, hpre⟩
    refine aw_of T_ok (by kernel_rfl) ?_
    conv => whnf
    split <;> rename_i hlt <;> conv => whnf
    · have hkl : k < l.length := by simpa using hlt
      rw [idx_go hkl] at hpre
      refine ⟨by omega, (l[k]).enc, by simp [hkl], ?_⟩
      conv => whnf
      refine callS (may1_con l[k] x) rfl ?_
      conv => whnf
      split <;> rename_i he <;> conv => whnf
      · refine finI ⟨?_⟩
        rw [← hpre, if_pos (show (l[k].nm == x.nm) = true from he)]
      · refine ⟨k + 1, ⟨⟨by omega, ?_⟩, by omega⟩, ⟨rfl, rfl, rfl, congrArg Go.Rx.I (wrapI (by omega)), trivial⟩, ⟨[], rfl⟩, rfl, rfl⟩
        rw [← hpre, if_neg (by rw [show (l[k].nm == x.nm) = false from he]; decide)]
    · refine finI ⟨?_⟩
      have hkl : l.length ≤ k := by simpa using hlt
      rw [← hpre, idx_end hkl]
theorem containsFunc_con (l : List Step) (x : Step) (hl : l.length * 80 ≤ 140737488351232) : Con P 66 [.lf (.pv (encSteps l)), .lf (.fn 67 [x.enc])] (Bl (l.any fun s : Step => s.nm == x.nm)) [] := by
  refine Con.of T_ok Tryz.func66 rfl (by kernel_rfl) (by kernel_rfl) (aw_of T_ok (by kernel_rfl) ?_)
  conv => whnf
  refine callS (indexFunc_con l x hl) rfl ?_
  conv => whnf
  exact finB ⟨idx_any l 0⟩
theorem ops4_con (n : Int) : Con P 76 [I n] (.lf (.pv (encStrs (opsS n)))) [] := by
  refine Con.of T_ok Tryz.func76 rfl (by kernel_rfl) (by kernel_rfl) (aw_of T_ok (by kernel_rfl) ?_)
  conv => whnf
  split <;> rename_i h <;> conv => whnf
  · obtain rfl : n = 1 := by simpa using h
    exact ⟨rfl, finA ⟨rfl⟩⟩
  · split <;> rename_i h2 <;> conv => whnf
    · obtain rfl : n = 2 := by simpa using h2
      exact ⟨rfl, finA ⟨rfl⟩⟩
    · split <;> rename_i h3 <;> conv => whnf
      · obtain rfl : n = 3 := by simpa using h3
        exact ⟨rfl, finA ⟨rfl⟩⟩
      · split <;> rename_i h4 <;> conv => whnf
        · obtain rfl : n = 4 := by simpa using h4
          exact ⟨rfl, finA ⟨rfl⟩⟩
        · have h1 : ¬ n = 1 := by simpa using h
          have h2 : ¬ n = 2 := by simpa using h2
          have h3 : ¬ n = 3 := by simpa using h3
          have h4 : ¬ n = 4 := by simpa using h4
          rw [show opsS n = [] by unfold opsS; rw [if_neg h1, if_neg h2, if_neg h3, if_neg h4]]
          exact ⟨[.lf (.pv (.sl 1 []))], ⟨.inr (.inl ⟨_, _, rfl, rfl, wkN 1⟩), trivial⟩, rfl⟩
theorem ops_con (n : Int) (h : 1 ≤ n ∧ n ≤ 4) : Con P 86 [I n] (.lf (.pv (encStrs (opsS n)))) [] := by
  refine Con.of T_ok Tryz.func86 rfl (by kernel_rfl) (by kernel_rfl) (aw_of T_ok (by kernel_rfl) ?_)
  obtain rfl | rfl | rfl | rfl : n = 1 ∨ n = 2 ∨ n = 3 ∨ n = 4 := by omega
  all_goals conv => whnf
  all_goals (refine ⟨rfl, ?_⟩; conv => whnf)
  all_goals (refine ⟨rfl, ?_⟩; conv => whnf)
  all_goals (refine ⟨rfl, ?_⟩; conv => whnf)
  all_goals (refine ⟨rfl, ?_⟩; conv => whnf)
  all_goals (refine ⟨rfl, by decide, by decide, ?_⟩; conv => whnf)
  all_goals (refine ⟨rfl, rfl, _, rfl, ?_⟩; conv => whnf)
  all_goals exact finA ⟨rfl⟩
theorem ops_len (n : Int) : (opsS n).length * 16 ≤ 140737488351232 := by
  unfold opsS; repeat' split
  all_goals decide
theorem ops_two (n : Int) : (∃ p q, opsS n = [p, q] ∧ (p == q) = false) ∨ opsS n = [] := by
  unfold opsS; repeat' split
  all_goals first | exact .inr rfl | exact .inl ⟨_, _, rfl, by decide⟩
theorem pair_con (n : Int) (d u : ByteArray) (h : 1 ≤ n ∧ n ≤ 4) : Con P 69 [I n, Sx d, Sx u] (Bl (pairB n d u)) [] := by
  refine Con.of T_ok Tryz.func69 rfl (by kernel_rfl) (by kernel_rfl) (aw_of T_ok (by kernel_rfl) ?_)
  conv => whnf
  refine callU (ops_con n h) (fun _ => rfl) ?_
  conv => whnf
  refine callS (contains_con (opsS n) d (ops_len n)) rfl ?_
  conv => whnf
  split <;> rename_i h1 <;> conv => whnf
  · refine callS (contains_con (opsS n) u (ops_len n)) rfl ?_
    conv => whnf
    split <;> rename_i h2 <;> conv => whnf
    · refine finB ⟨?_⟩
      rw [pairB, h1, h2]; rfl
    · refine finB ⟨?_⟩
      rw [pairB, h1, h2]; rfl
  · refine finB ⟨?_⟩
    rw [pairB, h1]; rfl
theorem pair4_con (n : Int) (d u : ByteArray) : Con P 54 [I n, Sx d, Sx u] (Bl (pairB n d u)) [] := by
  refine Con.of T_ok Tryz.func54 rfl (by kernel_rfl) (by kernel_rfl) (aw_of T_ok (by kernel_rfl) ?_)
  conv => whnf
  refine callU (ops4_con n) (fun _ => rfl) ?_
  rcases ops_two n with ⟨p, q, e, hne⟩ | e
  · rw [pairB, e]
    conv => whnf
    refine ⟨by decide, _, rfl, ?_⟩
    conv => whnf
    split <;> rename_i h1 <;> conv => whnf
    · refine ⟨by decide, _, rfl, ?_⟩
      conv => whnf
      split <;> rename_i h2 <;> conv => whnf
      · refine finB ⟨?_⟩
        obtain rfl := eq_of_beq h1
        obtain rfl := eq_of_beq h2
        simp [hne]
      · refine ⟨by decide, _, rfl, ?_⟩
        conv => whnf
        split <;> rename_i h3 <;> conv => whnf
        · obtain rfl := eq_of_beq h1
          rw [show (d == q) = false from hne] at h3
          cases h3
        · refine finB ⟨?_⟩
          obtain rfl := eq_of_beq h1
          by_cases e : u = d
          · subst e; simp
          · simp [show (u == q) = false from h2, show (u == d) = false from beq_eq_false_iff_ne.2 e]
    · refine ⟨by decide, _, rfl, ?_⟩
      conv => whnf
      split <;> rename_i h3 <;> conv => whnf
      · refine ⟨by decide, _, rfl, ?_⟩
        conv => whnf
        refine finB ⟨?_⟩
        obtain rfl := eq_of_beq h3
        by_cases e1 : u = p
        · subst e1; simp [show (d == u) = false from h1]
        · by_cases e2 : u = d
          · subst e2; simp [e1]
          · simp [beq_eq_false_iff_ne.2 e1, beq_eq_false_iff_ne.2 e2]
      · refine finB ⟨?_⟩
        simp [show (d == p) = false from h1, show (d == q) = false from h3]
  · rw [pairB, e]
    conv => whnf
    exact finB ⟨rfl⟩
end Go.Proofs.YtnhheglbcphklaaGreat.Rx

/- Library functions that write to a strings.Builder, and those that look for a byte or a beginning. -/
set_option linter.unusedVariables false
set_option linter.unusedSimpArgs false
namespace Go.Proofs.YtnhheglbcphklaaGreat.RxH
open Go.RowKit Go.Proofs
/-! ### json_Plain -/
def badR (n : Nat) : Bool := decide (n < 32) || decide (126 < n)
open Go.Shelf Go.Lib in
theorem plain_bad (w : World) : PredAt Tryz.prog 81 #[] encR badR w := fun W r _ => by
  unfold FnGives
  by_cases h1 : r < 32
  · have HX := Lib.hid (show badR r = true by simp [badR, h1])
    have t1 : decide ((r : Int) < 32) = true := decide_eq_true (by omega)
    clear h1
    go_enter Tryz.func81, Tryz.ntmps81
    go_wp2
    go_ret
    exact ⟨by rw [HX.out]; rfl, 0, rfl⟩
  · have t1 : decide ((r : Int) < 32) = false := decide_eq_false (by omega)
    by_cases h2 : 126 < r
    · have HX := Lib.hid (show badR r = true by simp [badR, h2])
      have t2 : decide (126 < (r : Int)) = true := decide_eq_true (by omega)
      clear h1 h2
      go_enter Tryz.func81, Tryz.ntmps81
      go_wp2
      go_ret
      exact ⟨by rw [HX.out]; rfl, 0, rfl⟩
    · have HX := Lib.hid (show badR r = false by simp [badR, h1, h2])
      have t2 : decide (126 < (r : Int)) = false := decide_eq_false (by omega)
      clear h1 h2
      go_enter Tryz.func81, Tryz.ntmps81
      go_wp2
      go_ret
      exact ⟨by rw [HX.out]; rfl, 0, rfl⟩
def json_Plain.f (a0 : ByteArray) (a1 : Int) : Option Bool := some (decide ((a0.size : Int) ≤ a1) && !decide (0 ≤ Lib.idxFunc badR true a0))
set_option maxHeartbeats 1000000 in
theorem json_Plain.calls (a0 : ByteArray) (a1 : Int) (r : Bool) (w : World) (h : json_Plain.f a0 a1 = some r) :
    Calls Tryz.prog 64 #[.string a0, .int .i64 a1] w fun e w' => e = .returned (.bool r) ∧ Below w.heap.size w w' := by
  have HR := Lib.hid (Option.some.inj h)
  clear h
  have HC := Lib.hid (Tryz.strings_ContainsFunc 81 #[] (enters_of Tryz.func81 (by kernel_rfl) rfl) badR a0 w (plain_bad w))
  by_cases c : (a0.size : Int) ≤ a1
  · have HR2 := Lib.hid (show (!decide (0 ≤ Lib.idxFunc badR true a0)) = r by rw [← HR.out, decide_eq_true c, Bool.true_and])
    have t1 : decide ((a0.size : Int) ≤ a1) = true := decide_eq_true c
    clear c
    go_enter Tryz.func64, Tryz.ntmps64
    go_wp2_with (fail)
    refine HC.out.mono ?_
    rintro e w2 ⟨rfl, hd2⟩
    go_wp2
    go_ret
    exact ⟨by rw [HR2.out]; rfl, hd2⟩
  · have HR2 := Lib.hid (show false = r by rw [← HR.out, decide_eq_false c, Bool.false_and])
    have t1 : decide ((a0.size : Int) ≤ a1) = false := decide_eq_false c
    clear c
    go_enter Tryz.func64, Tryz.ntmps64
    go_wp2
    go_ret
    exact ⟨by rw [HR2.out]; rfl, Below.refl _ _⟩
/-! ### strings_Builder_copyCheck -/
theorem hb_size : (Tryz.prog.info? 126).map (·.size) = some 2 := by kernel_rfl
theorem hb_lies : liesAt Tryz.prog Tryz.prog.depth 126 (2 / Tryz.prog.cellsOf 126) 0 126 1 = true := by kernel_rfl
theorem hb_byte : (Tryz.prog.info? 5).map (fun i => (i.zero, i.size, i.bytes)) = some (some (.int .u8 0), 1, 1) := by kernel_rfl
set_option maxHeartbeats 1000000 in
set_option maxRecDepth 100000 in
theorem hb_copyCheck_used (b : Nat) (w : World) (h0 : w.cell? ⟨b, 0, none⟩ = some (.pointer (some ⟨b, 0, none⟩))) :
    Calls Tryz.prog 108 #[.pointer (some ⟨b, 0, none⟩)] w fun e w' => e = .returned (.tuple #[]) ∧ w' = w := by
  obtain ⟨j, hj, _⟩ := Option.map_eq_some_iff.1 hb_size
  go_enter Tryz.func108, Tryz.ntmps108
  go_wp2
  rw [Lib.run_neq_ptr_same w _ Tryz.underlying124 hj]
  go_wp2
  go_end0
  exact ⟨rfl, rfl⟩
set_option maxHeartbeats 1000000 in
set_option maxRecDepth 100000 in
theorem hb_copyCheck_fresh (b : Nat) (w : World) (h0 : w.cell? ⟨b, 0, none⟩ = some (.pointer none)) (hsh : w.shape? b = some (126, 2)) (hfz : w.frozen? ⟨b, 0, none⟩ = false) :
    Calls Tryz.prog 108 #[.pointer (some ⟨b, 0, none⟩)] w fun e w' => e = .returned (.tuple #[]) ∧ w' = w.setCell ⟨b, 0, none⟩ (.pointer (some ⟨b, 0, none⟩)) := by
  obtain ⟨j, hj, hjs⟩ := Option.map_eq_some_iff.1 hb_size
  go_enter Tryz.func108, Tryz.ntmps108
  go_wp2
  rw [Lib.run_to_unsafe w ⟨b, 0, none⟩ Tryz.underlying124 Tryz.underlying132 hj (by rw [hjs]; decide) hsh (Nat.zero_lt_succ 1)]
  simp only [Result.andThen]
  rw [Oper.upon_value]
  go_wp2
  rw [run_callFunc_extern Tryz.func110 (by kernel_rfl) (by kernel_rfl) (by kernel_rfl) (e := Extern.AbiNoEscape.same) (by kernel_rfl)]
  rw [Lib.run_noEscape]
  simp only [Result.andThen]
  rw [Oper.upon_value]
  go_wp2
  rw [Lib.run_from_unsafe w ⟨b, 0, none⟩ Tryz.underlying132 Tryz.underlying124 hj hsh hb_lies]
  simp only [Result.andThen]
  rw [Oper.upon_value]
  go_wp2
  go_end0
  exact ⟨rfl, rfl⟩
theorem hb_copyCheck (B b : Nat) (bs : List Value) (w : World) (h : Lib.IsBuilder 126 5 B b bs w) :
    Calls Tryz.prog 108 #[.pointer (some ⟨b, 0, none⟩)] w fun e w' => e = .returned (.tuple #[]) ∧ (Lib.BuilderAt 126 5 B b (.pointer (some ⟨b, 0, none⟩)) bs w' ∧ Below B w w') := by
  rcases h with h | h
  · refine (hb_copyCheck_fresh b w h.cell0 h.shape h.frozen0).mono ?_
    rintro e w' ⟨rfl, rfl⟩
    exact ⟨rfl, h.used _, (Below.refl B w).setCell (p := ⟨b, 0, none⟩) h.1 _⟩
  · refine (hb_copyCheck_used b w h.cell0).mono ?_
    rintro e w' ⟨rfl, rfl⟩
    exact ⟨rfl, h, Below.refl B _⟩
/-! ### strings_Builder_WriteByte -/
set_option maxHeartbeats 2000000 in
set_option maxRecDepth 100000 in
theorem hb_writeByte (B b : Nat) (bs : List Value) (c : Int) (w : World) (h : Lib.IsBuilder 126 5 B b bs w) (hlen : bs.length + 1 ≤ 140737488355328) (hBw : B ≤ w.heap.size) :
    Calls Tryz.prog 105 #[.pointer (some ⟨b, 0, none⟩), .int .u8 c] w fun e w' => e = .returned .nilIface ∧ (Lib.BuilderAt 126 5 B b (.pointer (some ⟨b, 0, none⟩)) (bs ++ [.int .u8 c]) w' ∧ Below B w w') := by
  obtain ⟨i0, hi, hz0, hz1, hz2⟩ := info_parts hb_byte
  go_enter Tryz.func105, Tryz.ntmps105
  go_wp2_with (go_at_call 108; refine (hb_copyCheck B b bs _ h).mono ?_)
  rintro e w1 ⟨rfl, h1, hb1⟩
  obtain ⟨hB, v, hbk, hown, hne⟩ := h1
  have c0 : w1.cell? ⟨b, 0, none⟩ = some (.pointer (some ⟨b, 0, none⟩)) := by rw [Lib.cell_of_heap hbk]; rfl
  have c1 : w1.cell? ⟨b, 1, none⟩ = some v := by rw [Lib.cell_of_heap hbk]; rfl
  go_wp2_with (at_builtin; refine wpList_append_own _ rfl _ _ 115 rfl B 5 i0 (.int .u8 0) 1 1 Tryz.underlying115 hi hz0 hz1 hz2 rfl (by decide) _ _ _ rfl (hown.alloc _) ⟨w1.heap.size, 0, none⟩ 1 1 [.int .u8 c] rfl rfl ?c1 ?c2 ?c3 ?c4 ?c5 ?_)
  case c1 =>
    intro j u hj
    match j, hj with
    | 0, hj => simp at hj; subst hj; simp [Addr.add]
  case c2 => intro u hu; simp at hu; subst hu; rfl
  case c3 => unfold maxLen; omega
  case c4 => omega
  case c5 => have := hb1.size; simp; omega
  intro v' w2 hown' hgrow _
  have hlt : b < w1.heap.size := by
    rcases Nat.lt_or_ge b w1.heap.size with h' | h'
    · exact h'
    · simp [Array.getElem?_eq_none h'] at hbk
  have hb2 : w2.heap[b]? = some (.cells #[.pointer (some ⟨b, 0, none⟩), v] 126 (0, 0)) := by
    rw [hgrow.block b (by simp; omega) (fun e => hne e.symm), Lib.alloc_old w1 _ b hlt]
    exact hbk
  have d0 : w2.cell? ⟨b, 0, none⟩ = some (.pointer (some ⟨b, 0, none⟩)) := by rw [Lib.cell_of_heap hb2]; rfl
  have d1 : w2.cell? ⟨b, 1, none⟩ = some v := by rw [Lib.cell_of_heap hb2]; rfl
  have f1 : w2.frozen? ⟨b, 1, none⟩ = false := Lib.frozen_of_heap hb2 1
  obtain ⟨g, cap, rfl⟩ : ∃ g cap, v' = .slice (some ⟨g, 0, none⟩) (bs.length + 1) cap := by
    rcases hown'.2 with ⟨_, h0⟩ | ⟨g, cap, cur, hv, _⟩
    · omega
    · exact ⟨g, cap, hv⟩
  go_wp2
  go_ret
  refine ⟨rfl, ?_, ?_⟩
  · exact Lib.BuilderAt.put (T := 126) (e := 5) hB hb2 (bs' := bs ++ [.int .u8 c]) (by simpa using hown') (by decide)
  · exact ((hb1.alloc (by have := hb1.size; omega) _).grown hgrow (by have := hb1.size; simp; omega) (fun k hk => (hown.lt k hk).1)).setCell (p := ⟨b, 1, none⟩) hB _
/-! ### json_String -/
def strGo : List UInt8 → Nat → List UInt8 → List UInt8 × Nat × Bool
  | [], _, _ => ([], 0, false)
  | [c], i, acc => if c.toNat = 34 then (acc, i + 1, true) else if c.toNat < 32 ∨ 126 < c.toNat then ([], 0, false) else ([], 0, false)
  | c :: d :: t, i, acc =>
    if c.toNat = 34 then (acc, i + 1, true)
    else if c.toNat < 32 ∨ 126 < c.toNat then ([], 0, false)
    else if c.toNat = 92 then (if d.toNat = 34 ∨ d.toNat = 92 then strGo t (i + 2) (acc ++ [d]) else ([], 0, false))
    else strGo (d :: t) (i + 1) (acc ++ [c])
def json_String.f (a0 : ByteArray) : Option (ByteArray × Int × Bool) :=
  if a0.size ≤ 140737488355328 then (let r := strGo (a0.data.toList.drop 1) 1 []; some (⟨r.1.toArray⟩, (r.2.1 : Int), r.2.2)) else none
theorem drop_at (s : ByteArray) (k : Nat) (h : k < s.size) : s.data.toList.drop k = s[k] :: s.data.toList.drop (k + 1) := by
  rw [List.drop_eq_getElem_cons (by simpa using h)]; rfl
theorem drop_end (s : ByteArray) (k : Nat) (h : s.size ≤ k) : s.data.toList.drop k = [] := List.drop_of_length_le (by rw [Array.length_toList]; exact h)
theorem strGo_q {c : UInt8} {t acc : List UInt8} {i : Nat} (h : c.toNat = 34) : strGo (c :: t) i acc = (acc, i + 1, true) := by
  cases t <;> simp [strGo, h]
theorem strGo_bad {c : UInt8} {t acc : List UInt8} {i : Nat} (h : c.toNat < 32 ∨ 126 < c.toNat) : strGo (c :: t) i acc = ([], 0, false) := by
  have h1 : ¬ c.toNat = 34 := by omega
  cases t <;> simp only [strGo, if_neg h1, if_pos h]
theorem strGo_plain {c : UInt8} {t acc : List UInt8} {i : Nat} (h1 : ¬ c.toNat = 34) (h2 : ¬ (c.toNat < 32 ∨ 126 < c.toNat)) (h3 : ¬ c.toNat = 92) : strGo (c :: t) i acc = strGo t (i + 1) (acc ++ [c]) := by
  cases t <;> simp only [strGo, if_neg h1, if_neg h2, if_neg h3]
theorem strGo_esc {c d : UInt8} {t acc : List UInt8} {i : Nat} (h : c.toNat = 92) (h3 : d.toNat = 34 ∨ d.toNat = 92) : strGo (c :: d :: t) i acc = strGo t (i + 2) (acc ++ [d]) := by
  have h1 : ¬ c.toNat = 34 := by omega
  have h2 : ¬ (c.toNat < 32 ∨ 126 < c.toNat) := by omega
  simp only [strGo, if_neg h1, if_neg h2, if_pos h, if_pos h3]
theorem strGo_esc_no {c d : UInt8} {t acc : List UInt8} {i : Nat} (h : c.toNat = 92) (h3 : ¬ (d.toNat = 34 ∨ d.toNat = 92)) : strGo (c :: d :: t) i acc = ([], 0, false) := by
  have h1 : ¬ c.toNat = 34 := by omega
  have h2 : ¬ (c.toNat < 32 ∨ 126 < c.toNat) := by omega
  simp only [strGo, if_neg h1, if_neg h2, if_pos h, if_neg h3]
theorem strGo_esc_end {c : UInt8} {acc : List UInt8} {i : Nat} (h : c.toNat = 92) : strGo [c] i acc = ([], 0, false) := by
  have h1 : ¬ c.toNat = 34 := by omega
  simp only [strGo, if_neg h1, ite_self]
theorem byteCells_snoc' (l : List UInt8) (c : UInt8) : Lib.byteCells l ++ [.int .u8 (c.toNat : Int)] = Lib.byteCells (l ++ [c]) := by simp [Lib.byteCells]
theorem ret3 {a a' : ByteArray} {b b' : Int} {c c' : Bool} (h : (a, b, c) = (a', b', c')) : Ending.returned (.tuple #[.string a, .int .i64 b, .bool c]) = .returned (.tuple #[.string a', .int .i64 b', .bool c']) := by
  injection h with h1 h2; injection h2 with h2 h3; rw [h1, h2, h3]
set_option maxHeartbeats 4000000 in
set_option maxRecDepth 100000 in
theorem json_String.calls (a0 : ByteArray) (r1 : ByteArray) (r2 : Int) (r3 : Bool) (w : World) (h : json_String.f a0 = some (r1, r2, r3)) :
    Calls Tryz.prog 100 #[.string a0] w fun e w' => e = .returned (.tuple #[.string r1, .int .i64 r2, .bool r3]) ∧ Below w.heap.size w w' := by
  unfold json_String.f at h
  split at h
  case isFalse => cases h
  case isTrue hsz =>
  have HR := Lib.hid (Option.some.inj h)
  clear h
  have hb0 := Lib.fresh_isBuilder 126 5 w
  have HB0 := Lib.hid hb0
  clear hb0
  have hBel := Lib.hid ((Below.refl w.heap.size w).alloc (Nat.le_refl _) (.cells #[.pointer none, .slice none 0 0] 126))
  go_enter Tryz.func100, Tryz.ntmps100
  go_wp2_with (fail)
  obtain ⟨g, hg⟩ : ∃ g, g = w.heap.size := ⟨_, rfl⟩
  go_loopw [6, 7] (fun i _ wr => ∃ (k : Nat) (acc : List UInt8), 1 ≤ k ∧ k ≤ a0.size + 1 ∧ acc.length < k ∧ i = .int .i64 k ∧ Lib.IsBuilder 126 5 w.heap.size w.heap.size (Lib.byteCells acc) wr ∧ Below w.heap.size w wr ∧ Hid (strGo (a0.data.toList.drop k) k acc = strGo (a0.data.toList.drop 1) 1 [])) (fun i _ _ => a0.size + 1 - (intOf i).toNat)
  case atStart => exact ⟨1, [], by omega, by omega, by simp, rfl, HB0.out, hBel.out, Lib.hid rfl⟩
  case round =>
    obtain ⟨k, acc, hk1, hk2, hacc, rfl, hB1, hb2, HI⟩ := hrel
    have hz : w.heap.size ≤ wr.heap.size := hb2.size
    by_cases hlt : k < a0.size
    · have HD := Lib.hid (drop_at a0 k hlt)
      have Out := fun (p1 : ByteArray) (p2 : Int) (p3 : Bool) (x : List UInt8 × Nat × Bool) (hx : strGo (a0.data.toList.drop k) k acc = x) (e1 : p1 = ⟨x.1.toArray⟩) (e2 : p2 = (x.2.1 : Int)) (e3 : p3 = x.2.2) =>
        ret3 (show (p1, p2, p3) = (r1, r2, r3) by rw [← HR.out, ← HI.out, hx, e1, e2, e3])
      have Hout := Lib.hid Out
      clear Out
      by_cases c34 : a0[k].toNat = 34
      · have t1 : (((a0[k]).toNat : Int) == 34) = true := beq_iff_eq.2 (by omega)
        have HX := Lib.hid (show strGo (a0.data.toList.drop k) k acc = (acc, k + 1, true) by rw [HD.out]; exact strGo_q c34)
        have HS := Lib.hid (Tryz.Builder_String_any _ _ acc wr hB1 hz)
        clear c34
        go_wp2_with (fail)
        refine HS.out.mono ?_
        rintro e w2 ⟨rfl, hbb⟩
        go_wp2
        go_ret3
        exact ⟨Hout.out _ _ _ _ HX.out rfl rfl rfl, hb2.trans hbb⟩
      · have t1 : (((a0[k]).toNat : Int) == 34) = false := beq_eq_false_iff_ne.2 (by omega)
        by_cases cb : a0[k].toNat < 32 ∨ 126 < a0[k].toNat
        · have HX := Lib.hid (show strGo (a0.data.toList.drop k) k acc = ([], 0, false) by rw [HD.out]; exact strGo_bad cb)
          clear c34
          by_cases c32 : a0[k].toNat < 32
          · have t2 : decide (((a0[k]).toNat : Int) < 32) = true := decide_eq_true (by omega)
            clear cb c32
            go_wp2
            go_ret3
            exact ⟨Hout.out _ _ _ _ HX.out rfl rfl rfl, hb2⟩
          · have t2 : decide (((a0[k]).toNat : Int) < 32) = false := decide_eq_false (by omega)
            have t3 : decide (126 < ((a0[k]).toNat : Int)) = true := decide_eq_true (by omega)
            clear cb c32
            go_wp2
            go_ret3
            exact ⟨Hout.out _ _ _ _ HX.out rfl rfl rfl, hb2⟩
        · have t2 : decide (((a0[k]).toNat : Int) < 32) = false := decide_eq_false (by omega)
          have t3 : decide (126 < ((a0[k]).toNat : Int)) = false := decide_eq_false (by omega)
          by_cases c92 : a0[k].toNat = 92
          · have t4 : (((a0[k]).toNat : Int) == 92) = true := beq_iff_eq.2 (by omega)
            by_cases hl2 : k + 1 < a0.size
            · have HD2 := Lib.hid (drop_at a0 (k + 1) hl2)
              by_cases cd : a0[k + 1].toNat = 34 ∨ a0[k + 1].toNat = 92
              · have HX := Lib.hid (show strGo (a0.data.toList.drop k) k acc = strGo (a0.data.toList.drop (k + 2)) (k + 2) (acc ++ [a0[k + 1]]) by rw [HD.out, HD2.out]; exact strGo_esc c92 cd)
                have HW := Lib.hid (hb_writeByte _ _ (Lib.byteCells acc) (a0[k + 1].toNat : Int) wr hB1 (by rw [Lib.byteCells_length]; omega) hz)
                clear c34 c92 cb
                by_cases cd34 : a0[k + 1].toNat = 34
                · have t5 : (((a0[k + 1]).toNat : Int) != 34) = false := by simp [cd34]
                  clear cd cd34
                  go_wp2_with (fail)
                  refine HW.out.mono ?_
                  rintro e w2 ⟨rfl, hB2, hbb⟩
                  rw [byteCells_snoc'] at hB2
                  go_wp2
                  go_roundw
                  case rel => exact ⟨k + 2, _, by omega, by omega, by simp only [List.length_append, List.length_singleton]; omega, by go_num, .inr hB2, hb2.trans hbb, Lib.hid (HX.out.symm.trans HI.out)⟩
                  case measure => simp [intOf]; omega
                · have t5 : (((a0[k + 1]).toNat : Int) != 34) = true := by rw [bne_iff_ne]; omega
                  have t6 : (((a0[k + 1]).toNat : Int) != 92) = false := by simp [show a0[k + 1].toNat = 92 by omega]
                  clear cd cd34
                  go_wp2_with (fail)
                  refine HW.out.mono ?_
                  rintro e w2 ⟨rfl, hB2, hbb⟩
                  rw [byteCells_snoc'] at hB2
                  go_wp2
                  go_roundw
                  case rel => exact ⟨k + 2, _, by omega, by omega, by simp only [List.length_append, List.length_singleton]; omega, by go_num, .inr hB2, hb2.trans hbb, Lib.hid (HX.out.symm.trans HI.out)⟩
                  case measure => simp [intOf]; omega
              · have HX := Lib.hid (show strGo (a0.data.toList.drop k) k acc = ([], 0, false) by rw [HD.out, HD2.out]; exact strGo_esc_no c92 cd)
                have t5 : (((a0[k + 1]).toNat : Int) != 34) = true := by rw [bne_iff_ne]; omega
                have t6 : (((a0[k + 1]).toNat : Int) != 92) = true := by rw [bne_iff_ne]; omega
                clear c34 c92 cb cd
                go_wp2
                go_ret3
                exact ⟨Hout.out _ _ _ _ HX.out rfl rfl rfl, hb2⟩
            · have HX := Lib.hid (show strGo (a0.data.toList.drop k) k acc = ([], 0, false) by rw [HD.out, drop_end a0 (k + 1) (by omega)]; exact strGo_esc_end c92)
              clear c34 c92 cb
              go_wp2
              go_ret3
              exact ⟨Hout.out _ _ _ _ HX.out rfl rfl rfl, hb2⟩
          · have t4 : (((a0[k]).toNat : Int) == 92) = false := beq_eq_false_iff_ne.2 (by omega)
            have HX := Lib.hid (show strGo (a0.data.toList.drop k) k acc = strGo (a0.data.toList.drop (k + 1)) (k + 1) (acc ++ [a0[k]]) by rw [HD.out]; exact strGo_plain c34 cb c92)
            have HW := Lib.hid (hb_writeByte _ _ (Lib.byteCells acc) (a0[k].toNat : Int) wr hB1 (by rw [Lib.byteCells_length]; omega) hz)
            clear c34 c92 cb
            go_wp2_with (fail)
            refine HW.out.mono ?_
            rintro e w2 ⟨rfl, hB2, hbb⟩
            rw [byteCells_snoc'] at hB2
            go_wp2
            go_roundw
            case rel => exact ⟨k + 1, _, by omega, by omega, by simp only [List.length_append, List.length_singleton]; omega, by go_num, .inr hB2, hb2.trans hbb, Lib.hid (HX.out.symm.trans HI.out)⟩
            case measure => simp [intOf]; omega
    · have HX := Lib.hid (show strGo (a0.data.toList.drop k) k acc = ([], 0, false) by rw [drop_end a0 k (by omega)]; rfl)
      have Hout := Lib.hid (ret3 (show ((⟨#[]⟩ : ByteArray), (0 : Int), false) = (r1, r2, r3) by rw [← HR.out, ← HI.out, HX.out]; rfl))
      go_wp2
      go_ret3
      exact ⟨Hout.out, hb2⟩
end Go.Proofs.YtnhheglbcphklaaGreat.RxH

/- Texts that are plain, as the program looks at them. -/
set_option linter.unusedVariables false
set_option linter.unusedSimpArgs false
namespace Go.Proofs.YtnhheglbcphklaaGreat.Rx
open Go.Rx Go.Proofs Go.Proofs.YtnhheglbcphklaaGreat.RxH

theorem plain_from (s : ByteArray) : ∀ n i, i + n = s.size → decide (0 ≤ Lib.idxFuncFrom badR true s n i) = !((s.data.toList.drop i).all okB)
  | 0, i, h => by rw [plain_end (by omega)]; rfl
  | n + 1, i, h => by
    have hi : i < s.size := by omega
    unfold Lib.idxFuncFrom
    rw [if_pos hi, plain_go hi]
    by_cases ha : (s[i]'hi).toNat < 128
    · rw [decode_ascii s i hi ha]
      have e : badR (s[i]'hi).toNat = !okB (s[i]'hi) := by
        unfold badR okB
        rw [Bool.not_not]
        congr 1
        · exact decide_eq_decide.2 (by omega)
        · exact decide_eq_decide.2 (by omega)
      cases ok : okB (s[i]'hi) with
      | true =>
        rw [if_neg (by rw [e, ok]; decide), Bool.true_and]
        exact plain_from s n (i + 1) (by omega)
      | false =>
        rw [if_pos (by rw [e, ok]; rfl)]
        exact decide_eq_true (by omega)
    · have hd := (decode_high s i hi (by omega)).1
      rw [if_pos (show badR (Utf8.decode s i).1 = true by unfold badR; rw [decide_eq_true (show 126 < (Utf8.decode s i).1 by omega), Bool.or_true])]
      have e : okB (s[i]'hi) = false := by unfold okB; rw [decide_eq_true (show 126 < ((s[i]'hi).toNat : Int) by omega), Bool.or_true]; rfl
      rw [e, decide_eq_true (by omega)]
      rfl
theorem plain_con (s : ByteArray) (n : Int) : Con P 64 [Sx s, I n] (Bl (decide ((s.size : Int) ≤ n) && plainB s)) [] := by
  refine Con.plain (vs := [.string s, .int .i64 n]) (by kernel_rfl) rfl fun w => json_Plain.calls s n _ w ?_
  unfold json_Plain.f Lib.idxFunc
  rw [plain_from s s.size 0 (by omega), Bool.not_not]
  rfl
theorem short_con (s : ByteArray) : Con P 47 [Sx s] (Bl (shortB s)) [] := by
  refine Con.of T_ok Tryz.func47 rfl (by kernel_rfl) (by kernel_rfl) (aw_of T_ok (by kernel_rfl) ?_)
  conv => whnf
  refine callS (plain_con s 40) rfl ?_
  conv => whnf
  refine finB ⟨?_⟩
  rw [shortB, Bool.and_comm]
  congr 1
  exact decide_eq_decide.2 (by omega)
end Go.Proofs.YtnhheglbcphklaaGreat.Rx
