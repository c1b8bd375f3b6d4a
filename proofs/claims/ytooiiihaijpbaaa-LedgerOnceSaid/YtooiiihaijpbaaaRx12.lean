/- Regions that draw their order: what an operation hangs on, and what it leaves alone. -/
import Derived.Test.YtooiiihaijpbaaaRx11
import Derived.Orders
set_option linter.unusedVariables false
set_option linter.unusedSimpArgs false
namespace Go.Rx

section
variable {P : Program} {T : Tab}

/-! ### Blocks behind an operation -/
/-- Nothing that is known has turned; something may stay as it is from now on. -/
def Ext (bk bk' : List Blk) : Prop := ∀ (b : Nat) (B : Blk), bk[b]? = some B → ∃ B', bk'[b]? = some B' ∧ (B' = B ∨ frzB B = some B')
/-- The rows are as long as they were. -/
def Sim (bk bk' : List Blk) : Prop := ∀ b sz rows, rowsOf bk b = some (sz, rows) → ∃ rows', rowsOf bk' b = some (sz, rows') ∧ rows'.length = rows.length
theorem Ext.refl (bk : List Blk) : Ext bk bk := fun b B h => ⟨B, h, .inl rfl⟩
theorem frzB_frzB {B B' B'' : Blk} (h : frzB B = some B') (k : frzB B' = some B'') : B'' = B' := by
  cases B <;> simp [frzB] at h
  case var cells => obtain ⟨l, _, rfl⟩ := h; simp [frzB] at k; exact k.symm
  all_goals (subst h; simp [frzB] at k; exact k.symm)
theorem Ext.trans {a b c : List Blk} (h : Ext a b) (k : Ext b c) : Ext a c := fun i B hB => by
  obtain ⟨B1, h1, h2⟩ := h i B hB
  obtain ⟨B2, h3, h4⟩ := k i B1 h1
  refine ⟨B2, h3, ?_⟩
  rcases h2 with rfl | h2
  · exact h4
  · rcases h4 with rfl | h4
    · exact .inr h2
    · rw [frzB_frzB h2 h4]; exact .inr h2
/-- What is in variables has not turned; it may stay as it is from now on. -/
def Far (bk bk' : List Blk) : Prop := ∀ (b : Nat) (B : Blk), bk[b]? = some B → ((∃ c, B = .var c) ∨ ∃ c, B = .frv c) → ∃ B', bk'[b]? = some B' ∧ (B' = B ∨ frzB B = some B')
theorem Ext.far {a b : List Blk} (h : Ext a b) : Far a b := fun i B hB _ => h i B hB
theorem Far.refl (bk : List Blk) : Far bk bk := (Ext.refl bk).far
theorem Far.trans {a b c : List Blk} (h : Far a b) (k : Far b c) : Far a c := fun i B hB hv => by
  obtain ⟨B1, h1, h2⟩ := h i B hB hv
  have hv1 : (∃ c, B1 = .var c) ∨ ∃ c, B1 = .frv c := by
    rcases h2 with rfl | h2
    · exact hv
    · rcases hv with ⟨c, rfl⟩ | ⟨c, rfl⟩
      · simp only [frzB, Option.map_eq_some_iff] at h2
        obtain ⟨l, _, rfl⟩ := h2
        exact .inr ⟨l, rfl⟩
      · simp only [frzB, Option.some.injEq] at h2
        exact .inr ⟨c, h2.symm⟩
  obtain ⟨B2, h3, h4⟩ := k i B1 h1 hv1
  refine ⟨B2, h3, ?_⟩
  rcases h2 with rfl | h2
  · exact h4
  · rcases h4 with rfl | h4
    · exact .inr h2
    · rw [frzB_frzB h2 h4]; exact .inr h2
theorem Far.arr {bk : List Blk} {b e sz : Nat} {rows : List (List PV)} (h : bk[b]? = some (.arr e sz rows)) (B : Blk) : Far bk (bk.set b B) := fun i X hX hv => by
  by_cases e : i = b
  · subst e
    rw [h] at hX
    cases hX
    rcases hv with ⟨c, hc⟩ | ⟨c, hc⟩ <;> cases hc
  · exact ⟨X, by rw [List.getElem?_set_ne (Ne.symm e)]; exact hX, .inl rfl⟩
theorem Ext.append (bk l : List Blk) : Ext bk (bk ++ l) := fun b B h => ⟨B, by rw [List.getElem?_append_left (List.getElem?_eq_some_iff.1 h).1]; exact h, .inl rfl⟩
theorem Ext.frz {bk : List Blk} {b : Nat} {B B' : Blk} (h : bk[b]? = some B) (k : frzB B = some B') : Ext bk (bk.set b B') := fun i X hX => by
  by_cases e : i = b
  · subst e
    rw [h] at hX
    cases hX
    exact ⟨B', List.getElem?_set_self (List.getElem?_eq_some_iff.1 h).1, .inr k⟩
  · exact ⟨X, by rw [List.getElem?_set_ne (Ne.symm e)]; exact hX, .inl rfl⟩
theorem Ext.rows {bk bk' : List Blk} (h : Ext bk bk') {b : Nat} {x : Nat × List (List PV)} (hr : rowsOf bk b = some x) : rowsOf bk' b = some x := by
  unfold rowsOf at *
  cases hb : bk[b]? with
  | none => rw [hb] at hr; cases hr
  | some B =>
    obtain ⟨B', h1, h2⟩ := h b B hb
    rw [hb] at hr
    rw [h1]
    rcases h2 with rfl | h2
    · exact hr
    · cases B <;> simp [frzB] at h2 <;> first | (subst h2; exact hr) | (obtain ⟨l, _, rfl⟩ := h2; cases hr)
theorem Ext.sim {bk bk' : List Blk} (h : Ext bk bk') : Sim bk bk' := fun b sz rows hr => ⟨rows, h.rows hr, rfl⟩
theorem Sim.refl (bk : List Blk) : Sim bk bk := fun _ _ rows h => ⟨rows, h, rfl⟩

theorem pvK_ext {bk : List Blk} {l : Lf} {K : List Blk → PV → Prop} (hh : pvK bk l K) : ∃ b p, Ext bk b ∧ K b p ∧ ∀ K' : List Blk → PV → Prop, K' b p → pvK bk l K' := by
  cases l with
  | pv p => exact ⟨bk, p, Ext.refl _, hh, fun _ h => h⟩
  | own b len =>
    simp only [pvK] at hh ⊢
    cases hb : bk[b]? with
    | none => rw [hb] at hh; exact hh.elim
    | some B =>
      rw [hb] at hh
      cases B with
      | arr e sz rows => exact ⟨_, _, Ext.frz hb rfl, hh.2, fun _ h => ⟨hh.1, h⟩⟩
      | frz sz rows => exact ⟨_, _, Ext.refl _, hh.2, fun _ h => ⟨hh.1, h⟩⟩
      | _ => exact hh.elim
  | _ => exact hh.elim
theorem pvsK_ext : ∀ {ls : List Lf} {bk : List Blk} {K : List Blk → List PV → Prop}, pvsK bk ls K → ∃ b ps, Ext bk b ∧ K b ps ∧ ∀ K' : List Blk → List PV → Prop, K' b ps → pvsK bk ls K'
  | [], bk, K, h => ⟨bk, [], Ext.refl _, h, fun _ h => h⟩
  | l :: ls, bk, K, h => by
    obtain ⟨b1, p, e1, h1, k1⟩ := pvK_ext h
    obtain ⟨b2, ps, e2, h2, k2⟩ := pvsK_ext h1
    exact ⟨b2, p :: ps, e1.trans e2, h2, fun K' h' => k1 _ (k2 _ h')⟩
theorem argL_ext {bk : List Blk} {l : Lf} {K : List Blk → Lf → Prop} (hh : argL bk l K) : ∃ b p, Ext bk b ∧ K b p ∧ ∀ K' : List Blk → Lf → Prop, K' b p → argL bk l K' := by
  cases l with
  | pv p => exact ⟨bk, _, Ext.refl _, hh, fun _ h => h⟩
  | ro p => exact ⟨bk, _, Ext.refl _, hh, fun _ h => h⟩
  | fn f c => exact ⟨bk, _, Ext.refl _, hh, fun _ h => h⟩
  | own b len =>
    simp only [argL] at hh ⊢
    obtain ⟨b1, p, e1, h1, k1⟩ := pvK_ext hh
    exact ⟨b1, .pv p, e1, h1, fun K' h' => k1 (fun bk p => K' bk (.pv p)) h'⟩
  | ptr b off =>
    simp only [argL] at hh ⊢
    cases hb : bk[b]? with
    | none => rw [hb] at hh; exact hh.elim
    | some B =>
      rw [hb] at hh
      cases B with
      | var cells =>
        simp only at hh ⊢
        cases hq : cells.mapM pvOf with
        | none => rw [hq] at hh; exact hh.elim
        | some ps => rw [hq] at hh; exact ⟨_, _, Ext.frz hb (by simp [frzB, hq]), hh, fun _ h => h⟩
      | frv ps => exact ⟨_, _, Ext.refl _, hh, fun _ h => h⟩
      | _ => exact hh.elim
  | ept b n i sz off => exact hh.elim
theorem argLs_ext : ∀ {ls : List Lf} {bk : List Blk} {K : List Blk → List Lf → Prop}, argLs bk ls K → ∃ b ps, Ext bk b ∧ K b ps ∧ ∀ K' : List Blk → List Lf → Prop, K' b ps → argLs bk ls K'
  | [], bk, K, h => ⟨bk, [], Ext.refl _, h, fun _ h => h⟩
  | l :: ls, bk, K, h => by
    obtain ⟨b1, p, e1, h1, k1⟩ := argL_ext h
    obtain ⟨b2, ps, e2, h2, k2⟩ := argLs_ext h1
    exact ⟨b2, p :: ps, e1.trans e2, h2, fun K' h' => k1 _ (k2 _ h')⟩
theorem argA_ext {bk : List Blk} {x : AV} {K : List Blk → AV → Prop} (hh : argA bk x K) : ∃ b p, Ext bk b ∧ K b p ∧ ∀ K' : List Blk → AV → Prop, K' b p → argA bk x K' := by
  cases x with
  | lf l =>
    simp only [argA] at hh ⊢
    obtain ⟨b1, p, e1, h1, k1⟩ := argL_ext hh
    exact ⟨b1, .lf p, e1, h1, fun K' h' => k1 (fun bk p => K' bk (.lf p)) h'⟩
  | agg ls =>
    simp only [argA] at hh ⊢
    obtain ⟨b1, p, e1, h1, k1⟩ := argLs_ext hh
    exact ⟨b1, .agg p, e1, h1, fun K' h' => k1 (fun bk p => K' bk (.agg p)) h'⟩
  | _ => exact hh.elim
theorem argsK_ext : ∀ {xs : List AV} {bk : List Blk} {K : List Blk → List AV → Prop}, argsK bk xs K → ∃ b ps, Ext bk b ∧ K b ps ∧ ∀ K' : List Blk → List AV → Prop, K' b ps → argsK bk xs K'
  | [], bk, K, h => ⟨bk, [], Ext.refl _, h, fun _ h => h⟩
  | x :: xs, bk, K, h => by
    obtain ⟨b1, p, e1, h1, k1⟩ := argA_ext h
    obtain ⟨b2, ps, e2, h2, k2⟩ := argsK_ext h1
    exact ⟨b2, p :: ps, e1.trans e2, h2, fun K' h' => k1 _ (k2 _ h')⟩

theorem loadK_came {t : TypeId} {p : AV} {bk : List Blk} {K : AV → Prop} (h : loadK T t p bk K) : ∃ x, K x ∧ (∀ K' : AV → Prop, K' x → loadK T t p bk K') ∧ ∀ bk', Ext bk bk' → ∀ K' : AV → Prop, K' x → loadK T t p bk' K' := by
  unfold loadK at *
  cases ht : T.find t with
  | none => rw [ht] at h; exact h.elim
  | some ty =>
    rw [ht] at h
    simp only at h ⊢
    cases p with
    | lf l =>
      cases l with
      | ptr b off =>
        simp only at h ⊢
        cases hb : bk[b]? with
        | none => rw [hb] at h; exact h.elim
        | some B =>
          rw [hb] at h
          cases B with
          | var cells =>
            simp only at h ⊢
            cases hc : (Nat.ble (off + ty.size) cells.length && (ty.d.agg || Nat.beq ty.size 1)) with
            | false => rw [hc] at h; exact h.elim
            | true =>
              rw [hc] at h
              refine ⟨_, h, fun _ h => h, fun bk' he K' hk => ?_⟩
              obtain ⟨B', h1, h2⟩ := he b _ hb
              rw [h1]
              rcases h2 with rfl | h2
              · simp only [hc]; exact hk
              · simp only [frzB, Option.map_eq_some_iff] at h2
                obtain ⟨ps, h3, rfl⟩ := h2
                have := mapM_pv h3
                subst this
                rw [List.length_map] at hc
                simp only [hc, cond_true, ← List.map_drop, ← List.map_take] at hk ⊢
                exact hk
          | frv cells =>
            simp only at h ⊢
            cases hc : (Nat.ble (off + ty.size) cells.length && (ty.d.agg || Nat.beq ty.size 1)) with
            | false => rw [hc] at h; exact h.elim
            | true =>
              rw [hc] at h
              refine ⟨_, h, fun _ h => h, fun bk' he K' hk => ?_⟩
              obtain ⟨B', h1, h2⟩ := he b _ hb
              rw [h1]
              have : B' = .frv cells := by
                rcases h2 with rfl | h2
                · rfl
                · simp [frzB] at h2; exact h2.symm
              subst this
              simp only [hc]
              exact hk
          | _ => exact h.elim
      | ro l =>
        simp only at h ⊢
        cases hc : (Nat.ble ty.size l.length && (ty.d.agg || Nat.beq ty.size 1)) with
        | false => rw [hc] at h; exact h.elim
        | true => rw [hc] at h; exact ⟨_, h, fun _ h => h, fun _ _ _ h => h⟩
      | ept b n i sz off =>
        simp only at h ⊢
        cases hr : rowsOf bk b with
        | none => rw [hr] at h; exact h.elim
        | some x =>
          obtain ⟨sz', rows⟩ := x
          rw [hr] at h
          obtain ⟨h1, h2, r, h3, h4⟩ := h
          cases hc : (Nat.ble (off + ty.size) r.length && (ty.d.agg || Nat.beq ty.size 1)) with
          | false => rw [hc] at h4; exact h4.elim
          | true =>
            rw [hc] at h4
            refine ⟨_, h4, fun _ h => ⟨h1, h2, r, h3, by rw [hc]; exact h⟩, fun bk' he K' hk => ?_⟩
            rw [he.rows hr]
            exact ⟨h1, h2, r, h3, by rw [hc]; exact hk⟩
      | _ => exact h.elim
    | _ => exact h.elim
theorem binK_came {op : BinOp} {t : TypeId} {x y : AV} {K : AV → Prop} (h : binK T op t x y K) : ∃ z, K z ∧ ∀ K' : AV → Prop, K' z → binK T op t x y K' := by
  unfold binK at *
  split at h
  · rename_i u v
    cases hv : vBin op u v with
    | some z =>
      rw [hv] at h
      simp only at h ⊢
      cases hc : (tyB T t u) with
      | false => rw [hc] at h; exact h.elim
      | true => rw [hc] at h; exact ⟨_, h, fun _ h => h⟩
    | none =>
      rw [hv] at h
      simp only at h ⊢
      unfold binX at *
      split at h
      · exact ⟨_, h.2, fun _ k => ⟨h.1, k⟩⟩
      · exact ⟨_, h.2.2.2, fun _ k => ⟨h.1, h.2.1, h.2.2.1, k⟩⟩
      · exact ⟨_, h.2.2.2, fun _ k => ⟨h.1, h.2.1, h.2.2.1, k⟩⟩
      · exact ⟨_, h.2.2, fun _ k => ⟨h.1, h.2.1, k⟩⟩
      · exact ⟨_, h.2, fun _ k => ⟨h.1, k⟩⟩
      · exact ⟨_, h.2, fun _ k => ⟨h.1, k⟩⟩
      · exact ⟨_, h.2, fun _ k => ⟨h.1, k⟩⟩
      · exact ⟨_, h.2, fun _ k => ⟨h.1, k⟩⟩
      · exact h.elim
  · rename_i ls ms
    split at h
    · rename_i fs a b c ht
      cases hr : eqFs T 0 fs ls ms with
      | none => rw [hr] at h; exact h.elim
      | some r =>
        rw [hr] at h
        simp only at h ⊢
        cases op <;> first | exact h.elim | exact ⟨_, h, fun _ h => h⟩
    · exact h.elim
  · exact h.elim

/-- Operations whose value hangs on no memory (beyond how long rows are); that read memory; that leave all that is known alone; that store. -/
def qN (T : Tab) : Op → Bool
  | .move _ | .assign _ | .pick _ _ _ | .build _ _ | .binOp _ _ _ _ _ | .unOp _ _ _ | .extract _ _ | .fieldAddr _ _ _ | .nilCheck _ | .index _ _ _ => true
  | .convert s d _ => (intKind T s).isSome || (isStr T s && isStr T d)
  | _ => false
def qR (T : Tab) : Op → Bool
  | .load _ _ | .indexAddr _ _ _ => true
  | .convert _ d _ => isStr T d
  | .call c => (match c.callee with | .builtin .len => true | _ => false)
  | _ => false
def eB (T : Tab) : Op → Bool
  | .store _ _ _ => false
  | .call c => (match c.callee with | .builtin .append => false | .value f => !lendB T f | _ => true)
  | _ => true
def sB (T : Tab) : Op → Bool
  | .call c => (match c.callee with | .builtin .append => false | .value f => !lendB T f | _ => true)
  | _ => true

def fB (T : Tab) : Op → Bool
  | .store _ _ _ => false
  | .call c => (match c.callee with | .value f => !lendB T f | _ => true)
  | _ => true
/-- What came out of an operation: it would have come out for any other aim; what it leaves alone; and whence it hangs. -/
structure Came (P : Program) (T : Tab) (op : Op) (ρ : Operand → AV) (bk : List Blk) (K : AV → List Blk → Prop) (x : AV) (b : List Blk) : Prop where
  got : K x b
  any : ∀ K' : AV → List Blk → Prop, K' x b → opV P T op ρ bk K'
  ext : eB T op = true → Ext bk b
  sim : sB T op = true → Sim bk b
  qn : qN T op = true → b = bk ∧ ∀ bk', Sim bk bk' → ∀ K' : AV → List Blk → Prop, K' x bk' → opV P T op ρ bk' K'
  qr : qR T op = true → b = bk ∧ ∀ bk', Ext bk bk' → ∀ K' : AV → List Blk → Prop, K' x bk' → opV P T op ρ bk' K'
  far : fB T op = true → Far bk b

theorem Came.still {op : Op} {ρ : Operand → AV} {bk : List Blk} {K : AV → List Blk → Prop} {x : AV} (hk : K x bk) (h : ∀ bk', Sim bk bk' → ∀ K' : AV → List Blk → Prop, K' x bk' → opV P T op ρ bk' K') : Came P T op ρ bk K x bk :=
  ⟨hk, h bk (Sim.refl _), fun _ => Ext.refl _, fun _ => Sim.refl _, fun _ => ⟨rfl, h⟩, fun _ => ⟨rfl, fun bk' he => h bk' he.sim⟩, fun _ => Far.refl _⟩
theorem Came.reads {op : Op} {ρ : Operand → AV} {bk : List Blk} {K : AV → List Blk → Prop} {x : AV} (hq : qN T op = false) (hk : K x bk) (h : ∀ bk', Ext bk bk' → ∀ K' : AV → List Blk → Prop, K' x bk' → opV P T op ρ bk' K') : Came P T op ρ bk K x bk :=
  ⟨hk, h bk (Ext.refl _), fun _ => Ext.refl _, fun _ => Sim.refl _, fun e => (by rw [hq] at e; cases e), fun _ => ⟨rfl, h⟩, fun _ => Far.refl _⟩
theorem Came.grows {op : Op} {ρ : Operand → AV} {bk b : List Blk} {K : AV → List Blk → Prop} {x : AV} (h1 : qN T op = false) (h2 : qR T op = false) (he : Ext bk b) (hk : K x b) (h : ∀ K' : AV → List Blk → Prop, K' x b → opV P T op ρ bk K') : Came P T op ρ bk K x b :=
  ⟨hk, h, fun _ => he, fun _ => he.sim, fun e => (by rw [h1] at e; cases e), fun e => (by rw [h2] at e; cases e), fun _ => he.far⟩

theorem callK_lent {fop : AV} {xs : List AV} {bk : List Blk} {K : AV → List Blk → Prop} (h : callK P true fop xs bk K) : ∃ x b, K x b ∧ ∀ K' : AV → List Blk → Prop, K' x b → callK P true fop xs bk K' := by
  unfold callK at *
  split at h
  · obtain ⟨idx, B0, cargs, cargs', r, B1, h1, h2, h3, h4, h5, hk⟩ := h
    exact ⟨_, _, hk, fun K' hk' => ⟨idx, B0, cargs, cargs', r, B1, h1, h2, h3, h4, h5, hk'⟩⟩
  · exact h.elim
theorem callK_came {fop : AV} {xs : List AV} {bk : List Blk} {K : AV → List Blk → Prop} (h : callK P false fop xs bk K) : ∃ x b, Ext bk b ∧ K x b ∧ ∀ K' : AV → List Blk → Prop, K' x b → callK P false fop xs bk K' := by
  unfold callK at *
  split at h
  · rename_i f caps
    obtain ⟨b1, ys, e1, ⟨cs, r, nb, h1, h2, h3⟩, k1⟩ := argsK_ext h
    rcases h3 with ⟨h3, h4, h5⟩ | h3
    · exact ⟨r, bk, Ext.refl _, h5, fun K' hk => k1 _ ⟨cs, r, nb, h1, h2, .inl ⟨h3, h4, hk⟩⟩⟩
    · exact ⟨_, _, e1.trans (Ext.append _ _), h3, fun K' hk => k1 _ ⟨cs, r, nb, h1, h2, .inr hk⟩⟩
  · exact h.elim

theorem storeK_came {t : TypeId} {p x : AV} {bk : List Blk} {K : List Blk → Prop} (h : storeK T t p x bk K) : ∃ b, Sim bk b ∧ K b ∧ ∀ K' : List Blk → Prop, K' b → storeK T t p x bk K' := by
  have simset : ∀ {b : Nat} {B B' : Blk} {bk : List Blk}, bk[b]? = some B → ((∃ cells cells', B = .var cells ∧ B' = .var cells') ∨ ∃ e sz rows rows', B = .arr e sz rows ∧ B' = .arr e sz rows' ∧ rows'.length = rows.length) → Sim bk (bk.set b B') := fun {b B B' bk} hb hc i sz rows hr => by
    by_cases e : i = b
    · subst e
      have hn : (bk.set i B')[i]? = some B' := List.getElem?_set_self (List.getElem?_eq_some_iff.1 hb).1
      unfold rowsOf at hr ⊢
      rw [hb] at hr
      rw [hn]
      rcases hc with ⟨c, c', rfl, rfl⟩ | ⟨e', sz', r1, r2, rfl, rfl, hl⟩
      · cases hr
      · cases hr; exact ⟨r2, rfl, hl⟩
    · exact ⟨rows, by unfold rowsOf at hr ⊢; rw [List.getElem?_set_ne (Ne.symm e)]; exact hr, rfl⟩
  unfold storeK at *
  split at h
  · rename_i ty ls ht hls
    split at h
    · rename_i b off
      cases hb : bk[b]? with
      | none => rw [hb] at h; exact h.elim
      | some B =>
        rw [hb] at h
        cases B with
        | var cells =>
          simp only at h ⊢
          cases hc : (Nat.beq ls.length ty.size && Nat.ble (off + ty.size) cells.length) with
          | false => rw [hc] at h; exact h.elim
          | true => rw [hc] at h; exact ⟨_, simset hb (.inl ⟨_, _, rfl, rfl⟩), h, fun _ h => h⟩
        | _ => exact h.elim
    · rename_i b n i sz off
      obtain ⟨b1, ps, e1, h, k1⟩ := pvsK_ext h
      cases hb : b1[b]? with
      | none => rw [hb] at h; exact h.elim
      | some B =>
        rw [hb] at h
        cases B with
        | arr e sz' rows =>
          obtain ⟨h1, h2, r, h3, h4⟩ := h
          cases hc : Nat.beq ps.length ty.size with
          | false => rw [hc] at h4; exact h4.elim
          | true =>
            rw [hc] at h4
            subst h1
            refine ⟨_, fun j s rows0 hr => ?_, h4.2, fun K' hk => k1 _ (by rw [hb]; exact ⟨rfl, h2, r, h3, by rw [hc]; exact ⟨h4.1, hk⟩⟩)⟩
            exact simset hb (.inr ⟨_, _, _, _, rfl, rfl, by simp⟩) j s rows0 (e1.rows hr)
        | _ => exact h.elim
    · exact h.elim
  · exact h.elim

theorem opV_came {op : Op} {ρ : Operand → AV} {bk : List Blk} {K : AV → List Blk → Prop} (h : opV P T op ρ bk K) : ∃ x b, Came P T op ρ bk K x b := by
  cases op with
  | move x => exact ⟨_, _, .still h fun _ _ _ h => h⟩
  | assign x => exact ⟨_, _, .still h fun _ _ _ h => h⟩
  | pick c x y =>
    simp only [opV] at h
    split at h
    · rename_i hc; exact ⟨_, _, .still h fun _ _ _ h => by simp only [opV, hc]; exact h⟩
    · rename_i hc; exact ⟨_, _, .still h fun _ _ _ h => by simp only [opV, hc]; exact h⟩
    · exact h.elim
  | alloc t =>
    simp only [opV] at h
    split at h
    · rename_i ty ht; exact ⟨_, _, .grows rfl rfl (Ext.append _ _) h fun _ h => by simp only [opV, ht]; exact h⟩
    · exact h.elim
  | box t x =>
    simp only [opV] at h
    split at h
    · rename_i ls hl; exact ⟨_, _, .grows rfl rfl (Ext.append _ _) h fun _ h => by simp only [opV, hl]; exact h⟩
    · exact h.elim
  | build t parts =>
    simp only [opV] at h
    split at h
    · rename_i fs a b zero ht
      split at h
      · rename_i ls hl; exact ⟨_, _, .still h fun _ _ _ h => by simp only [opV, ht, hl]; exact h⟩
      · exact h.elim
    · exact h.elim
  | buildSlice t len parts =>
    simp only [opV] at h
    split at h
    · rename_i e te ht
      cases hc : (Nat.blt 0 te.size && Nat.ble (len * te.size) 16777216 && Nat.ble len 9223372036854775807) with
      | false => rw [hc] at h; exact h.elim
      | true =>
        rw [hc] at h
        simp only [cond_true] at h
        split at h
        · rename_i ls hl
          obtain ⟨b, ps, e1, h1, k1⟩ := pvsK_ext h
          exact ⟨_, _, .grows rfl rfl (e1.trans (Ext.append _ _)) h1 fun K' hk => by simp only [opV, ht, hc, cond_true, hl]; exact k1 (fun bk ps => K' (.lf (.own bk.length len)) (bk ++ [.arr e te.size (chunk te.size len ps)])) hk⟩
        · exact h.elim
    · exact h.elim
  | load t p =>
    simp only [opV] at h
    obtain ⟨x, h1, h2, h3⟩ := loadK_came h
    exact ⟨x, bk, .reads rfl h1 fun bk' he K' hk => by simp only [opV]; exact h3 bk' he (fun x => K' x bk') hk⟩
  | store t p x =>
    simp only [opV] at h
    obtain ⟨b, e1, h1, k1⟩ := storeK_came h
    exact ⟨.un, b, h1, fun K' hk => by simp only [opV]; exact k1 (fun bk => K' .un bk) hk, fun e => (by cases e), fun _ => e1, fun e => (by cases e), fun e => (by cases e), fun e => (by cases e)⟩
  | nilCheck x =>
    simp only [opV] at h
    split at h
    · rename_i hx; exact ⟨_, _, .still h fun _ _ _ h => by simp only [opV, hx]; exact h⟩
    · rename_i hx; exact ⟨_, _, .still h fun _ _ _ h => by simp only [opV, hx]; exact h⟩
    · exact h.elim
  | binOp op t x y yt =>
    simp only [opV] at h
    obtain ⟨z, h1, k1⟩ := binK_came h
    exact ⟨z, bk, .still h1 fun bk' _ K' hk => by simp only [opV]; exact k1 (fun z => K' z bk') hk⟩
  | unOp op t x =>
    simp only [opV] at h
    split at h
    · rename_i u hx
      split at h
      · rename_i z hz; exact ⟨_, _, .still h fun _ _ _ h => by simp only [opV, hx, hz]; exact h⟩
      · exact h.elim
    · exact h.elim
  | convert s d x =>
    simp only [opV] at h
    split at h
    · rename_i k n hx
      split at h
      · rename_i k1 k2 hs hd; exact ⟨_, _, .still h fun _ _ _ h => by simp only [opV, hx, hs, hd]; exact h⟩
      · exact h.elim
    · rename_i z hx
      cases hs : isStr T s with
      | false => rw [hs] at h; exact h.elim
      | true =>
        rw [hs] at h
        simp only [cond_true] at h
        cases hd : isStr T d with
        | true => rw [hd] at h; exact ⟨_, _, .still h fun _ _ _ h => by simp only [opV, hx, hs, hd, cond_true]; exact h⟩
        | false =>
          rw [hd] at h
          simp only [cond_false] at h
          cases hb : isBytes T d with
          | false => rw [hb] at h; exact h.elim
          | true =>
            rw [hb] at h
            exact ⟨_, _, .grows (by simp [qN, (str_kinds hs).1, hd]) (by simp [qR, hd]) (Ext.append _ _) h fun _ h => by simp only [opV, hx, hs, hd, hb, cond_true, cond_false]; exact h⟩
    · rename_i sz rows hx
      cases hc : (isBytes T s && isStr T d && Nat.beq sz 1) with
      | false => rw [hc] at h; exact h.elim
      | true =>
        rw [hc] at h
        obtain ⟨z, hz, h⟩ := h
        have hs : isBytes T s = true := by simp only [Bool.and_eq_true] at hc; exact hc.1.1
        exact ⟨_, _, .reads (by simp [qN, (bytes_kinds hs).1, (bytes_kinds hs).2]) h fun _ _ _ h => by simp only [opV, hx, hc, cond_true]; exact ⟨z, hz, h⟩⟩
    · rename_i hx
      cases hc : (isBytes T s && isStr T d) with
      | false => rw [hc] at h; exact h.elim
      | true =>
        rw [hc] at h
        have hs : isBytes T s = true := by simp only [Bool.and_eq_true] at hc; exact hc.1
        exact ⟨_, _, .reads (by simp [qN, (bytes_kinds hs).1, (bytes_kinds hs).2]) h fun _ _ _ h => by simp only [opV, hx, hc, cond_true]; exact h⟩
    · rename_i b len hx
      cases hs : isBytes T s with
      | false => rw [hs] at h; exact h.elim
      | true =>
        rw [hs] at h
        simp only [cond_true] at h
        cases hd : isStr T d with
        | true =>
          rw [hd] at h
          simp only [cond_true] at h
          split at h
          · rename_i sz rows hrw
            cases hb : Nat.beq sz 1 with
            | false => rw [hb] at h; exact h.elim
            | true =>
              rw [hb] at h
              obtain ⟨hl, z, hz, h⟩ := h
              exact ⟨_, _, .reads (by simp [qN, (bytes_kinds hs).1, (bytes_kinds hs).2]) h fun bk' he K' h => by simp only [opV, hx, hs, hd, cond_true, he.rows hrw, hb]; exact ⟨hl, z, hz, h⟩⟩
          · exact h.elim
        | false =>
          rw [hd] at h
          simp only [cond_false] at h
          cases hb : (isBytes T d && Nat.beq s d && Nat.blt 0 len) with
          | false => rw [hb] at h; exact h.elim
          | true =>
            rw [hb] at h
            simp only [cond_true] at h
            obtain ⟨b1, p, e1, h1, k1⟩ := pvK_ext h
            exact ⟨_, _, .grows (by simp [qN, (bytes_kinds hs).1, (bytes_kinds hs).2]) (by simp [qR, hd]) e1 h1 fun K' hk => by simp only [opV, hx, hs, hd, hb, cond_true, cond_false]; exact k1 (fun bk p => K' (.lf (.pv p)) bk) hk⟩
    · exact h.elim
  | slice t x lo hi mx =>
    cases mx with
    | some m => exact h.elim
    | none =>
      simp only [opV] at h
      split at h
      · rename_i s hx
        cases hc : isStr T t with
        | false => rw [hc] at h; exact h.elim
        | true =>
          rw [hc] at h
          simp only [cond_true] at h
          split at h
          · rename_i l hh h1 h2; exact ⟨_, _, .grows rfl rfl (Ext.refl _) h.2.2.2 fun _ k => by simp only [opV, hx, hc, cond_true, h1, h2]; exact ⟨h.1, h.2.1, h.2.2.1, k⟩⟩
          · exact h.elim
      · rename_i l0 hn hx
        obtain ⟨b, p, e1, h1, k1⟩ := pvK_ext h
        split at h1
        · rename_i sz rows e te ht
          cases hc : Nat.beq te.size sz with
          | false => rw [hc] at h1; exact h1.elim
          | true =>
            rw [hc] at h1
            simp only [cond_true] at h1
            split at h1
            · rename_i l hh h3 h4
              refine ⟨_, _, .grows rfl rfl e1 h1.2.2.2 fun K' k => ?_⟩
              simp only [opV, hx]
              refine k1 _ ?_
              simp only [ht, hc, cond_true, h3, h4]
              exact ⟨h1.1, h1.2.1, h1.2.2.1, k⟩
            · exact h1.elim
        · exact h1.elim
      · exact h.elim
  | fieldAddr s x f =>
    simp only [opV] at h
    split at h
    · rename_i off ho
      split at h
      · rename_i hx; exact ⟨_, _, .still h fun _ _ _ h => by simp only [opV, ho, hx]; exact h⟩
      · rename_i hx; exact ⟨_, _, .still h fun _ _ _ h => by simp only [opV, ho, hx]; exact h⟩
      · rename_i b n i sz o hx
        cases hr : rowsOf bk b with
        | none => rw [hr] at h; exact h.elim
        | some y =>
          obtain ⟨sz', rows⟩ := y
          rw [hr] at h
          refine ⟨_, _, .still h.2 fun bk' hs K' k => ?_⟩
          obtain ⟨rows', h1, h2⟩ := hs b _ _ hr
          simp only [opV, ho, hx, h1]
          exact ⟨by rw [h2]; exact h.1, k⟩
      · exact h.elim
    · exact h.elim
  | indexAddr t x ix =>
    simp only [opV] at h
    split at h
    · rename_i e te k i ht hi
      split at h
      · rename_i sz rows hx
        cases hc : Nat.beq te.size sz with
        | false => rw [hc] at h; exact h.elim
        | true =>
          rw [hc] at h
          obtain ⟨h1, r, h2, h3⟩ := h
          exact ⟨_, _, .reads rfl h3 fun _ _ _ k => by simp only [opV, ht, hi, hx, hc, cond_true]; exact ⟨h1, r, h2, k⟩⟩
      · rename_i b len hx
        cases hr : rowsOf bk b with
        | none => rw [hr] at h; exact h.elim
        | some y =>
          obtain ⟨sz, rows⟩ := y
          rw [hr] at h
          cases hc : Nat.beq te.size sz with
          | false => simp only [hc] at h; exact h.elim
          | true =>
            simp only [hc, cond_true] at h
            obtain ⟨h1, h2, h3, h4⟩ := h
            exact ⟨_, _, .reads rfl h4 fun bk' he _ k => by simp only [opV, ht, hi, hx, he.rows hr, hc, cond_true]; exact ⟨h1, h2, h3, k⟩⟩
      · exact h.elim
    · exact h.elim
  | index t x ix =>
    simp only [opV] at h
    split at h
    · rename_i s k i hx hi
      cases hc : isStr T t with
      | false => rw [hc] at h; exact h.elim
      | true =>
        rw [hc] at h
        obtain ⟨h1, c, h2, h3⟩ := h
        exact ⟨_, _, .still h3 fun _ _ _ k => by simp only [opV, hx, hi, hc, cond_true]; exact ⟨h1, c, h2, k⟩⟩
    · exact h.elim
  | extract x k =>
    simp only [opV] at h
    split at h
    · rename_i ts hx
      split at h
      · rename_i l hl; exact ⟨_, _, .still h fun _ _ _ h => by simp only [opV, hx, hl]; exact h⟩
      · rename_i l hl; exact ⟨_, _, .still h fun _ _ _ h => by simp only [opV, hx, hl]; exact h⟩
      · exact h.elim
    · exact h.elim
  | makeFunc fn first caps =>
    cases fn with
    | func f =>
      simp only [opV] at h
      split at h
      · rename_i hf
        split at h
        · rename_i ls hl
          obtain ⟨b, xs, e1, h1, k1⟩ := argLs_ext h
          split at h1
          · rename_i cs hc
            exact ⟨_, _, .grows rfl rfl e1 h1 fun K' k => by simp only [opV, hf, hl]; exact k1 _ (by simp only [hc]; exact k)⟩
          · exact h1.elim
        · exact h.elim
      · exact h.elim
    | _ => exact h.elim
  | call c =>
    obtain ⟨callee, args, tys⟩ := c
    simp only [opV] at h
    split at h
    · rename_i x t ha htys
      have key : ∀ {z : AV}, K z bk → (∀ bk', Ext bk bk' → ∀ K' : AV → List Blk → Prop, K' z bk' → opV P T (.call ⟨.builtin .len, args, tys⟩) ρ bk' K') → ∃ x b, Came P T (.call ⟨.builtin .len, args, tys⟩) ρ bk K x b := fun hk hh => ⟨_, _, .reads rfl hk hh⟩
      split at h
      · rename_i s hx
        cases hc : isStr T t with
        | false => rw [hc] at h; exact h.elim
        | true => rw [hc] at h; exact key h fun _ _ _ k => by simp only [opV, ha, htys, hx, hc, cond_true]; exact k
      · rename_i sz rows hx
        split at h
        · rename_i et ht; exact key h fun _ _ _ k => by simp only [opV, ha, htys, hx, ht]; exact k
        · exact h.elim
      · rename_i hx
        split at h
        · rename_i et ht; exact key h fun _ _ _ k => by simp only [opV, ha, htys, hx, ht]; exact k
        · exact h.elim
      · rename_i b len hx
        split at h
        · rename_i et sz rows ht hr; exact key h.2 fun bk' he _ k => by simp only [opV, ha, htys, hx, ht, he.rows hr]; exact ⟨h.1, k⟩
        · exact h.elim
      · exact h.elim
    · rename_i x y t t' ha htys
      have key : ∀ {z : AV} {b : List Blk}, Far bk b → K z b → (∀ K' : AV → List Blk → Prop, K' z b → opV P T (.call ⟨.builtin .append, args, tys⟩) ρ bk K') → ∃ x b, Came P T (.call ⟨.builtin .append, args, tys⟩) ρ bk K x b := fun hf hk hh =>
        ⟨_, _, hk, hh, fun e => (by cases e), fun e => (by cases e), fun e => (by cases e), fun e => (by cases e), fun _ => hf⟩
      cases hc0 : Nat.beq t t' with
      | false => rw [hc0] at h; exact h.elim
      | true =>
        rw [hc0] at h
        simp only [cond_true] at h
        split at h
        · rename_i e te ht
          cases hc : (Nat.blt 0 te.size && Nat.blt 0 te.bytes) with
          | false => rw [hc] at h; exact h.elim
          | true =>
            rw [hc] at h
            simp only [cond_true] at h
            split at h
            · rename_i l hl
              obtain ⟨b, p, e1, ⟨rows2, h1, h2⟩, k1⟩ := pvK_ext h
              split at h2
              · rename_i bb len hx
                cases hb : b[bb]? with
                | none => rw [hb] at h2; exact h2.elim
                | some B =>
                  rw [hb] at h2
                  cases B with
                  | arr e' sz rows =>
                    simp only at h2
                    cases hc2 : (Nat.beq e' e && Nat.beq sz te.size) with
                    | false => rw [hc2] at h2; exact h2.elim
                    | true =>
                      rw [hc2] at h2
                      exact key (e1.far.trans (Far.arr hb _)) h2.2.2 fun K' k => by
                        simp only [opV, ha, htys, hc0, cond_true, ht, hc, hl, hx]
                        exact k1 _ ⟨rows2, h1, by simp only [hb, hc2, cond_true]; exact ⟨h2.1, h2.2.1, k⟩⟩
                  | _ => exact h2.elim
              · rename_i hx
                exact key (e1.far.trans (Ext.append _ _).far) h2.2 fun K' k => by
                  simp only [opV, ha, htys, hc0, cond_true, ht, hc, hl, hx]
                  exact k1 _ ⟨rows2, h1, h2.1, k⟩
              · exact h2.elim
            · exact h.elim
        · exact h.elim
    · rename_i f
      cases hln : lendB T f with
      | false =>
        rw [hln] at h
        obtain ⟨x, b, e1, h1, k1⟩ := callK_came h
        exact ⟨x, b, .grows rfl rfl e1 h1 fun K' k => by simp only [opV, hln]; exact k1 K' k⟩
      | true =>
        rw [hln] at h
        obtain ⟨x, b, h1, k1⟩ := callK_lent h
        exact ⟨x, b, h1, fun K' k => (by simp only [opV, hln]; exact k1 K' k), fun e => (by simp [eB, hln] at e), fun e => (by simp [sB, hln] at e), fun e => (by simp [qN] at e), fun e => (by simp [qR] at e), fun e => (by simp [fB, hln] at e)⟩
    · exact h.elim
  | _ => exact h.elim
end
end Go.Rx
