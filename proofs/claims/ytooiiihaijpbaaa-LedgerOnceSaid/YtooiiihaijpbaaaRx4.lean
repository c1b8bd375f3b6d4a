/- The operations that make values, and those that read and write the call's own variables. -/
import Derived.Test.YtooiiihaijpbaaaRx3
namespace Go.Rx
open Go.RowKit

abbrev sc (v : Value) : AV := .lf (.pv (.sc v))
abbrev lsc (v : Value) : Lf := .pv (.sc v)
def cst (v : Value) : AV :=
  match v with
  | .agg cs => bif cs.toList.all (fun v => v.oneCell') then .agg (cs.toList.map lsc) else .un
  | .tuple _ => .un
  | v => sc v
def ev (sl : Nat → AV) : Operand → AV
  | .tmp t => sl t
  | .const v => cst v
  | .func f => .lf (.fn f [])
  | .global _ => .un
def leaves : AV → Option (List Lf)
  | .lf l => some [l]
  | .agg l => some l
  | _ => none
def mkAV (agg : Bool) (l : List Lf) : AV :=
  match agg, l with
  | true, l => .agg l
  | false, [x] => .lf x
  | false, _ => .un
def splice {α : Type} (l : List α) (off : Nat) (r : List α) : List α := l.take off ++ (r ++ l.drop (off + r.length))

section
variable {P : Program} {T : Tab} {C : Ctx} {G : Gh} {sl : Nat → AV} {bk : List Blk} {a : Act} {w : World}

/-- What may come of a step: some state that K holds of, and the world that goes with it. -/
def Ok (C : Ctx) (K : (Nat → AV) → List Blk → Prop) : Act → World → Prop := fun a w => ∃ G sl bk, K sl bk ∧ Rel C G sl bk a w

theorem fa_sc {S : Nat → Nat → Prop} {w : World} : ∀ {l : List Value}, (∀ v ∈ l, v.oneCell' = true) → Fa (fun x v => RepP S w x v) (l.map PV.sc) l
  | [], _ => trivial
  | v :: l, h => ⟨.sc v (h v (by simp)), fa_sc fun u hu => h u (by simp [hu])⟩
theorem fa_lsc {G : Gh} {bk : List Blk} {w : World} : ∀ {l : List Value}, (∀ v ∈ l, v.oneCell' = true) → Fa (RepL G bk w) (l.map lsc) l
  | [], _ => trivial
  | v :: l, h => ⟨RepP.sc v (h v (by simp)), fa_lsc fun u hu => h u (by simp [hu])⟩
theorem fa_pv {G : Gh} {bk : List Blk} {w : World} : ∀ {l : List PV} {m : List Value}, Fa (fun x v => RepP G.S w x v) l m → Fa (RepL G bk w) (l.map Lf.pv) m
  | [], [], _ => trivial
  | _ :: _, _ :: _, h => ⟨h.1, fa_pv h.2⟩
  | [], _ :: _, h => h.elim
  | _ :: _, [], h => h.elim
theorem fa_one {G : Gh} {bk : List Blk} {w : World} : ∀ {l : List Lf} {m : List Value}, Fa (RepL G bk w) l m → ∀ v ∈ m, v.oneCell' = true
  | [], [], _ => by simp
  | _ :: _, _ :: _, h => by simpa using ⟨RepL.one h.1, fun v hv => fa_one h.2 v hv⟩
  | [], _ :: _, h => h.elim
  | _ :: _, [], h => h.elim

theorem cst_rep (v : Value) : RepA G bk w (cst v) v := by
  cases v with
  | agg cs =>
    simp only [cst]
    cases h : cs.toList.all (fun v => v.oneCell') with
    | false => trivial
    | true => exact ⟨cs.toList, by simp, fa_lsc (List.all_eq_true.1 h)⟩
  | tuple vs => trivial
  | _ => exact RepP.sc _ rfl
theorem ev_rep (h : Rel C G sl bk a w) (x : Operand) : RepA G bk w (ev sl x) (a.eval x) := by
  cases x with
  | tmp t => exact h.slots t
  | const v => exact cst_rep v
  | func f => exact ⟨[], rfl, trivial⟩
  | global g => trivial
theorem leaves_rep {x : AV} {l : List Lf} {v : Value} (h : RepA G bk w x v) (e : leaves x = some l) : Fa (RepL G bk w) l v.cells.toList ∧ (v.cells.size = l.length) := by
  cases x with
  | lf l' =>
    simp only [leaves, Option.some.injEq] at e
    subst e
    have h1 := RepL.one h
    have : v.cells = #[v] := by cases v <;> first | rfl | cases h1
    rw [this]
    exact ⟨⟨h, trivial⟩, rfl⟩
  | agg l' =>
    simp only [leaves, Option.some.injEq] at e
    subst e
    obtain ⟨us, rfl, hu⟩ := h
    exact ⟨hu, by simp [Value.cells, hu.length]⟩
  | _ => cases e

theorem wp_value {o : Oper} {next : Act → World → Prop} {Q : Exit → Act → World → Prop} {v : Value} {w' : World} (hrun : (execOp a.eval o).run P w = .ok (.value v) w') (h : next (a.put o.dst v) w') : o.wp P a w next Q := by
  unfold Oper.wp; rw [hrun]; exact h
theorem wp_skipv {o : Oper} {next : Act → World → Prop} {Q : Exit → Act → World → Prop} {w' : World} (hrun : (execOp a.eval o).run P w = .ok .skip w') (h : next (a.put o.dst undef) w') : o.wp P a w next Q := by
  unfold Oper.wp; rw [hrun]; exact h
theorem Rel.val (h : Rel C G sl bk a w) {x : AV} {v : Value} (hx : RepA G bk w x v) {d : Option Nat} (hd : ∀ k, d = some k → k < C.n) {K : (Nat → AV) → List Blk → Prop} (hk : K (putO sl d x) bk) : Ok C K (a.put d v) w :=
  ⟨G, _, bk, hk, h.put_of (Trn.refl _ _ _) h.mem hx d hd⟩

theorem run_isAgg (hT : TabOK P T) {t : TypeId} {ty : Ty} (ht : T.find t = some ty) (w : World) : (isAgg t).run P w = .ok ty.d.agg w := by
  obtain ⟨d, hd, hm⟩ := (hT t ty ht).agg
  unfold isAgg
  rw [Sem.run_bind, run_underlying hd w, Result.andThen_ok]
  cases d <;> simp at hm <;> simp [← hm]
theorem run_sizeOf (hT : TabOK P T) {t : TypeId} {ty : Ty} (ht : T.find t = some ty) (w : World) : (sizeOf t).run P w = .ok ty.size w := by
  obtain ⟨i, z, h1, h2, _⟩ := (hT t ty ht).info
  simp [sizeOf, typeInfo, h1, h2]

/-- Loads of cells that lie in a row. -/
theorem run_loadVar_cells (hT : TabOK P T) {t : TypeId} {ty : Ty} (ht : T.find t = some ty) {g o : Nat} {l : List Value} (hl : l.length = ty.size) (hone : ∀ v ∈ l, v.oneCell' = true) (hc : ∀ i v, l[i]? = some v → w.cell? ⟨g, o + i, none⟩ = some v) :
    ∃ v, (loadVar t ⟨g, o, none⟩).run P w = .ok v w ∧ ((ty.d.agg = true ∧ v = .agg l.toArray) ∨ (ty.d.agg = false ∧ ∀ x, l = [x] → v = x)) ∨ (ty.d.agg = false ∧ l.length ≠ 1) := by
  cases hagg : ty.d.agg with
  | true =>
    refine ⟨.agg l.toArray, .inl ⟨?_, .inl ⟨rfl, rfl⟩⟩⟩
    have h1 : (loadCells ⟨g, o, none⟩ l.length).run P w = .ok l.toArray w := run_loadCells_list (P := P) w ⟨g, o, none⟩ l (fun j v hv => by rw [Addr.add_lit]; exact hc j v hv)
    unfold loadVar
    rw [Sem.run_bind, run_isAgg hT ht, Result.andThen_ok, hagg, if_pos rfl, Sem.run_bind, run_sizeOf hT ht, Result.andThen_ok, Sem.run_bind, ← hl, h1, Result.andThen_ok]
    rfl
  | false =>
    by_cases h1 : l.length = 1
    · obtain ⟨x, rfl⟩ := List.length_eq_one_iff.1 h1
      refine ⟨x, .inl ⟨?_, .inr ⟨rfl, fun y e => (List.cons.inj e).1⟩⟩⟩
      have := hc 0 x rfl
      rw [Nat.add_zero] at this
      unfold loadVar
      rw [Sem.run_bind, run_isAgg hT ht, Result.andThen_ok, hagg]
      simp [this]
    · exact ⟨undef, .inr ⟨rfl, h1⟩⟩

/-- What is read at a pointer. -/
def loadK (T : Tab) (t : TypeId) (p : AV) (bk : List Blk) (K : AV → Prop) : Prop :=
  match T.find t with
  | none => False
  | some ty =>
    match p with
    | .lf (.ptr b off) =>
      (match bk[b]? with
       | some (.var cells) => bif Nat.ble (off + ty.size) cells.length && (ty.d.agg || Nat.beq ty.size 1) then K (mkAV ty.d.agg ((cells.drop off).take ty.size)) else False
       | some (.frv cells) => bif Nat.ble (off + ty.size) cells.length && (ty.d.agg || Nat.beq ty.size 1) then K (mkAV ty.d.agg (((cells.drop off).take ty.size).map Lf.pv)) else False
       | _ => False)
    | .lf (.ro l) => bif Nat.ble ty.size l.length && (ty.d.agg || Nat.beq ty.size 1) then K (mkAV ty.d.agg ((l.take ty.size).map Lf.pv)) else False
    | .lf (.ept b n i sz off) =>
      (match rowsOf bk b with
       | some (sz', rows) => sz' = sz ∧ rows.length = n ∧ ∃ r, rows[i]? = some r ∧ (bif Nat.ble (off + ty.size) r.length && (ty.d.agg || Nat.beq ty.size 1) then K (mkAV ty.d.agg (((r.drop off).take ty.size).map Lf.pv)) else False)
       | none => False)
    | _ => False

theorem load_core (hT : TabOK P T) {t : TypeId} {ty : Ty} (ht : T.find t = some ty) (hs : (ty.d.agg || Nat.beq ty.size 1) = true) {ls : List Lf} {l : List Value} (hf : Fa (RepL G bk w) ls l) (hl : l.length = ty.size) {g o : Nat}
    (hc : ∀ i v, l[i]? = some v → w.cell? ⟨g, o + i, none⟩ = some v) : ∃ v, (loadVar t ⟨g, o, none⟩).run P w = .ok v w ∧ RepA G bk w (mkAV ty.d.agg ls) v := by
  obtain ⟨v, h | ⟨h1, h2⟩⟩ := run_loadVar_cells hT ht (g := g) (o := o) hl (fa_one hf) hc
  · obtain ⟨hr, h⟩ := h
    refine ⟨v, hr, ?_⟩
    rcases h with ⟨e, rfl⟩ | ⟨e, h⟩
    · rw [e]; exact ⟨l, rfl, hf⟩
    · rw [e] at hs ⊢
      have h1 : l.length = 1 := by rw [hl]; simpa using hs
      obtain ⟨x, rfl⟩ := List.length_eq_one_iff.1 h1
      obtain ⟨y, rfl⟩ := List.length_eq_one_iff.1 (hf.length.trans h1)
      rw [h x rfl]
      exact hf.1
  · rw [h1] at hs
    exact absurd (by rw [hl]; simpa using hs) h2

theorem loadK_sound (hT : TabOK P T) (hm : Mem C G bk w) {t : TypeId} {p : AV} {v : Value} (hp : RepA G bk w p v) {K : AV → Prop} (h : loadK T t p bk K) :
    ∃ x u, (Instr.loadAt t v).run P w = .ok u w ∧ RepA G bk w x u ∧ K x := by
  unfold loadK at h
  split at h
  · exact h.elim
  rename_i ty ht
  have conv : ∀ {g o : Nat} {ls : List Lf} {l : List Value}, v = .pointer (some ⟨g, o, none⟩) → (ty.d.agg || Nat.beq ty.size 1) = true → Fa (RepL G bk w) ls l → l.length = ty.size → (∀ i u, l[i]? = some u → w.cell? ⟨g, o + i, none⟩ = some u) →
      K (mkAV ty.d.agg ls) → ∃ x u, (Instr.loadAt t v).run P w = .ok u w ∧ RepA G bk w x u ∧ K x := fun e hs hf hl hc hk => by
    obtain ⟨u, h1, h2⟩ := load_core hT ht hs hf hl hc
    subst e
    exact ⟨_, u, by simp [Instr.loadAt, Instr.sureAddr, h1], h2, hk⟩
  have ro : ∀ {g o : Nat} {l : List PV}, v = .pointer (some ⟨g, o, none⟩) → CellsP G.S w g o l → (bif Nat.ble ty.size l.length && (ty.d.agg || Nat.beq ty.size 1) then K (mkAV ty.d.agg ((l.take ty.size).map Lf.pv)) else False) → ∃ x u, (Instr.loadAt t v).run P w = .ok u w ∧ RepA G bk w x u ∧ K x := fun {g o l} e hc hk => by
    cases hb : (Nat.ble ty.size l.length && (ty.d.agg || Nat.beq ty.size 1)) with
    | false => rw [hb] at hk; exact hk.elim
    | true =>
      rw [hb] at hk
      simp only [Bool.and_eq_true] at hb
      have hle : ty.size ≤ l.length := Nat.le_of_ble_eq_true hb.1
      have hget : ∀ i, i < ty.size → ∃ u, w.cell? ⟨g, o + i, none⟩ = some u ∧ ∃ p, l[i]? = some p ∧ RepP G.S w p u := fun i hi => by
        obtain ⟨_, u, h1, h2⟩ := hc i l[i] (List.getElem?_eq_getElem (by omega))
        exact ⟨u, h1, _, List.getElem?_eq_getElem (by omega), h2⟩
      let f : Nat → Value := fun i => (w.cell? ⟨g, o + i, none⟩).getD undef
      refine conv (l := (List.range ty.size).map f) e hb.2 (fa_pv (Fa.of_get (by simp; omega) fun i x y hx hy => ?_)) (by simp) (fun i u hu => ?_) hk
      · have hi : i < ty.size := by
          have := (List.getElem?_eq_some_iff.1 hy).1
          simpa using this
        obtain ⟨u, h1, p, h2, h3⟩ := hget i hi
        rw [List.getElem?_take_of_lt hi, h2] at hx
        cases hx
        simp [hi, f, h1] at hy
        rw [← hy]
        exact h3
      · have hi : i < ty.size := by
          have := (List.getElem?_eq_some_iff.1 hu).1
          simpa using this
        obtain ⟨u', h1, _⟩ := hget i hi
        simp [hi, f, h1] at hu
        rw [h1, hu]
  split at h
  · rename_i b off
    obtain ⟨⟨g, hg, rfl⟩, hb, hr⟩ := hp
    split at h
    · rename_i cells hbk
      obtain ⟨g', cur, ty', hg', h1, h2⟩ := hm.blk b _ hbk
      rw [hg] at hg'
      cases hg'
      cases hbb : (Nat.ble (off + ty.size) cells.length && (ty.d.agg || Nat.beq ty.size 1)) with
      | false => rw [hbb] at h; exact h.elim
      | true =>
        rw [hbb] at h
        simp only [Bool.and_eq_true] at hbb
        have hle : off + ty.size ≤ cells.length := Nat.le_of_ble_eq_true hbb.1
        have hlen := h2.length
        refine conv (l := (cur.drop off).take ty.size) rfl hbb.2 ((h2.drop off).take ty.size) (by simp; omega) (fun i u hu => ?_) h
        have hi : i < ty.size := by
          have := (List.getElem?_eq_some_iff.1 hu).1
          simp at this; omega
        rw [List.getElem?_take_of_lt hi] at hu
        rw [cell_of_row w _ _ _ _ _ h1]
        simpa using hu
    · rename_i cells hbk
      obtain ⟨g', hg', h1⟩ := hm.blk b _ hbk
      rw [hg] at hg'
      cases hg'
      have h2 := h1.drop off
      rw [Nat.zero_add] at h2
      refine ro rfl h2 ?_
      have : Nat.ble ty.size (cells.drop off).length = Nat.ble (off + ty.size) cells.length := by
        rw [Bool.eq_iff_iff, Nat.ble_eq, Nat.ble_eq, List.length_drop]
        constructor
        · intro h3
          cases hb0 : Nat.ble (off + ty.size) cells.length with
          | true => exact Nat.le_of_ble_eq_true hb0
          | false => rw [hb0] at h; exact h.elim
        · omega
      rw [this]
      exact h
    · exact h.elim
  · rename_i l
    obtain ⟨g, o, rfl, hc⟩ := hp
    exact ro rfl hc h
  · rename_i b n i sz off
    split at h
    · rename_i sz' rows hrow
      obtain ⟨rfl, hn, r, hr, h⟩ := h
      obtain ⟨_, rows', h1, _, h2⟩ := hp
      rw [hrow] at h1
      cases h1
      obtain ⟨g, hg, rfl⟩ := h2 hn
      cases hbb : (Nat.ble (off + ty.size) r.length && (ty.d.agg || Nat.beq ty.size 1)) with
      | false => rw [hbb] at h; exact h.elim
      | true =>
        rw [hbb] at h
        simp only [Bool.and_eq_true] at hbb
        have hle : off + ty.size ≤ r.length := Nat.le_of_ble_eq_true hbb.1
        have hcell : ∀ c, c < r.length → ∃ u, w.cell? ⟨g, i * sz' + c, none⟩ = some u ∧ ∃ p, r[c]? = some p ∧ RepP G.S w p u := fun c hc => by
          unfold rowsOf at hrow
          split at hrow
          · rename_i ety szq rows' hbk
            cases hrow
            rcases hm.blk b _ hbk with ⟨e0, _⟩ | ⟨g', cur, hg', k1, k2, k3, k4, k5⟩
            · rw [hg] at e0; cases e0
            rw [hg] at hg'
            cases hg'
            obtain ⟨u, hu, hrp⟩ := (k5 i r hr).2 c r[c] (List.getElem?_eq_getElem hc)
            exact ⟨u, by rw [cell_of_row w _ _ _ _ _ k1]; exact hu, _, List.getElem?_eq_getElem hc, hrp⟩
          · rename_i szq rows' hbk
            cases hrow
            rcases hm.blk b _ hbk with ⟨e0, _⟩ | ⟨g', hg', k1, k2⟩
            · rw [hg] at e0; cases e0
            rw [hg] at hg'
            cases hg'
            obtain ⟨_, u, hu, hrp⟩ := (k2 i r hr).2 c r[c] (List.getElem?_eq_getElem hc)
            exact ⟨u, hu, _, List.getElem?_eq_getElem hc, hrp⟩
          · rename_i szq rows' hbk
            have e0 : G.M b = none := hm.blk b _ hbk
            rw [hg] at e0; cases e0
          · cases hrow
        let f : Nat → Value := fun c => (w.cell? ⟨g, i * sz' + off + c, none⟩).getD undef
        refine conv (l := (List.range ty.size).map f) rfl hbb.2 (fa_pv (Fa.of_get (by simp; omega) fun c x y hx hy => ?_)) (by simp) (fun c u hu => ?_) h
        · have hi : c < ty.size := by
            have := (List.getElem?_eq_some_iff.1 hy).1
            simpa using this
          obtain ⟨u, h1, p, h2, h3⟩ := hcell (off + c) (by omega)
          rw [List.getElem?_take_of_lt hi, List.getElem?_drop, h2] at hx
          cases hx
          rw [← Nat.add_assoc] at h1
          simp [hi, f, h1] at hy
          rw [← hy]
          exact h3
        · have hi : c < ty.size := by
            have := (List.getElem?_eq_some_iff.1 hu).1
            simpa using this
          obtain ⟨u', h1, _⟩ := hcell (off + c) (by omega)
          rw [← Nat.add_assoc] at h1
          simp [hi, f, h1] at hu
          rw [h1, hu]
    · exact h.elim
  · exact h.elim
end
end Go.Rx
