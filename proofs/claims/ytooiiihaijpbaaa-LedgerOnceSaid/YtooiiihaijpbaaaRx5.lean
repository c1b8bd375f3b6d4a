/- Stores, new variables, structs and rows built, and what stays as it is. -/
import Derived.Test.YtooiiihaijpbaaaRx4
import Derived.Laws.CopyRow
set_option linter.unusedVariables false
set_option linter.unusedSimpArgs false
namespace Go.Rx
open Go.RowKit

section
variable {P : Program} {T : Tab} {C : Ctx} {G : Gh} {sl : Nat → AV} {bk : List Blk} {a : Act} {w : World}

theorem length_splice {α : Type} {l : List α} {off : Nat} {r : List α} (h : off + r.length ≤ l.length) : (splice l off r).length = l.length := by
  simp [splice]; omega
theorem fa_splice {α β : Type} {R : α → β → Prop} {l : List α} {m : List β} {r : List α} {s : List β} (off : Nat) (h : Fa R l m) (k : Fa R r s) : Fa R (splice l off r) (splice m off s) := by
  unfold splice
  rw [k.length]
  exact (h.take off).append (k.append (h.drop _))

/-! ### What stays as it is from now on -/
def pvK (bk : List Blk) (l : Lf) (K : List Blk → PV → Prop) : Prop :=
  match l with
  | .pv p => K bk p
  | .own b len =>
    (match bk[b]? with
     | some (.arr _ sz rows) => rows.length = len ∧ K (bk.set b (.frz sz rows)) (.sl sz rows)
     | some (.frz sz rows) => rows.length = len ∧ K bk (.sl sz rows)
     | _ => False)
  | _ => False
def pvsK : List Blk → List Lf → (List Blk → List PV → Prop) → Prop
  | bk, [], K => K bk []
  | bk, l :: ls, K => pvK bk l fun bk p => pvsK bk ls fun bk ps => K bk (p :: ps)

theorem pvK_sound (hm : Mem C G bk w) {l : Lf} {v : Value} (hl : RepL G bk w l v) {K : List Blk → PV → Prop} (h : pvK bk l K) :
    ∃ G' bk' p, Trn G bk w G' bk' w ∧ Mem C G' bk' w ∧ RepP G'.S w p v ∧ K bk' p := by
  cases l with
  | pv p => exact ⟨G, bk, p, Trn.refl _ _ _, hm, hl, h⟩
  | own b len =>
    simp only [pvK] at h
    split at h
    · rename_i e sz rows hb
      obtain ⟨rfl, h⟩ := h
      obtain ⟨G', t, hm', _, _, _⟩ := hm.frz b _ (.frz sz rows) hb rfl
      exact ⟨G', _, _, t, hm', own_pv hm' (by rw [List.getElem?_set_self (List.getElem?_eq_some_iff.1 hb).1]) (t.repL hl), h⟩
    · rename_i sz rows hb
      obtain ⟨rfl, h⟩ := h
      exact ⟨G, bk, _, Trn.refl _ _ _, hm, own_pv hm hb hl, h⟩
    · exact h.elim
  | _ => exact h.elim
theorem pvsK_sound : ∀ {ls : List Lf} {G : Gh} {bk : List Blk} {vs : List Value} {K : List Blk → List PV → Prop}, Mem C G bk w → Fa (RepL G bk w) ls vs → pvsK bk ls K →
    ∃ G' bk' ps, Trn G bk w G' bk' w ∧ Mem C G' bk' w ∧ Fa (fun p v => RepP G'.S w p v) ps vs ∧ K bk' ps
  | [], G, bk, [], K, hm, _, h => ⟨G, bk, [], Trn.refl _ _ _, hm, trivial, h⟩
  | l :: ls, G, bk, v :: vs, K, hm, hf, h => by
    obtain ⟨G1, b1, p, t1, m1, hp, h1⟩ := pvK_sound hm hf.1 h
    obtain ⟨G2, b2, ps, t2, m2, hps, h2⟩ := pvsK_sound m1 (hf.2.mono fun _ _ => t1.repL) h1
    exact ⟨G2, b2, p :: ps, t1.trans t2, m2, ⟨t2.repP hp, hps⟩, h2⟩
  | [], _, _, _ :: _, _, _, hf, _ => hf.elim
  | _ :: _, _, _, [], _, _, hf, _ => hf.elim

/-! ### Stores -/
def storeK (T : Tab) (t : TypeId) (p x : AV) (bk : List Blk) (K : List Blk → Prop) : Prop :=
  match T.find t, leaves x with
  | some ty, some ls =>
    (match p with
     | .lf (.ptr b off) =>
       (match bk[b]? with
        | some (.var cells) => bif Nat.beq ls.length ty.size && Nat.ble (off + ty.size) cells.length then K (bk.set b (.var (splice cells off ls))) else False
        | _ => False)
     | .lf (.ept b n i sz off) => pvsK bk ls fun bk ps =>
       (match bk[b]? with
        | some (.arr ety sz' rows) => sz' = sz ∧ rows.length = n ∧ ∃ r, rows[i]? = some r ∧ (bif Nat.beq ps.length ty.size then off + ty.size ≤ sz ∧ K (bk.set b (.arr ety sz (rows.set i (splice r off ps)))) else False)
        | _ => False)
     | _ => False)
  | _, _ => False

theorem run_storeVar (hT : TabOK P T) {t : TypeId} {ty : Ty} (ht : T.find t = some ty) {v : Value} (hv : v.cells.size = ty.size) (h1 : ∀ u ∈ v.cells.toList, u.oneCell' = true) {g off : Nat} {e : TypeId} {cur : Array Value}
    (hg : w.heap[g]? = some (.cells cur e (0, 0))) (hl : off + ty.size ≤ cur.size) :
    (Instr.storeAt t (.pointer (some ⟨g, off, none⟩)) v).run P w = .ok () (w.setRow g (splice cur.toList off v.cells.toList).toArray) := by
  have hs := run_storeCells_at P g off e v.cells.toList 0 cur w hg (by simp [hv]; omega) h1
  simp only [Nat.add_zero] at hs
  unfold Instr.storeAt Instr.sureAddr storeVar
  simp only [Sem.run_bind, Sem.run_pure, Result.andThen_ok, run_sizeOf hT ht, Sem.run_ite, hv, ne_eq, not_true_eq_false, if_false]
  rw [hs]
  unfold splice
  rw [List.append_assoc]

theorem alive_var {b : Nat} {cells : List Lf} (h : bk[b]? = some (.var cells)) : Alive bk b := by unfold Alive; rw [h]; trivial
theorem alive_arr {b : Nat} {e sz : Nat} {rows : List (List PV)} (h : bk[b]? = some (.arr e sz rows)) : Alive bk b := by unfold Alive; rw [h]; trivial

theorem storeK_sound (hT : TabOK P T) (hm : Mem C G bk w) {t : TypeId} {p x : AV} {u v : Value} (hp : RepA G bk w p u) (hx : RepA G bk w x v) {K : List Blk → Prop} (h : storeK T t p x bk K) :
    ∃ G' bk' w', (Instr.storeAt t u v).run P w = .ok () w' ∧ Trn G bk w G' bk' w' ∧ Mem C G' bk' w' ∧ K bk' := by
  unfold storeK at h
  split at h
  · rename_i ty ls ht hls
    obtain ⟨hf, hsz⟩ := leaves_rep hx hls
    split at h
    · rename_i b off
      split at h
      · rename_i cells hb
        obtain ⟨⟨g, hg, rfl⟩, _, hr⟩ := hp
        cases hbb : (Nat.beq ls.length ty.size && Nat.ble (off + ty.size) cells.length) with
        | false => rw [hbb] at h; exact h.elim
        | true =>
          rw [hbb] at h
          simp only [Bool.and_eq_true] at hbb
          have e1 : ls.length = ty.size := Nat.eq_of_beq_eq_true hbb.1
          have e2 : off + ty.size ≤ cells.length := Nat.le_of_ble_eq_true hbb.2
          obtain ⟨g', cur, e, hg', h1, h2⟩ := hm.blk b _ hb
          rw [hg] at hg'
          cases hg'
          have hlen := h2.length
          have hrun := run_storeVar hT ht (v := v) (by omega) (fa_one hf) h1 (off := off) (by simp; omega)
          have hbl := (List.getElem?_eq_some_iff.1 hb).1
          have hnew : (bk.set b (.var (splice cells off ls)))[b]? = some (.var (splice cells off ls)) := List.getElem?_set_self hbl
          obtain ⟨t, hm'⟩ := hm.setb (w' := w.setRow g (splice cur off v.cells.toList).toArray) b (alive_var hb) (.var (splice cells off ls)) (alive_var hnew) (.inl ⟨hr, by unfold rowsOf; rw [hnew]⟩)
            (fun k hk => setRow_other w g k _ fun e => hk (by rw [hg, e])) (by simp) rfl rfl rfl
            (fun t => ⟨g, splice cur off v.cells.toList, e, hg, by rw [setRow_heap w g _ _ _ _ h1], (fa_splice off h2 hf).mono fun _ _ => t.repL⟩)
          exact ⟨G, _, _, hrun, t, hm', h⟩
      · exact h.elim
    · rename_i b n i sz off
      obtain ⟨G1, b1, ps, t1, m1, hps, h⟩ := pvsK_sound hm hf h
      split at h
      · rename_i e sz' rows hb
        obtain ⟨rfl, hn, r, hr, h⟩ := h
        obtain ⟨_, rows', k1, _, k2⟩ := (t1.repL (l := .ept b n i sz' off) hp)
        have hrow : rowsOf b1 b = some (sz', rows) := by unfold rowsOf; rw [hb]
        rw [hrow] at k1
        cases k1
        obtain ⟨g, hg, rfl⟩ := k2 hn
        cases hbb : Nat.beq ps.length ty.size with
        | false => rw [hbb] at h; exact h.elim
        | true =>
          rw [hbb] at h
          obtain ⟨hle, h⟩ := h
          have e1 : ps.length = ty.size := Nat.eq_of_beq_eq_true hbb
          rcases m1.blk b _ hb with ⟨e0, _⟩ | ⟨g', cur, hg', c1, c2, c3, c4, c5⟩
          · rw [hg] at e0; cases e0
          rw [hg] at hg'
          cases hg'
          have hil : i < rows.length := (List.getElem?_eq_some_iff.1 hr).1
          have hrl : r.length = sz' := (c5 i r hr).1
          have hvl : v.cells.size = ty.size := by have := hps.length; simp at this; omega
          have hroom : i * sz' + sz' ≤ cur.size := by
            rw [c3]
            calc i * sz' + sz' = (i + 1) * sz' := (Nat.succ_mul i sz').symm
              _ ≤ G1.cp b * sz' := Nat.mul_le_mul_right _ (by omega)
          have hrun := run_storeVar hT ht (v := v) hvl (fa_one hf) c1 (off := i * sz' + off) (by omega)
          have hbl := (List.getElem?_eq_some_iff.1 hb).1
          have hnew : (b1.set b (.arr e sz' (rows.set i (splice r off ps))))[b]? = some (.arr e sz' (rows.set i (splice r off ps))) := List.getElem?_set_self hbl
          obtain ⟨t, hm'⟩ := m1.setb (w' := w.setRow g (splice cur.toList (i * sz' + off) v.cells.toList).toArray) b (alive_arr hb) (.arr e sz' (rows.set i (splice r off ps))) (alive_arr hnew)
            (.inr ⟨sz', rows, rows.set i (splice r off ps), hrow, by unfold rowsOf; rw [hnew], by simp⟩)
            (fun k hk => setRow_other w g k _ fun e => hk (by rw [hg, e])) (by simp) rfl rfl rfl
            (fun t => .inr ⟨g, _, hg, setRow_heap w g _ _ _ _ c1, c2, by simp only [List.size_toArray]; rw [length_splice (by simp; omega)]; simpa using c3, by simpa using c4, fun j r' hj => by
              have hspl : ∀ k, k < cur.size → (k < i * sz' + off ∨ i * sz' + off + ps.length ≤ k) → (splice cur.toList (i * sz' + off) v.cells.toList).toArray[k]? = cur[k]? := fun k hk hout => by
                simp only [List.getElem?_toArray, splice, ← Array.getElem?_toList]
                have hvl' : v.cells.toList.length = ps.length := by rw [hps.length]
                rcases hout with hlt | hge
                · rw [List.getElem?_append_left (by simp; omega), List.getElem?_take_of_lt (by omega)]
                · rw [List.getElem?_append_right (by simp; omega), List.getElem?_append_right (by simp; omega), List.getElem?_drop]
                  congr 1
                  simp
                  omega
              by_cases hij : i = j
              · subst hij
                rw [List.getElem?_set_self hil] at hj
                cases hj
                refine ⟨by rw [length_splice (by omega)]; exact hrl, fun c p hp => ?_⟩
                have hcl : c < sz' := by
                  have := (List.getElem?_eq_some_iff.1 hp).1
                  rw [length_splice (by omega)] at this; omega
                by_cases hin : off ≤ c ∧ c < off + ps.length
                · have hpc : ps[c - off]? = some p := by
                    unfold splice at hp
                    rw [List.getElem?_append_right (by simp; omega), List.getElem?_append_left (by simp; omega)] at hp
                    rw [← hp]; congr 1; simp; omega
                  obtain ⟨u, hu, hrp⟩ := hps.get hpc
                  refine ⟨u, ?_, t.repP hrp⟩
                  simp only [List.getElem?_toArray, splice]
                  have hul := (List.getElem?_eq_some_iff.1 hu).1
                  rw [List.getElem?_append_right (by simp; omega), List.getElem?_append_left (by simp at hul ⊢; omega)]
                  rw [← hu]; congr 1; simp; omega
                · have hpc : r[c]? = some p := by
                    unfold splice at hp
                    by_cases hlt : c < off
                    · rw [List.getElem?_append_left (by simp; omega), List.getElem?_take_of_lt hlt] at hp
                      exact hp
                    · rw [List.getElem?_append_right (by simp; omega), List.getElem?_append_right (by simp; omega), List.getElem?_drop] at hp
                      rw [← hp]; congr 1; simp; omega
                  obtain ⟨u, hu, hrp⟩ := (c5 i r hr).2 c p hpc
                  have hcu := (Array.getElem?_eq_some_iff.1 hu).1
                  exact ⟨u, by rw [hspl _ hcu (by omega)]; exact hu, t.repP hrp⟩
              · rw [List.getElem?_set_ne hij] at hj
                refine ⟨(c5 j r' hj).1, fun c p hp => ?_⟩
                obtain ⟨u, hu, hrp⟩ := (c5 j r' hj).2 c p hp
                have hcu := (Array.getElem?_eq_some_iff.1 hu).1
                have hcl : c < sz' := by
                  have h1 := (List.getElem?_eq_some_iff.1 hp).1
                  have h2 := (c5 j r' hj).1
                  omega
                refine ⟨u, ?_, t.repP hrp⟩
                rw [hspl _ hcu ?_]
                · exact hu
                · rcases Nat.lt_or_gt_of_ne hij with h3 | h3
                  · right
                    have : (i + 1) * sz' ≤ j * sz' := Nat.mul_le_mul_right _ h3
                    rw [Nat.succ_mul] at this
                    omega
                  · left
                    have : (j + 1) * sz' ≤ i * sz' := Nat.mul_le_mul_right _ h3
                    rw [Nat.succ_mul] at this
                    omega⟩)
          exact ⟨G1, _, _, hrun, t1.trans t, hm', h⟩
      · exact h.elim
    · exact h.elim
  · exact h.elim

/-! ### New variables -/
theorem mem_newVar (hm : Mem C G bk w) (t : TypeId) {ls : List Lf} {v : Value} (hf : Fa (RepL G bk w) ls v.cells.toList) :
    ∃ G' u, (newVar t v).run P w = .ok u (w.alloc (.cells v.cells t)) ∧ Trn G bk w G' (bk ++ [.var ls]) (w.alloc (.cells v.cells t)) ∧ Mem C G' (bk ++ [.var ls]) (w.alloc (.cells v.cells t)) ∧
      RepL G' (bk ++ [.var ls]) (w.alloc (.cells v.cells t)) (.ptr bk.length 0) (.pointer (some u)) := by
  obtain ⟨G', t', hm', hM, _⟩ := hm.alloc (some (.cells v.cells t)) (.var ls) 0 (fun G' _ hM _ tr => ⟨w.heap.size, v.cells.toList, t, hM, by rw [Array.toArray_toList]; exact heap_alloc_new w _, hf.mono fun _ _ => tr.repL⟩)
  refine ⟨G', ⟨w.heap.size, 0, none⟩, by simp [Go.newVar, Go.newRow], t', hm', ⟨_, hM, rfl⟩, by simp, ?_⟩
  unfold rowsOf
  rw [List.getElem?_append_right (Nat.le_refl _)]
  simp

/-! ### Structs -/
def fillL (place : Nat → Option (Nat × Nat)) (cells : List Lf) : List (Nat × Option (List Lf)) → Option (List Lf)
  | [] => some cells
  | (i, some ls) :: rest =>
    match place i with
    | some (off, size) => bif Nat.beq ls.length size && Nat.ble (off + size) cells.length then fillL place (splice cells off ls) rest else none
    | none => none
  | (_, none) :: _ => none
def placeT (T : Tab) (fs : List (Nat × TypeId)) (i : Nat) : Option (Nat × Nat) :=
  match fs[i]? with
  | some (off, t) => (match T.find t with | some ty => some (off, ty.size) | none => none)
  | none => none

theorem splice_cons {α : Type} {l : List α} {off : Nat} {x : α} {r : List α} (h : off + (r.length + 1) ≤ l.length) : splice (l.set off x) (off + 1) r = splice l off (x :: r) := by
  unfold splice
  rw [List.take_set, List.drop_set_of_lt (by omega)]
  have h1 : (l.take (off + 1)).set off x = l.take off ++ [x] := by
    rw [List.take_succ_eq_append_getElem (by omega), List.set_append_right _ _ (by simp; omega)]
    simp [Nat.min_eq_left (show off ≤ l.length by omega)]
  rw [h1]
  simp [Nat.add_comm, Nat.add_left_comm, Nat.add_assoc]
theorem foldl_fill : ∀ (vs : List Value) (k off : Nat) (cs : Array Value), off + k + vs.length ≤ cs.size →
    ((vs.zipIdx k).foldl (fun (cs : Array Value) (x : Value × Nat) => cs.setIfInBounds (off + x.2) x.1) cs).toList = splice cs.toList (off + k) vs
  | [], k, off, cs, _ => by simp [splice]
  | v :: vs, k, off, cs, h => by
    rw [List.zipIdx_cons, List.foldl_cons, foldl_fill vs (k + 1) off _ (by simp at h ⊢; omega)]
    simp only [Array.toList_setIfInBounds]
    rw [← Nat.add_assoc]
    exact splice_cons (by simp at h ⊢; omega)

theorem fill_sound {place : Nat → Option (Nat × Nat)} {place' : Nat → Option (Nat × Nat)} (hpl : ∀ i x, place i = some x → place' i = some x) : ∀ {parts : List (Nat × Option (List Lf))} {vals : List (Nat × Value)} {cells : List Lf} {cs : Array Value} {r : List Lf},
    Fa (RepL G bk w) cells cs.toList → Fa (fun p v => p.1 = v.1 ∧ ∀ ls, p.2 = some ls → Fa (RepL G bk w) ls v.2.cells.toList ∧ v.2.cells.size = ls.length) parts vals → fillL place cells parts = some r →
    ∃ rs, Instr.fill place' cs vals = some rs ∧ Fa (RepL G bk w) r rs.toList
  | [], [], cells, cs, r, hf, _, h => by simp only [fillL, Option.some.injEq] at h; subst h; exact ⟨cs, rfl, hf⟩
  | (i, o) :: parts, (j, v) :: vals, cells, cs, r, hf, hp, h => by
    obtain ⟨⟨h1, h2⟩, hp⟩ := hp
    simp only at h1
    subst h1
    cases o with
    | none => simp [fillL] at h
    | some ls =>
      simp only [fillL] at h
      cases hpi : place i with
      | none => rw [hpi] at h; cases h
      | some x =>
        obtain ⟨off, size⟩ := x
        rw [hpi] at h
        simp only at h
        cases hbb : (Nat.beq ls.length size && Nat.ble (off + size) cells.length) with
        | false => rw [hbb] at h; cases h
        | true =>
          rw [hbb] at h
          simp only [Bool.and_eq_true] at hbb
          have e1 : ls.length = size := Nat.eq_of_beq_eq_true hbb.1
          have e2 : off + size ≤ cells.length := Nat.le_of_ble_eq_true hbb.2
          obtain ⟨hv, hvs⟩ := h2 ls rfl
          replace hvs : v.cells.size = ls.length := hvs
          have hlen := hf.length
          simp at hlen
          have hfold := foldl_fill v.cells.toList 0 off cs (by simp; omega)
          have key : (v.cells.zipIdx.foldl (fun cs (x : Value × Nat) => cs.setIfInBounds (off + x.2) x.1) cs).toList = splice cs.toList off v.cells.toList := by
            rw [← Array.foldl_toList]
            simpa using hfold
          obtain ⟨rs, h3, h4⟩ := fill_sound hpl (cs := v.cells.zipIdx.foldl (fun cs (x : Value × Nat) => cs.setIfInBounds (off + x.2) x.1) cs) (by rw [key]; exact fa_splice off hf hv) hp h
          refine ⟨rs, ?_, h4⟩
          simp only [Instr.fill, hpl i _ hpi]
          rw [if_neg (by simp; omega)]
          exact h3
  | [], _ :: _, _, _, _, _, hp, _ => hp.elim
  | _ :: _, [], _, _, _, _, hp, _ => hp.elim

theorem run_places (hT : TabOK P T) {F : Array Field} {fs : List (Nat × TypeId)} (hF : F.toList.map (fun (f : Field) => (f.offset, f.type)) = fs) (hall : ∀ f ∈ F.toList, ∃ i, P.info? f.type = some i) (w : World) :
    (F.mapM fun (f : Field) => do pure (f.offset, ← sizeOf f.type)).run P w = .ok (F.map fun (f : Field) => (f.offset, P.cellsOf f.type)) w := by
  rw [Array.mapM_eq_mapM_toList, Sem.run_map]
  have key : ∀ l : List Field, (∀ f ∈ l, ∃ i, P.info? f.type = some i) → (l.mapM (m := Sem) fun (f : Field) => do pure (f.offset, ← sizeOf f.type)).run P w = .ok (l.map fun (f : Field) => (f.offset, P.cellsOf f.type)) w := by
    intro l
    induction l with
    | nil => intro _; rfl
    | cons f l ih =>
      intro h
      obtain ⟨i, hi⟩ := h f (by simp)
      rw [List.mapM_cons, Sem.run_bind, Sem.run_bind]
      have h1 : (sizeOf f.type).run P w = .ok (P.cellsOf f.type) w := by simp [sizeOf, typeInfo, hi, Program.cellsOf]
      rw [h1, Result.andThen_ok]
      simp only [Sem.run_pure, Result.andThen_ok, Sem.run_bind, ih fun g hg => h g (by simp [hg])]
      rfl
  rw [key _ hall, Result.andThen_ok]
  congr 1
  apply Array.toList_inj.1
  simp
end
end Go.Rx
