/- slices.Insert: one number into numbers of the call's own. -/
import Derived.Test.YtooiiihaijpbaaaRxM6
import Derived.Shelf.Spec.SlicesInsert
import Derived.Shelf.Spec.SlicesInsertGrow
set_option linter.unusedVariables false
set_option linter.unusedSimpArgs false
namespace Go.Rx
open Go.RowKit

section
variable {P : Program} {T : Tab} {C : Ctx} {G : Gh} {sl : Nat → AV} {bk : List Blk} {a : Act} {w w' : World}
/-- More rows in a block of the call's own: in place, or in a new block. -/
theorem Mem.rows (h : Mem C G bk w) (b e sz : Nat) (rows rows' : List (List PV)) (cur : Array Value) (c g0 : Nat) (hb : bk[b]? = some (.arr e sz rows)) (hlt : rows.length < rows'.length)
    (hg : G.M b = some g0 ∨ w.heap.size ≤ g0) (hg2 : g0 < w'.heap.size) (hsz : w.heap.size ≤ w'.heap.size) (hold : ∀ k, k < w.heap.size → k ≠ g0 → w'.heap[k]? = w.heap[k]?)
    (hos : w'.os = w.os) (htp : w'.tape = w.tape) (hou : w'.output = w.output) (hnw : w'.heap[g0]? = some (.cells cur e (0, 0)))
    (hB : c ≤ maxLen ∧ cur.size = c * sz ∧ rows'.length ≤ c ∧ ∀ j r, rows'[j]? = some r → r.length = sz ∧ ∀ k p, r[k]? = some p → ∃ u, cur[j * sz + k]? = some u ∧ RepP G.S w p u) :
    ∃ G', Trn G bk w G' (bk.set b (.arr e sz rows')) w' ∧ Mem C G' (bk.set b (.arr e sz rows')) w' ∧ G'.M b = some g0 ∧ G'.cp b = c := by
  have hbl : b < bk.length := (List.getElem?_eq_some_iff.1 hb).1
  let G' : Gh := { M := fun k => if k = b then some g0 else G.M k, S := G.S, cp := fun k => if k = b then c else G.cp k }
  have hM : ∀ k, k ≠ b → G'.M k = G.M k := fun k hk => if_neg hk
  have hc : ∀ k, k ≠ b → G'.cp k = G.cp k := fun k hk => if_neg hk
  have hM0 : G'.M b = some g0 := if_pos rfl
  have hnew : (bk.set b (.arr e sz rows'))[b]? = some (.arr e sz rows') := List.getElem?_set_self hbl
  have hrb : rowsOf bk b = some (sz, rows) := by unfold rowsOf; rw [hb]
  have hal : Alive bk b := by unfold Alive; rw [hb]; trivial
  have hS : ∀ g o, G.S g o → g ≠ g0 := fun g o hs e0 => by
    rcases hg with hg | hg
    · exact h.sdis g o b hs hal (by rw [e0]; exact hg)
    · have := h.slt g o hs; omega
  have hne : ∀ k g, k < bk.length → k ≠ b → G.M k = some g → g ≠ g0 := fun k g hk hkb e0 e1 => by
    rcases hg with hg | hg
    · exact hkb (h.inj k b g hk hbl e0 (by rw [e1]; exact hg))
    · have := h.mlt k g hk e0; omega
  have t : Trn G bk w G' (bk.set b (.arr e sz rows')) w' := by
    refine ⟨fun _ _ h => h, fun g o hs => World.cell?_of_block (a := ⟨g, o, none⟩) (hold _ (h.slt g o hs) (hS g o hs)), by simp, fun k hk hr => ?_, fun k sz' rows0 hr => ?_⟩
    · have hkb : k ≠ b := fun e => by subst e; rw [hrb] at hr; cases hr
      exact ⟨by rw [rowsOf_set _ hkb]; exact hr, hM k hkb⟩
    · by_cases hkb : k = b
      · subst hkb
        rw [hrb] at hr
        cases hr
        exact ⟨rows', by unfold rowsOf; rw [hnew], by omega, fun e => by omega⟩
      · exact ⟨rows0, by rw [rowsOf_set _ hkb]; exact hr, Nat.le_refl _, fun _ => ⟨hM k hkb, hc k hkb⟩⟩
  have hlen : (bk.set b (.arr e sz rows')).length = bk.length := by simp
  refine ⟨G', t, ⟨fun k B hk => ?_, fun k k' g hk hk' e1 e2 => ?_, fun g o k hs ha e1 => ?_, fun g o hs => ?_, fun k g hk e1 => ?_, fun k g hk e1 => ?_, h.s0, h.snew, hos.trans h.os, htp.trans h.tape, hou.trans h.output, ?_, fun g hgl hn => ?_, ?_, h.t0.trans t⟩, hM0, if_pos rfl⟩
  · by_cases hkb : k = b
    · subst hkb
      rw [hnew] at hk
      cases hk
      refine .inr ⟨g0, cur, hM0, hnw, ?_, ?_, ?_, fun j r hj => ⟨(hB.2.2.2 j r hj).1, fun q p hp => ?_⟩⟩
      · show (if k = k then c else G.cp k) ≤ maxLen; rw [if_pos rfl]; exact hB.1
      · show cur.size = (if k = k then c else G.cp k) * sz; rw [if_pos rfl]; exact hB.2.1
      · show rows'.length ≤ (if k = k then c else G.cp k); rw [if_pos rfl]; exact hB.2.2.1
      · obtain ⟨u, hu, hr⟩ := (hB.2.2.2 j r hj).2 q p hp
        exact ⟨u, hu, t.repP hr⟩
    · rw [List.getElem?_set_ne (Ne.symm hkb)] at hk
      have hkl : k < bk.length := (List.getElem?_eq_some_iff.1 hk).1
      exact RepB.step t (hM k hkb) (hc k hkb) (fun g hg' => hold _ (h.mlt k g hkl hg') (hne k g hkl hkb hg')) (h.blk k B hk)
  · rw [hlen] at hk hk'
    by_cases h1 : k = b <;> by_cases h2 : k' = b
    · omega
    · rw [h1, hM0] at e1; rw [hM k' h2] at e2; exact absurd (Option.some.inj e1).symm (hne k' g hk' h2 e2)
    · rw [h2, hM0] at e2; rw [hM k h1] at e1; exact absurd (Option.some.inj e2).symm (hne k g hk h1 e1)
    · rw [hM k h1] at e1; rw [hM k' h2] at e2; exact h.inj k k' g hk hk' e1 e2
  · by_cases h1 : k = b
    · rw [h1, hM0] at e1; exact hS g o hs (Option.some.inj e1).symm
    · rw [hM k h1] at e1; exact h.sdis g o k hs ((alive_set _ h1).1 ha) e1
  · have := h.slt g o hs; omega
  · rw [hlen] at hk
    by_cases h1 : k = b
    · rw [h1, hM0] at e1; cases e1; exact hg2
    · rw [hM k h1] at e1; have := h.mlt k g hk e1; omega
  · rw [hlen] at hk
    by_cases h1 : k = b
    · rw [h1, hM0] at e1; cases e1
      rcases hg with hg | hg
      · exact h.new b g0 hbl hg
      · have := h.size; exact .inl (by omega)
    · rw [hM k h1] at e1; exact h.new k g hk e1
  · have := h.size; omega
  · have h1 := h.block g hgl hn
    rw [hold g (by have := h.size; omega) ?_]
    · exact h1
    · intro e0
      rcases hg with hg | hg
      · rcases h.new b g0 hbl hg with k1 | ⟨b', k1, k2⟩
        · omega
        · exact hn b' k1 (by rw [e0]; exact k2)
      · have := h.size; omega
  · have := h.mle; rw [hlen]; exact this

theorem setCell_row {g o : Nat} {cur : Array Value} {t : TypeId} {fz : Nat × Nat} {v : Value} {w : World} (h : w.heap[g]? = some (.cells cur t fz)) :
    (∃ cur', (w.setCell ⟨g, o, none⟩ v).heap[g]? = some (.cells cur' t fz) ∧ cur'.size = cur.size) ∧ (∀ k, k ≠ g → (w.setCell ⟨g, o, none⟩ v).heap[k]? = w.heap[k]?) ∧ (w.setCell ⟨g, o, none⟩ v).heap.size = w.heap.size ∧
      (w.setCell ⟨g, o, none⟩ v).os = w.os ∧ (w.setCell ⟨g, o, none⟩ v).tape = w.tape ∧ (w.setCell ⟨g, o, none⟩ v).output = w.output := by
  have hlt := (Array.getElem?_eq_some_iff.1 h).1
  refine ⟨⟨cur.setIfInBounds o v, ?_, by simp⟩, fun k hk => ?_, by simp [World.setCell], rfl, rfl, rfl⟩
  · simp [World.setCell, Array.getElem?_modify, h]
  · simp [World.setCell, Array.getElem?_modify, Ne.symm hk]
theorem setCells_row {g : Nat} {t : TypeId} {fz : Nat × Nat} : ∀ (vs : List Value) (o : Nat) (w : World) (cur : Array Value), w.heap[g]? = some (.cells cur t fz) →
    (∃ cur', (w.setCells g o vs).heap[g]? = some (.cells cur' t fz) ∧ cur'.size = cur.size) ∧ (∀ k, k ≠ g → (w.setCells g o vs).heap[k]? = w.heap[k]?) ∧ (w.setCells g o vs).heap.size = w.heap.size ∧
      (w.setCells g o vs).os = w.os ∧ (w.setCells g o vs).tape = w.tape ∧ (w.setCells g o vs).output = w.output
  | [], o, w, cur, h => ⟨⟨cur, h, rfl⟩, fun _ _ => rfl, rfl, rfl, rfl, rfl⟩
  | v :: vs, o, w, cur, h => by
    obtain ⟨⟨c1, k1, k2⟩, k3, k4, k5, k6, k7⟩ := setCell_row (o := o) (v := v) h
    obtain ⟨⟨c2, l1, l2⟩, l3, l4, l5, l6, l7⟩ := setCells_row vs (o + 1) (w.setCell ⟨g, o, none⟩ v) c1 k1
    exact ⟨⟨c2, l1, l2.trans k2⟩, fun k hk => (l3 k hk).trans (k3 k hk), l4.trans k4, l5.trans k5, l6.trans k6, l7.trans k7⟩
abbrev iv (n : Int) : Value := .int .i64 n
def insL (rows : List Int) (i : Nat) (x : Int) : List Int := rows.take i ++ x :: rows.drop i
theorem ins_len {rows : List Int} {i : Nat} {x : Int} (hi : i ≤ rows.length) : (insL rows i x).length = rows.length + 1 := by
  simp [insL]; omega
theorem ins_get {rows : List Int} {i : Nat} {x : Int} (hi : i ≤ rows.length) (j : Nat) : (insL rows i x)[j]? = if j < i then rows[j]? else if j = i then some x else rows[j - 1]? := by
  unfold insL
  have hl : (rows.take i).length = i := by simp; omega
  by_cases h1 : j < i
  · rw [if_pos h1, List.getElem?_append_left (by omega), List.getElem?_take_of_lt h1]
  · rw [if_neg h1, List.getElem?_append_right (by omega), hl]
    by_cases h2 : j = i
    · rw [if_pos h2, h2]; simp
    · rw [if_neg h2, show j - i = (j - i - 1) + 1 by omega, List.getElem?_cons_succ, List.getElem?_drop]
      congr 1; omega
theorem place_rows {S : Nat → Nat → Prop} {vals : List Int} {cur : Array Value} (h : ∀ (j : Nat) (n : Int), vals[j]? = some n → cur[j]? = some (iv n)) :
    ∀ j r, (vals.map fun n => [pI n])[j]? = some r → r.length = 1 ∧ ∀ k p, r[k]? = some p → ∃ u, cur[j * 1 + k]? = some u ∧ RepP S w p u := fun j r hj => by
  rw [List.getElem?_map, Option.map_eq_some_iff] at hj
  obtain ⟨n, hn, rfl⟩ := hj
  refine ⟨rfl, fun k p hk => ?_⟩
  have hk0 : k = 0 := by have := (List.getElem?_eq_some_iff.1 hk).1; simp at this; omega
  subst hk0
  cases hk
  exact ⟨iv n, by rw [Nat.mul_one]; exact h j n hn, RepP.sc _ rfl⟩
end
end Go.Rx
namespace Go.Proofs.Ytooiiihaijpbaaa.Rx
open Go.Rx Go.Proofs Go.RowKit Go.Shelf

def ren : Go.Shelf.Ren := ⟨fun | 21 => 56 | 27 => 69 | 28 => 70 | 35 => 76 | 39 => 79 | n => n, fun | 0 => 0 | 3 => 3 | 4 => 4 | 22 => 23 | n => n, fun | n => n⟩
theorem layed : Go.Proofs.Lays2.n21 Try.prog ren := {
  mixed := by kernel_rfl
  f21 := Try.func56.trans (congrArg some (by kernel_rfl))
  f27 := Try.func69.trans (congrArg some (by kernel_rfl))
  f28 := Try.func70.trans (congrArg some (by kernel_rfl))
  f35 := Try.func76.trans (congrArg some (by kernel_rfl))
  f39 := Try.func79.trans (congrArg some (by kernel_rfl))
  t0 := Try.underlying0
  a0 := Try.isAgg0
  z0 := Try.sizeOf0
  v0 := Try.zeroValue0
  t3 := Try.underlying3
  a3 := Try.isAgg3
  z3 := Try.sizeOf3
  v3 := Try.zeroValue3
  t4 := Try.underlying4
  a4 := Try.isAgg4
  z4 := Try.sizeOf4
  v4 := Try.zeroValue4
  t22 := Try.underlying23
  a22 := Try.isAgg23
  z22 := Try.sizeOf23
  v22 := Try.zeroValue23
  i3 := by kernel_rfl }
theorem insert_con (rows : List Int) (i : Nat) (x : Int) (hi : i ≤ rows.length) (hl : (rows.length + 1) * 8 ≤ 140737488355328) :
    ConG P 56 [.arr 3 1 (rows.map fun n => [pI n]), .arr 3 1 [[pI x]]] [.lf (.own 0 rows.length), I i, .lf (.own 1 1)] (.lf (.own 0 (rows.length + 1)))
      [.arr 3 1 ((insL rows i x).map fun n => [pI n]), .arr 3 1 [[pI x]]] := by
  refine ⟨by kernel_rfl, fun w G us hm hargs => ?_⟩
  obtain ⟨u0, u1, u2, rfl⟩ : ∃ u0 u1 u2, us = [u0, u1, u2] := by
    have := hargs.length
    match us, this with
    | [a, b, c], _ => exact ⟨a, b, c, rfl⟩
  obtain ⟨h0, h1, h2, _⟩ := hargs
  obtain ⟨rfl, _⟩ := sc_rep h1
  have hb0 : ([Blk.arr 3 1 (rows.map fun n => [pI n]), .arr 3 1 [[pI x]]])[0]? = some (.arr 3 1 (rows.map fun n => [pI n])) := rfl
  have hml : (rows.map fun n => [pI n]).length = rows.length := List.length_map ..
  have hml2 : ((insL rows i x).map fun n => [pI n]).length = rows.length + 1 := by rw [List.length_map, ins_len hi]
  -- what is inserted
  obtain ⟨g1, c1, hg1, rfl, cur1, hh1, hx1⟩ : ∃ g1 c1, G.M 1 = some g1 ∧ u2 = .slice (some ⟨g1, 0, none⟩) 1 c1 ∧ ∃ cur1, w.heap[g1]? = some (.cells cur1 3 (0, 0)) ∧ cur1[0]? = some (iv x) := by
    obtain ⟨_, sz, rw', k1, k2, k3⟩ := h2
    cases k1
    rcases k3 rfl with ⟨g, hg, hv⟩ | ⟨_, hz, _⟩
    · rcases hm.blk 1 _ rfl with ⟨e0, _⟩ | ⟨g', cur, hg', l1, l2, l3, l4, l5⟩
      · rw [hg] at e0; cases e0
      rw [hg] at hg'
      cases hg'
      obtain ⟨u, hu, hr⟩ := (l5 0 _ rfl).2 0 _ rfl
      cases hr
      exact ⟨g, _, hg, hv, cur, l1, hu⟩
    · cases hz
  have hvs : ∀ j v, [iv x][j]? = some v → w.cell? ⟨g1, 0 + j, none⟩ = some v := fun j v hj => by
    have : j = 0 := by have := (List.getElem?_eq_some_iff.1 hj).1; simp at this; omega
    subst this
    cases hj
    rw [cell_of_row w _ _ _ _ _ hh1]
    exact hx1
  have hv1 : ∀ v ∈ [iv x], v.oneCell' = true := fun v hv => by simp at hv; subst hv; rfl
  have hcl : (rows.map iv).length = rows.length := List.length_map ..
  have hc1 : ∀ v ∈ rows.map iv, v.oneCell' = true := fun v hv => by obtain ⟨n, _, rfl⟩ := List.mem_map.1 hv; rfl
  have hcapm : ∀ old, grownCap w (rows.length + 1) old 3 ≤ maxLen := fun old => grownCap_le_maxLen w _ old _ (by simp only [maxLen]; omega)
  have hcapg : ∀ old, rows.length + 1 ≤ grownCap w (rows.length + 1) old 3 := fun old => grownCap_ge w _ old _
  -- what is to be shown, out of the world behind
  have fin : ∀ (w' : World) (cur : Array Value) (c g0 : Nat), (G.M 0 = some g0 ∨ w.heap.size ≤ g0) → g0 < w'.heap.size → w.heap.size ≤ w'.heap.size → (∀ k, k < w.heap.size → k ≠ g0 → w'.heap[k]? = w.heap[k]?) →
      w'.os = w.os → w'.tape = w.tape → w'.output = w.output → w'.heap[g0]? = some (.cells cur 3 (0, 0)) → c ≤ maxLen → cur.size = c → rows.length + 1 ≤ c → (∀ (j : Nat) (n : Int), (insL rows i x)[j]? = some n → cur[j]? = some (iv n)) →
      ∃ u G', Ending.returned (.slice (some ⟨g0, 0, none⟩) (rows.length + 1) c) = .returned u ∧ RepA G' [.arr 3 1 ((insL rows i x).map fun n => [pI n]), .arr 3 1 [[pI x]]] w' (.lf (.own 0 (rows.length + 1))) u ∧ Mem ⟨w, G, _, 0⟩ G' [.arr 3 1 ((insL rows i x).map fun n => [pI n]), .arr 3 1 [[pI x]]] w' := fun w' cur c g0 a1 a2 a3 a4 a5 a6 a7 a8 a9 b1 b2 b3 => by
    obtain ⟨G', t, m, hM, hc⟩ := hm.rows 0 3 1 _ ((insL rows i x).map fun n => [pI n]) cur c g0 hb0 (by omega) a1 a2 a3 a4 a5 a6 a7 a8 ⟨a9, by omega, by omega, place_rows b3⟩
    exact ⟨_, G', rfl, ⟨rfl, 1, _, rfl, by omega, fun _ => .inl ⟨g0, hM, by rw [hc]⟩⟩, m⟩
  have zs : ∀ n : Nat, (Builtin.zeroCells (Value.int .i64 0).cells n).size = n := fun n => by rw [size_zeroCells]; exact Nat.mul_one n
  -- at the end, in a new block
  have grown : ∀ (old : Nat), i = rows.length → ∀ w', w' = w.drew.alloc (.cells ((rows.map iv ++ [iv x]).toArray ++ Builtin.zeroCells (Value.int .i64 0).cells (grownCap w (rows.length + 1) old 3 - (rows.length + 1))) 3) →
      ∃ u G', Ending.returned (.slice (some ⟨w.heap.size, 0, none⟩) (rows.length + 1) (grownCap w (rows.length + 1) old 3)) = .returned u ∧ RepA G' [.arr 3 1 ((insL rows i x).map fun n => [pI n]), .arr 3 1 [[pI x]]] w' (.lf (.own 0 (rows.length + 1))) u ∧ Mem ⟨w, G, _, 0⟩ G' [.arr 3 1 ((insL rows i x).map fun n => [pI n]), .arr 3 1 [[pI x]]] w' := fun old hin w' hw' => by
    subst hw'
    have hg := hcapg old
    refine fin _ _ _ w.heap.size (.inr (Nat.le_refl _)) (by show w.heap.size < (w.drew.heap.push _).size; rw [Array.size_push]; exact Nat.lt_succ_self _) (by show w.heap.size ≤ (w.drew.heap.push _).size; rw [Array.size_push]; exact Nat.le_succ _) (fun k hk _ => by first | exact heap_alloc_old w.drew _ _ hk | exact heap_alloc_old w.drew _ hk) rfl rfl rfl (heap_alloc_new w.drew _) (hcapm old) ?_ hg ?_
    · rw [Array.size_append, zs]; simp; omega
    · intro j n hj
      have hjl := (List.getElem?_eq_some_iff.1 hj).1
      rw [ins_len hi] at hjl
      rw [Array.getElem?_append_left (by simp; omega), List.getElem?_toArray, show rows.map iv ++ [iv x] = (insL rows i x).map iv by simp [insL, hin], List.getElem?_map, hj]
      rfl
  obtain ⟨_, sz, rw', k1, k2, k3⟩ := h0
  cases k1
  rcases k3 hml with ⟨g, hg, rfl⟩ | ⟨hg, hz, rfl⟩
  · rcases hm.blk 0 _ hb0 with ⟨e0, _⟩ | ⟨g', cur, hg', l1, l2, l3, l4, l5⟩
    · rw [hg] at e0; cases e0
    rw [hg] at hg'
    cases hg'
    have hne : g1 ≠ g := fun e => by
      have := hm.inj 1 0 g (by simp) (by simp) (by rw [← e]; exact hg1) hg
      omega
    have hold : ∀ (j : Nat) (n : Int), rows[j]? = some n → cur[j]? = some (iv n) := fun j n hj => by
      obtain ⟨u, hu, hr⟩ := (l5 j [pI n] (by rw [List.getElem?_map, hj]; rfl)).2 0 _ rfl
      cases hr
      rw [Nat.mul_one] at hu
      exact hu
    have hcs : ∀ j v, (rows.map iv)[j]? = some v → w.cell? ⟨g, 0 + j, none⟩ = some v := fun j v hj => by
      rw [List.getElem?_map, Option.map_eq_some_iff] at hj
      obtain ⟨n, hn, rfl⟩ := hj
      rw [cell_of_row w _ _ _ _ _ l1, Nat.zero_add]
      exact hold j n hn
    have hcz : cur.size = G.cp 0 := by rw [l3, Nat.mul_one]
    have hsome : ∀ j, j < G.cp 0 → (w.cell? ⟨g, 0 + j, none⟩).isSome = true := fun j hj => by
      rw [cell_of_row w _ _ _ _ _ l1, Nat.zero_add, Array.getElem?_eq_getElem (by omega)]; rfl
    have hfz : ∀ o, w.frozen? ⟨g, o, none⟩ = false := fun o => by simp [World.frozen?, l1]
    have hmx : G.cp 0 ≤ 9223372036854775807 := by have := l2; simp only [maxLen] at this; omega
    have hlen0 : rows.length ≤ G.cp 0 := by simpa using l4
    have hdl : ((rows.map iv).drop i).length = rows.length - i := by simp
    by_cases hroom : rows.length + 1 ≤ G.cp 0
    · by_cases hlt : i < rows.length
      · have := Any2.slices_Insert_int_shift layed g 0 rows.length (G.cp 0) i g1 0 1 c1 (rows.map iv) [iv x] w hlt (by decide) hroom hmx hne hcl rfl hcs (fun j hj => hsome j (by omega)) (fun j _ => hfz _) hvs hc1 hv1 3 3 cur1.size cur.size
          (by simp [World.shape?, hh1]) (by simp [World.shape?, l1]) (by omega) (by simp [World.frozen?, hh1]) (by simp [World.frozen?, hh1])
        refine this.mono ?_
        rintro e w' ⟨rfl, hw⟩
        obtain ⟨⟨ca, a1, a2⟩, a3, a4, a5, a6, a7⟩ := setCells_row ((rows.map iv).drop i) (0 + (i + 1)) w.drew cur l1
        have hs1 : ∀ j, j < G.cp 0 → ((w.drew.setCells g (0 + (i + 1)) ((rows.map iv).drop i)).cell? ⟨g, j, none⟩).isSome = true := fun j hj => by
          rw [cell_of_row _ _ _ _ _ _ a1, Array.getElem?_eq_getElem (by omega)]; rfl
        obtain ⟨⟨cb, b1, b2⟩, b3, b4, b5, b6, b7⟩ := setCells_row [iv x] (0 + i) _ ca a1
        rw [← hw] at b1 b3 b4 b5 b6 b7
        refine fin w' cb (G.cp 0) g (.inl hg) (by rw [b4, a4]; exact hm.mlt 0 g (by simp) hg) (by rw [b4, a4]; exact Nat.le_refl _) (fun k _ hk => (b3 k hk).trans (a3 k hk)) (b5.trans a5) (b6.trans a6) (b7.trans a7) b1 l2 (by omega) hroom ?_
        intro j n hj
        rw [← cell_of_row w' g j _ _ _ b1, hw]
        rw [ins_get hi] at hj
        by_cases h1 : j < i
        · rw [if_pos h1] at hj
          rw [World.cell?_setCells_out g _ _ _ _ (fun _ _ => Or.inl (by show j < 0 + i; omega)), World.cell?_setCells_out g _ _ _ _ (fun _ _ => Or.inl (by show j < 0 + (i + 1); omega))]
          show w.cell? _ = _
          rw [cell_of_row w _ _ _ _ _ l1]
          exact hold j n hj
        · rw [if_neg h1] at hj
          by_cases h2 : j = i
          · rw [if_pos h2] at hj
            cases hj
            subst h2
            have := World.cell?_setCells_in g [iv x] (0 + j) (w.drew.setCells g (0 + (j + 1)) ((rows.map iv).drop j)) (fun k hk => by simp at hk; subst hk; exact hs1 _ (by omega)) 0 (by simp)
            simpa using this
          · rw [if_neg h2] at hj
            have hjl := (List.getElem?_eq_some_iff.1 hj).1
            rw [World.cell?_setCells_out g _ _ _ _ (fun _ _ => Or.inr (by show 0 + i + 1 ≤ j; omega))]
            have := World.cell?_setCells_in g ((rows.map iv).drop i) (0 + (i + 1)) w.drew (fun k hk => by
              show (w.cell? _).isSome = true
              rw [cell_of_row w _ _ _ _ _ l1, Array.getElem?_eq_getElem (by omega)]; rfl) (j - (i + 1)) (by omega)
            rw [show 0 + (i + 1) + (j - (i + 1)) = j by omega] at this
            rw [this]
            have e1 : ((rows.map iv).drop i)[j - (i + 1)]? = some (iv n) := by
              rw [List.getElem?_drop, show i + (j - (i + 1)) = j - 1 by omega, List.getElem?_map, hj]; rfl
            rw [← e1, List.getElem?_eq_getElem]
      · have hin : i = rows.length := by omega
        subst hin
        have := Any2.slices_Insert_int_end_room layed g 0 rows.length (G.cp 0) g1 0 1 c1 [iv x] w (by decide) hroom hmx rfl (fun j hj => by have := hsome (rows.length + j) (by omega); rwa [← Nat.add_assoc] at this) (fun j _ => hfz _) hvs hv1
        refine this.mono ?_
        rintro e w' ⟨rfl, hw⟩
        obtain ⟨⟨cb, b1, b2⟩, b3, b4, b5, b6, b7⟩ := setCells_row [iv x] (0 + rows.length) w cur l1
        rw [← hw] at b1 b3 b4 b5 b6 b7
        refine fin w' cb (G.cp 0) g (.inl hg) (by rw [b4]; exact hm.mlt 0 g (by simp) hg) (by rw [b4]; exact Nat.le_refl _) (fun k _ hk => b3 k hk) b5 b6 b7 b1 l2 (by omega) hroom ?_
        intro j n hj
        rw [← cell_of_row w' g j _ _ _ b1, hw]
        rw [ins_get hi] at hj
        by_cases h1 : j < rows.length
        · rw [if_pos h1] at hj
          rw [World.cell?_setCells_out g _ _ _ _ (fun _ _ => Or.inl (by show j < 0 + rows.length; omega)), cell_of_row w _ _ _ _ _ l1]
          exact hold j n hj
        · rw [if_neg h1] at hj
          by_cases h2 : j = rows.length
          · rw [if_pos h2] at hj
            cases hj
            subst h2
            have := World.cell?_setCells_in g [iv x] (0 + rows.length) w (fun k hk => by simp at hk; subst hk; rw [Nat.add_zero]; exact hsome _ (by omega)) 0 (by simp)
            simpa using this
          · rw [if_neg h2] at hj
            have hjl := (List.getElem?_eq_some_iff.1 hj).1
            omega
    · by_cases hlt : i < rows.length
      · have := Any2.slices_Insert_int_grow layed g 0 rows.length (G.cp 0) i g1 0 1 c1 (rows.map iv) [iv x] w hlt (by decide) hlen0 (by omega) (by omega) hcl rfl hcs hvs hc1 hv1
        refine this.mono ?_
        rintro e w' ⟨rfl, hw⟩
        have hgc := hcapg (G.cp 0)
        change w' = (((w.alloc (.cells (((rows.map iv).take i).toArray ++ Builtin.zeroCells (Value.int .i64 0).cells (rows.length + 1 - i) ++ Builtin.zeroCells (Value.int .i64 0).cells (grownCap w (rows.length + 1) (G.cp 0) 3 - (rows.length + 1))) 3)).drew.setCells w.heap.size i [iv x]).drew).setCells w.heap.size (i + 1) ((rows.map iv).drop i) at hw
        generalize hA : (((rows.map iv).take i).toArray ++ Builtin.zeroCells (Value.int .i64 0).cells (rows.length + 1 - i) ++ Builtin.zeroCells (Value.int .i64 0).cells (grownCap w (rows.length + 1) (G.cp 0) 3 - (rows.length + 1))) = A at hw
        have hAz : A.size = grownCap w (rows.length + 1) (G.cp 0) 3 := by rw [← hA, Array.size_append, Array.size_append, zs, zs]; simp; omega
        have hA0 : ∀ (j : Nat) (n : Int), j < i → rows[j]? = some n → A[j]? = some (iv n) := fun j n hj hn => by
          rw [← hA, Array.getElem?_append_left (by rw [Array.size_append, zs]; simp; omega), Array.getElem?_append_left (by simp; omega), List.getElem?_toArray, List.getElem?_take_of_lt hj, List.getElem?_map, hn]
          rfl
        have hW0 : (w.alloc (.cells A 3)).drew.heap[w.heap.size]? = some (.cells A 3 (0, 0)) := heap_alloc_new w _
        have hWo : ∀ k, k < w.heap.size → (w.alloc (.cells A 3)).drew.heap[k]? = w.heap[k]? := fun k hk => by first | exact heap_alloc_old w _ _ hk | exact heap_alloc_old w _ hk
        have hWs : (w.alloc (.cells A 3)).drew.heap.size = w.heap.size + 1 := by show (w.heap.push _).size = _; rw [Array.size_push]
        obtain ⟨⟨ca, a1, a2⟩, a3, a4, a5, a6, a7⟩ := setCells_row [iv x] i (w.alloc (.cells A 3)).drew A hW0
        generalize hW1 : (w.alloc (.cells A 3)).drew.setCells w.heap.size i [iv x] = W1 at *
        obtain ⟨⟨cb, b1, b2⟩, b3, b4, b5, b6, b7⟩ := setCells_row ((rows.map iv).drop i) (i + 1) W1.drew ca a1
        rw [← hw] at b1 b3 b4 b5 b6 b7
        have hs4 : w'.heap.size = w.heap.size + 1 := b4.trans (a4.trans hWs)
        refine fin w' cb (grownCap w (rows.length + 1) (G.cp 0) 3) w.heap.size (.inr (Nat.le_refl _)) (by omega) (by omega) (fun k hk hne => (b3 k hne).trans ((a3 k hne).trans (hWo k hk))) (b5.trans a5) (b6.trans a6) (b7.trans a7) b1 (hcapm _) (by omega) hgc ?_
        intro j n hj
        rw [← cell_of_row w' w.heap.size j _ _ _ b1, hw]
        rw [ins_get hi] at hj
        by_cases h1 : j < i
        · rw [if_pos h1] at hj
          rw [World.cell?_setCells_out _ _ _ _ _ (fun _ _ => Or.inl (by show j < i + 1; omega))]
          show W1.cell? _ = _
          rw [← hW1, World.cell?_setCells_out _ _ _ _ _ (fun _ _ => Or.inl (by show j < i; omega)), cell_of_row _ _ _ _ _ _ hW0]
          exact hA0 j n h1 hj
        · rw [if_neg h1] at hj
          by_cases h2 : j = i
          · rw [if_pos h2] at hj
            cases hj
            subst h2
            rw [World.cell?_setCells_out _ _ _ _ _ (fun _ _ => Or.inl (by show j < j + 1; omega))]
            show W1.cell? _ = _
            rw [← hW1]
            have := World.cell?_setCells_in w.heap.size [iv x] j (w.alloc (.cells A 3)).drew (fun k hk => by simp at hk; subst hk; rw [cell_of_row _ _ _ _ _ _ hW0, Array.getElem?_eq_getElem (by omega)]; rfl) 0 (by simp)
            simpa using this
          · rw [if_neg h2] at hj
            have hjl := (List.getElem?_eq_some_iff.1 hj).1
            have := World.cell?_setCells_in w.heap.size ((rows.map iv).drop i) (i + 1) W1.drew (fun k hk => by
              show (W1.cell? _).isSome = true
              rw [cell_of_row W1 _ _ _ _ _ a1, Array.getElem?_eq_getElem (by omega)]; rfl) (j - (i + 1)) (by omega)
            rw [show i + 1 + (j - (i + 1)) = j by omega] at this
            rw [this]
            have e1 : ((rows.map iv).drop i)[j - (i + 1)]? = some (iv n) := by
              rw [List.getElem?_drop, show i + (j - (i + 1)) = j - 1 by omega, List.getElem?_map, hj]; rfl
            rw [← e1, List.getElem?_eq_getElem]
      · have hin : i = rows.length := by omega
        subst hin
        have := Any2.slices_Insert_int_end_grow layed (some ⟨g, 0, none⟩) rows.length (G.cp 0) g1 0 1 c1 (rows.map iv) [iv x] w (by decide) (by simpa using l4) (by omega) (by omega) hcl rfl (fun e => by cases e) (fun a e j v hj => by cases e; rw [Addr.add_lit]; exact hcs j v hj) hvs hv1
        refine this.mono ?_
        rintro e w' ⟨rfl, hw⟩
        exact grown _ rfl w' hw
  · have hr : rows = [] := List.eq_nil_of_length_eq_zero hz
    subst hr
    have hi0 : i = 0 := by simp at hi; omega
    subst hi0
    have := Any2.slices_Insert_int_end_grow layed none 0 0 g1 0 1 c1 [] [iv x] w (by decide) (by decide) (by decide) (by decide) rfl rfl (fun _ => rfl) (fun a e => by cases e) hvs hv1
    refine this.mono ?_
    rintro e w' ⟨rfl, hw⟩
    exact grown _ rfl w' hw
end Go.Proofs.Ytooiiihaijpbaaa.Rx
