/- append to a slice of the call's own. -/
import Derived.Test.YtooiiihaijpbaaaRx5
import Derived.Laws.Append
import Derived.Laws.AppendOwn
import Derived.Laws.OwnMore
set_option linter.unusedVariables false
set_option linter.unusedSimpArgs false
namespace Go.Rx
open Go.RowKit

section
variable {P : Program} {T : Tab} {C : Ctx} {G : Gh} {sl : Nat → AV} {bk : List Blk} {a : Act} {w : World}

/-- A row of the call's own moves to a new, larger block. -/
theorem Mem.grow (h : Mem C G bk w) (b e sz : Nat) (rows rows' : List (List PV)) (cur : Array Value) (c : Nat) (hb : bk[b]? = some (.arr e sz rows)) (hlt : rows.length < rows'.length)
    (hB : c ≤ maxLen ∧ cur.size = c * sz ∧ rows'.length ≤ c ∧ ∀ j r, rows'[j]? = some r → r.length = sz ∧ ∀ k p, r[k]? = some p → ∃ u, cur[j * sz + k]? = some u ∧ RepP G.S w p u) :
    ∃ G', Trn G bk w G' (bk.set b (.arr e sz rows')) (w.alloc (.cells cur e)) ∧ Mem C G' (bk.set b (.arr e sz rows')) (w.alloc (.cells cur e)) ∧ G'.M b = some w.heap.size ∧ G'.cp b = c := by
  have hbl : b < bk.length := (List.getElem?_eq_some_iff.1 hb).1
  let G' : Gh := { M := fun k => if k = b then some w.heap.size else G.M k, S := G.S, cp := fun k => if k = b then c else G.cp k }
  have hM : ∀ k, k ≠ b → G'.M k = G.M k := fun k hk => if_neg hk
  have hc : ∀ k, k ≠ b → G'.cp k = G.cp k := fun k hk => if_neg hk
  have hM0 : G'.M b = some w.heap.size := if_pos rfl
  have hnew : (bk.set b (.arr e sz rows'))[b]? = some (.arr e sz rows') := List.getElem?_set_self hbl
  have hrb : rowsOf bk b = some (sz, rows) := by unfold rowsOf; rw [hb]
  have t : Trn G bk w G' (bk.set b (.arr e sz rows')) (w.alloc (.cells cur e)) := by
    refine ⟨fun _ _ h => h, fun g o hs => World.cell?_of_block (a := ⟨g, o, none⟩) (heap_alloc_old w _ _ (h.slt g o hs)), by simp, fun k hk hr => ?_, fun k sz' rows0 hr => ?_⟩
    · have hkb : k ≠ b := fun e => by subst e; rw [hrb] at hr; cases hr
      exact ⟨by rw [rowsOf_set _ hkb]; exact hr, hM k hkb⟩
    · by_cases hkb : k = b
      · subst hkb
        rw [hrb] at hr
        cases hr
        exact ⟨rows', by unfold rowsOf; rw [hnew], by omega, fun e => by omega⟩
      · exact ⟨rows0, by rw [rowsOf_set _ hkb]; exact hr, Nat.le_refl _, fun _ => ⟨hM k hkb, hc k hkb⟩⟩
  have hlen : (bk.set b (.arr e sz rows')).length = bk.length := by simp
  refine ⟨G', t, ⟨fun k B hk => ?_, fun k k' g hk hk' e1 e2 => ?_, fun g o k hs ha e1 => ?_, fun g o hs => ?_, fun k g hk e1 => ?_, fun k g hk e1 => ?_, h.s0, h.snew, h.os, h.tape, h.output, ?_, fun g hg hn => ?_, ?_, h.t0.trans t⟩, hM0, if_pos rfl⟩
  · by_cases hkb : k = b
    · subst hkb
      rw [hnew] at hk
      cases hk
      refine .inr ⟨w.heap.size, cur, hM0, heap_alloc_new w _, ?_, ?_, ?_, fun j r hj => ⟨(hB.2.2.2 j r hj).1, fun q p hp => ?_⟩⟩
      · show (if k = k then c else G.cp k) ≤ maxLen; rw [if_pos rfl]; exact hB.1
      · show cur.size = (if k = k then c else G.cp k) * sz; rw [if_pos rfl]; exact hB.2.1
      · show rows'.length ≤ (if k = k then c else G.cp k); rw [if_pos rfl]; exact hB.2.2.1
      · obtain ⟨u, hu, hr⟩ := (hB.2.2.2 j r hj).2 q p hp
        exact ⟨u, hu, t.repP hr⟩
    · rw [List.getElem?_set_ne (Ne.symm hkb)] at hk
      have hkl : k < bk.length := (List.getElem?_eq_some_iff.1 hk).1
      exact RepB.step t (hM k hkb) (hc k hkb) (fun g hg => heap_alloc_old w _ _ (h.mlt k g hkl hg)) (h.blk k B hk)
  · rw [hlen] at hk hk'
    by_cases h1 : k = b <;> by_cases h2 : k' = b
    · omega
    · rw [h1, hM0] at e1; rw [hM k' h2] at e2; have := h.mlt k' g hk' e2; cases e1; omega
    · rw [h2, hM0] at e2; rw [hM k h1] at e1; have := h.mlt k g hk e1; cases e2; omega
    · rw [hM k h1] at e1; rw [hM k' h2] at e2; exact h.inj k k' g hk hk' e1 e2
  · have hs' := h.slt g o hs
    by_cases h1 : k = b
    · rw [h1, hM0] at e1; cases e1; omega
    · rw [hM k h1] at e1; exact h.sdis g o k hs ((alive_set _ h1).1 ha) e1
  · have := h.slt g o hs; simp; omega
  · rw [hlen] at hk
    by_cases h1 : k = b
    · rw [h1, hM0] at e1; cases e1; simp
    · rw [hM k h1] at e1; have := h.mlt k g hk e1; simp; omega
  · rw [hlen] at hk
    by_cases h1 : k = b
    · rw [h1, hM0] at e1; cases e1; exact .inl h.size
    · rw [hM k h1] at e1; exact h.new k g hk e1
  · have := h.size; simp; omega
  · rw [heap_alloc_old w _ _ (by have := h.size; omega)]; exact h.block g hg hn
  · have := h.mle; rw [hlen]; exact this

/-- The cells of a slice's rows, as a list. -/
theorem rows_cells {S : Nat → Nat → Prop} {sz : Nat} {rows : List (List PV)} {v : Value} (h : RepP S w (.sl sz rows) v) :
    (v = .slice none 0 0 ∧ rows = []) ∨ ∃ (ad : Addr) (c : Nat) (news : List Value), v = .slice (some ad) rows.length c ∧ news.length = rows.length * sz ∧ (∀ j u, news[j]? = some u → w.cell? (ad.add j) = some u) ∧ (∀ u ∈ news, u.oneCell' = true) ∧
      ∀ j r, rows[j]? = some r → r.length = sz ∧ ∀ k p, r[k]? = some p → ∃ u, news[j * sz + k]? = some u ∧ RepP S w p u := by
  cases h with
  | nil => exact .inl ⟨rfl, rfl⟩
  | emp _ a cap => exact .inr ⟨a, cap, [], rfl, by simp, by simp, by simp, by simp⟩
  | sl _ g o cap rows vs hc hu hm hr =>
    right
    have pos : ∀ k, k < rows.length * sz → ∃ r p, rows[k / sz]? = some r ∧ r[k % sz]? = some p ∧ k / sz * sz + k % sz = k := fun k hk => by
      have hsz : 0 < sz := by
        rcases Nat.eq_zero_or_pos sz with e | e
        · subst e; simp at hk
        · exact e
      have h1 : k / sz < rows.length := (Nat.div_lt_iff_lt_mul hsz).2 hk
      have h2 : k % sz < sz := Nat.mod_lt _ hsz
      have h3 := hu rows[k / sz] (List.getElem_mem h1)
      exact ⟨_, _, List.getElem?_eq_getElem h1, List.getElem?_eq_getElem (by omega), by rw [Nat.mul_comm]; exact Nat.div_add_mod k sz⟩
    have cell : ∀ k, k < rows.length * sz → w.cell? ⟨g, o + k, none⟩ = some (vs (k / sz) (k % sz)) ∧ (vs (k / sz) (k % sz)).oneCell' = true := fun k hk => by
      obtain ⟨r, p, h1, h2, h3⟩ := pos k hk
      have := (hm _ r _ p h1 h2).2
      rw [h3] at this
      exact ⟨this, (hr _ r _ p h1 h2).one⟩
    refine ⟨⟨g, o, none⟩, cap, (List.range (rows.length * sz)).map fun k => vs (k / sz) (k % sz), rfl, by simp, fun j u hj => ?_, fun u hu' => ?_, fun j r hj => ⟨hu r (List.mem_of_getElem? hj), fun k p hp => ?_⟩⟩
    · have hjl : j < rows.length * sz := by have := (List.getElem?_eq_some_iff.1 hj).1; simpa using this
      rw [Addr.add_lit, (cell j hjl).1]
      simpa [hjl] using hj
    · obtain ⟨k, hk, rfl⟩ := List.mem_map.1 hu'
      exact (cell k (by simpa using hk)).2
    · have hjl := (List.getElem?_eq_some_iff.1 hj).1
      have hkl : k < sz := by have := (List.getElem?_eq_some_iff.1 hp).1; have := hu r (List.mem_of_getElem? hj); omega
      have hlt : j * sz + k < rows.length * sz := by
        have : (j + 1) * sz ≤ rows.length * sz := Nat.mul_le_mul_right _ hjl
        rw [Nat.succ_mul] at this
        omega
      have e1 : (j * sz + k) / sz = j := by rw [Nat.mul_comm, Nat.mul_add_div (by omega)]; simp [Nat.div_eq_of_lt hkl]
      have e2 : (j * sz + k) % sz = k := by rw [Nat.mul_comm, Nat.mul_add_mod, Nat.mod_eq_of_lt hkl]
      exact ⟨vs j k, by simp [hlt, e1, e2], hr j r k p hj hp⟩

theorem rows_append {S : Nat → Nat → Prop} {sz : Nat} {rows rows2 : List (List PV)} {xs news : List Value} (hx : xs.length = rows.length * sz)
    (h1 : ∀ j r, rows[j]? = some r → r.length = sz ∧ ∀ k p, r[k]? = some p → ∃ u, xs[j * sz + k]? = some u ∧ RepP S w p u)
    (h2 : ∀ j r, rows2[j]? = some r → r.length = sz ∧ ∀ k p, r[k]? = some p → ∃ u, news[j * sz + k]? = some u ∧ RepP S w p u) :
    ∀ j r, (rows ++ rows2)[j]? = some r → r.length = sz ∧ ∀ k p, r[k]? = some p → ∃ u, (xs ++ news)[j * sz + k]? = some u ∧ RepP S w p u := by
  intro j r hj
  rcases Nat.lt_or_ge j rows.length with hl | hl
  · rw [List.getElem?_append_left hl] at hj
    refine ⟨(h1 j r hj).1, fun k p hp => ?_⟩
    obtain ⟨u, hu, hr⟩ := (h1 j r hj).2 k p hp
    exact ⟨u, by rw [List.getElem?_append_left (List.getElem?_eq_some_iff.1 hu).1]; exact hu, hr⟩
  · rw [List.getElem?_append_right hl] at hj
    refine ⟨(h2 _ r hj).1, fun k p hp => ?_⟩
    obtain ⟨u, hu, hr⟩ := (h2 _ r hj).2 k p hp
    refine ⟨u, ?_, hr⟩
    have e : j * sz + k = xs.length + ((j - rows.length) * sz + k) := by
      rw [hx, Nat.sub_mul]
      have : rows.length * sz ≤ j * sz := Nat.mul_le_mul_right _ hl
      omega
    rw [e, List.getElem?_append_right (by omega), Nat.add_sub_cancel_left]
    exact hu

/-- What an append to a slice of the call's own gives: the same slice, with more rows. -/
theorem append_sound (hT : TabOK P T) (hm : Mem C G bk w) {t ty e : TypeId} {tt te : Ty} (ht : T.find t = some tt) (htd : tt.d = .slice e) (hte : T.find e = some te) (hpos : 0 < te.size) (hposb : 0 < te.bytes)
    {b : Nat} {rows rows2 : List (List PV)} {u v : Value} (hb : bk[b]? = some (.arr e te.size rows)) (hu : RepL G bk w (.own b rows.length) u) (hv : RepP G.S w (.sl te.size rows2) v)
    (hbound : (rows.length + rows2.length) * te.bytes ≤ 140737488355328) :
    ∃ G' w' x, (Builtin.append_ #[t, t] ty #[u, v]).run P w = .ok x w' ∧ Trn G bk w G' (bk.set b (.arr e te.size (rows ++ rows2))) w' ∧ Mem C G' (bk.set b (.arr e te.size (rows ++ rows2))) w' ∧
      RepL G' (bk.set b (.arr e te.size (rows ++ rows2))) w' (.own b (rows.length + rows2.length)) x := by
  have hsl := (hT t tt ht).slice e htd
  obtain ⟨i, z, hi, hisz, hiby, hiz, hzl, _⟩ := (hT e te hte).info
  have hzs : z.cells.size = te.size := by have := (hT e te hte).zs; rw [← hzl] at this; simpa using this
  have hbl := (List.getElem?_eq_some_iff.1 hb).1
  have hrow : rowsOf bk b = some (te.size, rows) := by unfold rowsOf; rw [hb]
  have hnewb : (bk.set b (.arr e te.size (rows ++ rows2)))[b]? = some (.arr e te.size (rows ++ rows2)) := List.getElem?_set_self hbl
  have hnrow : rowsOf (bk.set b (.arr e te.size (rows ++ rows2))) b = some (te.size, rows ++ rows2) := by unfold rowsOf; rw [hnewb]
  have hsmall : rows.length + rows2.length ≤ 140737488355328 := Nat.le_trans (Nat.le_mul_of_pos_right _ hposb) hbound
  obtain ⟨hone, szq, rowsq, hq, hle, hrep⟩ := hu
  rw [hrow] at hq
  cases hq
  have hrep := hrep rfl
  -- nothing is appended
  have none_case : rows2 = [] → (Builtin.append_ #[t, t] ty #[u, v]).run P w = .ok u w → ∃ G' w' x, (Builtin.append_ #[t, t] ty #[u, v]).run P w = .ok x w' ∧ Trn G bk w G' (bk.set b (.arr e te.size (rows ++ rows2))) w' ∧ Mem C G' (bk.set b (.arr e te.size (rows ++ rows2))) w' ∧
      RepL G' (bk.set b (.arr e te.size (rows ++ rows2))) w' (.own b (rows.length + rows2.length)) x := by
    rintro rfl hr
    have e0 : bk.set b (.arr e te.size (rows ++ [])) = bk := by
      rw [List.append_nil]
      apply List.ext_getElem?
      intro k
      by_cases hk : k = b
      · subst hk; rw [List.getElem?_set_self hbl, hb]
      · rw [List.getElem?_set_ne (Ne.symm hk)]
    rw [e0]
    exact ⟨G, w, u, hr, Trn.refl _ _ _, hm, ⟨hone, te.size, rows, hrow, by simp, fun _ => by simpa using hrep⟩⟩
  rcases rows_cells hv with ⟨rfl, rfl⟩ | ⟨a2, c2, news, rfl, hnl, hncell, hnone, hnrep⟩
  · refine none_case rfl ?_
    rcases hrep with ⟨g, hg, rfl⟩ | ⟨_, h0, rfl⟩
    · rcases hm.blk b _ hb with ⟨hq, _⟩ | ⟨g', cur, hg', h1, h2, h3, h4, h5⟩
      · rw [hg] at hq; cases hq
      simp [Builtin.append_, run_underlying hsl, sizeOf, typeInfo, hi, Builtin.lenOf, h4, Builtin.firstCells, storeCells]
    · simp [Builtin.append_, run_underlying hsl, sizeOf, typeInfo, hi, Builtin.lenOf, Builtin.firstCells]
  have hgrowcap : ∀ old, rows.length + rows2.length ≤ grownCap w (rows.length + rows2.length) old e := fun old => grownCap_ge w _ old e
  have hcapm : ∀ old, grownCap w (rows.length + rows2.length) old e ≤ maxLen := fun old => grownCap_le_maxLen w _ old e (by simp only [maxLen]; omega)
  rcases hrep with ⟨g, hg, rfl⟩ | ⟨hg, h0, rfl⟩
  · rcases hm.blk b _ hb with ⟨hq, _⟩ | ⟨g', cur, hg', h1, h2, h3, h4, h5⟩
    · rw [hg] at hq; cases hq
    rw [hg] at hg'
    cases hg'
    have hxl : (cur.toList.take (rows.length * te.size)).length = rows.length * te.size := by
      have : rows.length * te.size ≤ cur.size := by rw [h3]; exact Nat.mul_le_mul_right _ h4
      simp; omega
    have hxrep : ∀ j r, rows[j]? = some r → r.length = te.size ∧ ∀ k p, r[k]? = some p → ∃ u, (cur.toList.take (rows.length * te.size))[j * te.size + k]? = some u ∧ RepP G.S w p u := fun j r hj => ⟨(h5 j r hj).1, fun k p hp => by
      obtain ⟨u, hu, hr⟩ := (h5 j r hj).2 k p hp
      have hjl := (List.getElem?_eq_some_iff.1 hj).1
      have hkl : k < te.size := by have := (List.getElem?_eq_some_iff.1 hp).1; have := (h5 j r hj).1; omega
      have hlt : j * te.size + k < rows.length * te.size := by
        have : (j + 1) * te.size ≤ rows.length * te.size := Nat.mul_le_mul_right _ hjl
        rw [Nat.succ_mul] at this
        omega
      exact ⟨u, by rw [List.getElem?_take_of_lt hlt]; simpa using hu, hr⟩⟩
    by_cases hroom : rows.length + rows2.length ≤ G.cp b
    · -- in place
      have hfit : rows.length * i.size + news.length ≤ cur.size := by rw [hnl, hisz, h3, ← Nat.add_mul]; exact Nat.mul_le_mul_right _ hroom
      have hr := run_append_room (P := P) w t ty e i hsl hi g rows.length (G.cp b) cur h1 a2 rows2.length c2 news (by rw [hisz]; exact hnl) hncell hnone hroom hfit
      rw [hisz] at hr hfit
      have hrows := rows_append (S := G.S) (w := w) hxl hxrep hnrep
      have hgenB : ∀ (W : World), (∀ p u, RepP G.S w p u → RepP G.S W p u) → ∀ j r, (rows ++ rows2)[j]? = some r → r.length = te.size ∧ ∀ k p, r[k]? = some p → ∃ u, (cur.toList.take (rows.length * te.size) ++ news ++ cur.toList.drop (rows.length * te.size + news.length)).toArray[j * te.size + k]? = some u ∧ RepP G.S W p u := fun W hW j r hj => ⟨(hrows j r hj).1, fun k p hp => by
        obtain ⟨u, hu, hrp⟩ := (hrows j r hj).2 k p hp
        exact ⟨u, by rw [List.getElem?_toArray, List.getElem?_append_left (List.getElem?_eq_some_iff.1 hu).1]; exact hu, hW _ _ hrp⟩⟩
      by_cases hz : rows2.length = 0
      · have hz' : rows2 = [] := List.eq_nil_of_length_eq_zero hz
        have hnz : news = [] := List.eq_nil_of_length_eq_zero (by rw [hnl, hz]; simp)
        refine none_case hz' ?_
        rw [hr, hz, hnz]
        congr 1
        simp only [List.append_nil, List.length_nil, Nat.add_zero, List.take_append_drop, Array.toArray_toList]
        exact setRow_self w g cur e (0, 0) h1
      · -- longer
        let w' := w.setRow g (cur.toList.take (rows.length * te.size) ++ news ++ cur.toList.drop (rows.length * te.size + news.length)).toArray
        have hoth : ∀ k, G.M b ≠ some k → w'.heap[k]? = w.heap[k]? := fun k hk => setRow_other w g k _ fun e => hk (by rw [hg, e])
        have halive := alive_arr hb
        have t0 : Trn G bk w G (bk.set b (.arr e te.size (rows ++ rows2))) w' := by
          refine ⟨fun _ _ h => h, fun g1 o hs => World.cell?_of_block (a := ⟨g1, o, none⟩) (hoth g1 (hm.sdis g1 o b hs halive)), by simp, fun k hk hrn => ?_, fun k sz' rows0 hrn => ?_⟩
          · have hkb : k ≠ b := fun e => by subst e; rw [hrow] at hrn; cases hrn
            exact ⟨by rw [rowsOf_set _ hkb]; exact hrn, rfl⟩
          · by_cases hkb : k = b
            · subst hkb
              rw [hrow] at hrn
              cases hrn
              exact ⟨_, hnrow, by simp, fun _ => ⟨rfl, rfl⟩⟩
            · exact ⟨rows0, by rw [rowsOf_set _ hkb]; exact hrn, Nat.le_refl _, fun _ => ⟨rfl, rfl⟩⟩
        have hm' : Mem C G (bk.set b (.arr e te.size (rows ++ rows2))) w' := by
          refine ⟨fun k B hk => ?_, fun k k' q hk hk' => hm.inj k k' q (by simpa using hk) (by simpa using hk'), fun q o k hs ha => ?_, fun q o hs => by have := hm.slt q o hs; simpa [w'] using this, fun k q hk hq => by have := hm.mlt k q (by simpa using hk) hq; simpa [w'] using this, fun k q hk => hm.new k q (by simpa using hk), hm.s0, hm.snew,
            hm.os, hm.tape, hm.output, by have := hm.size; simpa [w'] using this, fun q hq hn => ?_, by have := hm.mle; simpa using this, hm.t0.trans t0⟩
          · by_cases hkb : k = b
            · subst hkb
              rw [hnewb] at hk
              cases hk
              exact .inr ⟨g, _, hg, setRow_heap w g _ _ _ _ h1, h2, by simp only [List.size_toArray, List.length_append, hxl, List.length_drop, Array.length_toList]; omega, by simpa using hroom, hgenB w' fun p u h => t0.repP h⟩
            · rw [List.getElem?_set_ne (Ne.symm hkb)] at hk
              have hkl : k < bk.length := (List.getElem?_eq_some_iff.1 hk).1
              exact RepB.step t0 rfl rfl (fun q hq => hoth q fun e' => hkb (hm.inj k b q hkl hbl hq e')) (hm.blk k B hk)
          · by_cases hkb : k = b
            · subst hkb; exact hm.sdis q o k hs halive
            · exact hm.sdis q o k hs ((alive_set _ hkb).1 ha)
          · rw [hoth q ?_]
            · exact hm.block q hq hn
            · intro e1
              rcases hm.new b q hbl e1 with k1 | ⟨b', k1, k2⟩
              · omega
              · exact hn b' k1 k2
        exact ⟨G, w', _, hr, t0, hm', ⟨rfl, te.size, rows ++ rows2, hnrow, by simp, fun _ => .inl ⟨g, hg, rfl⟩⟩⟩
    · have hlt : G.cp b < rows.length + rows2.length := by omega
      have hpos2 : rows.length < (rows ++ rows2).length := by simp; omega
      have hr := run_append_grow (P := P) w t ty e i z hsl hi hiz ⟨g, 0, none⟩ rows.length (G.cp b) (cur.toList.take (rows.length * te.size)) (by rw [hisz]; exact hxl)
        (fun j u hj => by
          have hjl := (List.getElem?_eq_some_iff.1 hj).1
          rw [hxl] at hjl
          rw [List.getElem?_take_of_lt hjl] at hj
          rw [Addr.add_lit, Nat.zero_add, cell_of_row w _ _ _ _ _ h1]; simpa using hj)
        a2 rows2.length c2 news (by rw [hisz]; exact hnl) hncell hlt (by omega) (by rw [hiby]; exact growslice_fits hlt hbound)
      have hd := hm.drew
      have hrows := rows_append (S := G.S) (w := w) hxl hxrep hnrep
      obtain ⟨G', t1, m1, hM1, hc1⟩ := hd.2.grow b e te.size rows (rows ++ rows2) (((cur.toList.take (rows.length * te.size)).toArray ++ news.toArray) ++ Builtin.zeroCells z.cells (grownCap w (rows.length + rows2.length) (G.cp b) e - (rows.length + rows2.length)))
        (grownCap w (rows.length + rows2.length) (G.cp b) e) hb hpos2 ⟨hcapm _, by
          simp only [Array.size_append, List.size_toArray, size_zeroCells, hzs, hxl, hnl, ← Nat.add_mul]
          have := hgrowcap (G.cp b)
          congr 1; omega, by simpa using hgrowcap (G.cp b), fun j r hj => ⟨(hrows j r hj).1, fun k p hp => by
            obtain ⟨u, hu, hrp⟩ := (hrows j r hj).2 k p hp
            have hul := (List.getElem?_eq_some_iff.1 hu).1
            refine ⟨u, ?_, hd.1.repP hrp⟩
            rw [Array.getElem?_append_left (by simpa using hul), List.append_toArray, List.getElem?_toArray]
            exact hu⟩⟩
      exact ⟨G', _, _, hr, hd.1.trans t1, m1, ⟨rfl, te.size, rows ++ rows2, hnrow, by simp, fun _ => .inl ⟨_, hM1, by rw [hc1] <;> rfl⟩⟩⟩
  · have hrows0 : rows = [] := List.eq_nil_of_length_eq_zero h0
    subst hrows0
    by_cases hz : rows2.length = 0
    · have hz' : rows2 = [] := List.eq_nil_of_length_eq_zero hz
      have hnz : news = [] := List.eq_nil_of_length_eq_zero (by rw [hnl, hz]; simp)
      refine none_case hz' ?_
      simp [Builtin.append_, run_underlying hsl, sizeOf, typeInfo, hi, Builtin.lenOf, Builtin.firstCells, hz, loadCells, loadCellsFrom]
    · have hr := run_append_nil (P := P) w t ty e i z hsl hi hiz a2 rows2.length c2 news (by rw [hisz]; exact hnl) hncell (by omega) (by simp at hsmall; omega) (by
        rw [hiby]; simp only [List.length_nil, Nat.zero_add] at hbound; omega)
      have hd := hm.drew
      simp only [List.length_nil, Nat.zero_add] at hgrowcap hcapm
      obtain ⟨G', t1, m1, hM1, hc1⟩ := hd.2.grow b e te.size [] rows2 (news.toArray ++ Builtin.zeroCells z.cells (grownCap w rows2.length 0 e - rows2.length)) (grownCap w rows2.length 0 e) hb (by simp; omega)
        ⟨hcapm 0, by
          simp only [Array.size_append, List.size_toArray, size_zeroCells, hzs, hnl, ← Nat.add_mul]
          have := hgrowcap 0
          congr 1; omega, hgrowcap 0, fun j r hj => ⟨(hnrep j r hj).1, fun k p hp => by
            obtain ⟨u, hu, hrp⟩ := (hnrep j r hj).2 k p hp
            have hul := (List.getElem?_eq_some_iff.1 hu).1
            refine ⟨u, ?_, hd.1.repP hrp⟩
            rw [Array.getElem?_append_left (by simpa using hul), List.getElem?_toArray]
            exact hu⟩⟩
      simp only [List.nil_append, List.length_nil, Nat.zero_add] at hnrow ⊢
      exact ⟨G', _, _, hr, hd.1.trans t1, m1, ⟨rfl, te.size, rows2, hnrow, Nat.le_refl _, fun _ => .inl ⟨_, hM1, by rw [hc1] <;> rfl⟩⟩⟩
end
end Go.Rx
