/- A slice of the call's own, cut short: its rows belong to a block anew. -/
import Derived.Test.YtooiiihaijpbaaaRx9
set_option linter.unusedVariables false
set_option linter.unusedSimpArgs false
namespace Go.Rx
open Go.RowKit

section
variable {P : Program} {T : Tab} {C : Ctx} {G : Gh} {sl : Nat → AV} {bk : List Blk} {a : Act} {w : World}

def cutB (bk : List Blk) (b e sz : Nat) (rows : List (List PV)) (k : Nat) : List Blk := bk.set b (.lost sz (rows ++ [[]])) ++ [.arr e sz (rows.take k)]
theorem Mem.cut (h : Mem C G bk w) {b e sz : Nat} {rows : List (List PV)} (hb : bk[b]? = some (.arr e sz rows)) (k : Nat) (hk : k ≤ rows.length) :
    ∃ G', Trn G bk w G' (cutB bk b e sz rows k) w ∧ Mem C G' (cutB bk b e sz rows k) w ∧ G'.M bk.length = G.M b ∧ G'.cp bk.length = G.cp b := by
  have hbl : b < bk.length := (List.getElem?_eq_some_iff.1 hb).1
  have hrb : rowsOf bk b = some (sz, rows) := by unfold rowsOf; rw [hb]
  let G' : Gh := { M := fun i => if i = bk.length then G.M b else if i = b then none else G.M i, S := G.S, cp := fun i => if i = bk.length then G.cp b else G.cp i }
  have hlen : (cutB bk b e sz rows k).length = bk.length + 1 := by simp [cutB]
  have g0 : ∀ i, i < bk.length → i ≠ b → (cutB bk b e sz rows k)[i]? = bk[i]? := fun i hi hn => by
    unfold cutB
    rw [List.getElem?_append_left (by simpa using hi), List.getElem?_set_ne (Ne.symm hn)]
  have gb : (cutB bk b e sz rows k)[b]? = some (.lost sz (rows ++ [[]])) := by
    unfold cutB
    rw [List.getElem?_append_left (by simpa using hbl), List.getElem?_set_self hbl]
  have gn : (cutB bk b e sz rows k)[bk.length]? = some (.arr e sz (rows.take k)) := by
    unfold cutB
    rw [List.getElem?_append_right (by simp)]; simp
  have hM : ∀ i, i < bk.length → i ≠ b → G'.M i = G.M i := fun i hi hn => by
    show (if i = bk.length then _ else if i = b then _ else _) = _
    rw [if_neg (by omega), if_neg hn]
  have hMb : G'.M b = none := by
    show (if b = bk.length then _ else if b = b then _ else _) = _
    rw [if_neg (by omega), if_pos rfl]
  have hMn : G'.M bk.length = G.M b := if_pos rfl
  have hc : ∀ i, i < bk.length → G'.cp i = G.cp i := fun i hi => if_neg (by omega)
  have hcn : G'.cp bk.length = G.cp b := if_pos rfl
  have hro : ∀ i, i < bk.length → i ≠ b → rowsOf (cutB bk b e sz rows k) i = rowsOf bk i := fun i hi hn => by unfold rowsOf; rw [g0 i hi hn]
  have hrlost : rowsOf (cutB bk b e sz rows k) b = some (sz, rows ++ [[]]) := by unfold rowsOf; rw [gb]
  have ab : Alive bk b := by unfold Alive; rw [hb]; trivial
  have t : Trn G bk w G' (cutB bk b e sz rows k) w := by
    refine ⟨fun _ _ h => h, fun _ _ _ => rfl, by rw [hlen]; omega, fun i hi hr => ?_, fun i s r hr => ?_⟩
    · have hn : i ≠ b := fun e => by subst e; rw [hrb] at hr; cases hr
      exact ⟨by rw [hro i hi hn]; exact hr, hM i hi hn⟩
    · by_cases hn : i = b
      · subst hn
        rw [hrb] at hr
        cases hr
        refine ⟨_, hrlost, by simp, fun h => ?_⟩
        simp at h
      · exact ⟨r, by rw [hro i (rowsOf_lt hr) hn]; exact hr, Nat.le_refl _, fun _ => ⟨hM i (rowsOf_lt hr) hn, hc i (rowsOf_lt hr)⟩⟩
  have split : ∀ i, i < (cutB bk b e sz rows k).length → (i < bk.length ∧ i ≠ b) ∨ i = b ∨ i = bk.length := fun i hi => by rw [hlen] at hi; omega
  refine ⟨G', t, ⟨fun i B hB => ?_, fun i j g hi hj e1 e2 => ?_, fun g o i hs ha e1 => ?_, h.slt, fun i g hi e1 => ?_, fun i g hi e1 => ?_, h.s0, h.snew, h.os, h.tape, h.output, h.size, h.block, by rw [hlen]; have := h.mle; omega, h.t0.trans t⟩, hMn, hcn⟩
  · rcases split i (List.getElem?_eq_some_iff.1 hB).1 with ⟨h1, h2⟩ | rfl | rfl
    · rw [g0 i h1 h2] at hB
      exact RepB.step t (hM i h1 h2) (hc i h1) (fun _ _ => rfl) (h.blk i B hB)
    · rw [gb] at hB
      cases hB
      exact hMb
    · rw [gn] at hB
      cases hB
      rcases h.blk b _ hb with ⟨h1, h2⟩ | ⟨g, cur, h0, h1, h2, h3, h4, h5⟩
      · exact .inl ⟨by rw [hMn]; exact h1, by rw [h2]; simp⟩
      · refine .inr ⟨g, cur, by rw [hMn]; exact h0, h1, by rw [hcn]; exact h2, by rw [hcn]; exact h3, by rw [hcn, List.length_take]; omega, fun j r hj => ?_⟩
        have hj' : rows[j]? = some r := by
          have hl := (List.getElem?_eq_some_iff.1 hj).1
          rw [List.getElem?_take_of_lt (by simp at hl; omega)] at hj
          exact hj
        obtain ⟨k1, k2⟩ := h5 j r hj'
        exact ⟨k1, fun c p hp => by obtain ⟨u, hu, hr⟩ := k2 c p hp; exact ⟨u, hu, t.repP hr⟩⟩
  · rcases split i hi with ⟨h1, h2⟩ | rfl | rfl <;> rcases split j hj with ⟨h3, h4⟩ | rfl | rfl
    · rw [hM i h1 h2] at e1; rw [hM j h3 h4] at e2; exact h.inj i j g h1 h3 e1 e2
    · rw [hMb] at e2; cases e2
    · rw [hM i h1 h2] at e1; rw [hMn] at e2; exact absurd (h.inj i b g h1 hbl e1 e2) h2
    · rw [hMb] at e1; cases e1
    · rfl
    · rw [hMb] at e1; cases e1
    · rw [hMn] at e1; rw [hM j h3 h4] at e2; exact absurd (h.inj j b g h3 hbl e2 e1) h4
    · rw [hMb] at e2; cases e2
    · rfl
  · rcases split i (alive_lt ha) with ⟨h1, h2⟩ | rfl | rfl
    · rw [hM i h1 h2] at e1
      exact h.sdis g o i hs (by unfold Alive at ha ⊢; rw [g0 i h1 h2] at ha; exact ha) e1
    · rw [hMb] at e1; cases e1
    · rw [hMn] at e1
      exact h.sdis g o b hs ab e1
  · rcases split i hi with ⟨h1, h2⟩ | rfl | rfl
    · rw [hM i h1 h2] at e1; exact h.mlt i g h1 e1
    · rw [hMb] at e1; cases e1
    · rw [hMn] at e1; exact h.mlt b g hbl e1
  · rcases split i hi with ⟨h1, h2⟩ | rfl | rfl
    · rw [hM i h1 h2] at e1; exact h.new i g h1 e1
    · rw [hMb] at e1; cases e1
    · rw [hMn] at e1; exact h.new b g hbl e1

/-- s[:k] of a slice of the call's own: k of its rows. -/
def cutK (T : Tab) (t : TypeId) (x : Operand) (hi : Operand) (ρ : Operand → AV) (bk : List Blk) (K : AV → List Blk → Prop) : Prop :=
  match ρ x with
  | .lf (.own b len) =>
    (match bk[b]? with
     | some (.arr e sz rows) =>
       (match elemOf? T t, bnd (some (ρ hi)) 0 with
        | some (_, te), some h => bif Nat.beq te.size sz then rows.length = len ∧ 0 ≤ h ∧ h ≤ len ∧ K (.lf (.own bk.length h.toNat)) (cutB bk b e sz rows h.toNat) else False
        | _, _ => False)
     | _ => False)
  | _ => False
theorem cutK_sound (hT : TabOK P T) (hm : Mem C G bk w) {ρ : Operand → AV} {e : Operand → Value} (hr : ∀ x, RepA G bk w (ρ x) (e x)) {dst : Option Nat} {t : TypeId} {x hi : Operand} {type : TypeId} {pos : String} {after : Array Edge} {guard : Option (Nat × Bool)} {K : AV → List Blk → Prop}
    (h : cutK T t x hi ρ bk K) : Out P C G bk w K ((execOp e ⟨dst, .slice t x none (some hi) none, type, pos, after, guard⟩).run P w) := by
  unfold cutK at h
  split at h
  case h_2 => exact h.elim
  rename_i b len hx
  split at h
  case h_2 => exact h.elim
  rename_i ety sz rows hb
  split at h
  case h_2 => exact h.elim
  rename_i ee te hh hte hbn
  obtain ⟨k1, k2, _⟩ := elemOf_spec hT hte
  cases hbs : Nat.beq te.size sz with
  | false => rw [hbs] at h; exact h.elim
  | true =>
  rw [hbs] at h
  have es : te.size = sz := Nat.eq_of_beq_eq_true hbs
  simp only [cond_true] at h
  obtain ⟨hlen, h0, hle, hk⟩ := h
  -- the bound's value
  obtain ⟨kk, hz⟩ : ∃ k, e hi = .int k hh := by
    simp only [bnd] at hbn
    split at hbn
    · rename_i q; cases q
    · rename_i k n' hq
      cases hbn
      have := hr hi
      rw [Option.some.inj hq] at this
      exact ⟨k, (sc_rep this).1⟩
    · cases hbn
  have hx0 := hr x
  rw [hx] at hx0
  have e1 : ((hh.toNat : Nat) : Int) = hh := Int.toNat_of_nonneg h0
  have hrun : ∀ (a : Option Addr) (cap : Nat), e x = .slice a len cap → len ≤ cap → (execOp e ⟨dst, .slice t x none (some hi) none, type, pos, after, guard⟩).run P w =
      .ok (.value (.slice (if cap = 0 then a else a.map (·.add 0)) hh.toNat cap)) w := fun a cap ex hc => by
    have hin : 0 ≤ hh ∧ hh ≤ cap := ⟨h0, by omega⟩
    simp only [execOp, Instr.sliceAt, Sem.run_bind, run_underlying k1, Result.andThen_ok, ex, Instr.slice]
    simp [Instr.sliceBounds, Instr.sliceBound, hz, asIntOf, hin, run_sizeOf hT k2, es]
  obtain ⟨G', t', m', hMn, hcn⟩ := hm.cut hb hh.toNat (by omega)
  obtain ⟨_, sz', rows', h2, _, h4⟩ := hx0
  have e2 : rowsOf bk b = some (sz, rows) := by unfold rowsOf; rw [hb]
  rw [e2] at h2
  cases h2
  have hrn : rowsOf (cutB bk b ety sz rows hh.toNat) bk.length = some (sz, rows.take hh.toNat) := by
    unfold rowsOf cutB
    rw [List.getElem?_append_right (by simp)]; simp
  have htl : (rows.take hh.toNat).length = hh.toNat := by rw [List.length_take]; omega
  rcases h4 hlen with ⟨g, hg, hv⟩ | ⟨hg, hl, hv⟩
  · have hcap : len ≤ G.cp b := by
      rcases hm.blk b _ hb with ⟨q, _⟩ | ⟨_, _, _, _, _, _, q, _⟩
      · rw [hg] at q; cases q
      · omega
    have ex := hrun (some ⟨g, 0, none⟩) (G.cp b) hv hcap
    have ea : (if G.cp b = 0 then some (⟨g, 0, none⟩ : Addr) else (some (⟨g, 0, none⟩ : Addr)).map (·.add 0)) = some ⟨g, 0, none⟩ := by
      split
      · rfl
      · simp [Addr.add_lit]
    rw [ea] at ex
    rw [ex]
    exact .value (x := .lf (.own bk.length hh.toNat)) t' m' ⟨rfl, sz, _, hrn, by omega, fun _ => .inl ⟨g, by rw [hMn]; exact hg, by rw [hcn]⟩⟩ hk
  · have hz0 : hh.toNat = 0 := by omega
    have ex := hrun none 0 (by rw [hv, hl]) (by omega)
    rw [if_pos rfl] at ex
    rw [ex]
    exact .value (x := .lf (.own bk.length hh.toNat)) t' m' ⟨rfl, sz, _, hrn, by omega, fun _ => .inr ⟨by rw [hMn]; exact hg, hz0, by rw [hz0]⟩⟩ hk
end
end Go.Rx
