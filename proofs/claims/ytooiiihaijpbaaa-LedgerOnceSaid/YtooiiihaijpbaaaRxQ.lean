/- Lent blocks, given back. -/
import Derived.Test.YtooiiihaijpbaaaRxP
set_option linter.unusedVariables false
set_option linter.unusedSimpArgs false
namespace Go.Rx
open Go.RowKit
section
variable {P : Program} {T : Tab} {C : Ctx} {G : Gh} {bk : List Blk} {w : World} {idx : List Nat}

theorem setAll_len : ∀ (bk : List Blk) (l : List Nat) (xs : List Blk), (setAll bk l xs).length = bk.length
  | bk, [], xs => by cases xs <;> rfl
  | bk, b :: l, [] => rfl
  | bk, b :: l, x :: xs => by rw [setAll, setAll_len]; simp
theorem setAll_not : ∀ (l : List Nat) (bk : List Blk) (xs : List Blk) {b : Nat}, b ∉ l → (setAll bk l xs)[b]? = bk[b]?
  | [], bk, xs, b, _ => by cases xs <;> rfl
  | c :: l, bk, [], b, _ => rfl
  | c :: l, bk, x :: xs, b, h => by
    rw [setAll, setAll_not l _ xs (fun e => h (by simp [e]))]
    exact List.getElem?_set_ne (fun e => h (by simp [e]))
theorem setAll_at : ∀ (l : List Nat) (bk : List Blk) (xs : List Blk) {p b : Nat}, l.Nodup → (∀ c ∈ l, c < bk.length) → l.length ≤ xs.length → l[p]? = some b → (setAll bk l xs)[b]? = xs[p]?
  | [], bk, xs, p, b, _, _, _, h => by simp at h
  | c :: l, bk, [], p, b, _, _, hl, h => by simp at hl
  | c :: l, bk, x :: xs, 0, b, hnd, hlt, hl, h => by
    simp at h
    subst h
    rw [setAll, setAll_not l _ xs (List.nodup_cons.1 hnd).1]
    rw [List.getElem?_set_self (hlt _ (by simp))]
    rfl
  | c :: l, bk, x :: xs, p + 1, b, hnd, hlt, hl, h => by
    rw [setAll, setAll_at l _ xs (List.nodup_cons.1 hnd).2 (fun d hd => by simpa using hlt d (by simp [hd])) (by simpa using hl) (by simpa using h)]
    rfl
theorem idxOf_nodup {p b : Nat} (hnd : idx.Nodup) (h : idx[p]? = some b) : idx.idxOf? b = some p := by
  obtain ⟨hl, he⟩ := List.getElem?_eq_some_iff.1 h
  rw [List.idxOf?, List.findIdx?_eq_some_iff_getElem]
  refine ⟨hl, by simp [he], fun j hj => ?_⟩
  simp only [beq_iff_eq]
  intro e
  have := (List.getElem_inj hnd).1 (e.trans he.symm)
  omega
theorem idxOf_none {b : Nat} (h : b ∉ idx) : idx.idxOf? b = none := by
  rw [List.idxOf?, List.findIdx?_eq_none_iff]
  intro c hc
  simp only [beq_eq_false_iff_ne]
  rintro rfl
  exact h hc
theorem fa_map2 {α : Type} {R R' : α → Value → Prop} {f : α → α} (hf : ∀ l u, R l u → R' (f l) u) : ∀ {ls : List α} {us : List Value}, Fa R ls us → Fa R' (ls.map f) us
  | [], [], _ => trivial
  | _ :: _, _ :: _, h => ⟨hf _ _ h.1, fa_map2 hf h.2⟩
  | [], _ :: _, h => h.elim
  | _ :: _, [], h => h.elim

/-- The callee's number of a block, if it has one. -/
def invI (idx : List Nat) (n b : Nat) : Option Nat := match idx.idxOf? b with | some p => some p | none => if b < n then none else some (idx.length + (b - n))
/-- What the callee has left is the caller's again. -/
theorem Mem.back (h : Mem C G bk w) (hnd : idx.Nodup) {B B1 : List Blk} (hB : pickB idx bk idx = some B) {w' : World} {G1 : Gh} {n : Nat} (k : Mem ⟨w, G.pick idx, B, n⟩ G1 B1 w') :
    ∃ G', Trn G bk w G' (bkBs idx bk B1) w' ∧ Mem C G' (bkBs idx bk B1) w' ∧ ∀ x u, RepA G1 B1 w' x u → RepA G' (bkBs idx bk B1) w' (bkA idx bk.length x) u := by
  obtain ⟨hlen, hget⟩ := pickB_get hB
  have hm : idx.length ≤ B1.length := by have := k.mle; rw [← hlen]; exact this
  have hlt : ∀ c ∈ idx, c < bk.length := fun c hc => by
    obtain ⟨p, hp⟩ := List.getElem?_of_mem hc
    obtain ⟨X, _, h1, _⟩ := hget p c hp
    exact (List.getElem?_eq_some_iff.1 h1).1
  have hmem : ∀ p b, idx[p]? = some b → b ∈ idx := fun p b hp => List.mem_of_getElem? hp
  have hpl : ∀ p b, idx[p]? = some b → p < idx.length := fun p b hp => (List.getElem?_eq_some_iff.1 hp).1
  have hM0 : ∀ p b, idx[p]? = some b → (G.pick idx).M p = G.M b := fun p b hp => by simp [Gh.pick, hp]
  have hcp0 : ∀ p b, idx[p]? = some b → (G.pick idx).cp p = G.cp b := fun p b hp => by simp [Gh.pick, hp]
  have hrow0 : ∀ p b, idx[p]? = some b → rowsOf B p = rowsOf bk b := fun p b hp => by
    obtain ⟨X, Y, h1, h2, h3⟩ := hget p b hp
    unfold rowsOf
    rw [h1, h3]
    cases X with
    | var cells => simp [renB] at h2; obtain ⟨c, _, rfl⟩ := h2; rfl
    | _ => simp [renB] at h2; subst h2; rfl
  let G' : Gh := { M := fun b => match invI idx bk.length b with | some p => G1.M p | none => G.M b, S := G1.S, cp := fun b => match invI idx bk.length b with | some p => G1.cp p | none => G.cp b }
  -- where a block comes from
  have split : ∀ b, b < (bkBs idx bk B1).length → (b < bk.length ∧ b ∉ idx ∧ invI idx bk.length b = none) ∨ ∃ p, p < B1.length ∧ b = bkI idx bk.length p := fun b hb => by
    have hb' : b < bk.length + (B1.length - idx.length) := by
      unfold bkBs at hb
      rw [List.length_append, setAll_len, List.length_drop, List.length_map] at hb
      exact hb
    by_cases hi : b ∈ idx
    · obtain ⟨p, hp⟩ := List.getElem?_of_mem hi
      exact .inr ⟨p, by have := hpl p b hp; omega, by unfold bkI; rw [hp]⟩
    · rcases Nat.lt_or_ge b bk.length with hl | hl
      · exact .inl ⟨hl, hi, by unfold invI; rw [idxOf_none hi]; simp [hl]⟩
      · refine .inr ⟨idx.length + (b - bk.length), by omega, ?_⟩
        unfold bkI
        rw [List.getElem?_eq_none (by omega)]
        simp only
        omega
  have inv : ∀ p, p < B1.length → invI idx bk.length (bkI idx bk.length p) = some p := fun p hp => by
    unfold bkI invI
    cases hi : idx[p]? with
    | some b => simp only; rw [idxOf_nodup hnd hi]
    | none =>
      have hge : idx.length ≤ p := by rw [List.getElem?_eq_none_iff] at hi; exact hi
      simp only
      rw [idxOf_none (fun e => by have := hlt _ e; omega)]
      simp only
      rw [if_neg (by omega)]
      congr 1
      omega
  have hMn : ∀ p, p < B1.length → G'.M (bkI idx bk.length p) = G1.M p := fun p hp => by show (match invI idx bk.length (bkI idx bk.length p) with | some p => G1.M p | none => _) = _; rw [inv p hp]
  have hcn : ∀ p, p < B1.length → G'.cp (bkI idx bk.length p) = G1.cp p := fun p hp => by show (match invI idx bk.length (bkI idx bk.length p) with | some p => G1.cp p | none => _) = _; rw [inv p hp]
  have hMo : ∀ b, invI idx bk.length b = none → G'.M b = G.M b := fun b hb => by show (match invI idx bk.length b with | some p => G1.M p | none => G.M b) = _; rw [hb]
  have hco : ∀ b, invI idx bk.length b = none → G'.cp b = G.cp b := fun b hb => by show (match invI idx bk.length b with | some p => G1.cp p | none => G.cp b) = _; rw [hb]
  have hgn : ∀ p, p < B1.length → (bkBs idx bk B1)[bkI idx bk.length p]? = (B1[p]?).map (bkB idx bk.length) := fun p hp => by
    unfold bkBs bkI
    cases hi : idx[p]? with
    | some b =>
      simp only
      rw [List.getElem?_append_left (by rw [setAll_len]; exact hlt b (hmem p b hi)), setAll_at idx bk _ hnd hlt (by rw [List.length_map]; exact hm) hi, List.getElem?_map]
    | none =>
      have hge : idx.length ≤ p := by rw [List.getElem?_eq_none_iff] at hi; exact hi
      simp only
      rw [List.getElem?_append_right (by rw [setAll_len]; omega), setAll_len, List.getElem?_drop, List.getElem?_map]
      congr 2
      omega
  have hgo : ∀ b, b < bk.length → b ∉ idx → (bkBs idx bk B1)[b]? = bk[b]? := fun b hb hi => by
    unfold bkBs
    rw [List.getElem?_append_left (by rw [setAll_len]; exact hb), setAll_not idx bk _ hi]
  have hlenB : bk.length ≤ (bkBs idx bk B1).length := by unfold bkBs; rw [List.length_append, setAll_len]; omega
  have hltB : ∀ p, p < B1.length → bkI idx bk.length p < (bkBs idx bk B1).length := fun p hp => by
    have := hgn p hp
    rw [List.getElem?_eq_getElem hp] at this
    exact (List.getElem?_eq_some_iff.1 this).1
  have hrn : ∀ p, p < B1.length → rowsOf (bkBs idx bk B1) (bkI idx bk.length p) = rowsOf B1 p := fun p hp => by
    unfold rowsOf
    rw [hgn p hp]
    cases B1[p]? with
    | none => rfl
    | some X => cases X <;> rfl
  have hro : ∀ b, b < bk.length → b ∉ idx → rowsOf (bkBs idx bk B1) b = rowsOf bk b := fun b hb hi => by unfold rowsOf; rw [hgo b hb hi]
  have hS : ∀ g o, G1.S g o → G.S g o ∨ w.heap.size ≤ g ∨ ∃ p b, idx[p]? = some b ∧ G.M b = some g := fun g o hs => by
    rcases k.snew g o hs with h1 | h1 | ⟨p, h1, h2⟩
    · exact .inl h1
    · exact .inr (.inl h1)
    · obtain ⟨b, hb⟩ : ∃ b, idx[p]? = some b := ⟨idx[p]'(by rw [← hlen]; exact h1), List.getElem?_eq_getElem _⟩
      exact .inr (.inr ⟨p, b, hb, by rw [← hM0 p b hb]; exact h2⟩)
  have hnew : ∀ p g, p < B1.length → G1.M p = some g → w.heap.size ≤ g ∨ ∃ q b, idx[q]? = some b ∧ G.M b = some g := fun p g hp hg => by
    rcases k.new p g hp hg with h1 | ⟨q, h1, h2⟩
    · exact .inl h1
    · obtain ⟨b, hb⟩ : ∃ b, idx[q]? = some b := ⟨idx[q]'(by rw [← hlen]; exact h1), List.getElem?_eq_getElem _⟩
      exact .inr ⟨q, b, hb, by rw [← hM0 q b hb]; exact h2⟩
  have hold : ∀ g, g < w.heap.size → (∀ b ∈ idx, G.M b ≠ some g) → w'.heap[g]? = w.heap[g]? := fun g hg hn => k.block g hg fun p hp e => by
    obtain ⟨b, hb⟩ : ∃ b, idx[p]? = some b := ⟨idx[p]'(by rw [← hlen]; exact hp), List.getElem?_eq_getElem _⟩
    exact hn b (hmem p b hb) (by rw [← hM0 p b hb]; exact e)
  have t : Trn G bk w G' (bkBs idx bk B1) w' := by
    refine ⟨k.t0.S, k.t0.cell, hlenB, fun b hb hr => ?_, fun b sz rows hr => ?_⟩
    · by_cases hi : b ∈ idx
      · obtain ⟨p, hp⟩ := List.getElem?_of_mem hi
        have hpB : p < B.length := by rw [hlen]; exact hpl p b hp
        have hp1 : p < B1.length := by have := hpl p b hp; omega
        have hbi : bkI idx bk.length p = b := by unfold bkI; rw [hp]
        obtain ⟨h1, h2⟩ := k.t0.var p hpB (by rw [hrow0 p b hp]; exact hr)
        refine ⟨by rw [← hbi, hrn p hp1]; exact h1, ?_⟩
        have e1 := hMn p hp1
        rw [hbi] at e1
        rw [e1, h2]
        exact hM0 p b hp
      · exact ⟨by rw [hro b hb hi]; exact hr, hMo b (by unfold invI; rw [idxOf_none hi]; simp [hb])⟩
    · have hb := rowsOf_lt hr
      by_cases hi : b ∈ idx
      · obtain ⟨p, hp⟩ := List.getElem?_of_mem hi
        have hp1 : p < B1.length := by have := hpl p b hp; omega
        have hbi : bkI idx bk.length p = b := by unfold bkI; rw [hp]
        obtain ⟨rows', h1, h2, h3⟩ := k.t0.row p sz rows (by rw [hrow0 p b hp]; exact hr)
        refine ⟨rows', by rw [← hbi, hrn p hp1]; exact h1, h2, fun e => ?_⟩
        obtain ⟨h4, h5⟩ := h3 e
        have e1 := hMn p hp1
        have e2 := hcn p hp1
        rw [hbi] at e1 e2
        exact ⟨by rw [e1, h4]; exact hM0 p b hp, by rw [e2, h5]; exact hcp0 p b hp⟩
      · have hin : invI idx bk.length b = none := by unfold invI; rw [idxOf_none hi]; simp [hb]
        exact ⟨rows, by rw [hro b hb hi]; exact hr, Nat.le_refl _, fun _ => ⟨hMo b hin, hco b hin⟩⟩
  have repLn : ∀ l u, RepL G1 B1 w' l u → RepL G' (bkBs idx bk B1) w' (bkL idx bk.length l) u := fun l u hl => by
    cases l with
    | pv p => exact hl
    | ro p => exact hl
    | fn f c => exact hl
    | ptr b off =>
      obtain ⟨⟨g, hg, rfl⟩, hb, hr⟩ := hl
      exact ⟨⟨g, by rw [hMn b hb]; exact hg, rfl⟩, hltB b hb, by rw [hrn b hb]; exact hr⟩
    | ept b m i sz off =>
      obtain ⟨h1, rows, h2, h3, h4⟩ := hl
      have hb := rowsOf_lt h2
      exact ⟨h1, rows, by rw [hrn b hb]; exact h2, h3, fun e => by rw [hMn b hb]; exact h4 e⟩
    | own b len =>
      obtain ⟨h1, sz, rows, h2, h3, h4⟩ := hl
      have hb := rowsOf_lt h2
      exact ⟨h1, sz, rows, by rw [hrn b hb]; exact h2, h3, fun e => by rw [hMn b hb, hcn b hb]; exact h4 e⟩
  refine ⟨G', t, ⟨fun b X hX => ?_, fun b b' g hb hb' e e' => ?_, fun g o b hs ha e => ?_, k.slt, fun b g hb e => ?_, fun b g hb e => ?_, fun g o hs => k.t0.S g o (h.s0 g o hs), fun g o hs => ?_, k.os.trans h.os, k.tape.trans h.tape, k.output.trans h.output, Nat.le_trans h.size k.size,
    fun g hg hn' => ?_, Nat.le_trans h.mle hlenB, h.t0.trans t⟩, fun x u hx => ?_⟩
  · rcases split b (List.getElem?_eq_some_iff.1 hX).1 with ⟨hl, hi, hin⟩ | ⟨p, hp, rfl⟩
    · rw [hgo b hl hi] at hX
      exact RepB.step t (hMo b hin) (hco b hin) (fun g hg => hold g (h.mlt b g hl hg) fun c hc e => hi (by rw [h.inj b c g hl (hlt c hc) hg e]; exact hc)) (h.blk b X hX)
    · rw [hgn p hp, Option.map_eq_some_iff] at hX
      obtain ⟨Y, hY, rfl⟩ := hX
      have hk := k.blk p Y hY
      cases Y with
      | var cells =>
        obtain ⟨g, cur, ty, h1, h2, h3⟩ := hk
        exact ⟨g, cur, ty, by rw [hMn p hp]; exact h1, h2, fa_map2 repLn h3⟩
      | arr e sz rows =>
        rcases hk with ⟨h1, h2⟩ | ⟨g, cur, h0, h1, h2, h3, h4, h5⟩
        · exact .inl ⟨by rw [hMn p hp]; exact h1, h2⟩
        · exact .inr ⟨g, cur, by rw [hMn p hp]; exact h0, h1, by rw [hcn p hp]; exact h2, by rw [hcn p hp]; exact h3, by rw [hcn p hp]; exact h4, h5⟩
      | frz sz rows =>
        rcases hk with ⟨h1, h2⟩ | ⟨g, h1, h2, h3⟩
        · exact .inl ⟨by rw [hMn p hp]; exact h1, h2⟩
        · exact .inr ⟨g, by rw [hMn p hp]; exact h1, by rw [hcn p hp]; exact h2, h3⟩
      | frv cells => obtain ⟨g, h1, h2⟩ := hk; exact ⟨g, by rw [hMn p hp]; exact h1, h2⟩
      | dead => trivial
      | lost sz rows => exact (hMn p hp).trans hk
  · rcases split b hb with ⟨hl, hi, hin⟩ | ⟨p, hp, rfl⟩ <;> rcases split b' hb' with ⟨hl', hi', hin'⟩ | ⟨p', hp', rfl⟩
    · rw [hMo b hin] at e; rw [hMo b' hin'] at e'; exact h.inj b b' g hl hl' e e'
    · rw [hMo b hin] at e; rw [hMn p' hp'] at e'
      rcases hnew p' g hp' e' with h1 | ⟨q, c, hc, h1⟩
      · have := h.mlt b g hl e; omega
      · exact absurd (h.inj b c g hl (hlt c (hmem q c hc)) e h1 ▸ hmem q c hc) hi
    · rw [hMn p hp] at e; rw [hMo b' hin'] at e'
      rcases hnew p g hp e with h1 | ⟨q, c, hc, h1⟩
      · have := h.mlt b' g hl' e'; omega
      · exact absurd (h.inj b' c g hl' (hlt c (hmem q c hc)) e' h1 ▸ hmem q c hc) hi'
    · rw [hMn p hp] at e; rw [hMn p' hp'] at e'; rw [k.inj p p' g hp hp' e e']
  · rcases split b (alive_lt ha) with ⟨hl, hi, hin⟩ | ⟨p, hp, rfl⟩
    · rw [hMo b hin] at e
      have hab : Alive bk b := by unfold Alive at ha ⊢; rw [hgo b hl hi] at ha; exact ha
      rcases hS g o hs with h1 | h1 | ⟨q, c, hc, h1⟩
      · exact h.sdis g o b h1 hab e
      · have := h.mlt b g hl e; omega
      · exact hi (h.inj b c g hl (hlt c (hmem q c hc)) e h1 ▸ hmem q c hc)
    · rw [hMn p hp] at e
      refine k.sdis g o p hs ?_ e
      unfold Alive at ha ⊢
      rw [hgn p hp] at ha
      cases hY : B1[p]? with
      | none => rw [hY] at ha; exact ha
      | some Y => rw [hY] at ha; cases Y <;> exact ha
  · rcases split b hb with ⟨hl, hi, hin⟩ | ⟨p, hp, rfl⟩
    · rw [hMo b hin] at e; exact Nat.lt_of_lt_of_le (h.mlt b g hl e) k.size
    · rw [hMn p hp] at e; exact k.mlt p g hp e
  · rcases split b hb with ⟨hl, hi, hin⟩ | ⟨p, hp, rfl⟩
    · rw [hMo b hin] at e; exact h.new b g hl e
    · rw [hMn p hp] at e
      rcases hnew p g hp e with h1 | ⟨q, c, hc, h1⟩
      · exact .inl (Nat.le_trans h.size h1)
      · exact h.new c g (hlt c (hmem q c hc)) h1
  · rcases hS g o hs with h1 | h1 | ⟨q, c, hc, h1⟩
    · exact h.snew g o h1
    · exact .inr (.inl (Nat.le_trans h.size h1))
    · rcases h.new c g (hlt c (hmem q c hc)) h1 with h2 | h2
      · exact .inr (.inl h2)
      · exact .inr (.inr h2)
  · rw [hold g (Nat.lt_of_lt_of_le hg h.size) fun c hc e => ?_]
    · exact h.block g hg hn'
    · rcases h.new c g (hlt c hc) e with h2 | ⟨b', h2, h3⟩
      · omega
      · exact hn' b' h2 h3
  · cases x with
    | lf l => exact repLn l u hx
    | agg l => obtain ⟨us, rfl, hu⟩ := hx; exact ⟨us, rfl, fa_map2 repLn hu⟩
    | tup l =>
      obtain ⟨us, rfl, hu⟩ := hx
      refine ⟨us, rfl, fa_map2 (fun t u ht => ?_) hu⟩
      cases t with
      | lf l => exact repLn l u ht
      | agg l => obtain ⟨us, rfl, hu⟩ := ht; exact ⟨us, rfl, fa_map2 repLn hu⟩
    | un => trivial
end
end Go.Rx
