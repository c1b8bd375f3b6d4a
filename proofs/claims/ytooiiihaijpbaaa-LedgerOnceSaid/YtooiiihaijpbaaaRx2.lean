/- How a world goes on: a draw, a new block, a store into a block of the call's own, a block that stays as it is from now on. -/
import Derived.Test.YtooiiihaijpbaaaRx1
namespace Go.Rx
open Go.RowKit

section
variable {C : Ctx} {G : Gh} {bk : List Blk} {w : World} {G' : Gh} {bk' : List Blk} {w' : World}

theorem rowsOf_lt {b : Nat} {x : Nat × List (List PV)} (h : rowsOf bk b = some x) : b < bk.length := by
  unfold rowsOf at h
  rcases Nat.lt_or_ge b bk.length with hl | hl
  · exact hl
  · rw [List.getElem?_eq_none hl] at h; cases h
theorem alive_lt {b : Nat} (h : Alive bk b) : b < bk.length := by
  unfold Alive at h
  rcases Nat.lt_or_ge b bk.length with hl | hl
  · exact hl
  · rw [List.getElem?_eq_none hl] at h; exact h.elim
theorem rowsOf_append {b : Nat} (l : List Blk) (h : b < bk.length) : rowsOf (bk ++ l) b = rowsOf bk b := by
  unfold rowsOf; rw [List.getElem?_append_left h]
theorem alive_append {b : Nat} (l : List Blk) (h : b < bk.length) : Alive (bk ++ l) b ↔ Alive bk b := by
  unfold Alive; rw [List.getElem?_append_left h]
theorem rowsOf_set {b b' : Nat} (B : Blk) (h : b' ≠ b) : rowsOf (bk.set b B) b' = rowsOf bk b' := by
  unfold rowsOf; rw [List.getElem?_set_ne (Ne.symm h)]
theorem alive_set {b b' : Nat} (B : Blk) (h : b' ≠ b) : Alive (bk.set b B) b' ↔ Alive bk b' := by
  unfold Alive; rw [List.getElem?_set_ne (Ne.symm h)]

theorem RepB.step (t : Trn G bk w G' bk' w') {b : Nat} {B : Blk} (hM : G'.M b = G.M b) (hc : G'.cp b = G.cp b) (hh : ∀ g, G.M b = some g → w'.heap[g]? = w.heap[g]?) (h : RepB G bk w b B) : RepB G' bk' w' b B := by
  cases B with
  | var cells => obtain ⟨g, cur, ty, h0, h1, h2⟩ := h; exact ⟨g, cur, ty, by rw [hM]; exact h0, by rw [hh g h0]; exact h1, h2.mono fun _ _ => t.repL⟩
  | arr ety sz rows =>
    rcases h with h | ⟨g, cur, h0, h1, h2, h3, h4, h5⟩
    · exact .inl ⟨by rw [hM]; exact h.1, h.2⟩
    refine .inr ⟨g, cur, by rw [hM]; exact h0, by rw [hh g h0]; exact h1, by rw [hc]; exact h2, by rw [hc]; exact h3, by rw [hc]; exact h4, fun j r hj => ⟨(h5 j r hj).1, fun c p hp => ?_⟩⟩
    obtain ⟨u, hu, hr⟩ := (h5 j r hj).2 c p hp
    exact ⟨u, hu, t.repP hr⟩
  | frz sz rows =>
    rcases h with h | ⟨g, h0, h1, h2⟩
    · exact .inl ⟨by rw [hM]; exact h.1, h.2⟩
    exact .inr ⟨g, by rw [hM]; exact h0, by rw [hc]; exact h1, fun j r hj => ⟨(h2 j r hj).1, t.cellsP (h2 j r hj).2⟩⟩
  | frv cells => obtain ⟨g, h0, h1⟩ := h; exact ⟨g, by rw [hM]; exact h0, t.cellsP h1⟩
  | dead => trivial
  | lost sz rows => exact hM.trans h

/-- A draw. -/
theorem Mem.drew (h : Mem C G bk w) : Trn G bk w G bk w.drew ∧ Mem C G bk w.drew := by
  have t : Trn G bk w G bk w.drew := ⟨fun _ _ h => h, fun _ _ _ => rfl, Nat.le_refl _, fun _ _ h => ⟨h, rfl⟩, fun _ _ rows h => ⟨rows, h, Nat.le_refl _, fun _ => ⟨rfl, rfl⟩⟩⟩
  exact ⟨t, ⟨fun b B hb => RepB.step t rfl rfl (fun _ _ => rfl) (h.blk b B hb), h.inj, h.sdis, h.slt, h.mlt, h.new, h.s0, h.snew, h.os, h.tape, h.output, h.size, h.block, h.mle, h.t0.trans t⟩⟩

/-- A new block; none where nothing is made (a slice of the call's own that is nil yet). -/
theorem Mem.alloc (h : Mem C G bk w) (o : Option Obj) (B : Blk) (c : Nat)
    (hB : ∀ G' : Gh, G'.S = G.S → G'.M bk.length = o.map (fun _ => w.heap.size) → G'.cp bk.length = c → Trn G bk w G' (bk ++ [B]) (o.elim w w.alloc) → RepB G' (bk ++ [B]) (o.elim w w.alloc) bk.length B) :
    ∃ G', Trn G bk w G' (bk ++ [B]) (o.elim w w.alloc) ∧ Mem C G' (bk ++ [B]) (o.elim w w.alloc) ∧ G'.M bk.length = o.map (fun _ => w.heap.size) ∧ G'.cp bk.length = c := by
  have hold : ∀ g, g < w.heap.size → (o.elim w w.alloc).heap[g]? = w.heap[g]? := fun g hg => by
    cases o with
    | none => rfl
    | some o => exact heap_alloc_old w o g hg
  have hsz : w.heap.size ≤ (o.elim w w.alloc).heap.size := by cases o <;> simp [Option.elim]
  have hsz1 : ∀ x, o.map (fun _ => w.heap.size) = some x → x = w.heap.size ∧ w.heap.size < (o.elim w w.alloc).heap.size := fun x hx => by
    cases o with
    | none => cases hx
    | some o => simp at hx; exact ⟨hx.symm, by simp [Option.elim]⟩
  have ho : (o.elim w w.alloc).os = w.os ∧ (o.elim w w.alloc).tape = w.tape ∧ (o.elim w w.alloc).output = w.output := by cases o <;> exact ⟨rfl, rfl, rfl⟩
  generalize hw' : o.elim w w.alloc = w' at *
  generalize hmo : o.map (fun _ => w.heap.size) = mo at *
  let G' : Gh := { M := fun b => if b = bk.length then mo else G.M b, S := G.S, cp := fun b => if b = bk.length then c else G.cp b }
  have hM : ∀ b, b < bk.length → G'.M b = G.M b := fun b hb => if_neg (by omega)
  have hc : ∀ b, b < bk.length → G'.cp b = G.cp b := fun b hb => if_neg (by omega)
  have hM0 : G'.M bk.length = mo := if_pos rfl
  have t : Trn G bk w G' (bk ++ [B]) w' := by
    refine ⟨fun _ _ h => h, fun g o hs => World.cell?_of_block (a := ⟨g, o, none⟩) (hold _ (h.slt g o hs)), by simp, fun b hb hr => ⟨by rw [rowsOf_append _ hb]; exact hr, hM b hb⟩, fun b sz rows hr => ⟨rows, by rw [rowsOf_append _ (rowsOf_lt hr)]; exact hr, Nat.le_refl _, fun _ => ⟨hM b (rowsOf_lt hr), hc b (rowsOf_lt hr)⟩⟩⟩
  have hlen : (bk ++ [B]).length = bk.length + 1 := by simp
  refine ⟨G', t, ⟨fun b B' hb => ?_, fun b b' g hb hb' e e' => ?_, fun g o b hs ha e => ?_, fun g o hs => ?_, fun b g hb e => ?_, fun b g hb e => ?_, h.s0, h.snew, ho.1.trans h.os, ho.2.1.trans h.tape, ho.2.2.trans h.output, ?_, fun g hg hn => ?_, ?_, h.t0.trans t⟩, hM0, if_pos rfl⟩
  · rcases Nat.lt_or_ge b bk.length with hl | hl
    · rw [List.getElem?_append_left hl] at hb
      exact RepB.step t (hM b hl) (hc b hl) (fun g hg => hold _ (h.mlt b g hl hg)) (h.blk b B' hb)
    · rw [List.getElem?_append_right hl] at hb
      have e0 : b - bk.length = 0 := by
        rcases Nat.eq_zero_or_pos (b - bk.length) with e | e
        · exact e
        · rw [List.getElem?_eq_none (by simp; omega)] at hb; cases hb
      rw [e0] at hb
      simp at hb
      obtain rfl : b = bk.length := by omega
      rw [← hb]
      exact hB G' rfl hM0 (if_pos rfl) t
  · rw [hlen] at hb hb'
    by_cases e1 : b = bk.length <;> by_cases e2 : b' = bk.length
    · omega
    · rw [e1, hM0] at e; rw [hM b' (by omega)] at e'; have := h.mlt b' g (by omega) e'; have := (hsz1 g e).1; omega
    · rw [e2, hM0] at e'; rw [hM b (by omega)] at e; have := h.mlt b g (by omega) e; have := (hsz1 g e').1; omega
    · rw [hM b (by omega)] at e; rw [hM b' (by omega)] at e'; exact h.inj b b' g (by omega) (by omega) e e'
  · have hs' := h.slt g o hs
    have hbl := alive_lt ha
    rw [hlen] at hbl
    by_cases e1 : b = bk.length
    · rw [e1, hM0] at e; have := (hsz1 g e).1; omega
    · rw [hM b (by omega)] at e
      exact h.sdis g o b hs ((alive_append _ (by omega)).1 ha) e
  · have := h.slt g o hs; omega
  · rw [hlen] at hb
    by_cases e1 : b = bk.length
    · rw [e1, hM0] at e; have := hsz1 g e; omega
    · rw [hM b (by omega)] at e; have := h.mlt b g (by omega) e; omega
  · rw [hlen] at hb
    by_cases e1 : b = bk.length
    · rw [e1, hM0] at e; have := hsz1 g e; have := h.size; exact .inl (by omega)
    · rw [hM b (by omega)] at e; exact h.new b g (by omega) e
  · have := h.size; omega
  · rw [hold _ (by have := h.size; omega)]; exact h.block g hg hn
  · have := h.mle; rw [hlen]; omega

/-- A store into one of the call's own blocks. -/
theorem Mem.setb (h : Mem C G bk w) (b : Nat) (ha : Alive bk b) (B : Blk) (hal : Alive (bk.set b B) b)
    (hrow : (rowsOf bk b = none ∧ rowsOf (bk.set b B) b = none) ∨ ∃ sz rows rows', rowsOf bk b = some (sz, rows) ∧ rowsOf (bk.set b B) b = some (sz, rows') ∧ rows'.length = rows.length)
    (hoth : ∀ g, G.M b ≠ some g → w'.heap[g]? = w.heap[g]?) (hsz : w'.heap.size = w.heap.size) (hos : w'.os = w.os) (htp : w'.tape = w.tape) (hou : w'.output = w.output)
    (hB : Trn G bk w G (bk.set b B) w' → RepB G (bk.set b B) w' b B) : Trn G bk w G (bk.set b B) w' ∧ Mem C G (bk.set b B) w' := by
  have hcell : ∀ g o, G.M b ≠ some g → w'.cell? ⟨g, o, none⟩ = w.cell? ⟨g, o, none⟩ := fun g o hg => World.cell?_of_block (a := ⟨g, o, none⟩) (hoth g hg)
  have t : Trn G bk w G (bk.set b B) w' := by
    refine ⟨fun _ _ h => h, fun g o hs => hcell g o (h.sdis g o b hs ha), by simp, fun k hk hr => ⟨?_, rfl⟩, fun k sz rows hr => ?_⟩
    · by_cases e : k = b
      · subst e
        rcases hrow with ⟨_, h2⟩ | ⟨sz, rows, _, h2, _⟩
        · exact h2
        · rw [hr] at h2; cases h2
      · rw [rowsOf_set B e]; exact hr
    · by_cases e : k = b
      · subst e
        rcases hrow with ⟨h1, _⟩ | ⟨sz', rows0, rows', h1, h2, h3⟩
        · rw [hr] at h1; cases h1
        · rw [hr] at h1; cases h1
          exact ⟨rows', h2, by omega, fun _ => ⟨rfl, rfl⟩⟩
      · exact ⟨rows, by rw [rowsOf_set B e]; exact hr, Nat.le_refl _, fun _ => ⟨rfl, rfl⟩⟩
  refine ⟨t, ⟨fun k B' hb => ?_, fun k k' g hk hk' => h.inj k k' g (by simpa using hk) (by simpa using hk'), fun g o k hs hk => ?_, fun g o hs => by rw [hsz]; exact h.slt g o hs, fun k g hk hg => by rw [hsz]; exact h.mlt k g (by simpa using hk) hg, fun k g hk => h.new k g (by simpa using hk), h.s0, h.snew,
    hos.trans h.os, htp.trans h.tape, hou.trans h.output, by rw [hsz]; exact h.size, fun g hg hn => ?_, by have := h.mle; simpa using this, h.t0.trans t⟩⟩
  · by_cases e : k = b
    · subst e
      have hl := alive_lt ha
      rw [List.getElem?_set_self hl] at hb
      cases hb
      exact hB t
    · rw [List.getElem?_set_ne (Ne.symm e)] at hb
      have hkl : k < bk.length := (List.getElem?_eq_some_iff.1 hb).1
      exact RepB.step t rfl rfl (fun g hg => hoth _ fun e' => e (h.inj k b g hkl (alive_lt ha) hg e')) (h.blk k B' hb)
  · by_cases e : k = b
    · subst e; exact h.sdis g o k hs ha
    · exact h.sdis g o k hs ((alive_set B e).1 hk)
  · rw [hoth g ?_]
    · exact h.block g hg hn
    · intro e
      rcases h.new b g (alive_lt ha) e with h1 | ⟨b', h1, h2⟩
      · omega
      · exact hn b' h1 h2

def pvOf : Lf → Option PV
  | .pv p => some p
  | _ => none
/-- A block stays as it is from here on. -/
def frzB : Blk → Option Blk
  | .arr _ sz rows => some (.frz sz rows)
  | .var cells => (cells.mapM pvOf).map Blk.frv
  | .frz sz rows => some (.frz sz rows)
  | .frv cells => some (.frv cells)
  | .dead => none
  | .lost _ _ => none

theorem mapM_pv : ∀ {cells : List Lf} {l : List PV}, (cells.mapM pvOf) = some l → cells = l.map Lf.pv
  | [], l, h => by simp at h; subst h; rfl
  | x :: cells, l, h => by
    rw [List.mapM_cons] at h
    cases x with
    | pv p =>
      simp only [pvOf, Option.bind_eq_bind, Option.bind_some] at h
      cases hq : (cells.mapM pvOf) with
      | none => rw [hq] at h; simp at h
      | some l' => rw [hq] at h; simp at h; subst h; simp [mapM_pv hq]
    | _ => simp [pvOf] at h

theorem Mem.frz (h : Mem C G bk w) (b : Nat) (B B' : Blk) (hb : bk[b]? = some B) (hB : frzB B = some B') :
    ∃ G', Trn G bk w G' (bk.set b B') w ∧ Mem C G' (bk.set b B') w ∧ G'.M = G.M ∧ G'.cp = G.cp ∧ G'.S = fun g o => G.S g o ∨ G.M b = some g := by
  let G' : Gh := { G with S := fun g o => G.S g o ∨ G.M b = some g }
  have hbl : b < bk.length := (List.getElem?_eq_some_iff.1 hb).1
  have hget : (bk.set b B')[b]? = some B' := by rw [List.getElem?_set_self hbl]
  have hrows : rowsOf (bk.set b B') b = rowsOf bk b := by
    unfold rowsOf
    rw [hget, hb]
    cases B <;> simp [frzB] at hB
    case var cells => obtain ⟨l, _, rfl⟩ := hB; rfl
    all_goals (subst hB; rfl)
  have hrow : ∀ k, rowsOf (bk.set b B') k = rowsOf bk k := fun k => by
    by_cases e : k = b
    · subst e; exact hrows
    · exact rowsOf_set B' e
  have t : Trn G bk w G' (bk.set b B') w := ⟨fun _ _ h => .inl h, fun _ _ _ => rfl, by simp, fun k hk hr => ⟨by rw [hrow]; exact hr, rfl⟩, fun k sz rows hr => ⟨rows, by rw [hrow]; exact hr, Nat.le_refl _, fun _ => ⟨rfl, rfl⟩⟩⟩
  have hdead : ¬ Alive (bk.set b B') b := by
    unfold Alive
    rw [hget]
    cases B <;> simp [frzB] at hB
    case var cells => obtain ⟨l, _, rfl⟩ := hB; exact id
    all_goals (subst hB; exact id)
  refine ⟨G', t, ⟨fun k K hk => ?_, fun k k' g hk hk' => h.inj k k' g (by simpa using hk) (by simpa using hk'), fun g o k hs hk e => ?_, fun g o hs => ?_, fun k g hk => h.mlt k g (by simpa using hk), fun k g hk => h.new k g (by simpa using hk), fun g o hs => .inl (h.s0 g o hs), fun g o hs => ?_,
    h.os, h.tape, h.output, h.size, h.block, by have := h.mle; simpa using this, h.t0.trans t⟩, rfl, rfl, rfl⟩
  · by_cases e : k = b
    · subst e
      rw [hget] at hk
      cases hk
      have h0 := h.blk k B hb
      cases B with
      | var cells =>
        simp only [frzB] at hB
        obtain ⟨l, hl, rfl⟩ := Option.map_eq_some_iff.1 hB
        obtain ⟨g, cur, ty, hg, h1, h2⟩ := h0
        have := mapM_pv hl
        subst this
        refine ⟨g, hg, fun c p hp => ?_⟩
        obtain ⟨u, hu, hr⟩ := h2.get (i := c) (a := .pv p) (by simp [hp])
        refine ⟨.inr hg, u, ?_, t.repP hr⟩
        rw [Nat.zero_add, cell_of_row w _ _ _ _ _ h1]
        simpa using hu
      | arr ety sz rows =>
        simp only [frzB, Option.some.injEq] at hB
        subst hB
        rcases h0 with h0 | ⟨g, cur, hg, h1, h2, h3, h4, h5⟩
        · exact .inl h0
        refine .inr ⟨g, hg, h4, fun j r hj => ⟨(h5 j r hj).1, fun c p hp => ?_⟩⟩
        obtain ⟨u, hu, hr⟩ := (h5 j r hj).2 c p hp
        exact ⟨.inr hg, u, by rw [cell_of_row w _ _ _ _ _ h1]; exact hu, t.repP hr⟩
      | frz sz rows =>
        simp only [frzB, Option.some.injEq] at hB
        subst hB
        exact RepB.step t rfl rfl (fun _ _ => rfl) h0
      | frv cells =>
        simp only [frzB, Option.some.injEq] at hB
        subst hB
        exact RepB.step t rfl rfl (fun _ _ => rfl) h0
      | dead => simp [frzB] at hB
      | lost sz rows => simp [frzB] at hB
    · rw [List.getElem?_set_ne (Ne.symm e)] at hk
      exact RepB.step t rfl rfl (fun _ _ => rfl) (h.blk k K hk)
  · by_cases e1 : k = b
    · subst e1; exact hdead hk
    · have hk' := (alive_set B' e1).1 hk
      rcases hs with hs | hs
      · exact h.sdis g o k hs hk' e
      · exact e1 (h.inj k b g (alive_lt hk') hbl e hs)
  · rcases hs with hs | hs
    · exact h.slt g o hs
    · exact h.mlt b g hbl hs
  · rcases hs with hs | hs
    · exact h.snew g o hs
    · rcases h.new b g hbl hs with h1 | ⟨b', h1, h2⟩
      · exact .inr (.inl h1)
      · exact .inr (.inr ⟨b', h1, h2⟩)

/-- A slice whose block stays is a slice without memory of its own. -/
theorem own_pv (h : Mem C G bk w) {b sz : Nat} {rows : List (List PV)} {v : Value} (hb : bk[b]? = some (.frz sz rows)) (hv : RepL G bk w (.own b rows.length) v) : RepP G.S w (.sl sz rows) v := by
  obtain ⟨_, sz', rows', h2, _, h4⟩ := hv
  have e : rowsOf bk b = some (sz, rows) := by unfold rowsOf; rw [hb]
  rw [e] at h2
  cases h2
  rcases h4 rfl with ⟨g, hg, rfl⟩ | ⟨hg, hl, rfl⟩
  · rcases h.blk b _ hb with ⟨h0, rfl⟩ | ⟨g', hg', hc, hr⟩
    · rw [hg] at h0; cases h0
    rw [hg] at hg'
    cases hg'
    refine .sl sz g 0 (G.cp b) rows (fun j c => (w.cell? ⟨g, 0 + (j * sz + c), none⟩).getD undef) hc (fun r hr' => ?_) (fun j r c p hj hp => ?_) (fun j r c p hj hp => ?_)
    · obtain ⟨j, hj⟩ := List.getElem?_of_mem hr'
      exact (hr j r hj).1
    · obtain ⟨h1, u, h2, _⟩ := (hr j r hj).2 c p hp
      rw [Nat.zero_add, h2]
      exact ⟨h1, rfl⟩
    · obtain ⟨_, u, h2, h3⟩ := (hr j r hj).2 c p hp
      rw [Nat.zero_add, h2]
      exact h3
  · have : rows = [] := List.eq_nil_of_length_eq_zero hl
    subst this
    exact .nil sz
theorem ptr_ro (h : Mem C G bk w) {b off : Nat} {cells : List PV} {v : Value} (hb : bk[b]? = some (.frv cells)) (hv : RepL G bk w (.ptr b off) v) : RepL G bk w (.ro (cells.drop off)) v := by
  obtain ⟨⟨g, hg, rfl⟩, _, _⟩ := hv
  refine ⟨_, _, rfl, ?_⟩
  obtain ⟨g', hg', h0⟩ := h.blk b _ hb
  rw [hg] at hg'
  cases hg'
  have := h0.drop off
  rwa [Nat.zero_add] at this
/-- A block that is no longer written stands as it is in a world whose cells are the same, and its cells may be relied on. -/
theorem Mem.share {w' : World} (h : Mem C G bk w) (b : Nat) (B : Blk) (hb : bk[b]? = some B) (hn : ¬ Alive bk b) (hcell : ∀ g o, w'.cell? ⟨g, o, none⟩ = w.cell? ⟨g, o, none⟩) (hoth : ∀ g, G.M b ≠ some g → w'.heap[g]? = w.heap[g]?)
    (hsz : w'.heap.size = w.heap.size) (hos : w'.os = w.os) (htp : w'.tape = w.tape) (hou : w'.output = w.output) :
    ∃ G', Trn G bk w G' bk w' ∧ Mem C G' bk w' ∧ G'.M = G.M ∧ G'.cp = G.cp ∧ G'.S = fun g o => G.S g o ∨ G.M b = some g := by
  let G' : Gh := { G with S := fun g o => G.S g o ∨ G.M b = some g }
  have hbl : b < bk.length := (List.getElem?_eq_some_iff.1 hb).1
  have t : Trn G bk w G' bk w' := ⟨fun _ _ h => .inl h, fun g o _ => hcell g o, Nat.le_refl _, fun _ _ h => ⟨h, rfl⟩, fun _ _ rows h => ⟨rows, h, Nat.le_refl _, fun _ => ⟨rfl, rfl⟩⟩⟩
  refine ⟨G', t, ⟨fun k K hk => ?_, h.inj, fun g o k hs hk e => ?_, fun g o hs => ?_, fun k g hk hg => by rw [hsz]; exact h.mlt k g hk hg, h.new, fun g o hs => .inl (h.s0 g o hs), fun g o hs => ?_,
    hos.trans h.os, htp.trans h.tape, hou.trans h.output, by rw [hsz]; exact h.size, fun g hg ho => ?_, h.mle, h.t0.trans t⟩, rfl, rfl, rfl⟩
  · by_cases e : k = b
    · subst e
      rw [hb] at hk
      cases hk
      have h0 := h.blk k B hb
      cases B with
      | var cells => exact absurd (by unfold Alive; rw [hb]; trivial) hn
      | arr ety sz rows => exact absurd (by unfold Alive; rw [hb]; trivial) hn
      | frz sz rows =>
        rcases h0 with h0 | ⟨g, hg, hc, hr⟩
        · exact .inl h0
        · exact .inr ⟨g, hg, hc, fun j r hj => ⟨(hr j r hj).1, t.cellsP (hr j r hj).2⟩⟩
      | frv cells => obtain ⟨g, hg, hc⟩ := h0; exact ⟨g, hg, t.cellsP hc⟩
      | dead => trivial
      | lost sz rows => exact h0
    · exact RepB.step t rfl rfl (fun g hg => hoth g fun hg' => e (h.inj k b g (List.getElem?_eq_some_iff.1 hk).1 hbl hg hg')) (h.blk k K hk)
  · rcases hs with hs | hs
    · exact h.sdis g o k hs hk e
    · have := h.inj k b g (alive_lt hk) hbl e hs
      subst this
      exact hn hk
  · rw [hsz]
    rcases hs with hs | hs
    · exact h.slt g o hs
    · exact h.mlt b g hbl hs
  · rcases hs with hs | hs
    · exact h.snew g o hs
    · rcases h.new b g hbl hs with h1 | ⟨b', h1, h2⟩
      · exact .inr (.inl h1)
      · exact .inr (.inr ⟨b', h1, h2⟩)
  · rw [hoth g fun hg' => ?_]
    · exact h.block g hg ho
    · rcases h.new b g hbl hg' with h1 | ⟨b', h1, h2⟩
      · omega
      · exact ho b' h1 h2
end
end Go.Rx
