/- The texts of the proof, part 2, in order. -/
import Derived.Test.YtfjllfjmggooeaaGreatDoorZa
import Derived.Laws.Slices
import Derived.WideLaws
/- Blocks that a caller lends: what the callee sees of them, and what the caller has of them again. -/
set_option linter.unusedVariables false
set_option linter.unusedSimpArgs false
namespace Go.Rx
open Go.RowKit

/-- The places of the caller's blocks, as the callee counts them. -/
def renL (idx : List Nat) : Lf → Option Lf
  | .pv p => some (.pv p)
  | .ro l => some (.ro l)
  | .fn f c => some (.fn f c)
  | .ptr b off => (idx.idxOf? b).map fun p => .ptr p off
  | .ept b n i sz off => (idx.idxOf? b).map fun p => .ept p n i sz off
  | .own b len => (idx.idxOf? b).map fun p => .own p len
  | .view b n k => (idx.idxOf? b).map fun p => .view p n k
  | .bad b t => (idx.idxOf? b).map fun p => .bad p t
  | .bnd f b off => (idx.idxOf? b).map fun p => .bnd f p off
def renLs (idx : List Nat) : List Lf → Option (List Lf)
  | [] => some []
  | l :: ls => match renL idx l, renLs idx ls with | some x, some xs => some (x :: xs) | _, _ => none
def renB (idx : List Nat) : Blk → Option Blk
  | .var cells => (renLs idx cells).map .var
  | B => some B
def pickB (idx : List Nat) (bk : List Blk) : List Nat → Option (List Blk)
  | [] => some []
  | b :: l => match (bk[b]?).bind (renB idx), pickB idx bk l with | some x, some xs => some (x :: xs) | _, _ => none
def renA (idx : List Nat) : AV → Option AV
  | .lf l => (renL idx l).map .lf
  | .agg l => (renLs idx l).map .agg
  | _ => none
def renAs (idx : List Nat) : List AV → Option (List AV)
  | [] => some []
  | l :: ls => match renA idx l, renAs idx ls with | some x, some xs => some (x :: xs) | _, _ => none
/-- And back: what the callee has made stands behind the caller's own. -/
def bkI (idx : List Nat) (n : Nat) (p : Nat) : Nat := match idx[p]? with | some b => b | none => n + (p - idx.length)
def bkL (idx : List Nat) (n : Nat) : Lf → Lf
  | .pv p => .pv p
  | .ro l => .ro l
  | .fn f c => .fn f c
  | .ptr b off => .ptr (bkI idx n b) off
  | .ept b m i sz off => .ept (bkI idx n b) m i sz off
  | .own b len => .own (bkI idx n b) len
  | .view b m k => .view (bkI idx n b) m k
  | .bad b t => .bad (bkI idx n b) t
  | .bnd f b off => .bnd f (bkI idx n b) off
def bkB (idx : List Nat) (n : Nat) : Blk → Blk
  | .var cells => .var (cells.map (bkL idx n))
  | B => B
def bkT (idx : List Nat) (n : Nat) : TC → TC
  | .lf l => .lf (bkL idx n l)
  | .agg l => .agg (l.map (bkL idx n))
def bkA (idx : List Nat) (n : Nat) : AV → AV
  | .lf l => .lf (bkL idx n l)
  | .agg l => .agg (l.map (bkL idx n))
  | .tup l => .tup (l.map (bkT idx n))
  | .un => .un
def setAll : List Blk → List Nat → List Blk → List Blk
  | bk, b :: l, x :: xs => setAll (bk.set b x) l xs
  | bk, _, _ => bk
def bkBs (idx : List Nat) (bk B1 : List Blk) : List Blk := setAll bk idx (B1.map (bkB idx bk.length)) ++ (B1.map (bkB idx bk.length)).drop idx.length

def Gh.pick (G : Gh) (idx : List Nat) : Gh := ⟨fun p => (idx[p]?).bind G.M, G.S, fun p => match idx[p]? with | some b => G.cp b | none => 0⟩

section
variable {P : Program} {T : Tab} {C : Ctx} {G : Gh} {bk : List Blk} {w : World} {idx : List Nat}

theorem pickB_get : ∀ {l : List Nat} {B : List Blk}, pickB idx bk l = some B → B.length = l.length ∧ ∀ (p : Nat) (b : Nat), l[p]? = some b → ∃ X Y, bk[b]? = some X ∧ renB idx X = some Y ∧ B[p]? = some Y
  | [], B, h => by simp [pickB] at h; subst h; exact ⟨rfl, by simp⟩
  | b :: l, B, h => by
    unfold pickB at h
    split at h
    · rename_i x xs hx hxs
      cases h
      obtain ⟨h1, h2⟩ := pickB_get hxs
      refine ⟨by simp [h1], fun p b' hp => ?_⟩
      cases p with
      | zero =>
        simp at hp
        subst hp
        obtain ⟨X, hX, hY⟩ := Option.bind_eq_some_iff.1 hx
        exact ⟨X, x, hX, hY, rfl⟩
      | succ p => exact h2 p b' (by simpa using hp)
    · cases h
theorem idxOf_get {b p : Nat} (h : idx.idxOf? b = some p) : idx[p]? = some b := by
  rw [List.idxOf?, List.findIdx?_eq_some_iff_getElem] at h
  obtain ⟨hl, h1, _⟩ := h
  rw [List.getElem?_eq_getElem hl]
  simpa using h1
theorem renLs_get : ∀ {ls ms : List Lf} {R R' : Lf → Value → Prop}, renLs idx ls = some ms → (∀ l m v, renL idx l = some m → R l v → R' m v) → ∀ {us : List Value}, Fa R ls us → Fa R' ms us
  | [], ms, R, R', h, _, us, hf => by simp [renLs] at h; subst h; cases us <;> exact hf
  | l :: ls, ms, R, R', h, hr, us, hf => by
    unfold renLs at h
    split at h
    · rename_i x xs hx hxs
      cases h
      cases us with
      | nil => exact hf.elim
      | cons u us => exact ⟨hr _ _ _ hx hf.1, renLs_get hxs hr hf.2⟩
    · cases h

theorem renLs_bad {p : Nat} {t : TypeId} : ∀ {ls ms : List Lf}, renLs idx ls = some ms → Lf.bad p t ∈ ms → ∃ b, idx[p]? = some b ∧ Lf.bad b t ∈ ls
  | [], ms, h, hm => by simp [renLs] at h; subst h; cases hm
  | l :: ls, ms, h, hm => by
    unfold renLs at h
    split at h
    · rename_i x xs hx hxs
      cases h
      rcases List.mem_cons.1 hm with e | e
      · subst e
        cases l with
        | bad b t' =>
          simp only [renL, Option.map_eq_some_iff] at hx
          obtain ⟨q, hq, he⟩ := hx
          cases he
          exact ⟨b, idxOf_get hq, by simp⟩
        | pv _ => simp [renL] at hx
        | ro _ => simp [renL] at hx
        | fn _ _ => simp [renL] at hx
        | ptr b off => simp [renL] at hx
        | ept b m i sz off => simp [renL] at hx
        | own b len => simp [renL] at hx
        | view b n k => simp [renL] at hx
        | bnd f b off => simp [renL] at hx
      · obtain ⟨b, h1, h2⟩ := renLs_bad hxs e
        exact ⟨b, h1, by simp [h2]⟩
    · cases h
/-- What the callee sees. -/
theorem Mem.pick (h : Mem C G bk w) (hnd : idx.Nodup) {B : List Blk} (hB : pickB idx bk idx = some B) (n : Nat) :
    Mem ⟨w, G.pick idx, B, n⟩ (G.pick idx) B w ∧ ∀ l l' v, renL idx l = some l' → RepL G bk w l v → RepL (G.pick idx) B w l' v := by
  obtain ⟨hlen, hget⟩ := pickB_get hB
  have hM : ∀ p b, idx[p]? = some b → (G.pick idx).M p = G.M b := fun p b hp => by simp [Gh.pick, hp]
  have hcp : ∀ p b, idx[p]? = some b → (G.pick idx).cp p = G.cp b := fun p b hp => by simp [Gh.pick, hp]
  have hat : ∀ p, p < B.length → ∃ b, idx[p]? = some b ∧ b < bk.length := fun p hp => by
    have hp' : p < idx.length := by rw [hlen] at hp; exact hp
    obtain ⟨X, Y, h1, _, _⟩ := hget p idx[p] (List.getElem?_eq_getElem hp')
    exact ⟨idx[p], List.getElem?_eq_getElem hp', (List.getElem?_eq_some_iff.1 h1).1⟩
  have hrows : ∀ p b, idx[p]? = some b → rowsOf B p = rowsOf bk b := fun p b hp => by
    obtain ⟨X, Y, h1, h2, h3⟩ := hget p b hp
    unfold rowsOf
    rw [h1, h3]
    cases X with
    | var cells => simp [renB] at h2; obtain ⟨c, _, rfl⟩ := h2; rfl
    | _ => simp [renB] at h2; subst h2; rfl
  have hal : ∀ p b, idx[p]? = some b → Alive B p → Alive bk b := fun p b hp ha => by
    obtain ⟨X, Y, h1, h2, h3⟩ := hget p b hp
    unfold Alive at *
    rw [h1]
    rw [h3] at ha
    cases X with
    | var cells => trivial
    | arr => trivial
    | _ => simp [renB] at h2; subst h2; exact ha
  have rep : ∀ l l' v, renL idx l = some l' → RepL G bk w l v → RepL (G.pick idx) B w l' v := fun l l' v hl hr => by
    cases l with
    | pv p => simp [renL] at hl; subst hl; exact hr
    | ro p => simp [renL] at hl; subst hl; exact hr
    | fn f c => simp [renL] at hl; subst hl; exact hr
    | ptr b off =>
      simp only [renL, Option.map_eq_some_iff] at hl
      obtain ⟨p, hp, rfl⟩ := hl
      have hp := idxOf_get hp
      obtain ⟨⟨g, hg, rfl⟩, hb, hr⟩ := hr
      exact ⟨⟨g, by rw [hM p b hp]; exact hg, rfl⟩, by rw [hlen]; exact (List.getElem?_eq_some_iff.1 hp).1, by rw [hrows p b hp]; exact hr⟩
    | ept b m i sz off =>
      simp only [renL, Option.map_eq_some_iff] at hl
      obtain ⟨p, hp, rfl⟩ := hl
      have hp := idxOf_get hp
      obtain ⟨h1, rows, h2, h3, h4⟩ := hr
      exact ⟨h1, rows, by rw [hrows p b hp]; exact h2, h3, fun e => by rw [hM p b hp]; exact h4 e⟩
    | bnd f b off =>
      simp only [renL, Option.map_eq_some_iff] at hl
      obtain ⟨p, hp, rfl⟩ := hl
      have hp := idxOf_get hp
      obtain ⟨⟨g, hg, rfl⟩, hb, hr⟩ := hr
      exact ⟨⟨g, by rw [hM p b hp]; exact hg, rfl⟩, by rw [hlen]; exact (List.getElem?_eq_some_iff.1 hp).1, by rw [hrows p b hp]; exact hr⟩
    | bad b t =>
      simp only [renL, Option.map_eq_some_iff] at hl
      obtain ⟨p, hp, rfl⟩ := hl
      have hp := idxOf_get hp
      obtain ⟨h1, hb, hr⟩ := hr
      exact ⟨by rw [hM p b hp]; exact h1, by rw [hlen]; exact (List.getElem?_eq_some_iff.1 hp).1, by rw [hrows p b hp]; exact hr⟩
    | own b len =>
      simp only [renL, Option.map_eq_some_iff] at hl
      obtain ⟨p, hp, rfl⟩ := hl
      have hp := idxOf_get hp
      obtain ⟨h1, sz, rows, h2, h3, h4⟩ := hr
      exact ⟨h1, sz, rows, by rw [hrows p b hp]; exact h2, h3, fun e => by rw [hM p b hp, hcp p b hp]; exact h4 e⟩
    | view b n k =>
      simp only [renL, Option.map_eq_some_iff] at hl
      obtain ⟨p, hp, rfl⟩ := hl
      have hp := idxOf_get hp
      obtain ⟨h1, sz, rows, h2, h3, hk, h4⟩ := hr
      exact ⟨h1, sz, rows, by rw [hrows p b hp]; exact h2, h3, hk, fun e => by rw [hM p b hp, hcp p b hp]; exact h4 e⟩
  refine ⟨⟨fun p Y hY => ?_, fun p p' g hp hp' e e' => ?_, fun g o p hs ha e => ?_, h.slt, fun p g hp e => ?_, fun p g hp e => .inr ⟨p, hp, e⟩, fun _ _ hs => hs, fun _ _ hs => .inl hs, rfl, rfl, rfl, Nat.le_refl _, fun _ _ _ => rfl, Nat.le_refl _, Trn.refl _ _ _⟩, rep⟩
  · obtain ⟨b, hpb, _⟩ := hat p (List.getElem?_eq_some_iff.1 hY).1
    obtain ⟨X, Y', h1, h2, h3⟩ := hget p b hpb
    rw [hY] at h3
    cases h3
    have h0 := h.blk b X h1
    cases X with
    | var cells =>
      simp only [renB, Option.map_eq_some_iff] at h2
      obtain ⟨cs, hcs, rfl⟩ := h2
      obtain ⟨g, cur, ty, k1, k2, k3⟩ := h0
      exact ⟨g, cur, ty, by rw [hM p b hpb]; exact k1, ⟨k2.1, fun t ht => by
        obtain ⟨b0, q1, q2⟩ := renLs_bad hcs ht
        rw [hpb] at q1
        cases q1
        exact k2.2 t q2⟩, renLs_get hcs rep k3⟩
    | arr ety sz rows =>
      simp [renB] at h2
      subst h2
      rcases h0 with ⟨k1, k2⟩ | ⟨g, cur, k1, k2, k3, k4, k5, k6⟩
      · exact .inl ⟨by rw [hM p b hpb]; exact k1, k2⟩
      · exact .inr ⟨g, cur, by rw [hM p b hpb]; exact k1, k2, by rw [hcp p b hpb]; exact k3, by rw [hcp p b hpb]; exact k4, by rw [hcp p b hpb]; exact k5, k6⟩
    | frz sz rows =>
      simp [renB] at h2
      subst h2
      rcases h0 with ⟨k1, k2⟩ | ⟨g, k1, k2, k3⟩
      · exact .inl ⟨by rw [hM p b hpb]; exact k1, k2⟩
      · exact .inr ⟨g, by rw [hM p b hpb]; exact k1, by rw [hcp p b hpb]; exact k2, k3⟩
    | frv cells =>
      simp [renB] at h2
      subst h2
      obtain ⟨g, k1, k2⟩ := h0
      exact ⟨g, by rw [hM p b hpb]; exact k1, k2⟩
    | dead => simp [renB] at h2; subst h2; trivial
    | lost sz rows => simp [renB] at h2; subst h2; exact (hM p b hpb).trans h0
  · obtain ⟨b, hpb, hb⟩ := hat p hp
    obtain ⟨b', hpb', hb'⟩ := hat p' hp'
    rw [hM p b hpb] at e
    rw [hM p' b' hpb'] at e'
    have := h.inj b b' g hb hb' e e'
    subst this
    obtain ⟨hl1, e1⟩ := List.getElem?_eq_some_iff.1 hpb
    obtain ⟨hl2, e2⟩ := List.getElem?_eq_some_iff.1 hpb'
    exact (List.getElem_inj hnd).1 (e1.trans e2.symm)
  · obtain ⟨b, hpb, hb⟩ := hat p (alive_lt ha)
    rw [hM p b hpb] at e
    exact h.sdis g o b hs (hal p b hpb ha) e
  · obtain ⟨b, hpb, hb⟩ := hat p hp
    rw [hM p b hpb] at e
    exact h.mlt b g hb e
end
end Go.Rx

/- Lent blocks, given back. -/
set_option linter.unusedVariables false
set_option linter.unusedSimpArgs false
namespace Go.Rx
open Go.RowKit
section
variable {P : Program} {T : Tab} {C : Ctx} {G : Gh} {bk : List Blk} {w : World} {idx : List Nat}

theorem setAll_len : ∀ (bk : List Blk) (l : List Nat) (xs : List Blk), (setAll bk l xs).length = bk.length
  | bk, [], xs => by cases xs <;> rfl
  | bk, b :: l, [] => rfl
  | bk, b :: l, x :: xs => by rw [setAll, setAll_len]; simp
theorem setAll_not : ∀ (l : List Nat) (bk : List Blk) (xs : List Blk) {b : Nat}, b ∉ l → (setAll bk l xs)[b]? = bk[b]?
  | [], bk, xs, b, _ => by cases xs <;> rfl
  | c :: l, bk, [], b, _ => rfl
  | c :: l, bk, x :: xs, b, h => by
    rw [setAll, setAll_not l _ xs (fun e => h (by simp [e]))]
    exact List.getElem?_set_ne (fun e => h (by simp [e]))
theorem setAll_at : ∀ (l : List Nat) (bk : List Blk) (xs : List Blk) {p b : Nat}, l.Nodup → (∀ c ∈ l, c < bk.length) → l.length ≤ xs.length → l[p]? = some b → (setAll bk l xs)[b]? = xs[p]?
  | [], bk, xs, p, b, _, _, _, h => by simp at h
  | c :: l, bk, [], p, b, _, _, hl, h => by simp at hl
  | c :: l, bk, x :: xs, 0, b, hnd, hlt, hl, h => by
    simp at h
    subst h
    rw [setAll, setAll_not l _ xs (List.nodup_cons.1 hnd).1]
    rw [List.getElem?_set_self (hlt _ (by simp))]
    rfl
  | c :: l, bk, x :: xs, p + 1, b, hnd, hlt, hl, h => by
    rw [setAll, setAll_at l _ xs (List.nodup_cons.1 hnd).2 (fun d hd => by simpa using hlt d (by simp [hd])) (by simpa using hl) (by simpa using h)]
    rfl
theorem idxOf_nodup {p b : Nat} (hnd : idx.Nodup) (h : idx[p]? = some b) : idx.idxOf? b = some p := by
  obtain ⟨hl, he⟩ := List.getElem?_eq_some_iff.1 h
  rw [List.idxOf?, List.findIdx?_eq_some_iff_getElem]
  refine ⟨hl, by simp [he], fun j hj => ?_⟩
  simp only [beq_iff_eq]
  intro e
  have := (List.getElem_inj hnd).1 (e.trans he.symm)
  omega
theorem idxOf_none {b : Nat} (h : b ∉ idx) : idx.idxOf? b = none := by
  rw [List.idxOf?, List.findIdx?_eq_none_iff]
  intro c hc
  simp only [beq_eq_false_iff_ne]
  rintro rfl
  exact h hc
theorem fa_map2 {α : Type} {R R' : α → Value → Prop} {f : α → α} (hf : ∀ l u, R l u → R' (f l) u) : ∀ {ls : List α} {us : List Value}, Fa R ls us → Fa R' (ls.map f) us
  | [], [], _ => trivial
  | _ :: _, _ :: _, h => ⟨hf _ _ h.1, fa_map2 hf h.2⟩
  | [], _ :: _, h => h.elim
  | _ :: _, [], h => h.elim

/-- The callee's number of a block, if it has one. -/
def invI (idx : List Nat) (n b : Nat) : Option Nat := match idx.idxOf? b with | some p => some p | none => if b < n then none else some (idx.length + (b - n))
/-- What the callee has left is the caller's again. -/
theorem Mem.back (h : Mem C G bk w) (hnd : idx.Nodup) {B B1 : List Blk} (hB : pickB idx bk idx = some B) {w' : World} {G1 : Gh} {n : Nat} (k : Mem ⟨w, G.pick idx, B, n⟩ G1 B1 w') :
    ∃ G', Trn G bk w G' (bkBs idx bk B1) w' ∧ Mem C G' (bkBs idx bk B1) w' ∧ ∀ x u, RepA G1 B1 w' x u → RepA G' (bkBs idx bk B1) w' (bkA idx bk.length x) u := by
  obtain ⟨hlen, hget⟩ := pickB_get hB
  have hm : idx.length ≤ B1.length := by have := k.mle; rw [← hlen]; exact this
  have hlt : ∀ c ∈ idx, c < bk.length := fun c hc => by
    obtain ⟨p, hp⟩ := List.getElem?_of_mem hc
    obtain ⟨X, _, h1, _⟩ := hget p c hp
    exact (List.getElem?_eq_some_iff.1 h1).1
  have hmem : ∀ p b, idx[p]? = some b → b ∈ idx := fun p b hp => List.mem_of_getElem? hp
  have hpl : ∀ p b, idx[p]? = some b → p < idx.length := fun p b hp => (List.getElem?_eq_some_iff.1 hp).1
  have hM0 : ∀ p b, idx[p]? = some b → (G.pick idx).M p = G.M b := fun p b hp => by simp [Gh.pick, hp]
  have hcp0 : ∀ p b, idx[p]? = some b → (G.pick idx).cp p = G.cp b := fun p b hp => by simp [Gh.pick, hp]
  have hrow0 : ∀ p b, idx[p]? = some b → rowsOf B p = rowsOf bk b := fun p b hp => by
    obtain ⟨X, Y, h1, h2, h3⟩ := hget p b hp
    unfold rowsOf
    rw [h1, h3]
    cases X with
    | var cells => simp [renB] at h2; obtain ⟨c, _, rfl⟩ := h2; rfl
    | _ => simp [renB] at h2; subst h2; rfl
  let G' : Gh := { M := fun b => match invI idx bk.length b with | some p => G1.M p | none => G.M b, S := G1.S, cp := fun b => match invI idx bk.length b with | some p => G1.cp p | none => G.cp b }
  -- where a block comes from
  have split : ∀ b, b < (bkBs idx bk B1).length → (b < bk.length ∧ b ∉ idx ∧ invI idx bk.length b = none) ∨ ∃ p, p < B1.length ∧ b = bkI idx bk.length p := fun b hb => by
    have hb' : b < bk.length + (B1.length - idx.length) := by
      unfold bkBs at hb
      rw [List.length_append, setAll_len, List.length_drop, List.length_map] at hb
      exact hb
    by_cases hi : b ∈ idx
    · obtain ⟨p, hp⟩ := List.getElem?_of_mem hi
      exact .inr ⟨p, by have := hpl p b hp; omega, by unfold bkI; rw [hp]⟩
    · rcases Nat.lt_or_ge b bk.length with hl | hl
      · exact .inl ⟨hl, hi, by unfold invI; rw [idxOf_none hi]; simp [hl]⟩
      · refine .inr ⟨idx.length + (b - bk.length), by omega, ?_⟩
        unfold bkI
        rw [List.getElem?_eq_none (by omega)]
        simp only
        omega
  have inv : ∀ p, p < B1.length → invI idx bk.length (bkI idx bk.length p) = some p := fun p hp => by
    unfold bkI invI
    cases hi : idx[p]? with
    | some b => simp only; rw [idxOf_nodup hnd hi]
    | none =>
      have hge : idx.length ≤ p := by rw [List.getElem?_eq_none_iff] at hi; exact hi
      simp only
      rw [idxOf_none (fun e => by have := hlt _ e; omega)]
      simp only
      rw [if_neg (by omega)]
      congr 1
      omega
  have hMn : ∀ p, p < B1.length → G'.M (bkI idx bk.length p) = G1.M p := fun p hp => by show (match invI idx bk.length (bkI idx bk.length p) with | some p => G1.M p | none => _) = _; rw [inv p hp]
  have hcn : ∀ p, p < B1.length → G'.cp (bkI idx bk.length p) = G1.cp p := fun p hp => by show (match invI idx bk.length (bkI idx bk.length p) with | some p => G1.cp p | none => _) = _; rw [inv p hp]
  have hMo : ∀ b, invI idx bk.length b = none → G'.M b = G.M b := fun b hb => by show (match invI idx bk.length b with | some p => G1.M p | none => G.M b) = _; rw [hb]
  have hco : ∀ b, invI idx bk.length b = none → G'.cp b = G.cp b := fun b hb => by show (match invI idx bk.length b with | some p => G1.cp p | none => G.cp b) = _; rw [hb]
  have hgn : ∀ p, p < B1.length → (bkBs idx bk B1)[bkI idx bk.length p]? = (B1[p]?).map (bkB idx bk.length) := fun p hp => by
    unfold bkBs bkI
    cases hi : idx[p]? with
    | some b =>
      simp only
      rw [List.getElem?_append_left (by rw [setAll_len]; exact hlt b (hmem p b hi)), setAll_at idx bk _ hnd hlt (by rw [List.length_map]; exact hm) hi, List.getElem?_map]
    | none =>
      have hge : idx.length ≤ p := by rw [List.getElem?_eq_none_iff] at hi; exact hi
      simp only
      rw [List.getElem?_append_right (by rw [setAll_len]; omega), setAll_len, List.getElem?_drop, List.getElem?_map]
      congr 2
      omega
  have hgo : ∀ b, b < bk.length → b ∉ idx → (bkBs idx bk B1)[b]? = bk[b]? := fun b hb hi => by
    unfold bkBs
    rw [List.getElem?_append_left (by rw [setAll_len]; exact hb), setAll_not idx bk _ hi]
  have hlenB : bk.length ≤ (bkBs idx bk B1).length := by unfold bkBs; rw [List.length_append, setAll_len]; omega
  have hltB : ∀ p, p < B1.length → bkI idx bk.length p < (bkBs idx bk B1).length := fun p hp => by
    have := hgn p hp
    rw [List.getElem?_eq_getElem hp] at this
    exact (List.getElem?_eq_some_iff.1 this).1
  have hrn : ∀ p, p < B1.length → rowsOf (bkBs idx bk B1) (bkI idx bk.length p) = rowsOf B1 p := fun p hp => by
    unfold rowsOf
    rw [hgn p hp]
    cases B1[p]? with
    | none => rfl
    | some X => cases X <;> rfl
  have hro : ∀ b, b < bk.length → b ∉ idx → rowsOf (bkBs idx bk B1) b = rowsOf bk b := fun b hb hi => by unfold rowsOf; rw [hgo b hb hi]
  have hS : ∀ g o, G1.S g o → G.S g o ∨ w.heap.size ≤ g ∨ ∃ p b, idx[p]? = some b ∧ G.M b = some g := fun g o hs => by
    rcases k.snew g o hs with h1 | h1 | ⟨p, h1, h2⟩
    · exact .inl h1
    · exact .inr (.inl h1)
    · obtain ⟨b, hb⟩ : ∃ b, idx[p]? = some b := ⟨idx[p]'(by rw [← hlen]; exact h1), List.getElem?_eq_getElem _⟩
      exact .inr (.inr ⟨p, b, hb, by rw [← hM0 p b hb]; exact h2⟩)
  have hnew : ∀ p g, p < B1.length → G1.M p = some g → w.heap.size ≤ g ∨ ∃ q b, idx[q]? = some b ∧ G.M b = some g := fun p g hp hg => by
    rcases k.new p g hp hg with h1 | ⟨q, h1, h2⟩
    · exact .inl h1
    · obtain ⟨b, hb⟩ : ∃ b, idx[q]? = some b := ⟨idx[q]'(by rw [← hlen]; exact h1), List.getElem?_eq_getElem _⟩
      exact .inr ⟨q, b, hb, by rw [← hM0 q b hb]; exact h2⟩
  have hold : ∀ g, g < w.heap.size → (∀ b ∈ idx, G.M b ≠ some g) → w'.heap[g]? = w.heap[g]? := fun g hg hn => k.block g hg fun p hp e => by
    obtain ⟨b, hb⟩ : ∃ b, idx[p]? = some b := ⟨idx[p]'(by rw [← hlen]; exact hp), List.getElem?_eq_getElem _⟩
    exact hn b (hmem p b hb) (by rw [← hM0 p b hb]; exact e)
  have t : Trn G bk w G' (bkBs idx bk B1) w' := by
    refine ⟨k.t0.S, k.t0.cell, hlenB, fun b hb hr => ?_, fun b sz rows hr => ?_⟩
    · by_cases hi : b ∈ idx
      · obtain ⟨p, hp⟩ := List.getElem?_of_mem hi
        have hpB : p < B.length := by rw [hlen]; exact hpl p b hp
        have hp1 : p < B1.length := by have := hpl p b hp; omega
        have hbi : bkI idx bk.length p = b := by unfold bkI; rw [hp]
        obtain ⟨h1, h2⟩ := k.t0.var p hpB (by rw [hrow0 p b hp]; exact hr)
        refine ⟨by rw [← hbi, hrn p hp1]; exact h1, ?_⟩
        have e1 := hMn p hp1
        rw [hbi] at e1
        rw [e1, h2]
        exact hM0 p b hp
      · exact ⟨by rw [hro b hb hi]; exact hr, hMo b (by unfold invI; rw [idxOf_none hi]; simp [hb])⟩
    · have hb := rowsOf_lt hr
      by_cases hi : b ∈ idx
      · obtain ⟨p, hp⟩ := List.getElem?_of_mem hi
        have hp1 : p < B1.length := by have := hpl p b hp; omega
        have hbi : bkI idx bk.length p = b := by unfold bkI; rw [hp]
        obtain ⟨rows', h1, h2, h3⟩ := k.t0.row p sz rows (by rw [hrow0 p b hp]; exact hr)
        refine ⟨rows', by rw [← hbi, hrn p hp1]; exact h1, h2, fun e => ?_⟩
        obtain ⟨h4, h5⟩ := h3 e
        have e1 := hMn p hp1
        have e2 := hcn p hp1
        rw [hbi] at e1 e2
        exact ⟨by rw [e1, h4]; exact hM0 p b hp, by rw [e2, h5]; exact hcp0 p b hp⟩
      · have hin : invI idx bk.length b = none := by unfold invI; rw [idxOf_none hi]; simp [hb]
        exact ⟨rows, by rw [hro b hb hi]; exact hr, Nat.le_refl _, fun _ => ⟨hMo b hin, hco b hin⟩⟩
  have repLn : ∀ l u, RepL G1 B1 w' l u → RepL G' (bkBs idx bk B1) w' (bkL idx bk.length l) u := fun l u hl => by
    cases l with
    | pv p => exact hl
    | ro p => exact hl
    | fn f c => exact hl
    | ptr b off =>
      obtain ⟨⟨g, hg, rfl⟩, hb, hr⟩ := hl
      exact ⟨⟨g, by rw [hMn b hb]; exact hg, rfl⟩, hltB b hb, by rw [hrn b hb]; exact hr⟩
    | ept b m i sz off =>
      obtain ⟨h1, rows, h2, h3, h4⟩ := hl
      have hb := rowsOf_lt h2
      exact ⟨h1, rows, by rw [hrn b hb]; exact h2, h3, fun e => by rw [hMn b hb]; exact h4 e⟩
    | bnd f b off =>
      obtain ⟨⟨g, hg, rfl⟩, hb, hr⟩ := hl
      exact ⟨⟨g, by rw [hMn b hb]; exact hg, rfl⟩, hltB b hb, by rw [hrn b hb]; exact hr⟩
    | bad b t =>
      obtain ⟨h1, hb, hr⟩ := hl
      exact ⟨by rw [hMn b hb]; exact h1, hltB b hb, by rw [hrn b hb]; exact hr⟩
    | own b len =>
      obtain ⟨h1, sz, rows, h2, h3, h4⟩ := hl
      have hb := rowsOf_lt h2
      exact ⟨h1, sz, rows, by rw [hrn b hb]; exact h2, h3, fun e => by rw [hMn b hb, hcn b hb]; exact h4 e⟩
    | view b n k =>
      obtain ⟨h1, sz, rows, h2, h3, hk, h4⟩ := hl
      have hb := rowsOf_lt h2
      exact ⟨h1, sz, rows, by rw [hrn b hb]; exact h2, h3, hk, fun e => by rw [hMn b hb, hcn b hb]; exact h4 e⟩
  refine ⟨G', t, ⟨fun b X hX => ?_, fun b b' g hb hb' e e' => ?_, fun g o b hs ha e => ?_, k.slt, fun b g hb e => ?_, fun b g hb e => ?_, fun g o hs => k.t0.S g o (h.s0 g o hs), fun g o hs => ?_, k.os.trans h.os, k.tape.trans h.tape, k.output.trans h.output, Nat.le_trans h.size k.size,
    fun g hg hn' => ?_, Nat.le_trans h.mle hlenB, h.t0.trans t⟩, fun x u hx => ?_⟩
  · rcases split b (List.getElem?_eq_some_iff.1 hX).1 with ⟨hl, hi, hin⟩ | ⟨p, hp, rfl⟩
    · rw [hgo b hl hi] at hX
      exact RepB.step t (hMo b hin) (hco b hin) (fun g hg => hold g (h.mlt b g hl hg) fun c hc e => hi (by rw [h.inj b c g hl (hlt c hc) hg e]; exact hc)) (h.blk b X hX)
    · rw [hgn p hp, Option.map_eq_some_iff] at hX
      obtain ⟨Y, hY, rfl⟩ := hX
      have hk := k.blk p Y hY
      cases Y with
      | var cells =>
        obtain ⟨g, cur, ty, h1, h2, h3⟩ := hk
        refine ⟨g, cur, ty, by rw [hMn p hp]; exact h1, ⟨h2.1, fun t ht => ?_⟩, fa_map2 repLn h3⟩
        obtain ⟨l, hl, e⟩ := List.mem_map.1 ht
        cases l with
        | bad q t' =>
          simp only [bkL, Lf.bad.injEq] at e
          obtain ⟨e, rfl⟩ := e
          obtain ⟨i, hi⟩ := List.getElem?_of_mem hl
          obtain ⟨_, _, _, hq, _⟩ := h3.get hi
          have : q = p := by have a1 := inv q hq; rw [e, inv p hp] at a1; exact (Option.some.inj a1).symm
          subst this
          exact h2.2 t' hl
        | _ => simp [bkL] at e
      | arr e sz rows =>
        rcases hk with ⟨h1, h2⟩ | ⟨g, cur, h0, h1, h2, h3, h4, h5⟩
        · exact .inl ⟨by rw [hMn p hp]; exact h1, h2⟩
        · exact .inr ⟨g, cur, by rw [hMn p hp]; exact h0, h1, by rw [hcn p hp]; exact h2, by rw [hcn p hp]; exact h3, by rw [hcn p hp]; exact h4, h5⟩
      | frz sz rows =>
        rcases hk with ⟨h1, h2⟩ | ⟨g, h1, h2, h3⟩
        · exact .inl ⟨by rw [hMn p hp]; exact h1, h2⟩
        · exact .inr ⟨g, by rw [hMn p hp]; exact h1, by rw [hcn p hp]; exact h2, h3⟩
      | frv cells => obtain ⟨g, h1, h2⟩ := hk; exact ⟨g, by rw [hMn p hp]; exact h1, h2⟩
      | dead => trivial
      | lost sz rows => exact (hMn p hp).trans hk
  · rcases split b hb with ⟨hl, hi, hin⟩ | ⟨p, hp, rfl⟩ <;> rcases split b' hb' with ⟨hl', hi', hin'⟩ | ⟨p', hp', rfl⟩
    · rw [hMo b hin] at e; rw [hMo b' hin'] at e'; exact h.inj b b' g hl hl' e e'
    · rw [hMo b hin] at e; rw [hMn p' hp'] at e'
      rcases hnew p' g hp' e' with h1 | ⟨q, c, hc, h1⟩
      · have := h.mlt b g hl e; omega
      · exact absurd (h.inj b c g hl (hlt c (hmem q c hc)) e h1 ▸ hmem q c hc) hi
    · rw [hMn p hp] at e; rw [hMo b' hin'] at e'
      rcases hnew p g hp e with h1 | ⟨q, c, hc, h1⟩
      · have := h.mlt b' g hl' e'; omega
      · exact absurd (h.inj b' c g hl' (hlt c (hmem q c hc)) e' h1 ▸ hmem q c hc) hi'
    · rw [hMn p hp] at e; rw [hMn p' hp'] at e'; rw [k.inj p p' g hp hp' e e']
  · rcases split b (alive_lt ha) with ⟨hl, hi, hin⟩ | ⟨p, hp, rfl⟩
    · rw [hMo b hin] at e
      have hab : Alive bk b := by unfold Alive at ha ⊢; rw [hgo b hl hi] at ha; exact ha
      rcases hS g o hs with h1 | h1 | ⟨q, c, hc, h1⟩
      · exact h.sdis g o b h1 hab e
      · have := h.mlt b g hl e; omega
      · exact hi (h.inj b c g hl (hlt c (hmem q c hc)) e h1 ▸ hmem q c hc)
    · rw [hMn p hp] at e
      refine k.sdis g o p hs ?_ e
      unfold Alive at ha ⊢
      rw [hgn p hp] at ha
      cases hY : B1[p]? with
      | none => rw [hY] at ha; exact ha
      | some Y => rw [hY] at ha; cases Y <;> exact ha
  · rcases split b hb with ⟨hl, hi, hin⟩ | ⟨p, hp, rfl⟩
    · rw [hMo b hin] at e; exact Nat.lt_of_lt_of_le (h.mlt b g hl e) k.size
    · rw [hMn p hp] at e; exact k.mlt p g hp e
  · rcases split b hb with ⟨hl, hi, hin⟩ | ⟨p, hp, rfl⟩
    · rw [hMo b hin] at e; exact h.new b g hl e
    · rw [hMn p hp] at e
      rcases hnew p g hp e with h1 | ⟨q, c, hc, h1⟩
      · exact .inl (Nat.le_trans h.size h1)
      · exact h.new c g (hlt c (hmem q c hc)) h1
  · rcases hS g o hs with h1 | h1 | ⟨q, c, hc, h1⟩
    · exact h.snew g o h1
    · exact .inr (.inl (Nat.le_trans h.size h1))
    · rcases h.new c g (hlt c (hmem q c hc)) h1 with h2 | h2
      · exact .inr (.inl h2)
      · exact .inr (.inr h2)
  · rw [hold g (Nat.lt_of_lt_of_le hg h.size) fun c hc e => ?_]
    · exact h.block g hg hn'
    · rcases h.new c g (hlt c hc) e with h2 | ⟨b', h2, h3⟩
      · omega
      · exact hn' b' h2 h3
  · cases x with
    | lf l => exact repLn l u hx
    | agg l => obtain ⟨us, rfl, hu⟩ := hx; exact ⟨us, rfl, fa_map2 repLn hu⟩
    | tup l =>
      obtain ⟨us, rfl, hu⟩ := hx
      refine ⟨us, rfl, fa_map2 (fun t u ht => ?_) hu⟩
      cases t with
      | lf l => exact repLn l u ht
      | agg l => obtain ⟨us, rfl, hu⟩ := ht; exact ⟨us, rfl, fa_map2 repLn hu⟩
    | un => trivial
end
end Go.Rx

/- Calls by contract, and every operation at once. -/
set_option linter.unusedVariables false
set_option linter.unusedSimpArgs false
namespace Go.Rx
open Go.RowKit

def fnOK (P : Program) (f : FuncId) : Bool :=
  match P.funcs[f]? with
  | some fn => fn.name != "runtime.NumGoroutine" && fn.body.isSome
  | none => false
def isArr : Blk → Bool
  | .arr _ _ _ => true
  | _ => false
def Gh.base (S : Nat → Nat → Prop) : Gh := ⟨fun _ => none, S, fun _ => 0⟩
def Ctx.base (w : World) (S : Nat → Nat → Prop) (n : Nat) : Ctx := ⟨w, Gh.base S, [], n⟩

/-- f at these arguments returns r; nb: the rows that r alone holds. Nothing that was there has turned. -/
def Con (P : Program) (f : FuncId) (args : List AV) (r : AV) (nb : List Blk) : Prop :=
  fnOK P f = true ∧ nb.all isArr = true ∧ ∀ (w : World) (S : Nat → Nat → Prop) (us : List Value), (∀ g o, S g o → g < w.heap.size) → Fa (RepA (Gh.base S) [] w) args us →
    Calls P f us.toArray w fun e w' => ∃ u G', e = .returned u ∧ RepA G' nb w' r u ∧ Mem (Ctx.base w S 0) G' nb w'

def argL (bk : List Blk) (l : Lf) (K : List Blk → Lf → Prop) : Prop :=
  match l with
  | .pv p => K bk (.pv p)
  | .ro l => K bk (.ro l)
  | .fn f c => K bk (.fn f c)
  | .own b len => pvK bk (.own b len) fun bk p => K bk (.pv p)
  | .view b n k => pvK bk (.view b n k) fun bk p => K bk (.pv p)
  | .bad _ _ => False
  | .bnd _ _ _ => False
  | .ptr b off =>
    (match bk[b]? with
     | some (.var cells) => (match cells.mapM pvOf with | some ps => K (bk.set b (.frv ps)) (.ro (ps.drop off)) | none => False)
     | some (.frv ps) => K bk (.ro (ps.drop off))
     | _ => False)
  | .ept _ _ _ _ _ => False
def argLs : List Blk → List Lf → (List Blk → List Lf → Prop) → Prop
  | bk, [], K => K bk []
  | bk, l :: ls, K => argL bk l fun bk x => argLs bk ls fun bk xs => K bk (x :: xs)
def argA (bk : List Blk) (x : AV) (K : List Blk → AV → Prop) : Prop :=
  match x with
  | .lf l => argL bk l fun bk l => K bk (.lf l)
  | .agg ls => argLs bk ls fun bk ls => K bk (.agg ls)
  | _ => False
def argsK : List Blk → List AV → (List Blk → List AV → Prop) → Prop
  | bk, [], K => K bk []
  | bk, x :: xs, K => argA bk x fun bk y => argsK bk xs fun bk ys => K bk (y :: ys)

/-- What stands for one value stands for the other, too. -/
def WkP (p q : PV) : Prop := ∀ (S : Nat → Nat → Prop) (w : World) (v : Value), RepP S w p v → RepP S w q v
def WkL (l l' : Lf) : Prop := l = l' ∨ ∃ p q, l = .pv p ∧ l' = .pv q ∧ WkP p q
def WkA (x y : AV) : Prop := x = y ∨ (∃ l l', x = .lf l ∧ y = .lf l' ∧ WkL l l') ∨ ∃ ls ms, x = .agg ls ∧ y = .agg ms ∧ Fa WkL ls ms
theorem wk_refl : ∀ l : List AV, Fa WkA l l
  | [] => trivial
  | _ :: l => ⟨.inl rfl, wk_refl l⟩

def scalL : Lf → Bool
  | .pv (.sc _) => true
  | _ => false
def scalT : TC → Bool
  | .lf l => scalL l
  | .agg l => l.all scalL
def scalA : AV → Bool
  | .lf l => scalL l
  | .agg l => l.all scalL
  | .tup l => l.all scalT
  | .un => false
def shL (n : Nat) : Lf → Lf
  | .own b len => .own (b + n) len
  | .view b m k => .view (b + n) m k
  | .bad b t => .bad (b + n) t
  | .bnd f b off => .bnd f (b + n) off
  | .ptr b off => .ptr (b + n) off
  | .ept b m i sz off => .ept (b + n) m i sz off
  | .pv p => .pv p
  | .ro l => .ro l
  | .fn f c => .fn f c
def shT (n : Nat) : TC → TC
  | .lf l => .lf (shL n l)
  | .agg l => .agg (l.map (shL n))
def shA (n : Nat) : AV → AV
  | .lf l => .lf (shL n l)
  | .agg l => .agg (l.map (shL n))
  | .tup l => .tup (l.map (shT n))
  | .un => .un

/-- f, to which these blocks are lent, at these arguments returns r; B1: the blocks behind it, those lent first. -/
def ConG (P : Program) (f : FuncId) (B0 : List Blk) (args : List AV) (r : AV) (B1 : List Blk) : Prop :=
  fnOK P f = true ∧ ∀ (w : World) (G0 : Gh) (us : List Value), Mem ⟨w, G0, B0, 0⟩ G0 B0 w → Fa (RepA G0 B0 w) args us →
    Calls P f us.toArray w fun e w' => ∃ u G', e = .returned u ∧ RepA G' B1 w' r u ∧ Mem ⟨w, G0, B0, 0⟩ G' B1 w'
def lendK (P : Program) (f : FuncId) (args : List AV) (bk : List Blk) (K : AV → List Blk → Prop) : Prop :=
  ∃ idx B0 cargs cargs' r B1, idx.Nodup ∧ pickB idx bk idx = some B0 ∧ renAs idx args = some cargs ∧ Fa WkA cargs cargs' ∧ ConG P f B0 cargs' r B1 ∧ K (bkA idx bk.length r) (bkBs idx bk B1)
def callK (P : Program) (ln : Bool) (fop : AV) (args : List AV) (bk : List Blk) (K : AV → List Blk → Prop) : Prop :=
  match fop with
  | .lf (.fn f caps) =>
    (match ln with
     | true => lendK P f (args ++ caps.map fun l => .lf (.ro l)) bk K
     | false => argsK bk args fun bk' cargs => ∃ cargs' r nb, Fa WkA (cargs ++ caps.map fun l => .lf (.ro l)) cargs' ∧ Con P f cargs' r nb ∧
        ((scalA r = true ∧ nb = [] ∧ K r bk) ∨ K (shA bk'.length r) (bk' ++ nb)))
  | .lf (.bnd f b off) => (match ln with | true => lendK P f (.lf (.ptr b off) :: args) bk K | false => False)
  | _ => False

section
variable {P : Program} {T : Tab} {C : Ctx} {G : Gh} {sl : Nat → AV} {bk : List Blk} {a : Act} {w : World}

def pureL : Lf → Prop
  | .pv _ | .ro _ | .fn _ _ => True
  | _ => False
def pureA : AV → Prop
  | .lf l => pureL l
  | .agg l => ∀ x ∈ l, pureL x
  | _ => False
theorem pure_rep {l : Lf} {v : Value} (hp : pureL l) (h : RepL G bk w l v) : RepL (Gh.base G.S) [] w l v := by
  cases l <;> first | exact h | exact hp.elim
theorem pureA_rep {x : AV} {v : Value} (hp : pureA x) (h : RepA G bk w x v) : RepA (Gh.base G.S) [] w x v := by
  cases x with
  | lf l => exact pure_rep hp h
  | agg l =>
    obtain ⟨us, rfl, hu⟩ := h
    refine ⟨us, rfl, ?_⟩
    have : ∀ {l : List Lf} {us : List Value}, (∀ x ∈ l, pureL x) → Fa (RepL G bk w) l us → Fa (RepL (Gh.base G.S) [] w) l us := fun {l} => by
      induction l with
      | nil => intro us _ h; cases us <;> exact h
      | cons x l ih =>
        intro us hp h
        cases us with
        | nil => exact h.elim
        | cons u us => exact ⟨pure_rep (hp x (by simp)) h.1, ih (fun y hy => hp y (by simp [hy])) h.2⟩
    exact this hp hu
  | _ => exact hp.elim

theorem argL_sound (hm : Mem C G bk w) {l : Lf} {v : Value} (hl : RepL G bk w l v) {K : List Blk → Lf → Prop} (h : argL bk l K) :
    ∃ G' bk' x, Trn G bk w G' bk' w ∧ Mem C G' bk' w ∧ RepL G' bk' w x v ∧ pureL x ∧ K bk' x := by
  cases l with
  | pv p => exact ⟨G, bk, _, Trn.refl _ _ _, hm, hl, trivial, h⟩
  | ro p => exact ⟨G, bk, _, Trn.refl _ _ _, hm, hl, trivial, h⟩
  | fn f c => exact ⟨G, bk, _, Trn.refl _ _ _, hm, hl, trivial, h⟩
  | own b len =>
    simp only [argL] at h
    obtain ⟨G', bk', p, t, m, hp, hk⟩ := pvK_sound hm hl h
    exact ⟨G', bk', .pv p, t, m, hp, trivial, hk⟩
  | view b n k =>
    simp only [argL] at h
    obtain ⟨G', bk', p, t, m, hp, hk⟩ := pvK_sound hm hl h
    exact ⟨G', bk', .pv p, t, m, hp, trivial, hk⟩
  | ptr b off =>
    simp only [argL] at h
    split at h
    · rename_i cells hb
      split at h
      · rename_i ps hps
        obtain ⟨G', t, m, _⟩ := hm.frz b _ (.frv ps) hb (by simp [frzB, hps])
        exact ⟨G', _, _, t, m, ptr_ro m (by rw [List.getElem?_set_self (List.getElem?_eq_some_iff.1 hb).1]) (t.repL hl), trivial, h⟩
      · exact h.elim
    · rename_i ps hb
      exact ⟨G, bk, _, Trn.refl _ _ _, hm, ptr_ro hm hb hl, trivial, h⟩
    · exact h.elim
  | ept b n i sz off => exact h.elim
  | bad b t => exact h.elim
  | bnd f b off => exact h.elim
theorem argLs_sound : ∀ {ls : List Lf} {G : Gh} {bk : List Blk} {vs : List Value} {K : List Blk → List Lf → Prop}, Mem C G bk w → Fa (RepL G bk w) ls vs → argLs bk ls K →
    ∃ G' bk' xs, Trn G bk w G' bk' w ∧ Mem C G' bk' w ∧ Fa (RepL G' bk' w) xs vs ∧ (∀ x ∈ xs, pureL x) ∧ K bk' xs
  | [], G, bk, [], K, hm, _, h => ⟨G, bk, [], Trn.refl _ _ _, hm, trivial, by simp, h⟩
  | l :: ls, G, bk, v :: vs, K, hm, hf, h => by
    obtain ⟨G1, b1, p, t1, m1, hp, hpu, h1⟩ := argL_sound hm hf.1 h
    obtain ⟨G2, b2, ps, t2, m2, hps, hpus, h2⟩ := argLs_sound m1 (hf.2.mono fun _ _ => t1.repL) h1
    exact ⟨G2, b2, p :: ps, t1.trans t2, m2, ⟨t2.repL hp, hps⟩, by simpa using ⟨hpu, hpus⟩, h2⟩
  | [], _, _, _ :: _, _, _, hf, _ => hf.elim
  | _ :: _, _, _, [], _, _, hf, _ => hf.elim
theorem argA_sound (hm : Mem C G bk w) {x : AV} {v : Value} (hx : RepA G bk w x v) {K : List Blk → AV → Prop} (h : argA bk x K) :
    ∃ G' bk' y, Trn G bk w G' bk' w ∧ Mem C G' bk' w ∧ RepA G' bk' w y v ∧ pureA y ∧ K bk' y := by
  cases x with
  | lf l =>
    simp only [argA] at h
    obtain ⟨G', bk', y, t, m, hy, hp, hk⟩ := argL_sound hm hx h
    exact ⟨G', bk', .lf y, t, m, hy, hp, hk⟩
  | agg ls =>
    obtain ⟨us, rfl, hu⟩ := hx
    simp only [argA] at h
    obtain ⟨G', bk', ys, t, m, hy, hp, hk⟩ := argLs_sound hm hu h
    exact ⟨G', bk', .agg ys, t, m, ⟨us, rfl, hy⟩, hp, hk⟩
  | _ => exact h.elim
theorem argsK_sound : ∀ {xs : List AV} {G : Gh} {bk : List Blk} {vs : List Value} {K : List Blk → List AV → Prop}, Mem C G bk w → Fa (RepA G bk w) xs vs → argsK bk xs K →
    ∃ G' bk' ys, Trn G bk w G' bk' w ∧ Mem C G' bk' w ∧ Fa (RepA (Gh.base G'.S) [] w) ys vs ∧ K bk' ys
  | [], G, bk, [], K, hm, _, h => ⟨G, bk, [], Trn.refl _ _ _, hm, trivial, h⟩
  | x :: xs, G, bk, v :: vs, K, hm, hf, h => by
    obtain ⟨G1, b1, y, t1, m1, hy, hp, h1⟩ := argA_sound hm hf.1 h
    obtain ⟨G2, b2, ys, t2, m2, hys, h2⟩ := argsK_sound m1 (hf.2.mono fun _ _ => t1.repA) h1
    exact ⟨G2, b2, y :: ys, t1.trans t2, m2, ⟨pureA_rep hp (t2.repA hy), hys⟩, h2⟩
  | [], _, _, _ :: _, _, _, hf, _ => hf.elim
  | _ :: _, _, _, [], _, _, hf, _ => hf.elim

theorem wkL_rep {l l' : Lf} {v : Value} (h : WkL l l') (hr : RepL G bk w l v) : RepL G bk w l' v := by
  rcases h with rfl | ⟨p, q, rfl, rfl, h⟩
  · exact hr
  · exact h _ _ _ hr
theorem wkA_rep {x y : AV} {v : Value} (h : WkA x y) (hr : RepA G bk w x v) : RepA G bk w y v := by
  rcases h with rfl | ⟨l, l', rfl, rfl, h⟩ | ⟨ls, ms, rfl, rfl, h⟩
  · exact hr
  · exact wkL_rep h hr
  · obtain ⟨us, rfl, hu⟩ := hr
    refine ⟨us, rfl, ?_⟩
    have : ∀ {ls ms : List Lf} {us : List Value}, Fa WkL ls ms → Fa (RepL G bk w) ls us → Fa (RepL G bk w) ms us := fun {ls} => by
      induction ls with
      | nil => intro ms us h1 h2; cases ms <;> cases us <;> first | trivial | exact h1.elim | exact h2.elim
      | cons x l ih =>
        intro ms us h1 h2
        cases ms with
        | nil => exact h1.elim
        | cons y ms => cases us with
          | nil => exact h2.elim
          | cons u us => exact ⟨wkL_rep h1.1 h2.1, ih h1.2 h2.2⟩
    exact this h hu
theorem wks_rep : ∀ {xs ys : List AV} {us : List Value}, Fa WkA xs ys → Fa (RepA G bk w) xs us → Fa (RepA G bk w) ys us
  | [], [], [], _, _ => trivial
  | _ :: _, _ :: _, _ :: _, h1, h2 => ⟨wkA_rep h1.1 h2.1, wks_rep h1.2 h2.2⟩
  | [], _ :: _, _, h1, _ => h1.elim
  | _ :: _, [], _, h1, _ => h1.elim
  | [], [], _ :: _, _, h2 => h2.elim
  | _ :: _, _ :: _, [], _, h2 => h2.elim

/-- A world in which all that was there is as it was. -/
theorem Mem.below {w' : World} (h : Mem C G bk w) (hos : w'.os = w.os) (htp : w'.tape = w.tape) (hou : w'.output = w.output) (hsz : w.heap.size ≤ w'.heap.size) (hh : ∀ g, g < w.heap.size → w'.heap[g]? = w.heap[g]?) :
    Trn G bk w G bk w' ∧ Mem C G bk w' := by
  have t : Trn G bk w G bk w' := ⟨fun _ _ h => h, fun g o hs => World.cell?_of_block (a := ⟨g, o, none⟩) (hh g (h.slt g o hs)), Nat.le_refl _, fun _ _ h => ⟨h, rfl⟩, fun _ _ rows h => ⟨rows, h, Nat.le_refl _, fun _ => ⟨rfl, rfl⟩⟩⟩
  exact ⟨t, ⟨fun b B hb => RepB.step t rfl rfl (fun g hg => hh g (h.mlt b g (List.getElem?_eq_some_iff.1 hb).1 hg)) (h.blk b B hb), h.inj, h.sdis, fun g o hs => Nat.lt_of_lt_of_le (h.slt g o hs) hsz, fun b g hb hg => Nat.lt_of_lt_of_le (h.mlt b g hb hg) hsz, h.new, h.s0, h.snew,
    hos.trans h.os, htp.trans h.tape, hou.trans h.output, Nat.le_trans h.size hsz, fun g hg hn => (hh g (Nat.lt_of_lt_of_le hg h.size)).trans (h.block g hg hn), h.mle, h.t0.trans t⟩⟩

theorem scalL_rep {G' : Gh} {bk' : List Blk} {w' : World} {l : Lf} {v : Value} (hs : scalL l = true) (h : RepL G bk w l v) : RepL G' bk' w' l v := by
  cases l with
  | pv p => cases p with
    | sc u => have h' : RepP G.S w (.sc u) v := h; cases h'; exact RepP.sc _ (by assumption)
    | sl sz rows => cases hs
  | _ => cases hs
theorem fa_all {α β : Type} {R R' : α → β → Prop} {p : α → Bool} (hr : ∀ a b, p a = true → R a b → R' a b) : ∀ {l : List α} {m : List β}, l.all p = true → Fa R l m → Fa R' l m
  | [], [], _, _ => trivial
  | x :: l, y :: m, hp, h => by
    simp only [List.all_cons, Bool.and_eq_true] at hp
    exact ⟨hr _ _ hp.1 h.1, fa_all hr hp.2 h.2⟩
  | [], _ :: _, _, h => h.elim
  | _ :: _, [], _, h => h.elim
theorem scalA_rep {G' : Gh} {bk' : List Blk} {w' : World} {x : AV} {v : Value} (hs : scalA x = true) (h : RepA G bk w x v) : RepA G' bk' w' x v := by
  cases x with
  | lf l => exact scalL_rep hs h
  | agg l => obtain ⟨us, rfl, hu⟩ := h; exact ⟨us, rfl, fa_all (p := scalL) (fun _ _ h1 h2 => scalL_rep h1 h2) hs hu⟩
  | tup l =>
    obtain ⟨us, rfl, hu⟩ := h
    refine ⟨us, rfl, fa_all (fun t v h1 h2 => ?_) hs hu⟩
    cases t with
    | lf l => exact scalL_rep h1 h2
    | agg l => obtain ⟨us, rfl, hu⟩ := h2; exact ⟨us, rfl, fa_all (p := scalL) (fun _ _ h1 h2 => scalL_rep h1 h2) h1 hu⟩
  | un => cases hs

/-- What a callee has made joins what the caller has. -/
theorem Mem.join {w' : World} {G1 : Gh} {nb : List Blk} (h : Mem C G bk w) (hn : nb.all isArr = true) (k : Mem (Ctx.base w G.S 0) G1 nb w') :
    ∃ G', Trn G bk w G' (bk ++ nb) w' ∧ Mem C G' (bk ++ nb) w' ∧ ∀ x u, RepA G1 nb w' x u → RepA G' (bk ++ nb) w' (shA bk.length x) u := by
  let G' : Gh := { M := fun b => if b < bk.length then G.M b else G1.M (b - bk.length), S := G1.S, cp := fun b => if b < bk.length then G.cp b else G1.cp (b - bk.length) }
  have hMo : ∀ b, b < bk.length → G'.M b = G.M b := fun b hb => if_pos hb
  have hco : ∀ b, b < bk.length → G'.cp b = G.cp b := fun b hb => if_pos hb
  have hMn : ∀ b, G'.M (b + bk.length) = G1.M b := fun b => by show (if _ then _ else _) = _; rw [if_neg (by omega)]; congr 1; omega
  have hcn : ∀ b, G'.cp (b + bk.length) = G1.cp b := fun b => by show (if _ then _ else _) = _; rw [if_neg (by omega)]; congr 1; omega
  have hold : ∀ g, g < w.heap.size → w'.heap[g]? = w.heap[g]? := fun g hg => k.block g hg (fun b' hb' => absurd hb' (Nat.not_lt_zero _))
  have hnew : ∀ b g, b < nb.length → G1.M b = some g → w.heap.size ≤ g := fun b g hb hg => by
    rcases k.new b g hb hg with h1 | ⟨b', h1, _⟩
    · exact h1
    · exact absurd h1 (Nat.not_lt_zero _)
  have hS : ∀ g o, G1.S g o → G.S g o ∨ w.heap.size ≤ g := fun g o hs => by
    rcases k.snew g o hs with h1 | h1 | ⟨b', h1, _⟩
    · exact .inl h1
    · exact .inr h1
    · exact absurd h1 (Nat.not_lt_zero _)
  have hgn : ∀ b, (bk ++ nb)[b + bk.length]? = nb[b]? := fun b => by rw [List.getElem?_append_right (by omega), Nat.add_sub_cancel]
  have hrn : ∀ b, rowsOf (bk ++ nb) (b + bk.length) = rowsOf nb b := fun b => by unfold rowsOf; rw [hgn]
  have hlen : (bk ++ nb).length = bk.length + nb.length := by simp
  have t : Trn G bk w G' (bk ++ nb) w' := by
    refine ⟨k.s0, fun g o hs => World.cell?_of_block (a := ⟨g, o, none⟩) (hold g (h.slt g o hs)), by simp, fun b hb hr => ⟨by rw [rowsOf_append _ hb]; exact hr, hMo b hb⟩, fun b sz rows hr => ⟨rows, by rw [rowsOf_append _ (rowsOf_lt hr)]; exact hr, Nat.le_refl _, fun _ => ⟨hMo b (rowsOf_lt hr), hco b (rowsOf_lt hr)⟩⟩⟩
  have hsplit : ∀ b, b < (bk ++ nb).length → b < bk.length ∨ ∃ c, c < nb.length ∧ b = c + bk.length := fun b hb => by
    rw [hlen] at hb
    rcases Nat.lt_or_ge b bk.length with h1 | h1
    · exact .inl h1
    · exact .inr ⟨b - bk.length, by omega, by omega⟩
  have repLn : ∀ l u, RepL G1 nb w' l u → RepL G' (bk ++ nb) w' (shL bk.length l) u := fun l u hl => by
    cases l with
    | pv p => exact hl
    | ro p => exact hl
    | fn f c => exact hl
    | ptr b off =>
      obtain ⟨⟨g, hg, rfl⟩, hb, hr⟩ := hl
      exact ⟨⟨g, by rw [hMn]; exact hg, rfl⟩, by rw [hlen]; omega, by rw [hrn]; exact hr⟩
    | bnd f b off =>
      obtain ⟨⟨g, hg, rfl⟩, hb, hr⟩ := hl
      exact ⟨⟨g, by rw [hMn]; exact hg, rfl⟩, by rw [hlen]; omega, by rw [hrn]; exact hr⟩
    | bad b t =>
      obtain ⟨h1, hb, hr⟩ := hl
      exact ⟨by rcases h1 with h1 | ⟨g, hg, h1⟩
                · exact .inl h1
                · exact .inr ⟨g, by rw [hMn]; exact hg, h1⟩, by rw [hlen]; omega, by rw [hrn]; exact hr⟩
    | ept b n i sz off =>
      obtain ⟨h1, rows, h2, h3, h4⟩ := hl
      refine ⟨h1, rows, by rw [hrn]; exact h2, h3, fun e => ?_⟩
      obtain ⟨g, hg, rfl⟩ := h4 e
      exact ⟨g, by rw [hMn]; exact hg, rfl⟩
    | own b len =>
      obtain ⟨h1, sz, rows, h2, h3, h4⟩ := hl
      refine ⟨h1, sz, rows, by rw [hrn]; exact h2, h3, fun e => ?_⟩
      rcases h4 e with ⟨g, hg, rfl⟩ | ⟨hg, h0, rfl⟩
      · exact .inl ⟨g, by rw [hMn]; exact hg, by rw [hcn]⟩
      · exact .inr ⟨by rw [hMn]; exact hg, h0, rfl⟩
    | view b n k =>
      obtain ⟨h1, sz, rows, h2, h3, hk, h4⟩ := hl
      refine ⟨h1, sz, rows, by rw [hrn]; exact h2, h3, hk, fun e => ?_⟩
      rcases h4 e with ⟨g, hg, rfl⟩ | ⟨hg, h0, rfl⟩
      · exact .inl ⟨g, by rw [hMn]; exact hg, by rw [hcn]⟩
      · exact .inr ⟨by rw [hMn]; exact hg, h0, rfl⟩
  have fmap : ∀ {α : Type} {R R' : α → Value → Prop} {f : α → α}, (∀ l u, R l u → R' (f l) u) → ∀ {ls : List α} {us : List Value}, Fa R ls us → Fa R' (ls.map f) us := fun {α R R' f} hf {ls} => by
    induction ls with
    | nil => intro us h; cases us <;> exact h
    | cons x l ih => intro us h; cases us with
      | nil => exact h.elim
      | cons u us => exact ⟨hf _ _ h.1, ih h.2⟩
  refine ⟨G', t, ⟨fun b B hb => ?_, fun b b' g hb hb' e e' => ?_, fun g o b hs ha e => ?_, k.slt, fun b g hb e => ?_, fun b g hb e => ?_, fun g o hs => k.s0 g o (h.s0 g o hs), fun g o hs => ?_, k.os.trans h.os, k.tape.trans h.tape, k.output.trans h.output, Nat.le_trans h.size k.size,
    fun g hg hn' => (hold g (Nat.lt_of_lt_of_le hg h.size)).trans (h.block g hg hn'), by have := h.mle; rw [hlen]; omega, h.t0.trans t⟩, fun x u hx => ?_⟩
  · rcases hsplit b (List.getElem?_eq_some_iff.1 hb).1 with hl | ⟨c, hc, rfl⟩
    · rw [List.getElem?_append_left hl] at hb
      exact RepB.step t (hMo b hl) (hco b hl) (fun g hg => hold g (h.mlt b g hl hg)) (h.blk b B hb)
    · rw [hgn] at hb
      have ha : isArr B = true := List.all_eq_true.1 hn B (List.mem_of_getElem? hb)
      have hk := k.blk c B hb
      cases B with
      | arr e sz rows =>
        rcases hk with ⟨h1, h2⟩ | ⟨g, cur, h0, h1, h2, h3, h4, h5⟩
        · exact .inl ⟨by rw [hMn]; exact h1, h2⟩
        · exact .inr ⟨g, cur, by rw [hMn]; exact h0, h1, by rw [hcn]; exact h2, by rw [hcn]; exact h3, by rw [hcn]; exact h4, h5⟩
      | _ => cases ha
  · rcases hsplit b hb with hl | ⟨c, hc, rfl⟩ <;> rcases hsplit b' hb' with hl' | ⟨c', hc', rfl⟩
    · rw [hMo b hl] at e; rw [hMo b' hl'] at e'; exact h.inj b b' g hl hl' e e'
    · rw [hMo b hl] at e; rw [hMn] at e'; have := h.mlt b g hl e; have := hnew c' g hc' e'; omega
    · rw [hMn] at e; rw [hMo b' hl'] at e'; have := h.mlt b' g hl' e'; have := hnew c g hc e; omega
    · rw [hMn] at e; rw [hMn] at e'; rw [k.inj c c' g hc hc' e e']
  · rcases hsplit b (alive_lt ha) with hl | ⟨c, hc, rfl⟩
    · rw [hMo b hl] at e
      rcases hS g o hs with h1 | h1
      · exact h.sdis g o b h1 ((alive_append _ hl).1 ha) e
      · have := h.mlt b g hl e; omega
    · rw [hMn] at e
      refine k.sdis g o c hs ?_ e
      unfold Alive at ha ⊢
      rw [hgn] at ha
      exact ha
  · rcases hsplit b hb with hl | ⟨c, hc, rfl⟩
    · rw [hMo b hl] at e; have := h.mlt b g hl e; have := k.size; exact Nat.lt_of_lt_of_le (h.mlt b g hl e) k.size
    · rw [hMn] at e; exact k.mlt c g hc e
  · rcases hsplit b hb with hl | ⟨c, hc, rfl⟩
    · rw [hMo b hl] at e; exact h.new b g hl e
    · rw [hMn] at e; exact .inl (Nat.le_trans h.size (hnew c g hc e))
  · rcases hS g o hs with h1 | h1
    · exact h.snew g o h1
    · exact .inr (.inl (Nat.le_trans h.size h1))
  · cases x with
    | lf l => exact repLn l u hx
    | agg l => obtain ⟨us, rfl, hu⟩ := hx; exact ⟨us, rfl, fmap repLn hu⟩
    | tup l =>
      obtain ⟨us, rfl, hu⟩ := hx
      refine ⟨us, rfl, fmap (fun t u ht => ?_) hu⟩
      cases t with
      | lf l => exact repLn l u ht
      | agg l => obtain ⟨us, rfl, hu⟩ := ht; exact ⟨us, rfl, fmap repLn hu⟩
    | un => trivial

theorem renAs_rep {idx : List Nat} {B : List Blk} {G' : Gh} (hr : ∀ l l' v, renL idx l = some l' → RepL G bk w l v → RepL G' B w l' v) : ∀ {xs ys : List AV} {us : List Value}, renAs idx xs = some ys → Fa (RepA G bk w) xs us → Fa (RepA G' B w) ys us
  | [], ys, us, h, hf => by simp [renAs] at h; subst h; cases us <;> exact hf
  | x :: xs, ys, us, h, hf => by
    unfold renAs at h
    split at h
    · rename_i y ys' hy hys
      cases h
      cases us with
      | nil => exact hf.elim
      | cons u us =>
        refine ⟨?_, renAs_rep hr hys hf.2⟩
        cases x with
        | lf l =>
          simp only [renA, Option.map_eq_some_iff] at hy
          obtain ⟨l', h1, rfl⟩ := hy
          exact hr _ _ _ h1 hf.1
        | agg l =>
          simp only [renA, Option.map_eq_some_iff] at hy
          obtain ⟨l', h1, rfl⟩ := hy
          obtain ⟨vs, e, hvs⟩ := hf.1
          exact ⟨vs, e, renLs_get h1 hr hvs⟩
        | _ => simp [renA] at hy
    · cases h
theorem lendK_sound (hm : Mem C G bk w) {f : FuncId} {xs : List AV} {us : List Value} (hx : Fa (RepA G bk w) xs us) {K : AV → List Blk → Prop} (h : lendK P f xs bk K) :
    fnOK P f = true ∧ Calls P f us.toArray w fun e w' => ∃ u x G' bk', e = .returned u ∧ Trn G bk w G' bk' w' ∧ Mem C G' bk' w' ∧ RepA G' bk' w' x u ∧ K x bk' := by
  obtain ⟨idx, B0, cargs, cargs', r, B1, hnd, hB, hren, hwk, hcon, hk⟩ := h
  obtain ⟨m1, rep⟩ := hm.pick hnd hB 0
  refine ⟨hcon.1, (hcon.2 w (G.pick idx) us m1 (wks_rep hwk (renAs_rep rep hren hx))).mono ?_⟩
  rintro e w' ⟨u, G2, rfl, hr, m2⟩
  obtain ⟨G3, t3, m3, hj⟩ := hm.back hnd hB m2
  exact ⟨u, _, G3, _, rfl, t3, m3, hj _ _ hr, hk⟩
theorem callK_sound (hm : Mem C G bk w) {fop : AV} {fv : Value} {xs : List AV} {us : List Value} (hf : RepA G bk w fop fv) (hx : Fa (RepA G bk w) xs us) {ln : Bool} {K : AV → List Blk → Prop} (h : callK P ln fop xs bk K) :
    ∃ (f : FuncId) (first caps : List Value), fv = .func (.func f) first.toArray caps.toArray ∧ fnOK P f = true ∧ Calls P f (first ++ us ++ caps).toArray w fun e w' => ∃ u x G' bk', e = .returned u ∧ Trn G bk w G' bk' w' ∧ Mem C G' bk' w' ∧ RepA G' bk' w' x u ∧ K x bk' := by
  unfold callK at h
  split at h
  · rename_i f caps
    obtain ⟨cus, rfl, hc⟩ := hf
    cases ln with
    | true =>
      have hcap : Fa (RepA G bk w) (caps.map fun l => .lf (.ro l)) cus := by
        have : ∀ {cs : List (List PV)} {us : List Value}, Fa (fun l u => ∃ g o, u = .pointer (some ⟨g, o, none⟩) ∧ CellsP G.S w g o l) cs us → Fa (RepA G bk w) (cs.map fun l => .lf (.ro l)) us := fun {cs} => by
          induction cs with
          | nil => intro us h; cases us <;> exact h
          | cons x l ih => intro us h; cases us with
            | nil => exact h.elim
            | cons u us =>
              obtain ⟨g, o, rfl, hcell⟩ := h.1
              exact ⟨⟨g, o, rfl, hcell⟩, ih h.2⟩
        exact this hc
      obtain ⟨h1, h2⟩ := lendK_sound hm (hx.append hcap) h
      exact ⟨f, [], cus, rfl, h1, h2⟩
    | false =>
    obtain ⟨G1, b1, ys, t1, m1, hy, cargs, r, nb, hwk, hcon, hk⟩ := argsK_sound hm hx h
    have hcap : Fa (RepA (Gh.base G1.S) [] w) (caps.map fun l => .lf (.ro l)) cus := by
      have : ∀ {cs : List (List PV)} {us : List Value}, Fa (fun l u => ∃ g o, u = .pointer (some ⟨g, o, none⟩) ∧ CellsP G.S w g o l) cs us → Fa (RepA (Gh.base G1.S) [] w) (cs.map fun l => .lf (.ro l)) us := fun {cs} => by
        induction cs with
        | nil => intro us h; cases us <;> exact h
        | cons x l ih => intro us h; cases us with
          | nil => exact h.elim
          | cons u us =>
            obtain ⟨g, o, rfl, hcell⟩ := h.1
            exact ⟨⟨g, o, rfl, t1.cellsP hcell⟩, ih h.2⟩
      exact this hc
    refine ⟨f, [], cus, rfl, hcon.1, (hcon.2.2 w G1.S _ m1.slt (wks_rep hwk (hy.append hcap))).mono ?_⟩
    rintro e w' ⟨u, G2, rfl, hr, m2⟩
    have hold : ∀ g, g < w.heap.size → w'.heap[g]? = w.heap[g]? := fun g hg => m2.block g hg (fun b' hb' => absurd hb' (Nat.not_lt_zero _))
    rcases hk with ⟨hs, rfl, hk⟩ | hk
    · obtain ⟨t3, m3⟩ := hm.below m2.os m2.tape m2.output m2.size hold
      exact ⟨u, r, G, bk, rfl, t3, m3, scalA_rep hs hr, hk⟩
    · obtain ⟨G3, t3, m3, hj⟩ := m1.join hcon.2.1 m2
      exact ⟨u, _, G3, _, rfl, t1.trans t3, m3, hj _ _ hr, hk⟩
  · rename_i f b off
    obtain ⟨⟨g, hg, rfl⟩, hb, hr⟩ := hf
    cases ln with
    | false => exact h.elim
    | true =>
      obtain ⟨h1, h2⟩ := lendK_sound hm (xs := .lf (.ptr b off) :: xs) (us := .pointer (some ⟨g, off, none⟩) :: us) ⟨⟨⟨g, hg, rfl⟩, hb, hr⟩, hx⟩ h
      exact ⟨f, [.pointer (some ⟨g, off, none⟩)], [], rfl, h1, by simpa using h2⟩
  · exact h.elim
end
end Go.Rx

/- Every operation: what it makes of what is known, and that it is so. -/
set_option linter.unusedVariables false
set_option linter.unusedSimpArgs false
namespace Go.Rx
open Go.RowKit

def fldOff (T : Tab) (s : TypeId) (f : Nat) : Option Nat :=
  match T.find s with
  | some ⟨.strct fs, _, _, _⟩ =>
    (match fs[f]? with
     | some (off, t) => (match T.find t with | some ty => bif Nat.beq ty.size 0 then none else some off | none => none)
     | none => none)
  | _ => none
def elemOf? (T : Tab) (t : TypeId) : Option (TypeId × Ty) :=
  match T.find t with
  | some ⟨.slice e, _, _, _⟩ => (T.find e).map fun te => (e, te)
  | _ => none
def isStr (T : Tab) (t : TypeId) : Bool := match T.find t with | some ⟨.str, _, _, _⟩ => true | _ => false
def isBoolT (T : Tab) (t : TypeId) : Bool := match T.find t with | some ⟨.bool, _, _, _⟩ => true | _ => false
def isIfc (T : Tab) (t : TypeId) : Bool := match T.find t with | some ⟨.ifc, _, _, _⟩ => true | _ => false
def cstO : Operand → Bool
  | .const _ => true
  | _ => false
def ifcK (op : BinOp) (xo yo : Operand) (x y : AV) (K : AV → Prop) : Prop :=
  match x, y with
  | .lf (.pv (.sc .nilIface)), .lf (.pv (.sc .nilIface)) => (cstO xo || cstO yo) = true ∧ (match op with | .eql => K (sc (.bool true)) | .neq => K (sc (.bool false)) | _ => False)
  | .lf (.pv (.sc (.iface _ _))), .lf (.pv (.sc .nilIface)) => (match op with | .eql => K (sc (.bool false)) | .neq => K (sc (.bool true)) | _ => False)
  | _, _ => False
/-- Rows of bytes; a text's bytes as rows. -/
def isBytes (T : Tab) (t : TypeId) : Bool := match elemOf? T t with | some (_, ⟨.int .u8, _, _, _⟩) => true | _ => false
def intKind (T : Tab) (t : TypeId) : Option IntKind := match T.find t with | some ⟨.int k, _, _, _⟩ => some k | _ => none
/-- A bound of a slice expression. -/
def bnd (x : Option AV) (d : Int) : Option Int :=
  match x with
  | none => some d
  | some (.lf (.pv (.sc (.int _ n)))) => some n
  | _ => none
def eqV (T : Tab) (t : TypeId) (u v : Value) : Option Bool :=
  match T.find t, u, v with
  | some ⟨.int _, _, _, _⟩, .int k a, .int k' b => if k = k' then some (a == b) else none
  | some ⟨.bool, _, _, _⟩, .bool a, .bool b => some (a == b)
  | some ⟨.str, _, _, _⟩, .string a, .string b => some (a == b)
  | _, _, _ => none
/-- Two structs whose fields are of one cell each, in order, and plain. -/
def eqFs (T : Tab) : Nat → List (Nat × TypeId) → List Lf → List Lf → Option Bool
  | _, [], [], [] => some true
  | i, (off, t) :: fs, .pv (.sc u) :: l, .pv (.sc v) :: m =>
    bif Nat.beq off i then (match eqV T t u v with | some b => (eqFs T (i + 1) fs l m).map fun r => b && r | none => none) else none
  | _, _, _, _ => none

def tyB (T : Tab) (t : TypeId) (u : Value) : Bool := match T.find t, u with | some _, .bool _ => isBoolT T t | some _, _ => true | none, _ => false
def binX (op : BinOp) (u v : Value) (K : AV → Prop) : Prop :=
  match op, u, v with
  | .add, .string a, .string b => a.size + b.size ≤ 9223372036854775807 ∧ K (sc (.string (a ++ b)))
  | .quo, .int .i64 a, .int .i64 b => 0 ≤ a ∧ 0 < b ∧ a ≤ 9223372036854775807 ∧ K (sc (.int .i64 (a / b)))
  | .rem, .int .i64 a, .int .i64 b => (0 ≤ a ∧ 0 < b ∧ a ≤ 9223372036854775807 ∧ K (sc (.int .i64 (a % b)))) ∨ (b ≠ 0 ∧ K (sc (.int .i64 (a.tmod b))))
  | .rem, .int .u64 a, .int .u64 b => 0 ≤ a ∧ 0 < b ∧ K (sc (.int .u64 (a % b)))
  | .shl, .int k a, .int _ b => 0 ≤ b ∧ K (sc (.int k (k.wrap (a * 2 ^ (min b.toNat k.bits)))))
  | .shr, .int k a, .int _ b => 0 ≤ b ∧ K (sc (.int k (a.fdiv (2 ^ (min b.toNat k.bits)))))
  | .or, .int k a, .int k' b => k = k' ∧ K (sc (.int k (k.wrap (BitVec.ofInt k.bits a ||| BitVec.ofInt k.bits b).toNat)))
  | .and, .int k a, .int k' b => k = k' ∧ K (sc (.int k (k.wrap (BitVec.ofInt k.bits a &&& BitVec.ofInt k.bits b).toNat)))
  | _, _, _ => False
def binK (T : Tab) (op : BinOp) (t : TypeId) (x y : AV) (K : AV → Prop) : Prop :=
  match x, y with
  | .lf (.pv (.sc u)), .lf (.pv (.sc v)) =>
    (match vBin op u v with
     | some z => bif tyB T t u then K (sc z) else False
     | none =>
       binX op u v K)
  | .agg ls, .agg ms =>
    (match T.find t with
     | some ⟨.strct fs, _, _, _⟩ =>
       (match eqFs T 0 fs ls ms with
        | some r => (match op with | .eql => K (sc (.bool r)) | .neq => K (sc (.bool (!r))) | _ => False)
        | none => False)
     | _ => False)
  | _, _ => False

def chunk (sz : Nat) : Nat → List PV → List (List PV)
  | 0, _ => []
  | n + 1, l => l.take sz :: chunk sz n (l.drop sz)

def lfOf : AV → Option Lf
  | .lf l => some l
  | _ => none
def roOf : Lf → Option (List PV)
  | .ro l => some l
  | _ => none
/-- A strings.Builder, new: its address is none yet, or its own. -/
def bldCells (b : Nat) (t : TypeId) : List Value → List Lf
  | .pointer none :: r => .bad b t :: r.map lsc
  | l => l.map lsc
def opV (P : Program) (T : Tab) (op : Op) (ρ : Operand → AV) (bk : List Blk) (K : AV → List Blk → Prop) : Prop :=
  match op with
  | .move x => K (ρ x) bk
  | .assign x => K (ρ x) bk
  | .pick c x y =>
    (match ρ c with
     | .lf (.pv (.sc (.bool true))) => K (ρ x) bk
     | .lf (.pv (.sc (.bool false))) => K (ρ y) bk
     | _ => False)
  | .alloc t => (match T.find t with | some ty => K (.lf (.ptr bk.length 0)) (bk ++ [.var (bif T.bld.any (Nat.beq t) then bldCells bk.length t ty.zero else ty.zero.map lsc)]) | none => False)
  | .box t x => (match leaves (ρ x) with | some ls => bif ls.all notBad then K (.lf (.ptr bk.length 0)) (bk ++ [.var ls]) else False | none => False)
  | .build t parts =>
    (match T.find t with
     | some ⟨.strct fs, _, _, zero⟩ => (match fillL (placeT T fs) (zero.map lsc) (parts.toList.map fun p => (p.1, leaves (ρ p.2))) with | some ls => K (.agg ls) bk | none => False)
     | _ => False)
  | .buildSlice t len parts =>
    (match elemOf? T t with
     | some (e, te) => bif Nat.blt 0 te.size && Nat.ble (len * te.size) 16777216 && Nat.ble len 9223372036854775807 then
         (match fillL (fun i => some (i * te.size, te.size)) ((List.range (len * te.size)).map fun i => lsc (te.zero.getD (i % te.size) undef)) (parts.toList.map fun p => (p.1, leaves (ρ p.2))) with
          | some ls => pvsK bk ls fun bk ps => K (.lf (.own bk.length len)) (bk ++ [.arr e te.size (chunk te.size len ps)])
          | none => False) else False
     | none => False)
  | .makeSlice t l c =>
    (match elemOf? T t, ρ l, ρ c with
     | some (e, te), .lf (.pv (.sc (.int _ n))), .lf (.pv (.sc (.int _ m))) => bif Nat.beq te.size 1 && Nat.blt 0 te.bytes then
         (n = m ∧ ∃ N : Nat, n = N ∧ N * te.bytes ≤ 140737488355328 ∧ K (.lf (.own bk.length N)) (bk ++ [.arr e te.size (List.replicate N (te.zero.map PV.sc))])) else False
     | _, _, _ => False)
  | .load t p => loadK T t (ρ p) bk fun x => K x bk
  | .store t p x => storeK T t (ρ p) (ρ x) bk fun bk => K .un bk
  | .nilCheck x => (match ρ x with | .lf (.ptr b o) => K (.lf (.ptr b o)) bk | .lf (.ro l) => K (.lf (.ro l)) bk | .lf (.ept b n i sz o) => (match rowsOf bk b with | some (_, rows) => rows.length = n ∧ K (.lf (.ept b n i sz o)) bk | none => False) | _ => False)
  | .binOp op t x y _ => bif isIfc T t then ifcK op x y (ρ x) (ρ y) fun z => K z bk else binK T op t (ρ x) (ρ y) fun z => K z bk
  | .makeInterface t x => (match T.find t, ρ x with | some ⟨.strct [], _, _, _⟩, .agg [] => K (sc (.iface t (.agg #[]))) bk | _, _ => False)
  | .unOp op _ x => (match ρ x with | .lf (.pv (.sc u)) => (match vUn op u with | some z => K (sc z) bk | none => False) | _ => False)
  | .convert s d x =>
    (match ρ x with
     | .lf (.pv (.sc (.int k n))) => (match intKind T s, intKind T d with | some _, some k' => K (sc (.int k' (k'.wrap n))) bk | _, _ => False)
     | .lf (.pv (.sc (.string z))) => bif isStr T s then (bif isStr T d then K (sc (.string z)) bk else bif isBytes T d then K (.lf (.pv (.sl 1 (byteRows z)))) (bk ++ [.dead]) ∨ (z.size ≤ 140737488355328 ∧ match elemOf? T d with | some (ee, _) => (match txtB with | true => K (.lf (.own bk.length z.size)) (bk ++ [.arr ee 1 (byteRows z)]) | false => False) | none => False) else False) else False
     | .lf (.pv (.sl sz rows)) => bif isBytes T s && isStr T d && Nat.beq sz 1 then ∃ z, rows = byteRows z ∧ K (sc (.string z)) bk else False
     | .lf (.pv (.sc (.slice none 0 0))) => bif isBytes T s && isStr T d then K (sc (.string .empty)) bk else False
     | .lf (.own b len) =>
       bif isBytes T s then
         (bif isStr T d then (match rowsOf bk b with | some (sz, rows) => bif Nat.beq sz 1 then rows.length = len ∧ ∃ z, rows = byteRows z ∧ K (sc (.string z)) bk else False | none => False)
          else bif isBytes T d && Nat.beq s d && Nat.blt 0 len then pvK bk (.own b len) fun bk p => K (.lf (.pv p)) bk else False) else False
     | _ => False)
  | .slice t x lo hi none =>
    (match ρ x with
     | .lf (.pv (.sc (.string s))) => bif isStr T t then (match bnd (lo.map ρ) 0, bnd (hi.map ρ) s.size with | some l, some h => 0 ≤ l ∧ l ≤ h ∧ h ≤ s.size ∧ K (sc (.string (s.extract l.toNat h.toNat))) bk | _, _ => False) else False
     | .lf l => pvK bk l fun bk p =>
       (match p, elemOf? T t with
        | .sl sz rows, some (e, te) => bif Nat.beq te.size sz then (match bnd (lo.map ρ) 0, bnd (hi.map ρ) rows.length with | some l, some h => 0 ≤ l ∧ l ≤ h ∧ h ≤ rows.length ∧ K (.lf (.pv (.sl sz ((rows.take h.toNat).drop l.toNat)))) bk | _, _ => False) else False
        | _, _ => False)
     | _ => False)
  | .fieldAddr s x f =>
    (match fldOff T s f with
     | some off =>
       (match ρ x with
        | .lf (.ptr b o) => K (.lf (.ptr b (o + off))) bk
        | .lf (.ro l) => K (.lf (.ro (l.drop off))) bk
        | .lf (.ept b n i sz o) => (match rowsOf bk b with | some (_, rows) => rows.length = n ∧ K (.lf (.ept b n i sz (o + off))) bk | none => False)
        | _ => False)
     | none => False)
  | .indexAddr t x ix =>
    (match elemOf? T t, ρ ix with
     | some (_, te), .lf (.pv (.sc (.int _ i))) =>
       (match ρ x with
        | .lf (.pv (.sl sz rows)) => bif Nat.beq te.size sz then 0 ≤ i ∧ ∃ r, rows[i.toNat]? = some r ∧ K (.lf (.ro r)) bk else False
        | .lf (.own b len) => (match rowsOf bk b with | some (sz, rows) => bif Nat.beq te.size sz then rows.length = len ∧ 0 ≤ i ∧ i < len ∧ K (.lf (.ept b len i.toNat sz 0)) bk else False | none => False)
        | _ => False)
     | _, _ => False)
  | .index t x ix =>
    (match ρ x, ρ ix with
     | .lf (.pv (.sc (.string s))), .lf (.pv (.sc (.int _ i))) => bif isStr T t then 0 ≤ i ∧ ∃ c, s[i.toNat]? = some c ∧ K (sc (.int .u8 c.toNat)) bk else False
     | _, _ => False)
  | .extract x k => (match ρ x with | .tup ts => (match ts[k]? with | some (.lf l) => K (.lf l) bk | some (.agg l) => K (.agg l) bk | none => False) | _ => False)
  | .makeFunc (.func f) first caps =>
    (match first.toList with
     | [] =>
       (match (caps.toList.map ρ).mapM lfOf with
        | some ls => argLs bk ls fun bk xs => (match xs.mapM roOf with | some cs => K (.lf (.fn f cs)) bk | none => False)
        | none => False)
     | [x] => (match caps.toList, ρ x with | [], .lf (.ptr b off) => K (.lf (.bnd f b off)) bk | _, _ => False)
     | _ => False)
  | .call c =>
    (match c.callee, c.args.toList, c.argTypes.toList with
     | .builtin .len, [x], [t] =>
       (match ρ x with
        | .lf (.pv (.sc (.string s))) => bif isStr T t then K (sc (.int .i64 s.size)) bk else False
        | .lf (.pv (.sl _ rows)) => (match elemOf? T t with | some _ => K (sc (.int .i64 rows.length)) bk | none => False)
        | .lf (.pv (.sc (.slice none 0 0))) => (match elemOf? T t with | some _ => K (sc (.int .i64 0)) bk | none => False)
        | .lf (.own b len) => (match elemOf? T t, rowsOf bk b with | some _, some (_, rows) => rows.length = len ∧ K (sc (.int .i64 len)) bk | _, _ => False)
        | _ => False)
     | .builtin .append, [x, y], [t, t'] => bif Nat.beq t t' then
       (match elemOf? T t with
        | some (e, te) => bif Nat.blt 0 te.size && Nat.blt 0 te.bytes then
          (match ρ y with
           | .lf l => pvK bk l fun bk p => ∃ rows2, (p = .sl te.size rows2 ∨ (p = .sc (.slice none 0 0) ∧ rows2 = [])) ∧
             (match ρ x with
              | .lf (.own b len) => (match bk[b]? with | some (.arr e' sz rows) => bif Nat.beq e' e && Nat.beq sz te.size then rows.length = len ∧ (len + rows2.length) * te.bytes ≤ 140737488355328 ∧ K (.lf (.own b (len + rows2.length))) (bk.set b (.arr e sz (rows ++ rows2))) else False | _ => False)
              | .lf (.pv (.sc (.slice none 0 0))) => rows2.length * te.bytes ≤ 140737488355328 ∧ K (.lf (.own bk.length rows2.length)) (bk ++ [.arr e te.size rows2])
              | _ => False)
           | _ => False) else False
        | none => False) else (bif isBytes T t && isStr T t' then
       (match elemOf? T t, ρ y with
        | some (e, te), .lf (.pv (.sc (.string s))) => bif Nat.beq te.size 1 && Nat.blt 0 te.bytes then
          (match ρ x with
           | .lf (.own b len) => (match bk[b]? with | some (.arr e' sz rows) => bif Nat.beq e' e && Nat.beq sz te.size then rows.length = len ∧ (len + s.size) * te.bytes ≤ 140737488355328 ∧ K (.lf (.own b (len + s.size))) (bk.set b (.arr e sz (rows ++ byteRows s))) else False | _ => False)
           | _ => False) else False
        | _, _ => False) else False)
     | .builtin .min, [x, y], [_, _] => (match ρ x, ρ y with | .lf (.pv (.sc (.int k a))), .lf (.pv (.sc (.int _ b))) => K (sc (.int k (if b < a then b else a))) bk | _, _ => False)
     | .builtin .max, [x, y], [_, _] => (match ρ x, ρ y with | .lf (.pv (.sc (.int k a))), .lf (.pv (.sc (.int _ b))) => K (sc (.int k (if b > a then b else a))) bk | _, _ => False)
     | .value f, xs, ts => callK P (lendB T f ts) (ρ f) (xs.map ρ) bk K
     | _, _, _ => False)
  | _ => False

section
variable {P : Program} {T : Tab} {C : Ctx} {G : Gh} {sl : Nat → AV} {bk : List Blk} {a : Act} {w : World}

/-- How a step may come out. -/
inductive Out (P : Program) (C : Ctx) (G : Gh) (bk : List Blk) (w : World) (K : AV → List Blk → Prop) : Result Next → Prop
  | value {x : AV} {u : Value} {G' : Gh} {bk' : List Blk} {w' : World} (t : Trn G bk w G' bk' w') (m : Mem C G' bk' w') (hx : RepA G' bk' w' x u) (hk : K x bk') : Out P C G bk w K (.ok (.value u) w')
  | skip {G' : Gh} {bk' : List Blk} {w' : World} (t : Trn G bk w G' bk' w') (m : Mem C G' bk' w') (hk : K .un bk') : Out P C G bk w K (.ok .skip w')
  | enter {f : FuncId} {us : Array Value} (h : Calls P f us w fun e w' => ∃ u x G' bk', e = .returned u ∧ Trn G bk w G' bk' w' ∧ Mem C G' bk' w' ∧ RepA G' bk' w' x u ∧ K x bk') : Out P C G bk w K (.ok (.enter f us) w)

theorem Out.of {K : AV → List Blk → Prop} {r : Result Next} {x : AV} {u : Value} (hm : Mem C G bk w) (hr : r = .ok (.value u) w) (hx : RepA G bk w x u) (hk : K x bk) : Out P C G bk w K r := by
  subst hr; exact .value (Trn.refl _ _ _) hm hx hk

theorem fldOff_spec (hT : TabOK P T) {s : TypeId} {f off : Nat} (h : fldOff T s f = some off) : ∃ (F : Array Field) (fl : Field) (i : TypeInfo), P.underlying s = some (.struct F) ∧ F[f]? = some fl ∧ fl.offset = off ∧ P.info? fl.type = some i ∧ i.size ≠ 0 := by
  unfold fldOff at h
  split at h
  · rename_i fs size bytes zero hs
    obtain ⟨F, h1, h2, _⟩ := (hT s _ hs).strct fs rfl
    split at h
    · rename_i o t hf
      split at h
      · rename_i ty ht
        cases hz : Nat.beq ty.size 0 with
        | true => rw [hz] at h; cases h
        | false =>
          rw [hz] at h
          simp only [cond_false, Option.some.injEq] at h
          subst h
          rw [← h2, List.getElem?_map, Option.map_eq_some_iff] at hf
          obtain ⟨fl, hfl, he⟩ := hf
          cases he
          obtain ⟨i, z, hi, hsz, _⟩ := (hT _ ty ht).info
          refine ⟨F, fl, i, h1, by simpa using hfl, rfl, hi, fun e => ?_⟩
          rw [← hsz, e] at hz
          cases hz
      · cases h
    · cases h
  · cases h
theorem run_fieldAt (hT : TabOK P T) {s : TypeId} {f off : Nat} (h : fldOff T s f = some off) (g o : Nat) (w : World) : (Instr.fieldAt s (.pointer (some ⟨g, o, none⟩)) f).run P w = .ok (.pointer (some ⟨g, o + off, none⟩)) w := by
  obtain ⟨F, fl, i, h1, h2, rfl, h4, h5⟩ := fldOff_spec hT h
  simp [Instr.fieldAt, run_underlying h1, h2, Instr.sureAddr, fieldPlace, sizeOf, typeInfo, h4, h5, Addr.add_lit]

theorem elemOf_spec (hT : TabOK P T) {t e : TypeId} {te : Ty} (h : elemOf? T t = some (e, te)) : P.underlying t = some (.slice e) ∧ T.find e = some te ∧ ∃ tt, T.find t = some tt ∧ tt.d = .slice e := by
  unfold elemOf? at h
  split at h
  · rename_i e' a b c ht
    rw [Option.map_eq_some_iff] at h
    obtain ⟨te', h1, h2⟩ := h
    cases h2
    exact ⟨(hT t _ ht).slice _ rfl, h1, _, ht, rfl⟩
  · cases h
theorem isStr_spec (hT : TabOK P T) {t : TypeId} (h : isStr T t = true) : P.underlying t = some .string := by
  unfold isStr at h
  split at h
  · rename_i ht; exact (hT t _ ht).str rfl
  · cases h
theorem isBoolT_spec {t : TypeId} (h : isBoolT T t = true) : ∃ ty, T.find t = some ty ∧ ty.d = .bool := by
  unfold isBoolT at h
  split at h
  · rename_i ht; exact ⟨_, ht, rfl⟩
  · cases h
theorem isBytes_spec (hT : TabOK P T) {t : TypeId} (h : isBytes T t = true) : ∃ e, P.underlying t = some (.slice e) ∧ P.underlying e = some (.int .u8) := by
  unfold isBytes at h
  split at h
  · rename_i e a b c he
    obtain ⟨h1, h2, _⟩ := elemOf_spec hT he
    exact ⟨e, h1, (hT e _ h2).int _ rfl⟩
  · cases h
theorem str_kinds {t : TypeId} (h : isStr T t = true) : intKind T t = none ∧ isBytes T t = false := by
  unfold isStr at h
  split at h
  · rename_i ht; exact ⟨by unfold intKind; rw [ht], by unfold isBytes elemOf?; rw [ht]⟩
  · cases h
theorem bytes_kinds {t : TypeId} (h : isBytes T t = true) : intKind T t = none ∧ isStr T t = false := by
  unfold isBytes elemOf? at h
  split at h
  · rename_i hh
    split at hh
    · rename_i ht; exact ⟨by unfold intKind; rw [ht], by unfold isStr; rw [ht]⟩
    · cases hh
  · cases h
theorem intKind_spec (hT : TabOK P T) {t : TypeId} {k : IntKind} (h : intKind T t = some k) : P.underlying t = some (.int k) := by
  unfold intKind at h
  split at h
  · rename_i ht; cases h; exact (hT t _ ht).int _ rfl
  · cases h

theorem sc_rep {v u : Value} (h : RepA G bk w (sc v) u) : u = v ∧ v.oneCell' = true := by
  have h' : RepP G.S w (.sc v) u := h
  cases h'
  exact ⟨rfl, by assumption⟩
theorem rep_sc {v : Value} (h : v.oneCell' = true) : RepA G bk w (sc v) v := RepP.sc v h

theorem eqV_sound (hT : TabOK P T) (d : Nat) (w : World) {t : TypeId} {u v : Value} {b : Bool} (h : eqV T t u v = some b) : (Op.equalIn (d + 1) t u v).run P w = .ok b w ∧ (isAgg t).run P w = .ok false w := by
  unfold eqV at h
  split at h
  · rename_i ht
    split at h
    · rename_i e
      subst e
      cases h
      exact ⟨run_equalIn_int w d t _ _ _ _ ((hT _ _ ht).int _ rfl), run_isAgg hT ht w⟩
    · cases h
  · rename_i ht
    cases h
    exact ⟨run_equalIn_bool' w d t _ _ ((hT _ _ ht).bool rfl), run_isAgg hT ht w⟩
  · rename_i ht
    cases h
    exact ⟨by rw [beq_toListBytes]; exact run_equalIn_string w d t _ _ ((hT _ _ ht).str rfl), run_isAgg hT ht w⟩
  · cases h
theorem eqFields_sound (hT : TabOK P T) (d : Nat) (w : World) : ∀ (fs : List Field) (i : Nat) (ls ms : List Lf) (xs ys : Array Value) (r : Bool), (∀ f ∈ fs, f.name ≠ "_") →
    Fa (RepL G bk w) ls (xs.toList.drop i) → Fa (RepL G bk w) ms (ys.toList.drop i) → eqFs T i (fs.map fun (f : Field) => (f.offset, f.type)) ls ms = some r → (Op.eqFields (d + 1) xs ys fs).run P w = .ok r w
  | [], i, ls, ms, xs, ys, r, _, hx, hy, h => by
    cases ls <;> cases ms <;> simp [eqFs] at h
    subst h
    rfl
  | f :: fs, i, ls, ms, xs, ys, r, hn, hx, hy, h => by
    cases ls with
    | nil => simp [eqFs] at h
    | cons l ls =>
      cases ms with
      | nil => cases l with
        | pv p => cases p <;> simp [eqFs] at h
        | _ => simp [eqFs] at h
      | cons m ms =>
        cases l with
        | pv p =>
          cases p with
          | sc p =>
            cases m with
            | pv q =>
              cases q with
              | sc q =>
                simp only [List.map_cons, eqFs] at h
                cases hb : Nat.beq f.offset i with
                | false => rw [hb] at h; cases h
                | true =>
                  have ho : f.offset = i := Nat.eq_of_beq_eq_true hb
                  rw [hb] at h
                  simp only [cond_true] at h
                  cases hv : eqV T f.type p q with
                  | none => rw [hv] at h; cases h
                  | some b =>
                    rw [hv] at h
                    simp only at h
                    obtain ⟨r', h1, rfl⟩ := Option.map_eq_some_iff.1 h
                    obtain ⟨hq, hagg⟩ := eqV_sound hT d w hv
                    cases hxe : xs.toList.drop i with
                    | nil => rw [hxe] at hx; exact hx.elim
                    | cons u us =>
                      cases hye : ys.toList.drop i with
                      | nil => rw [hye] at hy; exact hy.elim
                      | cons v vs =>
                        rw [hxe] at hx
                        rw [hye] at hy
                        have e1 : u = p := (sc_rep (G := G) (bk := bk) (w := w) hx.1).1
                        have e2 : v = q := (sc_rep (G := G) (bk := bk) (w := w) hy.1).1
                        subst e1 e2
                        have hpart : ∀ (zs : Array Value) (u : Value) (us : List Value), zs.toList.drop i = u :: us → (part f.type zs f.offset).run P w = .ok u w := fun zs u us e => by
                          have hg : zs[i]? = some u := by
                            have : (zs.toList.drop i)[0]? = some u := by rw [e]; rfl
                            simpa using this
                          unfold part
                          rw [Sem.run_bind, hagg, Result.andThen_ok]
                          simp [ho, hg]
                        have hdrop : ∀ (zs : Array Value) (u : Value) (us : List Value), zs.toList.drop i = u :: us → zs.toList.drop (i + 1) = us := fun zs u us e => by
                          rw [← List.drop_drop, e]; rfl
                        have ih := eqFields_sound hT d w fs (i + 1) ls ms xs ys r' (fun g hg => hn g (by simp [hg])) (by rw [hdrop xs u us hxe]; exact hx.2) (by rw [hdrop ys v vs hye]; exact hy.2) h1
                        simp only [Op.eqFields, Sem.run_ite, hn f (by simp), ne_eq, not_false_iff, if_true, Sem.run_bind, hpart xs u us hxe, hpart ys v vs hye, hq, Result.andThen_ok]
                        cases b with
                        | false => simp
                        | true => simp [ih]
              | sl => simp [eqFs] at h
            | _ => simp [eqFs] at h
          | sl => simp [eqFs] at h
        | _ => simp [eqFs] at h

theorem isIfc_spec (hT : TabOK P T) {t : TypeId} (h : isIfc T t = true) : ∃ ms, P.underlying t = some (.interface ms) := by
  unfold isIfc at h
  split at h
  · rename_i ht; exact (hT t _ ht).ifc rfl
  · cases h
theorem ifcK_sound (hT : TabOK P T) {op : BinOp} {t : TypeId} {xo yo : Operand} {x y : AV} {u v : Value} (ht : isIfc T t = true) (hx : RepA G bk w x u) (hy : RepA G bk w y v) {K : AV → Prop} (h : ifcK op xo yo x y K) :
    ∃ z r, (do eqGuard op t xo yo u v; binOp op t u v).run P w = .ok r w ∧ RepA G bk w z r ∧ K z := by
  obtain ⟨ms, hu⟩ := isIfc_spec hT ht
  have hm : P.underlying t = some (.interface (P.methodsAt t)) := by simp [Program.methodsAt, hu]
  unfold ifcK at h
  split at h
  · obtain ⟨rfl, _⟩ := sc_rep hx
    obtain ⟨rfl, _⟩ := sc_rep hy
    obtain ⟨hc, h⟩ := h
    have hg : eqGuard op t xo yo .nilIface .nilIface = pure () := by
      cases yo with
      | const c => exact eqGuard_nil_constR _ _ _ c
      | _ => cases xo with
        | const c => exact eqGuard_nil_constL _ _ _ c
        | _ => cases hc
    cases op <;> first | exact h.elim | skip
    · exact ⟨_, .bool true, by rw [Sem.run_bind, hg]; simp [run_eql_nil_nil w t hm], rep_sc rfl, h⟩
    · exact ⟨_, .bool false, by rw [Sem.run_bind, hg]; simp [run_neq_nil_nil w t hm], rep_sc rfl, h⟩
  · obtain ⟨rfl, _⟩ := sc_rep hx
    obtain ⟨rfl, _⟩ := sc_rep hy
    have hg : ∀ (op : BinOp) (d : TypeId) (z : Value), eqGuard op t xo yo (.iface d z) .nilIface = pure () := fun op d z => by cases op <;> rfl
    cases op <;> first | exact h.elim | skip
    · exact ⟨_, .bool false, by rw [Sem.run_bind, hg]; simp [run_eql_held_nil w t _ _ hm], rep_sc rfl, h⟩
    · exact ⟨_, .bool true, by rw [Sem.run_bind, hg]; simp [run_neq_held_nil w t _ _ hm], rep_sc rfl, h⟩
  · exact h.elim
theorem binX_sound {op : BinOp} {t : TypeId} {xo yo : Operand} {u v : Value} {K : AV → Prop} (h : binX op u v K) :
    ∃ r, (do eqGuard op t xo yo u v; binOp op t u v).run P w = .ok r w ∧ r.oneCell' = true ∧ K (sc r) := by
  have guard : (op = .add ∨ op = .quo ∨ op = .rem) → (eqGuard op t xo yo u v).run P w = .ok () w := fun h => by
    rcases h with rfl | rfl | rfl <;> simp [eqGuard]
  have guard2 : (op = .shl ∨ op = .shr ∨ op = .or ∨ op = .and) → (eqGuard op t xo yo u v).run P w = .ok () w := fun h => by
    rcases h with rfl | rfl | rfl | rfl <;> simp [eqGuard]
  unfold binX at h
  split at h
  · rename_i a b
    refine ⟨_, ?_, rfl, h.2⟩
    rw [Sem.run_bind, guard (.inl rfl), Result.andThen_ok]
    have e : IntKind.i64.max = 9223372036854775807 := rfl
    simp only [binOp, Op.stringOp, e]
    rw [if_neg (by have := h.1; omega)]
    rfl
  · rename_i a b
    obtain ⟨h1, h2, h3, h4⟩ := h
    refine ⟨_, ?_, rfl, h4⟩
    rw [Sem.run_bind, guard (.inr (.inl rfl)), Result.andThen_ok]
    have hle : a / b ≤ a := Int.ediv_le_self _ h1
    have hge : 0 ≤ a / b := Int.ediv_nonneg h1 (by omega)
    have e1 : a.tdiv b = a / b := Int.tdiv_eq_ediv_of_nonneg h1
    have e2 : IntKind.i64.wrap (a / b) = a / b := by
      simp only [IntKind.wrap, IntKind.signed, IntKind.bits]
      have : (a / b) % 2 ^ 64 = a / b := Int.emod_eq_of_lt hge (by omega)
      simp only [this]
      rw [if_neg (by simp; omega)]
    simp only [binOp, Op.intDiv, ne_eq, not_true_eq_false, if_false, e1, e2]
    rw [if_neg (by omega)]
    rfl
  · rename_i a b
    rcases h with ⟨h1, h2, h3, h4⟩ | ⟨h2, h4⟩
    · refine ⟨_, ?_, rfl, h4⟩
      rw [Sem.run_bind, guard (.inr (.inr rfl)), Result.andThen_ok]
      have e1 : a.tmod b = a % b := Int.tmod_eq_emod_of_nonneg h1
      simp only [binOp, Op.intDiv, ne_eq, not_true_eq_false, if_false, e1]
      rw [if_neg (by omega)]
      rfl
    · refine ⟨_, ?_, rfl, h4⟩
      rw [Sem.run_bind, guard (.inr (.inr rfl)), Result.andThen_ok]
      simp only [binOp, Op.intDiv, ne_eq, not_true_eq_false, if_false]
      rw [if_neg h2]
      rfl
  · rename_i a b
    obtain ⟨h1, h2, h4⟩ := h
    refine ⟨_, ?_, rfl, h4⟩
    rw [Sem.run_bind, guard (.inr (.inr rfl)), Result.andThen_ok]
    have e1 : a.tmod b = a % b := Int.tmod_eq_emod_of_nonneg h1
    simp only [binOp, Op.intDiv, ne_eq, not_true_eq_false, if_false, e1]
    rw [if_neg (by omega)]
    rfl
  · rename_i k a k' b
    obtain ⟨h1, h4⟩ := h
    refine ⟨_, ?_, rfl, h4⟩
    rw [Sem.run_bind, guard2 (.inl rfl), Result.andThen_ok]
    simp only [binOp, Op.shift]
    rw [if_neg (by omega)]
    rfl
  · rename_i k a k' b
    obtain ⟨h1, h4⟩ := h
    refine ⟨_, ?_, rfl, h4⟩
    rw [Sem.run_bind, guard2 (.inr (.inl rfl)), Result.andThen_ok]
    simp only [binOp, Op.shift]
    rw [if_neg (by omega)]
    rfl
  · rename_i k a k' b
    obtain ⟨rfl, h4⟩ := h
    refine ⟨_, ?_, rfl, h4⟩
    rw [Sem.run_bind, guard2 (.inr (.inr (.inl rfl))), Result.andThen_ok]
    simp only [binOp, Op.intBits, ne_eq, not_true_eq_false, if_false]
    rfl
  · rename_i k a k' b
    obtain ⟨rfl, h4⟩ := h
    refine ⟨_, ?_, rfl, h4⟩
    rw [Sem.run_bind, guard2 (.inr (.inr (.inr rfl))), Result.andThen_ok]
    simp only [binOp, Op.intBits, ne_eq, not_true_eq_false, if_false]
    rfl
  · exact h.elim

theorem binK_sound (hT : TabOK P T) {op : BinOp} {t : TypeId} {xo yo : Operand} {x y : AV} {u v : Value} (hx : RepA G bk w x u) (hy : RepA G bk w y v) {K : AV → Prop} (h : binK T op t x y K) :
    ∃ z r, (do eqGuard op t xo yo u v; binOp op t u v).run P w = .ok r w ∧ RepA G bk w z r ∧ K z := by
  unfold binK at h
  split at h
  · rename_i p q
    obtain ⟨rfl, _⟩ := sc_rep hx
    obtain ⟨rfl, _⟩ := sc_rep hy
    split at h
    · rename_i z hz
      have key : ∀ ty, T.find t = some ty → ((∃ p, u = .bool p) → ty.d = .bool) → K (sc z) → ∃ z' r, (do eqGuard op t xo yo u v; binOp op t u v).run P w = .ok r w ∧ RepA G bk w z' r ∧ K z' := fun ty ht hb hk => by
        obtain ⟨h1, h2⟩ := vBin_run hT ht hz hb w (x := xo) (y := yo)
        exact ⟨sc z, z, h1, rep_sc h2, hk⟩
      unfold tyB at h
      cases ht : T.find t with
      | none => rw [ht] at h; exact h.elim
      | some ty =>
        rw [ht] at h
        cases u with
        | bool p =>
          simp only at h
          cases hb : isBoolT T t with
          | false => rw [hb] at h; exact h.elim
          | true =>
            rw [hb] at h
            obtain ⟨ty', h1, h2⟩ := isBoolT_spec hb
            rw [ht] at h1
            cases h1
            exact key ty ht (fun _ => h2) h
        | _ => exact key ty ht (fun ⟨p, e⟩ => by cases e) h
    · obtain ⟨r, h1, h2, h3⟩ := binX_sound (P := P) (w := w) (t := t) (xo := xo) (yo := yo) h
      exact ⟨_, r, h1, rep_sc h2, h3⟩
  · rename_i ls ms
    obtain ⟨xs, rfl, hxs⟩ := hx
    obtain ⟨ys, rfl, hys⟩ := hy
    split at h
    · rename_i fs size bytes zero ht
      split at h
      · rename_i r hr
        obtain ⟨F, h1, h2, h3, h4, h5, _⟩ := (hT t _ ht).strct fs rfl
        have hf : P.fieldsOf t = F := by simp [Program.fieldsOf, h1]
        have he : (Op.equalIn 10000 t (.agg xs.toArray) (.agg ys.toArray)).run P w = .ok r w := by
          rw [run_equalIn_struct w 9999 t _ _ (by rw [hf]; exact h1) h4, hf]
          exact eqFields_sound hT 9998 w F.toList 0 ls ms _ _ r h3 (by simpa using hxs) (by simpa using hys) (by rw [h2]; exact hr)
        cases op <;> first | exact h.elim | skip
        · exact ⟨_, .bool r, by rw [Sem.run_bind, run_eqGuard_agg w _ t xo yo _ _ h5, Result.andThen_ok, run_eql_struct, he]; rfl, rep_sc rfl, h⟩
        · exact ⟨_, .bool (!r), by rw [Sem.run_bind, run_eqGuard_agg w _ t xo yo _ _ h5, Result.andThen_ok, run_neq_struct, he]; rfl, rep_sc rfl, h⟩
      · exact h.elim
    · exact h.elim
  · exact h.elim
end
end Go.Rx
