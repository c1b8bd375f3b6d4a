/- Blocks that a caller lends: what the callee sees of them, and what the caller has of them again. -/
import Derived.Test.YtooiiihaijpbaaaRx6
set_option linter.unusedVariables false
set_option linter.unusedSimpArgs false
namespace Go.Rx
open Go.RowKit

/-- The places of the caller's blocks, as the callee counts them. -/
def renL (idx : List Nat) : Lf → Option Lf
  | .pv p => some (.pv p)
  | .ro l => some (.ro l)
  | .fn f c => some (.fn f c)
  | .ptr b off => (idx.idxOf? b).map fun p => .ptr p off
  | .ept b n i sz off => (idx.idxOf? b).map fun p => .ept p n i sz off
  | .own b len => (idx.idxOf? b).map fun p => .own p len
def renLs (idx : List Nat) : List Lf → Option (List Lf)
  | [] => some []
  | l :: ls => match renL idx l, renLs idx ls with | some x, some xs => some (x :: xs) | _, _ => none
def renB (idx : List Nat) : Blk → Option Blk
  | .var cells => (renLs idx cells).map .var
  | B => some B
def pickB (idx : List Nat) (bk : List Blk) : List Nat → Option (List Blk)
  | [] => some []
  | b :: l => match (bk[b]?).bind (renB idx), pickB idx bk l with | some x, some xs => some (x :: xs) | _, _ => none
def renA (idx : List Nat) : AV → Option AV
  | .lf l => (renL idx l).map .lf
  | .agg l => (renLs idx l).map .agg
  | _ => none
def renAs (idx : List Nat) : List AV → Option (List AV)
  | [] => some []
  | l :: ls => match renA idx l, renAs idx ls with | some x, some xs => some (x :: xs) | _, _ => none
/-- And back: what the callee has made stands behind the caller's own. -/
def bkI (idx : List Nat) (n : Nat) (p : Nat) : Nat := match idx[p]? with | some b => b | none => n + (p - idx.length)
def bkL (idx : List Nat) (n : Nat) : Lf → Lf
  | .pv p => .pv p
  | .ro l => .ro l
  | .fn f c => .fn f c
  | .ptr b off => .ptr (bkI idx n b) off
  | .ept b m i sz off => .ept (bkI idx n b) m i sz off
  | .own b len => .own (bkI idx n b) len
def bkB (idx : List Nat) (n : Nat) : Blk → Blk
  | .var cells => .var (cells.map (bkL idx n))
  | B => B
def bkT (idx : List Nat) (n : Nat) : TC → TC
  | .lf l => .lf (bkL idx n l)
  | .agg l => .agg (l.map (bkL idx n))
def bkA (idx : List Nat) (n : Nat) : AV → AV
  | .lf l => .lf (bkL idx n l)
  | .agg l => .agg (l.map (bkL idx n))
  | .tup l => .tup (l.map (bkT idx n))
  | .un => .un
def setAll : List Blk → List Nat → List Blk → List Blk
  | bk, b :: l, x :: xs => setAll (bk.set b x) l xs
  | bk, _, _ => bk
def bkBs (idx : List Nat) (bk B1 : List Blk) : List Blk := setAll bk idx (B1.map (bkB idx bk.length)) ++ (B1.map (bkB idx bk.length)).drop idx.length

def Gh.pick (G : Gh) (idx : List Nat) : Gh := ⟨fun p => (idx[p]?).bind G.M, G.S, fun p => match idx[p]? with | some b => G.cp b | none => 0⟩

section
variable {P : Program} {T : Tab} {C : Ctx} {G : Gh} {bk : List Blk} {w : World} {idx : List Nat}

theorem pickB_get : ∀ {l : List Nat} {B : List Blk}, pickB idx bk l = some B → B.length = l.length ∧ ∀ (p : Nat) (b : Nat), l[p]? = some b → ∃ X Y, bk[b]? = some X ∧ renB idx X = some Y ∧ B[p]? = some Y
  | [], B, h => by simp [pickB] at h; subst h; exact ⟨rfl, by simp⟩
  | b :: l, B, h => by
    unfold pickB at h
    split at h
    · rename_i x xs hx hxs
      cases h
      obtain ⟨h1, h2⟩ := pickB_get hxs
      refine ⟨by simp [h1], fun p b' hp => ?_⟩
      cases p with
      | zero =>
        simp at hp
        subst hp
        obtain ⟨X, hX, hY⟩ := Option.bind_eq_some_iff.1 hx
        exact ⟨X, x, hX, hY, rfl⟩
      | succ p => exact h2 p b' (by simpa using hp)
    · cases h
theorem idxOf_get {b p : Nat} (h : idx.idxOf? b = some p) : idx[p]? = some b := by
  rw [List.idxOf?, List.findIdx?_eq_some_iff_getElem] at h
  obtain ⟨hl, h1, _⟩ := h
  rw [List.getElem?_eq_getElem hl]
  simpa using h1
theorem renLs_get : ∀ {ls ms : List Lf} {R R' : Lf → Value → Prop}, renLs idx ls = some ms → (∀ l m v, renL idx l = some m → R l v → R' m v) → ∀ {us : List Value}, Fa R ls us → Fa R' ms us
  | [], ms, R, R', h, _, us, hf => by simp [renLs] at h; subst h; cases us <;> exact hf
  | l :: ls, ms, R, R', h, hr, us, hf => by
    unfold renLs at h
    split at h
    · rename_i x xs hx hxs
      cases h
      cases us with
      | nil => exact hf.elim
      | cons u us => exact ⟨hr _ _ _ hx hf.1, renLs_get hxs hr hf.2⟩
    · cases h

/-- What the callee sees. -/
theorem Mem.pick (h : Mem C G bk w) (hnd : idx.Nodup) {B : List Blk} (hB : pickB idx bk idx = some B) (n : Nat) :
    Mem ⟨w, G.pick idx, B, n⟩ (G.pick idx) B w ∧ ∀ l l' v, renL idx l = some l' → RepL G bk w l v → RepL (G.pick idx) B w l' v := by
  obtain ⟨hlen, hget⟩ := pickB_get hB
  have hM : ∀ p b, idx[p]? = some b → (G.pick idx).M p = G.M b := fun p b hp => by simp [Gh.pick, hp]
  have hcp : ∀ p b, idx[p]? = some b → (G.pick idx).cp p = G.cp b := fun p b hp => by simp [Gh.pick, hp]
  have hat : ∀ p, p < B.length → ∃ b, idx[p]? = some b ∧ b < bk.length := fun p hp => by
    have hp' : p < idx.length := by rw [hlen] at hp; exact hp
    obtain ⟨X, Y, h1, _, _⟩ := hget p idx[p] (List.getElem?_eq_getElem hp')
    exact ⟨idx[p], List.getElem?_eq_getElem hp', (List.getElem?_eq_some_iff.1 h1).1⟩
  have hrows : ∀ p b, idx[p]? = some b → rowsOf B p = rowsOf bk b := fun p b hp => by
    obtain ⟨X, Y, h1, h2, h3⟩ := hget p b hp
    unfold rowsOf
    rw [h1, h3]
    cases X with
    | var cells => simp [renB] at h2; obtain ⟨c, _, rfl⟩ := h2; rfl
    | _ => simp [renB] at h2; subst h2; rfl
  have hal : ∀ p b, idx[p]? = some b → Alive B p → Alive bk b := fun p b hp ha => by
    obtain ⟨X, Y, h1, h2, h3⟩ := hget p b hp
    unfold Alive at *
    rw [h1]
    rw [h3] at ha
    cases X with
    | var cells => trivial
    | arr => trivial
    | _ => simp [renB] at h2; subst h2; exact ha
  have rep : ∀ l l' v, renL idx l = some l' → RepL G bk w l v → RepL (G.pick idx) B w l' v := fun l l' v hl hr => by
    cases l with
    | pv p => simp [renL] at hl; subst hl; exact hr
    | ro p => simp [renL] at hl; subst hl; exact hr
    | fn f c => simp [renL] at hl; subst hl; exact hr
    | ptr b off =>
      simp only [renL, Option.map_eq_some_iff] at hl
      obtain ⟨p, hp, rfl⟩ := hl
      have hp := idxOf_get hp
      obtain ⟨⟨g, hg, rfl⟩, hb, hr⟩ := hr
      exact ⟨⟨g, by rw [hM p b hp]; exact hg, rfl⟩, by rw [hlen]; exact (List.getElem?_eq_some_iff.1 hp).1, by rw [hrows p b hp]; exact hr⟩
    | ept b m i sz off =>
      simp only [renL, Option.map_eq_some_iff] at hl
      obtain ⟨p, hp, rfl⟩ := hl
      have hp := idxOf_get hp
      obtain ⟨h1, rows, h2, h3, h4⟩ := hr
      exact ⟨h1, rows, by rw [hrows p b hp]; exact h2, h3, fun e => by rw [hM p b hp]; exact h4 e⟩
    | own b len =>
      simp only [renL, Option.map_eq_some_iff] at hl
      obtain ⟨p, hp, rfl⟩ := hl
      have hp := idxOf_get hp
      obtain ⟨h1, sz, rows, h2, h3, h4⟩ := hr
      exact ⟨h1, sz, rows, by rw [hrows p b hp]; exact h2, h3, fun e => by rw [hM p b hp, hcp p b hp]; exact h4 e⟩
  refine ⟨⟨fun p Y hY => ?_, fun p p' g hp hp' e e' => ?_, fun g o p hs ha e => ?_, h.slt, fun p g hp e => ?_, fun p g hp e => .inr ⟨p, hp, e⟩, fun _ _ hs => hs, fun _ _ hs => .inl hs, rfl, rfl, rfl, Nat.le_refl _, fun _ _ _ => rfl, Nat.le_refl _, Trn.refl _ _ _⟩, rep⟩
  · obtain ⟨b, hpb, _⟩ := hat p (List.getElem?_eq_some_iff.1 hY).1
    obtain ⟨X, Y', h1, h2, h3⟩ := hget p b hpb
    rw [hY] at h3
    cases h3
    have h0 := h.blk b X h1
    cases X with
    | var cells =>
      simp only [renB, Option.map_eq_some_iff] at h2
      obtain ⟨cs, hcs, rfl⟩ := h2
      obtain ⟨g, cur, ty, k1, k2, k3⟩ := h0
      exact ⟨g, cur, ty, by rw [hM p b hpb]; exact k1, k2, renLs_get hcs rep k3⟩
    | arr ety sz rows =>
      simp [renB] at h2
      subst h2
      rcases h0 with ⟨k1, k2⟩ | ⟨g, cur, k1, k2, k3, k4, k5, k6⟩
      · exact .inl ⟨by rw [hM p b hpb]; exact k1, k2⟩
      · exact .inr ⟨g, cur, by rw [hM p b hpb]; exact k1, k2, by rw [hcp p b hpb]; exact k3, by rw [hcp p b hpb]; exact k4, by rw [hcp p b hpb]; exact k5, k6⟩
    | frz sz rows =>
      simp [renB] at h2
      subst h2
      rcases h0 with ⟨k1, k2⟩ | ⟨g, k1, k2, k3⟩
      · exact .inl ⟨by rw [hM p b hpb]; exact k1, k2⟩
      · exact .inr ⟨g, by rw [hM p b hpb]; exact k1, by rw [hcp p b hpb]; exact k2, k3⟩
    | frv cells =>
      simp [renB] at h2
      subst h2
      obtain ⟨g, k1, k2⟩ := h0
      exact ⟨g, by rw [hM p b hpb]; exact k1, k2⟩
    | dead => simp [renB] at h2; subst h2; trivial
    | lost sz rows => simp [renB] at h2; subst h2; exact (hM p b hpb).trans h0
  · obtain ⟨b, hpb, hb⟩ := hat p hp
    obtain ⟨b', hpb', hb'⟩ := hat p' hp'
    rw [hM p b hpb] at e
    rw [hM p' b' hpb'] at e'
    have := h.inj b b' g hb hb' e e'
    subst this
    obtain ⟨hl1, e1⟩ := List.getElem?_eq_some_iff.1 hpb
    obtain ⟨hl2, e2⟩ := List.getElem?_eq_some_iff.1 hpb'
    exact (List.getElem_inj hnd).1 (e1.trans e2.symm)
  · obtain ⟨b, hpb, hb⟩ := hat p (alive_lt ha)
    rw [hM p b hpb] at e
    exact h.sdis g o b hs (hal p b hpb ha) e
  · obtain ⟨b, hpb, hb⟩ := hat p hp
    rw [hM p b hpb] at e
    exact h.mlt b g hb e
end
end Go.Rx
