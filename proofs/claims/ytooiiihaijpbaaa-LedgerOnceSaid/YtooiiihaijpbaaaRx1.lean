/- Values without memory, what they stand for in a world, and how that is kept when the world goes on. -/
import Derived.Calls
import Derived.Laws.AppendOwn
import Derived.Below
namespace Go.Rx

/-- Values without memory: one cell's value, or a slice as the rows of its elements (each of sz cells). -/
inductive PV where
  | sc (v : Value)
  | sl (sz : Nat) (rows : List (List PV))
instance : Inhabited PV := ⟨.sc .nilFunc⟩

/-- What one cell or slot may hold while a function runs. -/
inductive Lf where
  | pv (p : PV)
  | ptr (b off : Nat)
  | ept (b n i sz off : Nat)
  | ro (l : List PV)
  | own (b len : Nat)
  | fn (f : FuncId) (cap : List (List PV))
inductive TC where
  | lf (l : Lf)
  | agg (l : List Lf)
inductive AV where
  | lf (l : Lf)
  | agg (l : List Lf)
  | tup (l : List TC)
  | un
instance : Inhabited AV := ⟨.un⟩
instance : Inhabited Lf := ⟨.pv default⟩

/-- A block that the function has made, or was handed. -/
inductive Blk where
  | var (cells : List Lf)
  | arr (ety sz : Nat) (rows : List (List PV))
  | frz (sz : Nat) (rows : List (List PV))
  | frv (cells : List PV)
  | dead
  | lost (sz : Nat) (rows : List (List PV))

def rowsOf (bk : List Blk) (b : Nat) : Option (Nat × List (List PV)) :=
  match bk[b]? with
  | some (.arr _ sz rows) => some (sz, rows)
  | some (.frz sz rows) => some (sz, rows)
  | some (.lost sz rows) => some (sz, rows)
  | _ => none
def Alive (bk : List Blk) (b : Nat) : Prop :=
  match bk[b]? with
  | some (.var _) | some (.arr _ _ _) => True
  | _ => False

def Fa {α β : Type} (R : α → β → Prop) : List α → List β → Prop
  | [], [] => True
  | a :: l, b :: m => R a b ∧ Fa R l m
  | _, _ => False
theorem Fa.length {α β : Type} {R : α → β → Prop} : ∀ {l : List α} {m : List β}, Fa R l m → l.length = m.length
  | [], [], _ => rfl
  | _ :: _, _ :: _, h => by simp [h.2.length]
  | [], _ :: _, h => h.elim
  | _ :: _, [], h => h.elim
theorem Fa.get {α β : Type} {R : α → β → Prop} : ∀ {l : List α} {m : List β}, Fa R l m → ∀ {i : Nat} {a : α}, l[i]? = some a → ∃ b, m[i]? = some b ∧ R a b
  | [], [], _, i, a, h => by simp at h
  | x :: l, y :: m, h, 0, a, e => ⟨y, rfl, by simp at e; exact e ▸ h.1⟩
  | x :: l, y :: m, h, i + 1, a, e => by simpa using h.2.get (i := i) (by simpa using e)
  | [], _ :: _, h, _, _, _ => h.elim
  | _ :: _, [], h, _, _, _ => h.elim
theorem Fa.mono {α β : Type} {R R' : α → β → Prop} (hr : ∀ a b, R a b → R' a b) : ∀ {l : List α} {m : List β}, Fa R l m → Fa R' l m
  | [], [], _ => trivial
  | _ :: _, _ :: _, h => ⟨hr _ _ h.1, h.2.mono hr⟩
  | [], _ :: _, h => h.elim
  | _ :: _, [], h => h.elim
theorem Fa.of_get {α β : Type} {R : α → β → Prop} : ∀ {l : List α} {m : List β}, l.length = m.length → (∀ (i : Nat) (a : α) (b : β), l[i]? = some a → m[i]? = some b → R a b) → Fa R l m
  | [], [], _, _ => trivial
  | x :: l, y :: m, hl, h => ⟨h 0 x y rfl rfl, Fa.of_get (by simpa using hl) fun i a b ha hb => h (i + 1) a b (by simpa using ha) (by simpa using hb)⟩
  | [], _ :: _, hl, _ => by simp at hl
  | _ :: _, [], hl, _ => by simp at hl
theorem Fa.append {α β : Type} {R : α → β → Prop} : ∀ {l : List α} {m : List β} {l' : List α} {m' : List β}, Fa R l m → Fa R l' m' → Fa R (l ++ l') (m ++ m')
  | [], [], _, _, _, h' => h'
  | _ :: _, _ :: _, _, _, h, h' => ⟨h.1, h.2.append h'⟩
  | [], _ :: _, _, _, h, _ => h.elim
  | _ :: _, [], _, _, h, _ => h.elim
theorem Fa.take {α β : Type} {R : α → β → Prop} : ∀ {l : List α} {m : List β} (n : Nat), Fa R l m → Fa R (l.take n) (m.take n)
  | [], [], n, _ => by simp [Fa]
  | _ :: _, _ :: _, 0, _ => trivial
  | _ :: _, _ :: _, n + 1, h => ⟨h.1, h.2.take n⟩
  | [], _ :: _, _, h => h.elim
  | _ :: _, [], _, h => h.elim
theorem Fa.drop {α β : Type} {R : α → β → Prop} : ∀ {l : List α} {m : List β} (n : Nat), Fa R l m → Fa R (l.drop n) (m.drop n)
  | [], [], n, _ => by simp [Fa]
  | _ :: _, _ :: _, 0, h => h
  | _ :: _, _ :: _, n + 1, h => by simpa using h.2.drop n
  | [], _ :: _, _, h => h.elim
  | _ :: _, [], _, h => h.elim

/-- A value without memory stands at a place of the world; the cells that it needs are all in S. -/
inductive RepP (S : Nat → Nat → Prop) (w : World) : PV → Value → Prop
  | sc (v : Value) (h : v.oneCell' = true) : RepP S w (.sc v) v
  | nil (sz : Nat) : RepP S w (.sl sz []) (.slice none 0 0)
  | emp (sz : Nat) (a : Addr) (cap : Nat) : RepP S w (.sl sz []) (.slice (some a) 0 cap)
  | sl (sz g o cap : Nat) (rows : List (List PV)) (vs : Nat → Nat → Value) (hc : rows.length ≤ cap) (hu : ∀ r ∈ rows, r.length = sz)
      (hm : ∀ j r c p, rows[j]? = some r → r[c]? = some p → S g (o + (j * sz + c)) ∧ w.cell? ⟨g, o + (j * sz + c), none⟩ = some (vs j c))
      (hr : ∀ j r c p, rows[j]? = some r → r[c]? = some p → RepP S w p (vs j c)) :
      RepP S w (.sl sz rows) (.slice (some ⟨g, o, none⟩) rows.length cap)

theorem RepP.one {S : Nat → Nat → Prop} {w : World} {p : PV} {v : Value} (h : RepP S w p v) : v.oneCell' = true := by
  cases h <;> first | assumption | rfl

theorem RepP.step {S S' : Nat → Nat → Prop} {w w' : World} (hS : ∀ g o, S g o → S' g o) (hw : ∀ g o, S g o → w'.cell? ⟨g, o, none⟩ = w.cell? ⟨g, o, none⟩) {p : PV} {v : Value} (h : RepP S w p v) :
    RepP S' w' p v := by
  induction h with
  | sc v h => exact .sc v h
  | nil sz => exact .nil sz
  | emp sz a cap => exact .emp sz a cap
  | sl sz g o cap rows vs hc hu hm _ ih =>
    exact .sl sz g o cap rows vs hc hu (fun j r c p hj hc' => ⟨hS _ _ (hm j r c p hj hc').1, by rw [hw _ _ (hm j r c p hj hc').1]; exact (hm j r c p hj hc').2⟩) ih

/-- Cells from a place on stand for these values. -/
def CellsP (S : Nat → Nat → Prop) (w : World) (g o : Nat) (l : List PV) : Prop :=
  ∀ (c : Nat) (p : PV), l[c]? = some p → S g (o + c) ∧ ∃ u, w.cell? ⟨g, o + c, none⟩ = some u ∧ RepP S w p u
theorem CellsP.step {S S' : Nat → Nat → Prop} {w w' : World} (hS : ∀ g o, S g o → S' g o) (hw : ∀ g o, S g o → w'.cell? ⟨g, o, none⟩ = w.cell? ⟨g, o, none⟩) {g o : Nat} {l : List PV} (h : CellsP S w g o l) :
    CellsP S' w' g o l := fun c p hc => by
  obtain ⟨h1, u, h2, h3⟩ := h c p hc
  exact ⟨hS _ _ h1, u, by rw [hw _ _ h1]; exact h2, h3.step hS hw⟩
theorem CellsP.drop {S : Nat → Nat → Prop} {w : World} {g o : Nat} {l : List PV} (h : CellsP S w g o l) (n : Nat) : CellsP S w g (o + n) (l.drop n) := fun c p hc => by
  have := h (n + c) p (by simpa using hc)
  rw [← Nat.add_assoc] at this
  exact this

structure Gh where
  M : Nat → Option Nat
  S : Nat → Nat → Prop
  cp : Nat → Nat

def RepL (G : Gh) (bk : List Blk) (w : World) : Lf → Value → Prop
  | .pv p, v => RepP G.S w p v
  | .ptr b off, v => (∃ g, G.M b = some g ∧ v = .pointer (some ⟨g, off, none⟩)) ∧ b < bk.length ∧ rowsOf bk b = none
  | .ept b n i sz off, v => v.oneCell' = true ∧ ∃ rows, rowsOf bk b = some (sz, rows) ∧ n ≤ rows.length ∧ (rows.length = n → ∃ g, G.M b = some g ∧ v = .pointer (some ⟨g, i * sz + off, none⟩))
  | .ro l, v => ∃ g o, v = .pointer (some ⟨g, o, none⟩) ∧ CellsP G.S w g o l
  | .own b len, v => v.oneCell' = true ∧ ∃ sz rows, rowsOf bk b = some (sz, rows) ∧ len ≤ rows.length ∧ (rows.length = len → (∃ g, G.M b = some g ∧ v = .slice (some ⟨g, 0, none⟩) len (G.cp b)) ∨ (G.M b = none ∧ len = 0 ∧ v = .slice none 0 0))
  | .fn f cap, v => ∃ us : List Value, v = .func (.func f) #[] us.toArray ∧ Fa (fun l u => ∃ g o, u = .pointer (some ⟨g, o, none⟩) ∧ CellsP G.S w g o l) cap us
def RepT (G : Gh) (bk : List Blk) (w : World) : TC → Value → Prop
  | .lf l, v => RepL G bk w l v
  | .agg l, v => ∃ us : List Value, v = .agg us.toArray ∧ Fa (RepL G bk w) l us
def RepA (G : Gh) (bk : List Blk) (w : World) : AV → Value → Prop
  | .lf l, v => RepL G bk w l v
  | .agg l, v => ∃ us : List Value, v = .agg us.toArray ∧ Fa (RepL G bk w) l us
  | .tup l, v => ∃ us : List Value, v = .tuple us.toArray ∧ Fa (RepT G bk w) l us
  | .un, _ => True
def RepB (G : Gh) (bk : List Blk) (w : World) (b : Nat) : Blk → Prop
  | .var cells => ∃ (g : Nat) (cur : List Value) (ty : TypeId), G.M b = some g ∧ w.heap[g]? = some (.cells cur.toArray ty (0, 0)) ∧ Fa (RepL G bk w) cells cur
  | .arr ety sz rows => (G.M b = none ∧ rows = []) ∨ ∃ (g : Nat) (cur : Array Value), G.M b = some g ∧ w.heap[g]? = some (.cells cur ety (0, 0)) ∧ G.cp b ≤ maxLen ∧ cur.size = G.cp b * sz ∧ rows.length ≤ G.cp b ∧
      ∀ j r, rows[j]? = some r → r.length = sz ∧ ∀ c p, r[c]? = some p → ∃ u, cur[j * sz + c]? = some u ∧ RepP G.S w p u
  | .frz sz rows => (G.M b = none ∧ rows = []) ∨ ∃ g, G.M b = some g ∧ rows.length ≤ G.cp b ∧ ∀ j r, rows[j]? = some r → r.length = sz ∧ CellsP G.S w g (j * sz) r
  | .frv cells => ∃ g, G.M b = some g ∧ CellsP G.S w g 0 cells
  | .dead => True
  | .lost _ _ => G.M b = none

theorem RepL.one {G : Gh} {bk : List Blk} {w : World} {l : Lf} {v : Value} (h : RepL G bk w l v) : v.oneCell' = true := by
  cases l with
  | pv p => exact RepP.one h
  | ptr b off => obtain ⟨⟨g, _, rfl⟩, _⟩ := h; rfl
  | ept b n i sz off => exact h.1
  | ro l => obtain ⟨g, o, rfl, _⟩ := h; rfl
  | own b len => exact h.1
  | fn f cap => obtain ⟨us, rfl, _⟩ := h; rfl

/-- One world behind another: what stood for something still does. -/
structure Trn (G : Gh) (bk : List Blk) (w : World) (G' : Gh) (bk' : List Blk) (w' : World) : Prop where
  S : ∀ g o, G.S g o → G'.S g o
  cell : ∀ g o, G.S g o → w'.cell? ⟨g, o, none⟩ = w.cell? ⟨g, o, none⟩
  len : bk.length ≤ bk'.length
  var : ∀ b, b < bk.length → rowsOf bk b = none → rowsOf bk' b = none ∧ G'.M b = G.M b
  row : ∀ b sz rows, rowsOf bk b = some (sz, rows) → ∃ rows', rowsOf bk' b = some (sz, rows') ∧ rows.length ≤ rows'.length ∧ (rows'.length = rows.length → G'.M b = G.M b ∧ G'.cp b = G.cp b)

section
variable {G : Gh} {bk : List Blk} {w : World} {G' : Gh} {bk' : List Blk} {w' : World}
theorem Trn.refl (G : Gh) (bk : List Blk) (w : World) : Trn G bk w G bk w :=
  ⟨fun _ _ h => h, fun _ _ _ => rfl, Nat.le_refl _, fun _ _ h => ⟨h, rfl⟩, fun _ _ rows h => ⟨rows, h, Nat.le_refl _, fun _ => ⟨rfl, rfl⟩⟩⟩
theorem Trn.trans {G1 G2 : Gh} {b1 b2 : List Blk} {w1 w2 : World} (t : Trn G bk w G1 b1 w1) (u : Trn G1 b1 w1 G2 b2 w2) : Trn G bk w G2 b2 w2 := by
  refine ⟨fun g o h => u.S g o (t.S g o h), fun g o h => (u.cell g o (t.S g o h)).trans (t.cell g o h), Nat.le_trans t.len u.len, fun b hb hr => ?_, fun b sz rows hr => ?_⟩
  · obtain ⟨h1, h2⟩ := t.var b hb hr
    obtain ⟨h3, h4⟩ := u.var b (Nat.lt_of_lt_of_le hb t.len) h1
    exact ⟨h3, h4.trans h2⟩
  · obtain ⟨r1, h1, h2, h3⟩ := t.row b sz rows hr
    obtain ⟨r2, k1, k2, k3⟩ := u.row b sz r1 h1
    refine ⟨r2, k1, by omega, fun e => ?_⟩
    obtain ⟨m1, m2⟩ := h3 (by omega)
    obtain ⟨n1, n2⟩ := k3 (by omega)
    exact ⟨n1.trans m1, n2.trans m2⟩

theorem Trn.drop {B rest : List Blk} {G0 : Gh} {B0 : List Blk} {w0 : World} (t : Trn G0 B0 w0 G (B ++ rest) w) (hm : B0.length ≤ B.length) : Trn G0 B0 w0 G B w := by
  have hr : ∀ b, b < B.length → rowsOf (B ++ rest) b = rowsOf B b := fun b hb => by unfold rowsOf; rw [List.getElem?_append_left hb]
  have hlt : ∀ b x, rowsOf B0 b = some x → b < B0.length := fun b x h => by
    unfold rowsOf at h
    rcases Nat.lt_or_ge b B0.length with hl | hl
    · exact hl
    · rw [List.getElem?_eq_none hl] at h; cases h
  refine ⟨t.S, t.cell, hm, fun b hb h => ?_, fun b sz rows h => ?_⟩
  · have := t.var b hb h
    rw [hr b (by omega)] at this
    exact this
  · have hb := hlt b _ h
    have := t.row b sz rows h
    rw [hr b (by omega)] at this
    exact this
theorem Trn.repP (t : Trn G bk w G' bk' w') {p : PV} {v : Value} (h : RepP G.S w p v) : RepP G'.S w' p v := h.step t.S t.cell
theorem Trn.cellsP (t : Trn G bk w G' bk' w') {g o : Nat} {l : List PV} (h : CellsP G.S w g o l) : CellsP G'.S w' g o l := h.step t.S t.cell
theorem Trn.repL (t : Trn G bk w G' bk' w') {l : Lf} {v : Value} (h : RepL G bk w l v) : RepL G' bk' w' l v := by
  cases l with
  | pv p => exact t.repP h
  | ptr b off =>
    obtain ⟨hg, hb, hr⟩ := h
    obtain ⟨h1, h2⟩ := t.var b hb hr
    exact ⟨by rw [h2]; exact hg, Nat.lt_of_lt_of_le hb t.len, h1⟩
  | ept b n i sz off =>
    obtain ⟨h1, rows, h2, h3, h4⟩ := h
    obtain ⟨rows', r1, r2, r3⟩ := t.row b sz rows h2
    refine ⟨h1, rows', r1, Nat.le_trans h3 r2, fun e => ?_⟩
    have e2 : rows.length = n := Nat.le_antisymm (e ▸ r2) h3
    rw [(r3 (by omega)).1]
    exact h4 e2
  | ro l => obtain ⟨g, o, rfl, hc⟩ := h; exact ⟨g, o, rfl, t.cellsP hc⟩
  | own b len =>
    obtain ⟨h1, sz, rows, h2, h3, h4⟩ := h
    obtain ⟨rows', r1, r2, r3⟩ := t.row b sz rows h2
    refine ⟨h1, sz, rows', r1, Nat.le_trans h3 r2, fun e => ?_⟩
    have e2 : rows.length = len := Nat.le_antisymm (e ▸ r2) h3
    obtain ⟨m1, m2⟩ := r3 (by omega)
    rw [m1, m2]
    exact h4 e2
  | fn f cap => obtain ⟨us, rfl, hu⟩ := h; exact ⟨us, rfl, hu.mono fun _ _ ⟨g, o, e, hc⟩ => ⟨g, o, e, t.cellsP hc⟩⟩
theorem Trn.repT (t : Trn G bk w G' bk' w') {l : TC} {v : Value} (h : RepT G bk w l v) : RepT G' bk' w' l v := by
  cases l with
  | lf l => exact t.repL h
  | agg l => obtain ⟨us, rfl, hu⟩ := h; exact ⟨us, rfl, hu.mono fun _ _ => t.repL⟩
theorem Trn.repA (t : Trn G bk w G' bk' w') {x : AV} {v : Value} (h : RepA G bk w x v) : RepA G' bk' w' x v := by
  cases x with
  | lf l => exact t.repL h
  | agg l => obtain ⟨us, rfl, hu⟩ := h; exact ⟨us, rfl, hu.mono fun _ _ => t.repL⟩
  | tup l => obtain ⟨us, rfl, hu⟩ := h; exact ⟨us, rfl, hu.mono fun _ _ => t.repT⟩
  | un => trivial
end

/-- The call at hand: the world it began in, how many blocks were handed to it and where they lay, what was to stay, the number of slots. -/
structure Ctx where
  w0 : World
  G0 : Gh
  B0 : List Blk
  n : Nat
abbrev Ctx.m (C : Ctx) : Nat := C.B0.length
abbrev Ctx.M0 (C : Ctx) : Nat → Option Nat := C.G0.M
abbrev Ctx.S0 (C : Ctx) : Nat → Nat → Prop := C.G0.S

structure Mem (C : Ctx) (G : Gh) (bk : List Blk) (w : World) : Prop where
  blk : ∀ b B, bk[b]? = some B → RepB G bk w b B
  inj : ∀ b b' g, b < bk.length → b' < bk.length → G.M b = some g → G.M b' = some g → b = b'
  sdis : ∀ g o b, G.S g o → Alive bk b → G.M b ≠ some g
  slt : ∀ g o, G.S g o → g < w.heap.size
  mlt : ∀ b g, b < bk.length → G.M b = some g → g < w.heap.size
  new : ∀ b g, b < bk.length → G.M b = some g → C.w0.heap.size ≤ g ∨ ∃ b', b' < C.m ∧ C.M0 b' = some g
  s0 : ∀ g o, C.S0 g o → G.S g o
  snew : ∀ g o, G.S g o → C.S0 g o ∨ C.w0.heap.size ≤ g ∨ ∃ b', b' < C.m ∧ C.M0 b' = some g
  os : w.os = C.w0.os
  tape : w.tape = C.w0.tape
  output : w.output = C.w0.output
  size : C.w0.heap.size ≤ w.heap.size
  block : ∀ g, g < C.w0.heap.size → (∀ b', b' < C.m → C.M0 b' ≠ some g) → w.heap[g]? = C.w0.heap[g]?
  mle : C.m ≤ bk.length
  t0 : Trn C.G0 C.B0 C.w0 G bk w

structure Rel (C : Ctx) (G : Gh) (sl : Nat → AV) (bk : List Blk) (a : Act) (w : World) : Prop where
  size : a.tmps.size = C.n
  dfr : a.defers = []
  slots : ∀ t, RepA G bk w (sl t) (a.tmps.getD t undef)
  mem : Mem C G bk w

def put (sl : Nat → AV) (d : Nat) (x : AV) : Nat → AV := fun t => if t = d then x else sl t
def putO (sl : Nat → AV) : Option Nat → AV → (Nat → AV)
  | some d, x => put sl d x
  | none, _ => sl

theorem Rel.put_of {C : Ctx} {G : Gh} {sl : Nat → AV} {bk : List Blk} {a : Act} {w : World} (h : Rel C G sl bk a w) {G' : Gh} {bk' : List Blk} {w' : World} (t : Trn G bk w G' bk' w') (hm : Mem C G' bk' w')
    {x : AV} {v : Value} (hx : RepA G' bk' w' x v) (d : Option Nat) (hd : ∀ k, d = some k → k < C.n) : Rel C G' (putO sl d x) bk' (a.put d v) w' := by
  cases d with
  | none => exact ⟨h.size, h.dfr, fun t' => t.repA (h.slots t'), hm⟩
  | some d =>
    refine ⟨by simp [Act.put, h.size], h.dfr, fun t' => ?_, hm⟩
    by_cases e : t' = d
    · subst e
      have : (a.put (some t') v).tmps.getD t' undef = v := by
        have := hd t' rfl
        simp [Act.put, h.size, this]
      rw [this]
      simpa [putO, put] using hx
    · have : (a.put (some d) v).tmps.getD t' undef = a.tmps.getD t' undef := by
        simp [Act.put, Array.getElem?_setIfInBounds_ne (Ne.symm e)]
      rw [this]
      simp only [putO, put, if_neg e]
      exact t.repA (h.slots t')

end Go.Rx
