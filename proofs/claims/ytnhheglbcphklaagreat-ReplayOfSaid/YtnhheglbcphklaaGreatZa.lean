/- The texts of the proof, part 1, in order. -/
import Derived.Calls
import Derived.Laws.AppendOwn
import Derived.Below
import Derived.Laws.StructEq
import Derived.Laws.Entries
import Derived.Laws.Cells
import Derived.Laws.Rows
import Derived.Laws.CopyRow
import Derived.Laws.Append
import Derived.Laws.OwnMore
import Derived.Lib.AppendStr
/- Values without memory, what they stand for in a world, and how that is kept when the world goes on. -/
namespace Go.Rx

/-- Values without memory: one cell's value, or a slice as the rows of its elements (each of sz cells). -/
inductive PV where
  | sc (v : Value)
  | sl (sz : Nat) (rows : List (List PV))
  | fs (e sz : Nat) (rows : List (List PV))
instance : Inhabited PV := ⟨.sc .nilFunc⟩

/-- A pointer in a value: a method bound to it; held by an interface. -/
inductive Wr where
  | fn (f : FuncId)
  | ifc (t : TypeId)
def Wr.val : Wr → Value → Value
  | .fn f, u => .func (.func f) #[u] #[]
  | .ifc t, u => .iface t u
/-- What one cell or slot may hold while a function runs. -/
inductive Lf where
  | pv (p : PV)
  | ptr (b off : Nat)
  | ept (b n i sz off : Nat)
  | ro (l : List PV)
  | own (b len : Nat)
  | view (b n k : Nat)
  | bad (b : Nat) (t : TypeId)
  | frs (b : Nat) (p : PV)
  | fn (f : FuncId) (cap : List (List PV))
  | bnd (f : Wr) (b off : Nat)
inductive TC where
  | lf (l : Lf)
  | agg (l : List Lf)
inductive AV where
  | lf (l : Lf)
  | agg (l : List Lf)
  | tup (l : List TC)
  | un
instance : Inhabited AV := ⟨.un⟩
instance : Inhabited Lf := ⟨.pv default⟩

/-- A block that the function has made, or was handed. -/
inductive Blk where
  | var (cells : List Lf)
  | arr (ety sz : Nat) (rows : List (List PV))
  | frz (sz : Nat) (rows : List (List PV))
  | frv (cells : List PV)
  | dead
  | lost (sz : Nat) (rows : List (List PV))
  | hp
  | reg (h : Nat → Option (Nat × List Value))

def rowsOf (bk : List Blk) (b : Nat) : Option (Nat × List (List PV)) :=
  match bk[b]? with
  | some (.arr _ sz rows) => some (sz, rows)
  | some (.frz sz rows) => some (sz, rows)
  | some (.lost sz rows) => some (sz, rows)
  | _ => none
def Alive (bk : List Blk) (b : Nat) : Prop :=
  match bk[b]? with
  | some (.var _) | some (.arr _ _ _) => True
  | _ => False

def Fa {α β : Type} (R : α → β → Prop) : List α → List β → Prop
  | [], [] => True
  | a :: l, b :: m => R a b ∧ Fa R l m
  | _, _ => False
theorem Fa.length {α β : Type} {R : α → β → Prop} : ∀ {l : List α} {m : List β}, Fa R l m → l.length = m.length
  | [], [], _ => rfl
  | _ :: _, _ :: _, h => by simp [h.2.length]
  | [], _ :: _, h => h.elim
  | _ :: _, [], h => h.elim
theorem Fa.get {α β : Type} {R : α → β → Prop} : ∀ {l : List α} {m : List β}, Fa R l m → ∀ {i : Nat} {a : α}, l[i]? = some a → ∃ b, m[i]? = some b ∧ R a b
  | [], [], _, i, a, h => by simp at h
  | x :: l, y :: m, h, 0, a, e => ⟨y, rfl, by simp at e; exact e ▸ h.1⟩
  | x :: l, y :: m, h, i + 1, a, e => by simpa using h.2.get (i := i) (by simpa using e)
  | [], _ :: _, h, _, _, _ => h.elim
  | _ :: _, [], h, _, _, _ => h.elim
theorem Fa.mono {α β : Type} {R R' : α → β → Prop} (hr : ∀ a b, R a b → R' a b) : ∀ {l : List α} {m : List β}, Fa R l m → Fa R' l m
  | [], [], _ => trivial
  | _ :: _, _ :: _, h => ⟨hr _ _ h.1, h.2.mono hr⟩
  | [], _ :: _, h => h.elim
  | _ :: _, [], h => h.elim
theorem Fa.of_get {α β : Type} {R : α → β → Prop} : ∀ {l : List α} {m : List β}, l.length = m.length → (∀ (i : Nat) (a : α) (b : β), l[i]? = some a → m[i]? = some b → R a b) → Fa R l m
  | [], [], _, _ => trivial
  | x :: l, y :: m, hl, h => ⟨h 0 x y rfl rfl, Fa.of_get (by simpa using hl) fun i a b ha hb => h (i + 1) a b (by simpa using ha) (by simpa using hb)⟩
  | [], _ :: _, hl, _ => by simp at hl
  | _ :: _, [], hl, _ => by simp at hl
theorem Fa.append {α β : Type} {R : α → β → Prop} : ∀ {l : List α} {m : List β} {l' : List α} {m' : List β}, Fa R l m → Fa R l' m' → Fa R (l ++ l') (m ++ m')
  | [], [], _, _, _, h' => h'
  | _ :: _, _ :: _, _, _, h, h' => ⟨h.1, h.2.append h'⟩
  | [], _ :: _, _, _, h, _ => h.elim
  | _ :: _, [], _, _, h, _ => h.elim
theorem Fa.take {α β : Type} {R : α → β → Prop} : ∀ {l : List α} {m : List β} (n : Nat), Fa R l m → Fa R (l.take n) (m.take n)
  | [], [], n, _ => by simp [Fa]
  | _ :: _, _ :: _, 0, _ => trivial
  | _ :: _, _ :: _, n + 1, h => ⟨h.1, h.2.take n⟩
  | [], _ :: _, _, h => h.elim
  | _ :: _, [], _, h => h.elim
theorem Fa.drop {α β : Type} {R : α → β → Prop} : ∀ {l : List α} {m : List β} (n : Nat), Fa R l m → Fa R (l.drop n) (m.drop n)
  | [], [], n, _ => by simp [Fa]
  | _ :: _, _ :: _, 0, h => h
  | _ :: _, _ :: _, n + 1, h => by simpa using h.2.drop n
  | [], _ :: _, _, h => h.elim
  | _ :: _, [], _, h => h.elim

/-- What stays as it is: cells; and blocks that a call has made and that stay, with the type of their elements. -/
structure Sp where
  c : Nat → Nat → Prop
  f : Nat → Option Nat
instance : CoeFun Sp fun _ => Nat → Nat → Prop := ⟨Sp.c⟩
/-- A value without memory stands at a place of the world; the cells that it needs are all in S. -/
inductive RepP (S : Sp) (w : World) : PV → Value → Prop
  | sc (v : Value) (h : v.oneCell' = true) : RepP S w (.sc v) v
  | nil (sz : Nat) : RepP S w (.sl sz []) (.slice none 0 0)
  | emp (sz : Nat) (a : Addr) (cap : Nat) : RepP S w (.sl sz []) (.slice (some a) 0 cap)
  | sl (sz g o cap : Nat) (rows : List (List PV)) (vs : Nat → Nat → Value) (hc : rows.length ≤ cap) (hu : ∀ r ∈ rows, r.length = sz)
      (hm : ∀ j r c p, rows[j]? = some r → r[c]? = some p → S g (o + (j * sz + c)) ∧ w.cell? ⟨g, o + (j * sz + c), none⟩ = some (vs j c))
      (hr : ∀ j r c p, rows[j]? = some r → r[c]? = some p → RepP S w p (vs j c)) :
      RepP S w (.sl sz rows) (.slice (some ⟨g, o, none⟩) rows.length cap)
  | fnil (e sz : Nat) : RepP S w (.fs e sz []) (.slice none 0 0)
  | femp (e sz : Nat) (a : Addr) (cap : Nat) : RepP S w (.fs e sz []) (.slice (some a) 0 cap)
  | fs (e sz g cap : Nat) (rows : List (List PV)) (vs : Nat → Nat → Value) (hc : rows.length ≤ cap) (hu : ∀ r ∈ rows, r.length = sz) (hf : S.f g = some e)
      (hm : ∀ j r c p, rows[j]? = some r → r[c]? = some p → S g (j * sz + c) ∧ w.cell? ⟨g, j * sz + c, none⟩ = some (vs j c))
      (hr : ∀ j r c p, rows[j]? = some r → r[c]? = some p → RepP S w p (vs j c)) :
      RepP S w (.fs e sz rows) (.slice (some ⟨g, 0, none⟩) rows.length cap)

theorem RepP.one {S : Sp} {w : World} {p : PV} {v : Value} (h : RepP S w p v) : v.oneCell' = true := by
  cases h <;> first | assumption | rfl

theorem RepP.step {S S' : Sp} {w w' : World} (hS : ∀ g o, S g o → S' g o) (hF : ∀ g e, S.f g = some e → S'.f g = some e) (hw : ∀ g o, S g o → w'.cell? ⟨g, o, none⟩ = w.cell? ⟨g, o, none⟩) {p : PV} {v : Value} (h : RepP S w p v) :
    RepP S' w' p v := by
  induction h with
  | sc v h => exact .sc v h
  | nil sz => exact .nil sz
  | emp sz a cap => exact .emp sz a cap
  | sl sz g o cap rows vs hc hu hm _ ih =>
    exact .sl sz g o cap rows vs hc hu (fun j r c p hj hc' => ⟨hS _ _ (hm j r c p hj hc').1, by rw [hw _ _ (hm j r c p hj hc').1]; exact (hm j r c p hj hc').2⟩) ih
  | fnil e sz => exact .fnil e sz
  | femp e sz a cap => exact .femp e sz a cap
  | fs e sz g cap rows vs hc hu hf hm _ ih =>
    exact .fs e sz g cap rows vs hc hu (hF _ _ hf) (fun j r c p hj hc' => ⟨hS _ _ (hm j r c p hj hc').1, by rw [hw _ _ (hm j r c p hj hc').1]; exact (hm j r c p hj hc').2⟩) ih
/-- Rows that a call has made are rows. -/
theorem RepP.weak {S : Sp} {w : World} {e sz : Nat} {rows : List (List PV)} {v : Value} (h : RepP S w (.fs e sz rows) v) : RepP S w (.sl sz rows) v := by
  cases h with
  | fnil => exact .nil sz
  | femp _ _ a cap => exact .emp sz a cap
  | fs _ _ g cap _ vs hc hu hf hm hr => exact .sl sz g 0 cap rows vs hc hu (fun j r c p hj hp => by rw [Nat.zero_add]; exact hm j r c p hj hp) hr

/-- Cells from a place on stand for these values. -/
def CellsP (S : Sp) (w : World) (g o : Nat) (l : List PV) : Prop :=
  ∀ (c : Nat) (p : PV), l[c]? = some p → S g (o + c) ∧ ∃ u, w.cell? ⟨g, o + c, none⟩ = some u ∧ RepP S w p u
theorem CellsP.step {S S' : Sp} {w w' : World} (hS : ∀ g o, S g o → S' g o) (hF : ∀ g e, S.f g = some e → S'.f g = some e) (hw : ∀ g o, S g o → w'.cell? ⟨g, o, none⟩ = w.cell? ⟨g, o, none⟩) {g o : Nat} {l : List PV} (h : CellsP S w g o l) :
    CellsP S' w' g o l := fun c p hc => by
  obtain ⟨h1, u, h2, h3⟩ := h c p hc
  exact ⟨hS _ _ h1, u, by rw [hw _ _ h1]; exact h2, h3.step hS hF hw⟩
theorem CellsP.drop {S : Sp} {w : World} {g o : Nat} {l : List PV} (h : CellsP S w g o l) (n : Nat) : CellsP S w g (o + n) (l.drop n) := fun c p hc => by
  have := h (n + c) p (by simpa using hc)
  rw [← Nat.add_assoc] at this
  exact this

/-- What stays, and what an answer's blocks hold. -/
def SpR (S : Sp) (h : Nat → Option (Nat × List Value)) : Sp := ⟨fun g o => S g o ∨ ∃ x, h g = some x, fun g => (h g).map (·.1)⟩
structure Gh where
  M : Nat → Option Nat
  S : Sp
  cp : Nat → Nat
  H : Nat → Nat → Option (Nat × List Value)
/-- Blocks of the heap that stand together: those of an answer, as long as nobody writes them; and those that one may write. -/
def hpOf (G : Gh) (bk : List Blk) (b : Nat) : Option (Nat → Option (Nat × List Value)) :=
  match bk[b]? with
  | some .hp => some (G.H b)
  | some (.reg h) => some h
  | _ => none

def RepL (G : Gh) (bk : List Blk) (w : World) : Lf → Value → Prop
  | .pv p, v => RepP G.S w p v
  | .ptr b off, v => (∃ g, G.M b = some g ∧ v = .pointer (some ⟨g, off, none⟩)) ∧ b < bk.length ∧ rowsOf bk b = none
  | .bad b _, v => (v = .pointer none ∨ ∃ g, G.M b = some g ∧ v = .pointer (some ⟨g, 0, none⟩)) ∧ b < bk.length ∧ rowsOf bk b = none
  | .ept b n i sz off, v => v.oneCell' = true ∧ ∃ rows, rowsOf bk b = some (sz, rows) ∧ n ≤ rows.length ∧ (rows.length = n → ∃ g, G.M b = some g ∧ v = .pointer (some ⟨g, i * sz + off, none⟩))
  | .ro l, v => ∃ g o, v = .pointer (some ⟨g, o, none⟩) ∧ CellsP G.S w g o l
  | .own b len, v => v.oneCell' = true ∧ ∃ sz rows, rowsOf bk b = some (sz, rows) ∧ len ≤ rows.length ∧ (rows.length = len → (∃ g, G.M b = some g ∧ v = .slice (some ⟨g, 0, none⟩) len (G.cp b)) ∨ (G.M b = none ∧ len = 0 ∧ v = .slice none 0 0))
  | .view b n k, v => v.oneCell' = true ∧ ∃ sz rows, rowsOf bk b = some (sz, rows) ∧ n ≤ rows.length ∧ k ≤ n ∧ (rows.length = n → (∃ g, G.M b = some g ∧ v = .slice (some ⟨g, 0, none⟩) k (G.cp b)) ∨ (G.M b = none ∧ n = 0 ∧ v = .slice none 0 0))
  | .frs b p, v => v.oneCell' = true ∧ b < bk.length ∧ rowsOf bk b = none ∧ (bk[b]? = some .hp → RepP (SpR G.S (G.H b)) w p v)
  | .bnd f b off, v => (∃ g, G.M b = some g ∧ v = f.val (.pointer (some ⟨g, off, none⟩))) ∧ b < bk.length ∧ rowsOf bk b = none
  | .fn f cap, v => ∃ us : List Value, v = .func (.func f) #[] us.toArray ∧ Fa (fun l u => ∃ g o, u = .pointer (some ⟨g, o, none⟩) ∧ CellsP G.S w g o l) cap us
def RepT (G : Gh) (bk : List Blk) (w : World) : TC → Value → Prop
  | .lf l, v => RepL G bk w l v
  | .agg l, v => ∃ us : List Value, v = .agg us.toArray ∧ Fa (RepL G bk w) l us
def RepA (G : Gh) (bk : List Blk) (w : World) : AV → Value → Prop
  | .lf l, v => RepL G bk w l v
  | .agg l, v => ∃ us : List Value, v = .agg us.toArray ∧ Fa (RepL G bk w) l us
  | .tup l, v => ∃ us : List Value, v = .tuple us.toArray ∧ Fa (RepT G bk w) l us
  | .un, _ => True
/-- A block's type is as its cells say. -/
def BadOk (b : Nat) (ty : TypeId) (cells : List Lf) : Prop := ∀ t, Lf.bad b t ∈ cells → ty = t
def notBad : Lf → Bool
  | .bad _ _ => false
  | _ => true
theorem badOk_of {b : Nat} {ty : TypeId} {cells : List Lf} (h : cells.all notBad = true) : BadOk b ty cells := fun t ht => by
  have := List.all_eq_true.1 h _ ht
  cases this
/-- Does this seat need rows that are made of a text and written? (slices.Insert's contract bears none.) -/
def txtB : Bool := true
/-- A row made of a text is marked behind its end. -/
def FzOk (n : Nat) (fz : Nat × Nat) : Prop := fz = (0, 0) ∨ (txtB = true ∧ fz.1 = n)
/-- A row is not marked, or behind its end. -/
def FzAny (n : Nat) (fz : Nat × Nat) : Prop := fz = (0, 0) ∨ fz.1 = n
theorem FzOk.any {n : Nat} {fz : Nat × Nat} (h : FzOk n fz) : FzAny n fz := h.imp id fun q => q.2
def RepB (G : Gh) (bk : List Blk) (w : World) (b : Nat) : Blk → Prop
  | .var cells => ∃ (g : Nat) (cur : List Value) (ty : TypeId), G.M b = some g ∧ (w.heap[g]? = some (.cells cur.toArray ty (0, 0)) ∧ BadOk b ty cells) ∧ Fa (RepL G bk w) cells cur
  | .arr ety sz rows => (G.M b = none ∧ rows = []) ∨ ∃ (g : Nat) (cur : Array Value), G.M b = some g ∧ (∃ fz, w.heap[g]? = some (.cells cur ety fz) ∧ FzOk cur.size fz) ∧ G.cp b ≤ maxLen ∧ cur.size = G.cp b * sz ∧ rows.length ≤ G.cp b ∧
      ∀ j r, rows[j]? = some r → r.length = sz ∧ ∀ c p, r[c]? = some p → ∃ u, cur[j * sz + c]? = some u ∧ RepP G.S w p u
  | .frz sz rows => (G.M b = none ∧ rows = []) ∨ ∃ g, G.M b = some g ∧ rows.length ≤ G.cp b ∧ ∀ j r, rows[j]? = some r → r.length = sz ∧ CellsP G.S w g (j * sz) r
  | .frv cells => ∃ g, G.M b = some g ∧ CellsP G.S w g 0 cells
  | .dead => True
  | .lost _ _ => G.M b = none
  | .hp => ∀ g e cur, G.H b g = some (e, cur) → ∃ fz, w.heap[g]? = some (.cells cur.toArray e fz) ∧ FzAny cur.length fz
  | .reg h => ∀ g e cur, h g = some (e, cur) → ∃ fz, w.heap[g]? = some (.cells cur.toArray e fz) ∧ FzAny cur.length fz

theorem RepL.one {G : Gh} {bk : List Blk} {w : World} {l : Lf} {v : Value} (h : RepL G bk w l v) : v.oneCell' = true := by
  cases l with
  | pv p => exact RepP.one h
  | ptr b off => obtain ⟨⟨g, _, rfl⟩, _⟩ := h; rfl
  | ept b n i sz off => exact h.1
  | ro l => obtain ⟨g, o, rfl, _⟩ := h; rfl
  | own b len => exact h.1
  | view b n k => exact h.1
  | bad b t => rcases h.1 with rfl | ⟨g, _, rfl⟩ <;> rfl
  | frs b p => exact h.1
  | fn f cap => obtain ⟨us, rfl, _⟩ := h; rfl
  | bnd f b off => obtain ⟨⟨g, _, rfl⟩, _⟩ := h; cases f <;> rfl

/-- One world behind another: what stood for something still does. -/
structure Trn (G : Gh) (bk : List Blk) (w : World) (G' : Gh) (bk' : List Blk) (w' : World) : Prop where
  S : ∀ g o, G.S g o → G'.S g o
  F : ∀ g e, G.S.f g = some e → G'.S.f g = some e
  cell : ∀ g o, G.S g o → w'.cell? ⟨g, o, none⟩ = w.cell? ⟨g, o, none⟩
  hp : ∀ b, b < bk.length → bk'[b]? = some .hp → bk[b]? = some .hp ∧ G'.H b = G.H b ∧ ∀ g x, G.H b g = some x → w'.heap[g]? = w.heap[g]?
  len : bk.length ≤ bk'.length
  var : ∀ b, b < bk.length → rowsOf bk b = none → rowsOf bk' b = none ∧ G'.M b = G.M b
  row : ∀ b sz rows, rowsOf bk b = some (sz, rows) → ∃ rows', rowsOf bk' b = some (sz, rows') ∧ rows.length ≤ rows'.length ∧ (rows'.length = rows.length → G'.M b = G.M b ∧ G'.cp b = G.cp b)

section
variable {G : Gh} {bk : List Blk} {w : World} {G' : Gh} {bk' : List Blk} {w' : World}
theorem Trn.refl (G : Gh) (bk : List Blk) (w : World) : Trn G bk w G bk w :=
  ⟨fun _ _ h => h, fun _ _ h => h, fun _ _ _ => rfl, fun _ _ h => ⟨h, rfl, fun _ _ _ => rfl⟩, Nat.le_refl _, fun _ _ h => ⟨h, rfl⟩, fun _ _ rows h => ⟨rows, h, Nat.le_refl _, fun _ => ⟨rfl, rfl⟩⟩⟩
theorem Trn.trans {G1 G2 : Gh} {b1 b2 : List Blk} {w1 w2 : World} (t : Trn G bk w G1 b1 w1) (u : Trn G1 b1 w1 G2 b2 w2) : Trn G bk w G2 b2 w2 := by
  refine ⟨fun g o h => u.S g o (t.S g o h), fun g e h => u.F g e (t.F g e h), fun g o h => (u.cell g o (t.S g o h)).trans (t.cell g o h), fun b hb e => (by
    obtain ⟨q1, q5, q2⟩ := u.hp b (Nat.lt_of_lt_of_le hb t.len) e
    obtain ⟨q3, q6, q4⟩ := t.hp b hb q1
    exact ⟨q3, q5.trans q6, fun g x hg => (q2 g x (by rw [q6]; exact hg)).trans (q4 g x hg)⟩), Nat.le_trans t.len u.len, fun b hb hr => ?_, fun b sz rows hr => ?_⟩
  · obtain ⟨h1, h2⟩ := t.var b hb hr
    obtain ⟨h3, h4⟩ := u.var b (Nat.lt_of_lt_of_le hb t.len) h1
    exact ⟨h3, h4.trans h2⟩
  · obtain ⟨r1, h1, h2, h3⟩ := t.row b sz rows hr
    obtain ⟨r2, k1, k2, k3⟩ := u.row b sz r1 h1
    refine ⟨r2, k1, by omega, fun e => ?_⟩
    obtain ⟨m1, m2⟩ := h3 (by omega)
    obtain ⟨n1, n2⟩ := k3 (by omega)
    exact ⟨n1.trans m1, n2.trans m2⟩

theorem Trn.drop {B rest : List Blk} {G0 : Gh} {B0 : List Blk} {w0 : World} (t : Trn G0 B0 w0 G (B ++ rest) w) (hm : B0.length ≤ B.length) : Trn G0 B0 w0 G B w := by
  have hr : ∀ b, b < B.length → rowsOf (B ++ rest) b = rowsOf B b := fun b hb => by unfold rowsOf; rw [List.getElem?_append_left hb]
  have hlt : ∀ b x, rowsOf B0 b = some x → b < B0.length := fun b x h => by
    unfold rowsOf at h
    rcases Nat.lt_or_ge b B0.length with hl | hl
    · exact hl
    · rw [List.getElem?_eq_none hl] at h; cases h
  refine ⟨t.S, t.F, t.cell, fun b hb e => t.hp b hb (by rw [List.getElem?_append_left (by omega)]; exact e), hm, fun b hb h => ?_, fun b sz rows h => ?_⟩
  · have := t.var b hb h
    rw [hr b (by omega)] at this
    exact this
  · have hb := hlt b _ h
    have := t.row b sz rows h
    rw [hr b (by omega)] at this
    exact this
theorem Trn.repP (t : Trn G bk w G' bk' w') {p : PV} {v : Value} (h : RepP G.S w p v) : RepP G'.S w' p v := h.step t.S t.F t.cell
theorem Trn.cellsP (t : Trn G bk w G' bk' w') {g o : Nat} {l : List PV} (h : CellsP G.S w g o l) : CellsP G'.S w' g o l := h.step t.S t.F t.cell
theorem Trn.repL (t : Trn G bk w G' bk' w') {l : Lf} {v : Value} (h : RepL G bk w l v) : RepL G' bk' w' l v := by
  cases l with
  | pv p => exact t.repP h
  | ptr b off =>
    obtain ⟨hg, hb, hr⟩ := h
    obtain ⟨h1, h2⟩ := t.var b hb hr
    exact ⟨by rw [h2]; exact hg, Nat.lt_of_lt_of_le hb t.len, h1⟩
  | bnd f b off =>
    obtain ⟨hg, hb, hr⟩ := h
    obtain ⟨h1, h2⟩ := t.var b hb hr
    exact ⟨by rw [h2]; exact hg, Nat.lt_of_lt_of_le hb t.len, h1⟩
  | bad b ty =>
    obtain ⟨hg, hb, hr⟩ := h
    obtain ⟨h1, h2⟩ := t.var b hb hr
    exact ⟨by rw [h2]; exact hg, Nat.lt_of_lt_of_le hb t.len, h1⟩
  | ept b n i sz off =>
    obtain ⟨h1, rows, h2, h3, h4⟩ := h
    obtain ⟨rows', r1, r2, r3⟩ := t.row b sz rows h2
    refine ⟨h1, rows', r1, Nat.le_trans h3 r2, fun e => ?_⟩
    have e2 : rows.length = n := Nat.le_antisymm (e ▸ r2) h3
    rw [(r3 (by omega)).1]
    exact h4 e2
  | ro l => obtain ⟨g, o, rfl, hc⟩ := h; exact ⟨g, o, rfl, t.cellsP hc⟩
  | own b len =>
    obtain ⟨h1, sz, rows, h2, h3, h4⟩ := h
    obtain ⟨rows', r1, r2, r3⟩ := t.row b sz rows h2
    refine ⟨h1, sz, rows', r1, Nat.le_trans h3 r2, fun e => ?_⟩
    have e2 : rows.length = len := Nat.le_antisymm (e ▸ r2) h3
    obtain ⟨m1, m2⟩ := r3 (by omega)
    rw [m1, m2]
    exact h4 e2
  | view b n k =>
    obtain ⟨h1, sz, rows, h2, h3, hk, h4⟩ := h
    obtain ⟨rows', r1, r2, r3⟩ := t.row b sz rows h2
    refine ⟨h1, sz, rows', r1, Nat.le_trans h3 r2, hk, fun e => ?_⟩
    have e2 : rows.length = n := Nat.le_antisymm (e ▸ r2) h3
    obtain ⟨m1, m2⟩ := r3 (by omega)
    rw [m1, m2]
    exact h4 e2
  | frs b p =>
    obtain ⟨h1, hb, hr, hp⟩ := h
    refine ⟨h1, Nat.lt_of_lt_of_le hb t.len, (t.var b hb hr).1, fun e => ?_⟩
    obtain ⟨q1, q3, q2⟩ := t.hp b hb e
    rw [q3]
    refine RepP.step (S := SpR G.S (G.H b)) (S' := SpR G'.S (G.H b)) (w := w) (w' := w') (fun g o hs => ?_) (fun g e hs => hs) (fun g o hs => ?_) (hp q1)
    · rcases hs with hs | hs
      · exact .inl (t.S g o hs)
      · exact .inr hs
    · rcases hs with hs | ⟨x, hx⟩
      · exact t.cell g o hs
      · exact World.cell?_of_block (a := ⟨g, o, none⟩) (q2 g x hx)
  | fn f cap => obtain ⟨us, rfl, hu⟩ := h; exact ⟨us, rfl, hu.mono fun _ _ ⟨g, o, e, hc⟩ => ⟨g, o, e, t.cellsP hc⟩⟩
theorem Trn.repT (t : Trn G bk w G' bk' w') {l : TC} {v : Value} (h : RepT G bk w l v) : RepT G' bk' w' l v := by
  cases l with
  | lf l => exact t.repL h
  | agg l => obtain ⟨us, rfl, hu⟩ := h; exact ⟨us, rfl, hu.mono fun _ _ => t.repL⟩
theorem Trn.repA (t : Trn G bk w G' bk' w') {x : AV} {v : Value} (h : RepA G bk w x v) : RepA G' bk' w' x v := by
  cases x with
  | lf l => exact t.repL h
  | agg l => obtain ⟨us, rfl, hu⟩ := h; exact ⟨us, rfl, hu.mono fun _ _ => t.repL⟩
  | tup l => obtain ⟨us, rfl, hu⟩ := h; exact ⟨us, rfl, hu.mono fun _ _ => t.repT⟩
  | un => trivial
end

/-- The call at hand: the world it began in, how many blocks were handed to it and where they lay, what was to stay, the number of slots. -/
structure Ctx where
  w0 : World
  G0 : Gh
  B0 : List Blk
  n : Nat
abbrev Ctx.m (C : Ctx) : Nat := C.B0.length
abbrev Ctx.M0 (C : Ctx) : Nat → Option Nat := C.G0.M
abbrev Ctx.S0 (C : Ctx) : Sp := C.G0.S
/-- A block whose elements are of a type. -/
def TyAt (w : World) (g e : Nat) : Prop := ∃ cur fz, w.heap[g]? = some (.cells cur e fz) ∧ FzAny cur.size fz

/-- Package-level variables that are read: where they lie, what they hold. -/
def globs : List (Nat × Value) := []
def Glob (S : Sp) (w : World) : Prop := ∀ x ∈ globs, S x.1 0 ∧ w.cell? ⟨x.1, 0, none⟩ = some x.2
/-- The blocks of the heap that a call may write: those lent as such. -/
def regX (G : Gh) (B : List Blk) (g : Nat) : Prop := ∃ b h x, hpOf G B b = some h ∧ h g = some x
/-- Where such blocks lie. -/
structure Regs (C : Ctx) (G : Gh) (bk : List Blk) : Prop where
  own : ∀ b h g x, hpOf G bk b = some h → h g = some x → C.w0.heap.size ≤ g ∨ regX C.G0 C.B0 g
  dis : ∀ b h g x, hpOf G bk b = some h → h g = some x → (∀ b', b' < bk.length → G.M b' ≠ some g) ∧ (∀ o, ¬ G.S g o) ∧ G.S.f g = none
  inj : ∀ b b2 h h2 g x x2, hpOf G bk b = some h → hpOf G bk b2 = some h2 → h g = some x → h2 g = some x2 → b = b2
structure Mem (C : Ctx) (G : Gh) (bk : List Blk) (w : World) : Prop where
  blk : ∀ b B, bk[b]? = some B → RepB G bk w b B
  inj : ∀ b b' g, b < bk.length → b' < bk.length → G.M b = some g → G.M b' = some g → b = b'
  sdis : ∀ g o b, G.S g o → Alive bk b → G.M b ≠ some g
  slt : ∀ g o, G.S g o → g < w.heap.size
  mlt : ∀ b g, b < bk.length → G.M b = some g → g < w.heap.size
  new : ∀ b g, b < bk.length → G.M b = some g → C.w0.heap.size ≤ g ∨ ∃ b', b' < C.m ∧ C.M0 b' = some g
  s0 : ∀ g o, C.S0 g o → G.S g o
  snew : ∀ g o, G.S g o → C.S0 g o ∨ C.w0.heap.size ≤ g ∨ ∃ b', b' < C.m ∧ C.M0 b' = some g
  fnew : ∀ g e, G.S.f g = some e → C.S0.f g = some e ∨ C.w0.heap.size ≤ g ∨ ∃ b', b' < C.m ∧ C.M0 b' = some g
  fty : ∀ g e, G.S.f g = some e → TyAt w g e
  fdis : ∀ g e b, G.S.f g = some e → Alive bk b → G.M b ≠ some g
  os : w.os = C.w0.os
  tape : w.tape = C.w0.tape
  output : w.output = C.w0.output
  size : C.w0.heap.size ≤ w.heap.size
  block : ∀ g, g < C.w0.heap.size → (∀ b', b' < C.m → C.M0 b' ≠ some g) → ¬ regX C.G0 C.B0 g → w.heap[g]? = C.w0.heap[g]?
  regs : Regs C G bk
  mle : C.m ≤ bk.length
  t0 : Trn C.G0 C.B0 C.w0 G bk w

theorem TyAt.keep {w w' : World} {g e : Nat} (h : TyAt w g e) (hh : w'.heap[g]? = w.heap[g]?) : TyAt w' g e := by
  obtain ⟨cur, fz, h1, h2⟩ := h
  exact ⟨cur, fz, hh.trans h1, h2⟩
theorem TyAt.lt {w : World} {g e : Nat} (h : TyAt w g e) : g < w.heap.size := by
  obtain ⟨cur, fz, h1, _⟩ := h
  rcases Nat.lt_or_ge g w.heap.size with hl | hl
  · exact hl
  · rw [Array.getElem?_eq_none hl] at h1; cases h1
theorem Regs.nil (C : Ctx) (G : Gh) : Regs C G [] := by
  refine ⟨fun b h g x e => ?_, fun b h g x e => ?_, fun b b2 h h2 g x x2 e => ?_⟩ <;> (unfold hpOf at e; simp at e)
theorem regX_nil (G : Gh) (g : Nat) : ¬ regX G [] g := fun ⟨b, h, x, e, _⟩ => by
  unfold hpOf at e
  simp at e
theorem hpOf_lt {G : Gh} {bk : List Blk} {b : Nat} {h : Nat → Option (Nat × List Value)} (e : hpOf G bk b = some h) : b < bk.length := by
  unfold hpOf at e
  rcases Nat.lt_or_ge b bk.length with hl | hl
  · exact hl
  · rw [List.getElem?_eq_none hl] at e; cases e
theorem Mem.hlt {C : Ctx} {G : Gh} {bk : List Blk} {w : World} (h : Mem C G bk w) {b : Nat} {hh : Nat → Option (Nat × List Value)} {g : Nat} {x : Nat × List Value} (e : hpOf G bk b = some hh) (hg : hh g = some x) : g < w.heap.size ∧ ∃ fz, w.heap[g]? = some (.cells x.2.toArray x.1 fz) ∧ FzAny x.2.length fz := by
  obtain ⟨e0, cur⟩ := x
  have k : ∃ fz, w.heap[g]? = some (.cells cur.toArray e0 fz) ∧ FzAny cur.length fz := by
    unfold hpOf at e
    split at e
    · rename_i hb; cases e; exact h.blk b _ hb g e0 cur hg
    · rename_i h0 hb; cases e; exact h.blk b _ hb g e0 cur hg
    · cases e
  refine ⟨?_, k⟩
  obtain ⟨fz, h1, _⟩ := k
  rcases Nat.lt_or_ge g w.heap.size with hl | hl
  · exact hl
  · rw [Array.getElem?_eq_none hl] at h1; cases h1
/-- Such blocks go on where no other block, and nothing that stays, comes to lie there. -/
theorem Mem.regsK {C : Ctx} {G G' : Gh} {bk bk' : List Blk} {w : World} (h : Mem C G bk w) (hb : ∀ b hh, hpOf G' bk' b = some hh → hpOf G bk b = some hh)
    (hM : ∀ b g, b < bk'.length → G'.M b = some g → (∃ b0, b0 < bk.length ∧ G.M b0 = some g) ∨ w.heap.size ≤ g)
    (hS : ∀ g o, G'.S g o → G.S g o ∨ (∃ b0, b0 < bk.length ∧ G.M b0 = some g) ∨ w.heap.size ≤ g)
    (hF : ∀ g e, G'.S.f g = some e → G.S.f g = some e ∨ (∃ b0, b0 < bk.length ∧ G.M b0 = some g) ∨ w.heap.size ≤ g) : Regs C G' bk' := by
  refine ⟨fun b hh g x e hg => h.regs.own b hh g x (hb b hh e) hg, fun b hh g x e hg => ?_, fun b b2 hh h2 g x x2 e e2 hg hg2 => h.regs.inj b b2 hh h2 g x x2 (hb b hh e) (hb b2 h2 e2) hg hg2⟩
  obtain ⟨d1, d2, d3⟩ := h.regs.dis b hh g x (hb b hh e) hg
  have hl := (h.hlt (hb b hh e) hg).1
  refine ⟨fun b' hb' em => ?_, fun o hs => ?_, ?_⟩
  · rcases hM b' g hb' em with ⟨b0, q1, q2⟩ | q
    · exact d1 b0 q1 q2
    · omega
  · rcases hS g o hs with q | ⟨b0, q1, q2⟩ | q
    · exact d2 o q
    · exact d1 b0 q1 q2
    · omega
  · cases hf : G'.S.f g with
    | none => rfl
    | some e' =>
      rcases hF g e' hf with q | ⟨b0, q1, q2⟩ | q
      · rw [d3] at q; cases q
      · exact absurd q2 (d1 b0 q1)
      · omega
theorem Mem.glob {C : Ctx} {G : Gh} {bk : List Blk} {w : World} (h : Mem C G bk w) (hg : Glob C.S0 C.w0) : Glob G.S w := fun x hx => ⟨h.s0 _ _ (hg x hx).1, (h.t0.cell _ _ (hg x hx).1).trans (hg x hx).2⟩
theorem Mem.flt {C : Ctx} {G : Gh} {bk : List Blk} {w : World} (h : Mem C G bk w) (g e : Nat) (hf : G.S.f g = some e) : g < w.heap.size := (h.fty g e hf).lt

structure Rel (C : Ctx) (G : Gh) (sl : Nat → AV) (bk : List Blk) (a : Act) (w : World) : Prop where
  size : a.tmps.size = C.n
  dfr : a.defers = []
  slots : ∀ t, RepA G bk w (sl t) (a.tmps.getD t undef)
  mem : Mem C G bk w

def put (sl : Nat → AV) (d : Nat) (x : AV) : Nat → AV := fun t => if t = d then x else sl t
def putO (sl : Nat → AV) : Option Nat → AV → (Nat → AV)
  | some d, x => put sl d x
  | none, _ => sl

theorem Rel.put_of {C : Ctx} {G : Gh} {sl : Nat → AV} {bk : List Blk} {a : Act} {w : World} (h : Rel C G sl bk a w) {G' : Gh} {bk' : List Blk} {w' : World} (t : Trn G bk w G' bk' w') (hm : Mem C G' bk' w')
    {x : AV} {v : Value} (hx : RepA G' bk' w' x v) (d : Option Nat) (hd : ∀ k, d = some k → k < C.n) : Rel C G' (putO sl d x) bk' (a.put d v) w' := by
  cases d with
  | none => exact ⟨h.size, h.dfr, fun t' => t.repA (h.slots t'), hm⟩
  | some d =>
    refine ⟨by simp [Act.put, h.size], h.dfr, fun t' => ?_, hm⟩
    by_cases e : t' = d
    · subst e
      have : (a.put (some t') v).tmps.getD t' undef = v := by
        have := hd t' rfl
        simp [Act.put, h.size, this]
      rw [this]
      simpa [putO, put] using hx
    · have : (a.put (some d) v).tmps.getD t' undef = a.tmps.getD t' undef := by
        simp [Act.put, Array.getElem?_setIfInBounds_ne (Ne.symm e)]
      rw [this]
      simp only [putO, put, if_neg e]
      exact t.repA (h.slots t')

end Go.Rx

/- How a world goes on: a draw, a new block, a store into a block of the call's own, a block that stays as it is from now on. -/
namespace Go.Rx
open Go.RowKit

section
variable {C : Ctx} {G : Gh} {bk : List Blk} {w : World} {G' : Gh} {bk' : List Blk} {w' : World}

theorem rowsOf_lt {b : Nat} {x : Nat × List (List PV)} (h : rowsOf bk b = some x) : b < bk.length := by
  unfold rowsOf at h
  rcases Nat.lt_or_ge b bk.length with hl | hl
  · exact hl
  · rw [List.getElem?_eq_none hl] at h; cases h
theorem alive_lt {b : Nat} (h : Alive bk b) : b < bk.length := by
  unfold Alive at h
  rcases Nat.lt_or_ge b bk.length with hl | hl
  · exact hl
  · rw [List.getElem?_eq_none hl] at h; exact h.elim
theorem rowsOf_append {b : Nat} (l : List Blk) (h : b < bk.length) : rowsOf (bk ++ l) b = rowsOf bk b := by
  unfold rowsOf; rw [List.getElem?_append_left h]
theorem alive_append {b : Nat} (l : List Blk) (h : b < bk.length) : Alive (bk ++ l) b ↔ Alive bk b := by
  unfold Alive; rw [List.getElem?_append_left h]
theorem rowsOf_set {b b' : Nat} (B : Blk) (h : b' ≠ b) : rowsOf (bk.set b B) b' = rowsOf bk b' := by
  unfold rowsOf; rw [List.getElem?_set_ne (Ne.symm h)]
theorem alive_set {b b' : Nat} (B : Blk) (h : b' ≠ b) : Alive (bk.set b B) b' ↔ Alive bk b' := by
  unfold Alive; rw [List.getElem?_set_ne (Ne.symm h)]

theorem RepB.step (t : Trn G bk w G' bk' w') {b : Nat} {B : Blk} (hM : G'.M b = G.M b) (hc : G'.cp b = G.cp b) (hh : ∀ g, G.M b = some g → w'.heap[g]? = w.heap[g]?) (hr : ∀ h g x, ((B = .hp ∧ h = G.H b) ∨ B = .reg h) → h g = some x → w'.heap[g]? = w.heap[g]?) (h : RepB G bk w b B) (hH : G'.H b = G.H b := by rfl) : RepB G' bk' w' b B := by
  cases B with
  | var cells => obtain ⟨g, cur, ty, h0, h1, h2⟩ := h; exact ⟨g, cur, ty, by rw [hM]; exact h0, ⟨by rw [hh g h0]; exact h1.1, h1.2⟩, h2.mono fun _ _ => t.repL⟩
  | arr ety sz rows =>
    rcases h with h | ⟨g, cur, h0, h1, h2, h3, h4, h5⟩
    · exact .inl ⟨by rw [hM]; exact h.1, h.2⟩
    refine .inr ⟨g, cur, by rw [hM]; exact h0, by rw [hh g h0]; exact h1, by rw [hc]; exact h2, by rw [hc]; exact h3, by rw [hc]; exact h4, fun j r hj => ⟨(h5 j r hj).1, fun c p hp => ?_⟩⟩
    obtain ⟨u, hu, hr⟩ := (h5 j r hj).2 c p hp
    exact ⟨u, hu, t.repP hr⟩
  | frz sz rows =>
    rcases h with h | ⟨g, h0, h1, h2⟩
    · exact .inl ⟨by rw [hM]; exact h.1, h.2⟩
    exact .inr ⟨g, by rw [hM]; exact h0, by rw [hc]; exact h1, fun j r hj => ⟨(h2 j r hj).1, t.cellsP (h2 j r hj).2⟩⟩
  | frv cells => obtain ⟨g, h0, h1⟩ := h; exact ⟨g, by rw [hM]; exact h0, t.cellsP h1⟩
  | dead => trivial
  | lost sz rows => exact hM.trans h
  | hp =>
    intro g e cur hg
    rw [hH] at hg
    rw [hr _ g _ (.inl ⟨rfl, rfl⟩) hg]
    exact h g e cur hg
  | reg hh0 =>
    intro g e cur hg
    rw [hr hh0 g _ (.inr rfl) hg]
    exact h g e cur hg
/-- Such a block's own, and where it lies. -/
theorem hp_of {G : Gh} {bk : List Blk} {b : Nat} {B : Blk} (hb : bk[b]? = some B) {h : Nat → Option (Nat × List Value)} (e : (B = .hp ∧ h = G.H b) ∨ B = .reg h) : hpOf G bk b = some h := by
  unfold hpOf
  rw [hb]
  rcases e with ⟨rfl, rfl⟩ | rfl <;> rfl

def hpB : Blk → Bool
  | .hp => true
  | .reg _ => true
  | _ => false
theorem hpOf_app {G G' : Gh} {bk : List Blk} {B : Blk} {b : Nat} {h : Nat → Option (Nat × List Value)} (e : hpOf G' (bk ++ [B]) b = some h) (hB : hpB B = false) (hH : G'.H = G.H := by rfl) : hpOf G bk b = some h := by
  unfold hpOf at *
  rw [hH] at e
  rcases Nat.lt_or_ge b bk.length with hl | hl
  · rw [List.getElem?_append_left hl] at e; exact e
  · rw [List.getElem?_append_right hl] at e
    rcases Nat.eq_zero_or_pos (b - bk.length) with q | q
    · rw [q] at e
      cases B <;> first | (cases hB; done) | (simp at e)
    · rw [List.getElem?_eq_none (by simp; omega)] at e; cases e
theorem hpOf_set {G G' : Gh} {bk : List Blk} {B : Blk} {b k : Nat} {h : Nat → Option (Nat × List Value)} (e : hpOf G' (bk.set b B) k = some h) (hB : hpB B = false) (hH : G'.H = G.H := by rfl) : hpOf G bk k = some h := by
  unfold hpOf at *
  rw [hH] at e
  by_cases q : k = b
  · subst q
    rcases Nat.lt_or_ge k bk.length with hl | hl
    · rw [List.getElem?_set_self hl] at e
      cases B <;> first | (cases hB; done) | (simp at e)
    · rw [List.getElem?_eq_none (by simp; omega)] at e; cases e
  · rw [List.getElem?_set_ne (Ne.symm q)] at e; exact e
theorem hp_set {bk : List Blk} {B : Blk} {b k : Nat} (e : (bk.set b B)[k]? = some .hp) (hB : hpB B = false) : bk[k]? = some .hp := by
  by_cases q : k = b
  · subst q
    rcases Nat.lt_or_ge k bk.length with hl | hl
    · rw [List.getElem?_set_self hl] at e
      cases e
      cases hB
    · rw [List.getElem?_eq_none (by simp; omega)] at e; cases e
  · rw [List.getElem?_set_ne (Ne.symm q)] at e; exact e

/-- A draw. -/
theorem Mem.drew (h : Mem C G bk w) : Trn G bk w G bk w.drew ∧ Mem C G bk w.drew := by
  have t : Trn G bk w G bk w.drew := ⟨fun _ _ h => h, fun _ _ h => h, fun _ _ _ => rfl, fun _ _ h => ⟨h, rfl, fun _ _ _ => rfl⟩, Nat.le_refl _, fun _ _ h => ⟨h, rfl⟩, fun _ _ rows h => ⟨rows, h, Nat.le_refl _, fun _ => ⟨rfl, rfl⟩⟩⟩
  exact ⟨t, ⟨fun b B hb => RepB.step t rfl rfl (fun _ _ => rfl) (fun _ _ _ _ _ => rfl) (h.blk b B hb), h.inj, h.sdis, h.slt, h.mlt, h.new, h.s0, h.snew, h.fnew, h.fty, h.fdis, h.os, h.tape, h.output, h.size, h.block, h.regs, h.mle, h.t0.trans t⟩⟩

/-- A new block; none where nothing is made (a slice of the call's own that is nil yet). -/
theorem Mem.alloc (h : Mem C G bk w) (o : Option Obj) (B : Blk) (c : Nat)
    (hB0 : hpB B = false)
    (hB : ∀ G' : Gh, G'.S = G.S → G'.M bk.length = o.map (fun _ => w.heap.size) → G'.cp bk.length = c → Trn G bk w G' (bk ++ [B]) (o.elim w w.alloc) → RepB G' (bk ++ [B]) (o.elim w w.alloc) bk.length B) :
    ∃ G', Trn G bk w G' (bk ++ [B]) (o.elim w w.alloc) ∧ Mem C G' (bk ++ [B]) (o.elim w w.alloc) ∧ G'.M bk.length = o.map (fun _ => w.heap.size) ∧ G'.cp bk.length = c := by
  have hold : ∀ g, g < w.heap.size → (o.elim w w.alloc).heap[g]? = w.heap[g]? := fun g hg => by
    cases o with
    | none => rfl
    | some o => exact heap_alloc_old w o g hg
  have hsz : w.heap.size ≤ (o.elim w w.alloc).heap.size := by cases o <;> simp [Option.elim]
  have hsz1 : ∀ x, o.map (fun _ => w.heap.size) = some x → x = w.heap.size ∧ w.heap.size < (o.elim w w.alloc).heap.size := fun x hx => by
    cases o with
    | none => cases hx
    | some o => simp at hx; exact ⟨hx.symm, by simp [Option.elim]⟩
  have ho : (o.elim w w.alloc).os = w.os ∧ (o.elim w w.alloc).tape = w.tape ∧ (o.elim w w.alloc).output = w.output := by cases o <;> exact ⟨rfl, rfl, rfl⟩
  generalize hw' : o.elim w w.alloc = w' at *
  generalize hmo : o.map (fun _ => w.heap.size) = mo at *
  let G' : Gh := { M := fun b => if b = bk.length then mo else G.M b, S := G.S, cp := fun b => if b = bk.length then c else G.cp b, H := G.H }
  have hM : ∀ b, b < bk.length → G'.M b = G.M b := fun b hb => if_neg (by omega)
  have hc : ∀ b, b < bk.length → G'.cp b = G.cp b := fun b hb => if_neg (by omega)
  have hM0 : G'.M bk.length = mo := if_pos rfl
  have t : Trn G bk w G' (bk ++ [B]) w' := by
    refine ⟨fun _ _ h => h, fun _ _ h => h, fun g o hs => World.cell?_of_block (a := ⟨g, o, none⟩) (hold _ (h.slt g o hs)), fun b hb e => (by
      rw [List.getElem?_append_left hb] at e
      exact ⟨e, rfl, fun g x hg => hold g (h.hlt (hp_of e (.inl ⟨rfl, rfl⟩)) hg).1⟩), by simp, fun b hb hr => ⟨by rw [rowsOf_append _ hb]; exact hr, hM b hb⟩, fun b sz rows hr => ⟨rows, by rw [rowsOf_append _ (rowsOf_lt hr)]; exact hr, Nat.le_refl _, fun _ => ⟨hM b (rowsOf_lt hr), hc b (rowsOf_lt hr)⟩⟩⟩
  have hlen : (bk ++ [B]).length = bk.length + 1 := by simp
  refine ⟨G', t, ⟨fun b B' hb => ?_, fun b b' g hb hb' e e' => ?_, fun g o b hs ha e => ?_, fun g o hs => ?_, fun b g hb e => ?_, fun b g hb e => ?_, h.s0, h.snew, h.fnew, fun g e hf => TyAt.keep (h.fty g e hf) (hold _ (h.flt g e hf)), fun g e b hf ha em => ?_, ho.1.trans h.os, ho.2.1.trans h.tape, ho.2.2.trans h.output, ?_, fun g hg hn hx => ?_, h.regsK (fun b hh e => hpOf_app e hB0) (fun b g hb e => ?_) (fun g o hs => .inl hs) (fun g e hf => .inl hf), ?_, h.t0.trans t⟩, hM0, if_pos rfl⟩
  · rcases Nat.lt_or_ge b bk.length with hl | hl
    · rw [List.getElem?_append_left hl] at hb
      exact RepB.step t (hM b hl) (hc b hl) (fun g hg => hold _ (h.mlt b g hl hg)) (fun hh g x e hg => hold g (h.hlt (hp_of hb e) hg).1) (h.blk b B' hb)
    · rw [List.getElem?_append_right hl] at hb
      have e0 : b - bk.length = 0 := by
        rcases Nat.eq_zero_or_pos (b - bk.length) with e | e
        · exact e
        · rw [List.getElem?_eq_none (by simp; omega)] at hb; cases hb
      rw [e0] at hb
      simp at hb
      obtain rfl : b = bk.length := by omega
      rw [← hb]
      exact hB G' rfl hM0 (if_pos rfl) t
  · rw [hlen] at hb hb'
    by_cases e1 : b = bk.length <;> by_cases e2 : b' = bk.length
    · omega
    · rw [e1, hM0] at e; rw [hM b' (by omega)] at e'; have := h.mlt b' g (by omega) e'; have := (hsz1 g e).1; omega
    · rw [e2, hM0] at e'; rw [hM b (by omega)] at e; have := h.mlt b g (by omega) e; have := (hsz1 g e').1; omega
    · rw [hM b (by omega)] at e; rw [hM b' (by omega)] at e'; exact h.inj b b' g (by omega) (by omega) e e'
  · have hs' := h.slt g o hs
    have hbl := alive_lt ha
    rw [hlen] at hbl
    by_cases e1 : b = bk.length
    · rw [e1, hM0] at e; have := (hsz1 g e).1; omega
    · rw [hM b (by omega)] at e
      exact h.sdis g o b hs ((alive_append _ (by omega)).1 ha) e
  · have := h.slt g o hs; omega
  · rw [hlen] at hb
    by_cases e1 : b = bk.length
    · rw [e1, hM0] at e; have := hsz1 g e; omega
    · rw [hM b (by omega)] at e; have := h.mlt b g (by omega) e; omega
  · rw [hlen] at hb
    by_cases e1 : b = bk.length
    · rw [e1, hM0] at e; have := hsz1 g e; have := h.size; exact .inl (by omega)
    · rw [hM b (by omega)] at e; exact h.new b g (by omega) e
  · have hf' := h.flt g e hf
    have hbl := alive_lt ha
    rw [hlen] at hbl
    by_cases e1 : b = bk.length
    · rw [e1, hM0] at em; have := (hsz1 g em).1; omega
    · rw [hM b (by omega)] at em
      exact h.fdis g e b hf ((alive_append _ (by omega)).1 ha) em
  · have := h.size; omega
  · rw [hold _ (by have := h.size; omega)]; exact h.block g hg hn hx
  · rw [hlen] at hb
    by_cases e1 : b = bk.length
    · rw [e1, hM0] at e; have := (hsz1 g e).1; exact .inr (by omega)
    · rw [hM b (by omega)] at e; exact .inl ⟨b, by omega, e⟩
  · have := h.mle; rw [hlen]; omega

/-- A store into one of the call's own blocks. -/
theorem Mem.setb (h : Mem C G bk w) (b : Nat) (ha : Alive bk b) (B : Blk) (hal : Alive (bk.set b B) b)
    (hrow : (rowsOf bk b = none ∧ rowsOf (bk.set b B) b = none) ∨ ∃ sz rows rows', rowsOf bk b = some (sz, rows) ∧ rowsOf (bk.set b B) b = some (sz, rows') ∧ rows'.length = rows.length)
    (hoth : ∀ g, G.M b ≠ some g → w'.heap[g]? = w.heap[g]?) (hsz : w'.heap.size = w.heap.size) (hos : w'.os = w.os) (htp : w'.tape = w.tape) (hou : w'.output = w.output)
    (hB : Trn G bk w G (bk.set b B) w' → RepB G (bk.set b B) w' b B) : Trn G bk w G (bk.set b B) w' ∧ Mem C G (bk.set b B) w' := by
  have hcell : ∀ g o, G.M b ≠ some g → w'.cell? ⟨g, o, none⟩ = w.cell? ⟨g, o, none⟩ := fun g o hg => World.cell?_of_block (a := ⟨g, o, none⟩) (hoth g hg)
  have hB0 : hpB B = false := by
    have hl := alive_lt ha
    unfold Alive at hal
    rw [List.getElem?_set_self hl] at hal
    cases B <;> first | rfl | exact hal.elim
  have hreg : ∀ k hh g x, hpOf G bk k = some hh → hh g = some x → w'.heap[g]? = w.heap[g]? := fun k hh g x e hg => hoth g ((h.regs.dis k hh g x e hg).1 b (alive_lt ha))
  have t : Trn G bk w G (bk.set b B) w' := by
    refine ⟨fun _ _ h => h, fun _ _ h => h, fun g o hs => hcell g o (h.sdis g o b hs ha), fun k hk e => ⟨hp_set e hB0, rfl, fun g x hg => hreg k _ g x (hp_of (hp_set e hB0) (.inl ⟨rfl, rfl⟩)) hg⟩, by simp, fun k hk hr => ⟨?_, rfl⟩, fun k sz rows hr => ?_⟩
    · by_cases e : k = b
      · subst e
        rcases hrow with ⟨_, h2⟩ | ⟨sz, rows, _, h2, _⟩
        · exact h2
        · rw [hr] at h2; cases h2
      · rw [rowsOf_set B e]; exact hr
    · by_cases e : k = b
      · subst e
        rcases hrow with ⟨h1, _⟩ | ⟨sz', rows0, rows', h1, h2, h3⟩
        · rw [hr] at h1; cases h1
        · rw [hr] at h1; cases h1
          exact ⟨rows', h2, by omega, fun _ => ⟨rfl, rfl⟩⟩
      · exact ⟨rows, by rw [rowsOf_set B e]; exact hr, Nat.le_refl _, fun _ => ⟨rfl, rfl⟩⟩
  refine ⟨t, ⟨fun k B' hb => ?_, fun k k' g hk hk' => h.inj k k' g (by simpa using hk) (by simpa using hk'), fun g o k hs hk => ?_, fun g o hs => by rw [hsz]; exact h.slt g o hs, fun k g hk hg => by rw [hsz]; exact h.mlt k g (by simpa using hk) hg, fun k g hk => h.new k g (by simpa using hk), h.s0, h.snew, h.fnew, fun g e hf => TyAt.keep (h.fty g e hf) (hoth g (h.fdis g e b hf ha)), fun g e k hf hk => ?_,
    hos.trans h.os, htp.trans h.tape, hou.trans h.output, by rw [hsz]; exact h.size, fun g hg hn hx => ?_, h.regsK (fun k hh e => hpOf_set e hB0) (fun k g hk e => .inl ⟨k, by simpa using hk, e⟩) (fun g o hs => .inl hs) (fun g e hf => .inl hf), by have := h.mle; simpa using this, h.t0.trans t⟩⟩
  · by_cases e : k = b
    · subst e
      have hl := alive_lt ha
      rw [List.getElem?_set_self hl] at hb
      cases hb
      exact hB t
    · rw [List.getElem?_set_ne (Ne.symm e)] at hb
      have hkl : k < bk.length := (List.getElem?_eq_some_iff.1 hb).1
      exact RepB.step t rfl rfl (fun g hg => hoth _ fun e' => e (h.inj k b g hkl (alive_lt ha) hg e')) (fun hh g x e0 hg => hreg k hh g x (hp_of hb e0) hg) (h.blk k B' hb)
  · by_cases e : k = b
    · subst e; exact h.sdis g o k hs ha
    · exact h.sdis g o k hs ((alive_set B e).1 hk)
  · by_cases e1 : k = b
    · subst e1; exact h.fdis g e k hf ha
    · exact h.fdis g e k hf ((alive_set B e1).1 hk)
  · rw [hoth g ?_]
    · exact h.block g hg hn hx
    · intro e
      rcases h.new b g (alive_lt ha) e with h1 | ⟨b', h1, h2⟩
      · omega
      · exact hn b' h1 h2

/-- A block that has been written, one of those that stand together. -/
def regSet (h : Nat → Option (Nat × List Value)) (g e : Nat) (cur : List Value) : Nat → Option (Nat × List Value) := fun k => bif Nat.beq k g then some (e, cur) else h k
theorem regSet_at {h : Nat → Option (Nat × List Value)} {g e : Nat} {cur : List Value} : regSet h g e cur g = some (e, cur) := by unfold regSet; rw [Nat.beq_refl]; rfl
theorem regSet_ne {h : Nat → Option (Nat × List Value)} {g e k : Nat} {cur : List Value} (q : k ≠ g) : regSet h g e cur k = h k := by
  unfold regSet
  have : Nat.beq k g = false := by
    cases e : Nat.beq k g with
    | false => rfl
    | true => exact absurd (Nat.eq_of_beq_eq_true e) q
  rw [this]; rfl
theorem Mem.setReg (h : Mem C G bk w) {b : Nat} {hh : Nat → Option (Nat × List Value)} (hb : bk[b]? = some (.reg hh)) {g e : Nat} {cur cur' : List Value} (hg : hh g = some (e, cur)) (hw : ∃ fz, w'.heap[g]? = some (.cells cur'.toArray e fz) ∧ FzAny cur'.length fz)
    (hoth : ∀ k, k ≠ g → w'.heap[k]? = w.heap[k]?) (hsz : w'.heap.size = w.heap.size) (hos : w'.os = w.os) (htp : w'.tape = w.tape) (hou : w'.output = w.output) :
    Trn G bk w G (bk.set b (.reg (regSet hh g e cur'))) w' ∧ Mem C G (bk.set b (.reg (regSet hh g e cur'))) w' := by
  have hbl : b < bk.length := (List.getElem?_eq_some_iff.1 hb).1
  have hpb : hpOf G bk b = some hh := hp_of hb (.inr rfl)
  obtain ⟨d1, d2, d3⟩ := h.regs.dis b hh g _ hpb hg
  have hcell : ∀ k o, G.S k o → w'.cell? ⟨k, o, none⟩ = w.cell? ⟨k, o, none⟩ := fun k o hs => World.cell?_of_block (a := ⟨k, o, none⟩) (hoth k fun e => d2 o (e ▸ hs))
  have hM : ∀ k g1, k < bk.length → G.M k = some g1 → w'.heap[g1]? = w.heap[g1]? := fun k g1 hk e => hoth g1 fun q => d1 k hk (q ▸ e)
  have hne : ∀ k hk g1 x, k ≠ b → hpOf G bk k = some hk → hk g1 = some x → w'.heap[g1]? = w.heap[g1]? := fun k hk g1 x q e hx => hoth g1 fun q1 => by
    subst q1
    exact q (h.regs.inj k b hk hh g1 x _ e hpb hx hg)
  have hset : ∀ k, k ≠ b → (bk.set b (.reg (regSet hh g e cur')))[k]? = bk[k]? := fun k q => List.getElem?_set_ne (Ne.symm q)
  have hself : (bk.set b (.reg (regSet hh g e cur')))[b]? = some (.reg (regSet hh g e cur')) := List.getElem?_set_self hbl
  have hrow : ∀ k, rowsOf (bk.set b (.reg (regSet hh g e cur'))) k = rowsOf bk k := fun k => by
    by_cases q : k = b
    · subst q; unfold rowsOf; rw [hself, hb]
    · exact rowsOf_set _ q
  have hal : ∀ k, Alive (bk.set b (.reg (regSet hh g e cur'))) k → Alive bk k := fun k ha => by
    by_cases q : k = b
    · subst q; unfold Alive at ha; rw [hself] at ha; exact ha.elim
    · exact (alive_set _ q).1 ha
  have hhp : ∀ k h0, hpOf G (bk.set b (.reg (regSet hh g e cur'))) k = some h0 → ∃ h1, hpOf G bk k = some h1 ∧ ∀ g1 x, h0 g1 = some x → ∃ x1, h1 g1 = some x1 := fun k h0 e0 => by
    by_cases q : k = b
    · subst q
      unfold hpOf at e0
      rw [hself] at e0
      cases e0
      refine ⟨hh, hpb, fun g1 x hx => ?_⟩
      by_cases q1 : g1 = g
      · subst q1; exact ⟨_, hg⟩
      · rw [regSet_ne q1] at hx; exact ⟨x, hx⟩
    · refine ⟨h0, ?_, fun g1 x hx => ⟨x, hx⟩⟩
      unfold hpOf at *
      rwa [hset k q] at e0
  have t : Trn G bk w G (bk.set b (.reg (regSet hh g e cur'))) w' := by
    refine ⟨fun _ _ h => h, fun _ _ h => h, hcell, fun k hk e0 => ?_, by simp, fun k hk hr => ⟨by rw [hrow]; exact hr, rfl⟩, fun k sz rows hr => ⟨rows, by rw [hrow]; exact hr, Nat.le_refl _, fun _ => ⟨rfl, rfl⟩⟩⟩
    have q : k ≠ b := fun q => by subst q; rw [hself] at e0; cases e0
    rw [hset k q] at e0
    exact ⟨e0, rfl, fun g1 x hx => hne k _ g1 x q (hp_of e0 (.inl ⟨rfl, rfl⟩)) hx⟩
  refine ⟨t, ⟨fun k B' hk => ?_, fun k k' g hk hk' => h.inj k k' g (by simpa using hk) (by simpa using hk'), fun g o k hs hk => h.sdis g o k hs (hal k hk), fun g o hs => by rw [hsz]; exact h.slt g o hs, fun k g hk hg => by rw [hsz]; exact h.mlt k g (by simpa using hk) hg, fun k g hk => h.new k g (by simpa using hk), h.s0, h.snew, h.fnew,
    fun g1 e1 hf => TyAt.keep (h.fty g1 e1 hf) (hoth g1 fun q => by subst q; rw [d3] at hf; cases hf), fun g1 e1 k hf hk => h.fdis g1 e1 k hf (hal k hk),
    hos.trans h.os, htp.trans h.tape, hou.trans h.output, by rw [hsz]; exact h.size, fun g1 hg1 hn hx => ?_, ⟨fun k h0 g1 x e0 hx => ?_, fun k h0 g1 x e0 hx => ?_, fun k k2 h0 h2 g1 x x2 e0 e2 hx hx2 => ?_⟩, by have := h.mle; simpa using this, h.t0.trans t⟩⟩
  · by_cases q : k = b
    · subst q
      rw [hself] at hk
      cases hk
      intro g1 e1 c1 hx
      by_cases q1 : g1 = g
      · subst q1; rw [regSet_at] at hx; cases hx; exact hw
      · rw [regSet_ne q1] at hx
        rw [hoth g1 q1]
        exact h.blk k _ hb g1 e1 c1 hx
    · rw [hset k q] at hk
      exact RepB.step t rfl rfl (fun g1 hg1 => hM k g1 (List.getElem?_eq_some_iff.1 hk).1 hg1) (fun h0 g1 x e0 hx => hne k h0 g1 x q (hp_of hk e0) hx) (h.blk k B' hk)
  · rw [hoth g1 fun q => ?_]
    · exact h.block g1 hg1 hn hx
    · subst q
      rcases h.regs.own b hh g1 _ hpb hg with h1 | h1
      · omega
      · exact hx h1
  · obtain ⟨h1, e1, k1⟩ := hhp k h0 e0
    obtain ⟨x1, hx1⟩ := k1 g1 x hx
    exact h.regs.own k h1 g1 x1 e1 hx1
  · obtain ⟨h1, e1, k1⟩ := hhp k h0 e0
    obtain ⟨x1, hx1⟩ := k1 g1 x hx
    have := h.regs.dis k h1 g1 x1 e1 hx1
    exact ⟨fun b' hb' => this.1 b' (by simpa using hb'), this.2⟩
  · obtain ⟨h1, e1, k1⟩ := hhp k h0 e0
    obtain ⟨x1, hx1⟩ := k1 g1 x hx
    obtain ⟨h3, e3, k3⟩ := hhp k2 h2 e2
    obtain ⟨x3, hx3⟩ := k3 g1 x2 hx2
    exact h.regs.inj k k2 h1 h3 g1 x1 x3 e1 e3 hx1 hx3

def pvOf : Lf → Option PV
  | .pv p => some p
  | _ => none
/-- The type of a block's elements. -/
def tyB? : Blk → Option Nat
  | .arr e _ _ => some e
  | _ => none
/-- A block stays as it is from here on. -/
def frzB : Blk → Option Blk
  | .arr _ sz rows => some (.frz sz rows)
  | .var cells => (cells.mapM pvOf).map Blk.frv
  | .frz sz rows => some (.frz sz rows)
  | .frv cells => some (.frv cells)
  | .dead => none
  | .lost _ _ => none
  | .hp => none
  | .reg _ => none

theorem mapM_pv : ∀ {cells : List Lf} {l : List PV}, (cells.mapM pvOf) = some l → cells = l.map Lf.pv
  | [], l, h => by simp at h; subst h; rfl
  | x :: cells, l, h => by
    rw [List.mapM_cons] at h
    cases x with
    | pv p =>
      simp only [pvOf, Option.bind_eq_bind, Option.bind_some] at h
      cases hq : (cells.mapM pvOf) with
      | none => rw [hq] at h; simp at h
      | some l' => rw [hq] at h; simp at h; subst h; simp [mapM_pv hq]
    | _ => simp [pvOf] at h

theorem Mem.frz (h : Mem C G bk w) (b : Nat) (B B' : Blk) (hb : bk[b]? = some B) (hB : frzB B = some B') :
    ∃ G', Trn G bk w G' (bk.set b B') w ∧ Mem C G' (bk.set b B') w ∧ G'.M = G.M ∧ G'.cp = G.cp ∧ (∀ g o, G'.S g o ↔ (G.S g o ∨ G.M b = some g)) ∧ ∀ g e, G.M b = some g → tyB? B = some e → G'.S.f g = some e := by
  classical
  let G' : Gh := { G with S := ⟨fun g o => G.S g o ∨ G.M b = some g, fun g => if G.M b = some g then (match tyB? B with | some e => some e | none => G.S.f g) else G.S.f g⟩ }
  have hbl : b < bk.length := (List.getElem?_eq_some_iff.1 hb).1
  have hget : (bk.set b B')[b]? = some B' := by rw [List.getElem?_set_self hbl]
  have hrows : rowsOf (bk.set b B') b = rowsOf bk b := by
    unfold rowsOf
    rw [hget, hb]
    cases B <;> simp [frzB] at hB
    case var cells => obtain ⟨l, _, rfl⟩ := hB; rfl
    all_goals (subst hB; rfl)
  have hrow : ∀ k, rowsOf (bk.set b B') k = rowsOf bk k := fun k => by
    by_cases e : k = b
    · subst e; exact hrows
    · exact rowsOf_set B' e
  have hal : ∀ e, tyB? B = some e → Alive bk b := fun e he => by
    unfold Alive
    rw [hb]
    cases B with
    | arr ety sz rows => trivial
    | _ => cases he
  have hfs : ∀ g e, G.M b = some g → tyB? B = some e → G'.S.f g = some e := fun g e em he => by
    show (if G.M b = some g then (match tyB? B with | some e => some e | none => G.S.f g) else G.S.f g) = some e
    rw [if_pos em, he]
  have hfo : ∀ g, (G.M b ≠ some g ∨ tyB? B = none) → G'.S.f g = G.S.f g := fun g hh => by
    show (if G.M b = some g then (match tyB? B with | some e => some e | none => G.S.f g) else G.S.f g) = _
    rcases hh with hh | hh
    · rw [if_neg hh]
    · rw [hh]; simp
  have hcases : ∀ g e, G'.S.f g = some e → G.S.f g = some e ∨ (G.M b = some g ∧ tyB? B = some e) := fun g e hf => by
    by_cases em : G.M b = some g
    · cases he : tyB? B with
      | none => rw [hfo g (.inr he)] at hf; exact .inl hf
      | some e' => rw [hfs g e' em he] at hf; cases hf; exact .inr ⟨em, rfl⟩
    · rw [hfo g (.inl em)] at hf; exact .inl hf
  have hF : ∀ g e, G.S.f g = some e → G'.S.f g = some e := fun g e hf => by
    rw [hfo g ?_]
    · exact hf
    · by_cases em : G.M b = some g
      · right
        cases he : tyB? B with
        | none => rfl
        | some e' => exact absurd em (h.fdis g e b hf (hal e' he))
      · exact .inl em
  have hB0 : hpB B' = false := by
    cases B <;> simp [frzB] at hB
    case var cells => obtain ⟨l, _, rfl⟩ := hB; rfl
    all_goals (subst hB; rfl)
  have t : Trn G bk w G' (bk.set b B') w := ⟨fun _ _ h => .inl h, hF, fun _ _ _ => rfl, fun k hk e => ⟨hp_set e hB0, rfl, fun _ _ _ => rfl⟩, by simp, fun k hk hr => ⟨by rw [hrow]; exact hr, rfl⟩, fun k sz rows hr => ⟨rows, by rw [hrow]; exact hr, Nat.le_refl _, fun _ => ⟨rfl, rfl⟩⟩⟩
  have hdead : ¬ Alive (bk.set b B') b := by
    unfold Alive
    rw [hget]
    cases B <;> simp [frzB] at hB
    case var cells => obtain ⟨l, _, rfl⟩ := hB; exact id
    all_goals (subst hB; exact id)
  refine ⟨G', t, ⟨fun k K hk => ?_, fun k k' g hk hk' => h.inj k k' g (by simpa using hk) (by simpa using hk'), fun g o k hs hk e => ?_, fun g o hs => ?_, fun k g hk => h.mlt k g (by simpa using hk), fun k g hk => h.new k g (by simpa using hk), fun g o hs => .inl (h.s0 g o hs), fun g o hs => ?_,
    fun g e hf => ?_, fun g e hf => ?_, fun g e k hf hk em => ?_, h.os, h.tape, h.output, h.size, h.block, h.regsK (fun k hh e => hpOf_set e hB0) (fun k g hk e => .inl ⟨k, by simpa using hk, e⟩) (fun g o hs => hs.imp id fun q => .inl ⟨b, hbl, q⟩) (fun g e hf => (hcases g e hf).imp id fun q => .inl ⟨b, hbl, q.1⟩), by have := h.mle; simpa using this, h.t0.trans t⟩, rfl, rfl, fun _ _ => Iff.rfl, hfs⟩
  · by_cases e : k = b
    · subst e
      rw [hget] at hk
      cases hk
      have h0 := h.blk k B hb
      cases B with
      | var cells =>
        simp only [frzB] at hB
        obtain ⟨l, hl, rfl⟩ := Option.map_eq_some_iff.1 hB
        obtain ⟨g, cur, ty, hg, h1, h2⟩ := h0
        have := mapM_pv hl
        subst this
        refine ⟨g, hg, fun c p hp => ?_⟩
        obtain ⟨u, hu, hr⟩ := h2.get (i := c) (a := .pv p) (by simp [hp])
        refine ⟨.inr hg, u, ?_, t.repP hr⟩
        rw [Nat.zero_add, cell_of_row w _ _ _ _ _ h1.1]
        simpa using hu
      | arr ety sz rows =>
        simp only [frzB, Option.some.injEq] at hB
        subst hB
        rcases h0 with h0 | ⟨g, cur, hg, ⟨fz, h1, _⟩, h2, h3, h4, h5⟩
        · exact .inl h0
        refine .inr ⟨g, hg, h4, fun j r hj => ⟨(h5 j r hj).1, fun c p hp => ?_⟩⟩
        obtain ⟨u, hu, hr⟩ := (h5 j r hj).2 c p hp
        exact ⟨.inr hg, u, by rw [cell_of_row w _ _ _ _ _ h1]; exact hu, t.repP hr⟩
      | frz sz rows =>
        simp only [frzB, Option.some.injEq] at hB
        subst hB
        exact RepB.step t rfl rfl (fun _ _ => rfl) (fun _ _ _ _ _ => rfl) h0
      | frv cells =>
        simp only [frzB, Option.some.injEq] at hB
        subst hB
        exact RepB.step t rfl rfl (fun _ _ => rfl) (fun _ _ _ _ _ => rfl) h0
      | dead => simp [frzB] at hB
      | lost sz rows => simp [frzB] at hB
      | hp => simp [frzB] at hB
      | reg hh => simp [frzB] at hB
    · rw [List.getElem?_set_ne (Ne.symm e)] at hk
      exact RepB.step t rfl rfl (fun _ _ => rfl) (fun _ _ _ _ _ => rfl) (h.blk k K hk)
  · by_cases e1 : k = b
    · subst e1; exact hdead hk
    · have hk' := (alive_set B' e1).1 hk
      rcases hs with hs | hs
      · exact h.sdis g o k hs hk' e
      · exact e1 (h.inj k b g (alive_lt hk') hbl e hs)
  · rcases hs with hs | hs
    · exact h.slt g o hs
    · exact h.mlt b g hbl hs
  · rcases hs with hs | hs
    · exact h.snew g o hs
    · rcases h.new b g hbl hs with h1 | ⟨b', h1, h2⟩
      · exact .inr (.inl h1)
      · exact .inr (.inr ⟨b', h1, h2⟩)
  · rcases hcases g e hf with h1 | ⟨h1, h2⟩
    · exact h.fnew g e h1
    · exact .inr (h.new b g hbl h1)
  · rcases hcases g e hf with h1 | ⟨h1, h2⟩
    · exact h.fty g e h1
    · cases B with
      | arr ety sz rows =>
        cases h2
        rcases h.blk b _ hb with h0 | ⟨g', cur, hg', ⟨fz, q1, q2⟩, _⟩
        · rw [h0.1] at h1; cases h1
        · rw [h1] at hg'
          cases hg'
          exact ⟨cur, fz, q1, q2.any⟩
      | _ => cases h2
  · by_cases e1 : k = b
    · subst e1; exact hdead hk
    · have hk' := (alive_set B' e1).1 hk
      rcases hcases g e hf with h1 | ⟨h1, _⟩
      · exact h.fdis g e k h1 hk' em
      · exact e1 (h.inj k b g (alive_lt hk') hbl em h1)

/-- A slice whose block stays is a slice without memory of its own. -/
theorem own_pv (h : Mem C G bk w) {b sz : Nat} {rows : List (List PV)} {v : Value} (hb : bk[b]? = some (.frz sz rows)) (hv : RepL G bk w (.own b rows.length) v) : RepP G.S w (.sl sz rows) v := by
  obtain ⟨_, sz', rows', h2, _, h4⟩ := hv
  have e : rowsOf bk b = some (sz, rows) := by unfold rowsOf; rw [hb]
  rw [e] at h2
  cases h2
  rcases h4 rfl with ⟨g, hg, rfl⟩ | ⟨hg, hl, rfl⟩
  · rcases h.blk b _ hb with ⟨h0, rfl⟩ | ⟨g', hg', hc, hr⟩
    · rw [hg] at h0; cases h0
    rw [hg] at hg'
    cases hg'
    refine .sl sz g 0 (G.cp b) rows (fun j c => (w.cell? ⟨g, 0 + (j * sz + c), none⟩).getD undef) hc (fun r hr' => ?_) (fun j r c p hj hp => ?_) (fun j r c p hj hp => ?_)
    · obtain ⟨j, hj⟩ := List.getElem?_of_mem hr'
      exact (hr j r hj).1
    · obtain ⟨h1, u, h2, _⟩ := (hr j r hj).2 c p hp
      rw [Nat.zero_add, h2]
      exact ⟨h1, rfl⟩
    · obtain ⟨_, u, h2, h3⟩ := (hr j r hj).2 c p hp
      rw [Nat.zero_add, h2]
      exact h3
  · have : rows = [] := List.eq_nil_of_length_eq_zero hl
    subst this
    exact .nil sz
theorem ptr_ro (h : Mem C G bk w) {b off : Nat} {cells : List PV} {v : Value} (hb : bk[b]? = some (.frv cells)) (hv : RepL G bk w (.ptr b off) v) : RepL G bk w (.ro (cells.drop off)) v := by
  obtain ⟨⟨g, hg, rfl⟩, _, _⟩ := hv
  refine ⟨_, _, rfl, ?_⟩
  obtain ⟨g', hg', h0⟩ := h.blk b _ hb
  rw [hg] at hg'
  cases hg'
  have := h0.drop off
  rwa [Nat.zero_add] at this
/-- A block that is no longer written stands as it is in a world whose cells are the same, and its cells may be relied on. -/
theorem Mem.share {w' : World} (h : Mem C G bk w) (b : Nat) (B : Blk) (hb : bk[b]? = some B) (hn : ¬ Alive bk b) (hcell : ∀ g o, w'.cell? ⟨g, o, none⟩ = w.cell? ⟨g, o, none⟩) (hoth : ∀ g, G.M b ≠ some g → w'.heap[g]? = w.heap[g]?)
    (hty : ∀ g e, G.M b = some g → TyAt w g e → TyAt w' g e)
    (hsz : w'.heap.size = w.heap.size) (hos : w'.os = w.os) (htp : w'.tape = w.tape) (hou : w'.output = w.output) :
    ∃ G', Trn G bk w G' bk w' ∧ Mem C G' bk w' ∧ G'.M = G.M ∧ G'.cp = G.cp ∧ ∀ g o, G'.S g o ↔ (G.S g o ∨ G.M b = some g) := by
  let G' : Gh := { G with S := ⟨fun g o => G.S g o ∨ G.M b = some g, G.S.f⟩ }
  have hbl : b < bk.length := (List.getElem?_eq_some_iff.1 hb).1
  have hreg : ∀ k hh g x, hpOf G bk k = some hh → hh g = some x → w'.heap[g]? = w.heap[g]? := fun k hh g x e hg => hoth g ((h.regs.dis k hh g x e hg).1 b hbl)
  have t : Trn G bk w G' bk w' := ⟨fun _ _ h => .inl h, fun _ _ h => h, fun g o _ => hcell g o, fun k hk e => ⟨e, rfl, fun g x hg => hreg k _ g x (hp_of e (.inl ⟨rfl, rfl⟩)) hg⟩, Nat.le_refl _, fun _ _ h => ⟨h, rfl⟩, fun _ _ rows h => ⟨rows, h, Nat.le_refl _, fun _ => ⟨rfl, rfl⟩⟩⟩
  refine ⟨G', t, ⟨fun k K hk => ?_, h.inj, fun g o k hs hk e => ?_, fun g o hs => ?_, fun k g hk hg => by rw [hsz]; exact h.mlt k g hk hg, h.new, fun g o hs => .inl (h.s0 g o hs), fun g o hs => ?_,
    h.fnew, fun g e hf => (by
      by_cases em : G.M b = some g
      · exact hty g e em (h.fty g e hf)
      · exact (h.fty g e hf).keep (hoth g em)), h.fdis, hos.trans h.os, htp.trans h.tape, hou.trans h.output, by rw [hsz]; exact h.size, fun g hg ho hx => ?_, h.regsK (fun k hh e => e) (fun k g hk e => .inl ⟨k, hk, e⟩) (fun g o hs => hs.imp id fun q => .inl ⟨b, hbl, q⟩) (fun g e hf => .inl hf), h.mle, h.t0.trans t⟩, rfl, rfl, fun _ _ => Iff.rfl⟩
  · by_cases e : k = b
    · subst e
      rw [hb] at hk
      cases hk
      have h0 := h.blk k B hb
      cases B with
      | var cells => exact absurd (by unfold Alive; rw [hb]; trivial) hn
      | arr ety sz rows => exact absurd (by unfold Alive; rw [hb]; trivial) hn
      | frz sz rows =>
        rcases h0 with h0 | ⟨g, hg, hc, hr⟩
        · exact .inl h0
        · exact .inr ⟨g, hg, hc, fun j r hj => ⟨(hr j r hj).1, t.cellsP (hr j r hj).2⟩⟩
      | frv cells => obtain ⟨g, hg, hc⟩ := h0; exact ⟨g, hg, t.cellsP hc⟩
      | dead => trivial
      | lost sz rows => exact h0
      | hp =>
        intro g e cur hg
        rw [hreg k _ g _ (hp_of hb (.inl ⟨rfl, rfl⟩)) hg]
        exact h0 g e cur hg
      | reg hh =>
        intro g e cur hg
        rw [hreg k hh g _ (hp_of hb (.inr rfl)) hg]
        exact h0 g e cur hg
    · exact RepB.step t rfl rfl (fun g hg => hoth g fun hg' => e (h.inj k b g (List.getElem?_eq_some_iff.1 hk).1 hbl hg hg')) (fun hh g x e0 hg => hreg k hh g x (hp_of hk e0) hg) (h.blk k K hk)
  · rcases hs with hs | hs
    · exact h.sdis g o k hs hk e
    · have := h.inj k b g (alive_lt hk) hbl e hs
      subst this
      exact hn hk
  · rw [hsz]
    rcases hs with hs | hs
    · exact h.slt g o hs
    · exact h.mlt b g hbl hs
  · rcases hs with hs | hs
    · exact h.snew g o hs
    · rcases h.new b g hbl hs with h1 | ⟨b', h1, h2⟩
      · exact .inr (.inl h1)
      · exact .inr (.inr ⟨b', h1, h2⟩)
  · rw [hoth g fun hg' => ?_]
    · exact h.block g hg ho hx
    · rcases h.new b g hbl hg' with h1 | ⟨b', h1, h2⟩
      · omega
      · exact ho b' h1 h2
end
end Go.Rx

/- A short table of a program's types, and the operations on values. -/
namespace Go.Rx

inductive TyD where
  | int (k : IntKind)
  | bool
  | str
  | strct (fs : List (Nat × TypeId))
  | slice (e : TypeId)
  | ifc
  | ptr
  | other
structure Ty where
  d : TyD
  size : Nat
  bytes : Nat
  zero : List Value
/-- The types, and the functions to which a caller's own blocks are lent. -/
structure Tab where
  tys : List (Nat × Ty)
  lend : List Nat
  bld : List Nat := []
  dyn : List Nat := []
def Tab.find (T : Tab) (t : TypeId) : Option Ty := List.lookup t T.tys
def lendB (T : Tab) : Operand → List TypeId → Bool
  | .func f, _ => T.lend.any (Nat.beq f)
  | .tmp _, ts => ts.any fun t => T.dyn.any (Nat.beq t)
  | _, _ => false

def TyD.agg : TyD → Bool
  | .strct _ => true
  | _ => false
def plainV : Value → Bool
  | .int _ _ | .bool _ | .string _ | .pointer none | .slice none 0 0 | .nilFunc | .nilIface => true
  | _ => false
def vEq : Value → Value → Bool
  | .int k a, .int k' b => k == k' && a == b
  | .bool a, .bool b => a == b
  | .string a, .string b => decide (a = b)
  | .pointer none, .pointer none => true
  | .slice none 0 0, .slice none 0 0 => true
  | .nilFunc, .nilFunc => true
  | .nilIface, .nilIface => true
  | _, _ => false
theorem vEq_eq {a b : Value} (h : vEq a b = true) : a = b ∧ plainV b = true := by
  unfold vEq at h
  split at h
  · simp only [Bool.and_eq_true, beq_iff_eq] at h; rw [h.1, h.2]; exact ⟨rfl, rfl⟩
  · simp only [beq_iff_eq] at h; rw [h]; exact ⟨rfl, rfl⟩
  · rw [of_decide_eq_true h]; exact ⟨rfl, rfl⟩
  · exact ⟨rfl, rfl⟩
  · exact ⟨rfl, rfl⟩
  · exact ⟨rfl, rfl⟩
  · exact ⟨rfl, rfl⟩
  · cases h
theorem plainV_one {v : Value} (h : plainV v = true) : v.oneCell' = true := by
  cases v <;> first | rfl | cases h
def vsEq : List Value → List Value → Bool
  | [], [] => true
  | a :: l, b :: m => vEq a b && vsEq l m
  | _, _ => false
theorem vsEq_eq : ∀ {l m : List Value}, vsEq l m = true → l = m ∧ ∀ v ∈ m, plainV v = true
  | [], [], _ => ⟨rfl, by simp⟩
  | a :: l, b :: m, h => by
    simp only [vsEq, Bool.and_eq_true] at h
    obtain ⟨rfl, hp⟩ := vEq_eq h.1
    obtain ⟨rfl, hq⟩ := vsEq_eq h.2
    exact ⟨rfl, by simpa using ⟨hp, hq⟩⟩
  | [], _ :: _, h => by cases h
  | _ :: _, [], h => by cases h

/-- The program's own description of a type against the table's. -/
structure TyOK (P : Program) (t : TypeId) (ty : Ty) : Prop where
  info : ∃ i z, P.info? t = some i ∧ i.size = ty.size ∧ i.bytes = ty.bytes ∧ i.zero = some z ∧ z.cells.toList = ty.zero ∧ (z = .agg ty.zero.toArray ∨ ty.d.agg = false)
  zp : ∀ v ∈ ty.zero, plainV v = true
  zs : ty.zero.length = ty.size
  agg : ∃ d, P.underlying t = some d ∧ (match d with | .struct _ | .array _ _ => true | _ => false) = ty.d.agg
  int : ∀ k, ty.d = .int k → P.underlying t = some (.int k)
  bool : ty.d = .bool → P.underlying t = some .bool
  str : ty.d = .str → P.underlying t = some .string
  strct : ∀ fs, ty.d = .strct fs → ∃ F : Array Field, P.underlying t = some (.struct F) ∧ F.toList.map (fun f => (f.offset, f.type)) = fs ∧ (∀ f ∈ F.toList, f.name ≠ "_") ∧ P.stoodInHeld t = false ∧ P.eqGuardType P.depth t = false ∧ ∀ f ∈ F.toList, ∃ i, P.info? f.type = some i
  slice : ∀ e, ty.d = .slice e → P.underlying t = some (.slice e)
  ifc : ty.d = .ifc → ∃ ms, P.underlying t = some (.interface ms)
  ptr : ty.d = .ptr → ∃ e, P.underlying t = some (.pointer e)
def chkTy (P : Program) (t : TypeId) (ty : Ty) : Bool :=
  (match P.info? t with
   | some i => i.size == ty.size && i.bytes == ty.bytes && (match i.zero with
     | some (.agg cs) => ty.d.agg && vsEq cs.toList ty.zero
     | some z => !ty.d.agg && vsEq z.cells.toList ty.zero
     | none => false)
   | none => false) && ty.zero.length == ty.size &&
  (match P.underlying t, ty.d with
   | some (.int k), .int k' => k == k'
   | some .bool, .bool => true
   | some .string, .str => true
   | some (.struct F), .strct fs => F.toList.map (fun f => (f.offset, f.type)) == fs && F.toList.all (fun f => f.name != "_") && !P.stoodInHeld t && !P.eqGuardType P.depth t && F.toList.all (fun f => (P.info? f.type).isSome)
   | some (.slice e), .slice e' => e == e'
   | some (.interface _), .ifc => true
   | some (.pointer _), .ptr => true
   | some (.struct _), _ | some (.array _ _), _ | none, _ => false
   | some _, .other => true
   | _, _ => false)
theorem chkTy_ok {P : Program} {t : TypeId} {ty : Ty} (h : chkTy P t ty = true) : TyOK P t ty := by
  obtain ⟨d, size, bytes, zero⟩ := ty
  simp only [chkTy, Bool.and_eq_true] at h
  obtain ⟨⟨h1, hz⟩, h2⟩ := h
  have hinfo : ∃ i z, P.info? t = some i ∧ i.size = size ∧ i.bytes = bytes ∧ i.zero = some z ∧ z.cells.toList = zero ∧ (z = .agg zero.toArray ∨ d.agg = false) ∧ ∀ v ∈ zero, plainV v = true := by
    cases hi : P.info? t with
    | none => rw [hi] at h1; cases h1
    | some i =>
      rw [hi] at h1
      simp only [Bool.and_eq_true, beq_iff_eq] at h1
      obtain ⟨⟨e1, e2⟩, h1⟩ := h1
      cases hzz : i.zero with
      | none => rw [hzz] at h1; cases h1
      | some z =>
        rw [hzz] at h1
        cases z with
        | agg cs =>
          simp only [Bool.and_eq_true] at h1
          obtain ⟨e3, e4⟩ := vsEq_eq h1.2
          exact ⟨i, .agg cs, rfl, e1, e2, hzz, e3, .inl (by rw [← e3]), e4⟩
        | _ =>
          simp only [Bool.and_eq_true, Bool.not_eq_true'] at h1
          obtain ⟨e3, e4⟩ := vsEq_eq h1.2
          exact ⟨i, _, rfl, e1, e2, hzz, e3, .inr h1.1, e4⟩
  obtain ⟨i, z, a1, a2, a3, a4, a5, a6, a7⟩ := hinfo
  cases hu : P.underlying t with
  | none => rw [hu] at h2; cases d <;> cases h2
  | some D =>
    rw [hu] at h2
    refine ⟨⟨i, z, a1, a2, a3, a4, a5, a6⟩, a7, by simpa using hz, ⟨D, hu, ?_⟩, fun k e => ?_, fun e => ?_, fun e => ?_, fun fs e => ?_, fun e' e => ?_, fun e => ?_, fun e => ?_⟩
    · cases D <;> cases d <;> first | rfl | cases h2
    all_goals (simp only at e; subst e; cases D <;> first | cases h2 | skip)
    · simp only [beq_iff_eq] at h2; rw [hu, h2]
    · exact hu
    · exact hu
    · rename_i F
      simp only [Bool.and_eq_true, beq_iff_eq, List.all_eq_true, bne_iff_ne, Bool.not_eq_true'] at h2
      exact ⟨F, hu, h2.1.1.1.1, h2.1.1.1.2, h2.1.1.2, h2.1.2, fun f hf => Option.isSome_iff_exists.1 (h2.2 f hf)⟩
    · simp only [beq_iff_eq] at h2; rw [hu, h2]
    · exact ⟨_, hu⟩
    · exact ⟨_, hu⟩
def TabOK (P : Program) (T : Tab) : Prop := ∀ t ty, T.find t = some ty → TyOK P t ty
theorem tys_ok {P : Program} : ∀ {l : List (Nat × Ty)}, (l.all fun x => chkTy P x.1 x.2) = true → ∀ t ty, List.lookup t l = some ty → TyOK P t ty
  | [], _, t, ty, h => by cases h
  | (t0, ty0) :: l, hc, t, ty, h => by
    simp only [List.all_cons, Bool.and_eq_true] at hc
    simp only [List.lookup] at h
    split at h
    · rename_i he
      have : t = t0 := by simpa using he
      subst this
      cases h
      exact chkTy_ok hc.1
    · exact tys_ok hc.2 t ty h
theorem tabOK_of {P : Program} {T : Tab} (h : (T.tys.all fun x => chkTy P x.1 x.2) = true) : TabOK P T := tys_ok h

/-! ### Operators on values of one cell -/
def vBin (op : BinOp) (a b : Value) : Option Value :=
  match a, b with
  | .int k x, .int k' y => if k = k' then (match op with
      | .add => some (.int k (k.wrap (x + y)))
      | .sub => some (.int k (k.wrap (x - y)))
      | .mul => some (.int k (k.wrap (x * y)))
      | .eql => some (.bool (x == y))
      | .neq => some (.bool (x != y))
      | .lss => some (.bool (decide (x < y)))
      | .leq => some (.bool (decide (x ≤ y)))
      | .gtr => some (.bool (decide (x > y)))
      | .geq => some (.bool (decide (x ≥ y)))
      | _ => none) else none
  | .bool x, .bool y => (match op with
      | .eql => some (.bool (x == y))
      | .neq => some (.bool (x != y))
      | _ => none)
  | .string x, .string y => (match op with
      | .eql => some (.bool (x == y))
      | .neq => some (.bool (x != y))
      | _ => none)
  | _, _ => none
def vUn (op : UnOp) (a : Value) : Option Value :=
  match op, a with
  | .not, .bool x => some (.bool (!x))
  | .neg, .int k x => some (.int k (k.wrap (0 - x)))
  | _, _ => none

section
variable {P : Program}
theorem run_eqGuard_sc (op : BinOp) (t : TypeId) (x y : Operand) (a b v : Value) (w : World) (h : vBin op a b = some v) : (eqGuard op t x y a b).run P w = .ok () w := by
  cases a <;> cases b <;> simp [vBin] at h <;> cases op <;> simp [eqGuard]
set_option maxHeartbeats 800000 in
theorem vBin_run {T : Tab} (hT : TabOK P T) {op : BinOp} {t : TypeId} {ty : Ty} (ht : T.find t = some ty) {x y : Operand} {a b v : Value} (h : vBin op a b = some v) (hb : (∃ p, a = .bool p) → ty.d = .bool) (w : World) :
    (do eqGuard op t x y a b; binOp op t a b).run P w = .ok v w ∧ v.oneCell' = true := by
  rw [Sem.run_bind, run_eqGuard_sc op t x y a b v w h, Result.andThen_ok]
  cases a with
  | int k p =>
    cases b <;> simp [vBin] at h
    obtain ⟨rfl, h⟩ := h
    cases op <;> simp at h <;> subst h <;> exact ⟨by simp [binOp, Op.intArith, Op.intCmp], rfl⟩
  | bool p =>
    cases b <;> simp [vBin] at h
    have hu := (hT t ty ht).bool (hb ⟨_, rfl⟩)
    have e := run_equalIn_bool' (P := P) w 9999 t p (by assumption) hu
    have e1 : ∀ q, binOp .eql t (.bool p) (.bool q) = (do pure (.bool (← Op.equal t (.bool p) (.bool q)))) := fun _ => rfl
    have e2 : ∀ q, binOp .neq t (.bool p) (.bool q) = (do pure (.bool (!(← Op.equal t (.bool p) (.bool q))))) := fun _ => rfl
    cases op <;> simp at h <;> subst h
    · exact ⟨by rw [e1]; simp only [Op.equal, Op.maxDepth, Sem.run_bind, e, Result.andThen_ok, Sem.run_pure], rfl⟩
    · exact ⟨by rw [e2]; simp only [Op.equal, Op.maxDepth, Sem.run_bind, e, Result.andThen_ok, Sem.run_pure, bne], rfl⟩
  | string p =>
    cases b <;> simp [vBin] at h
    cases op <;> simp at h <;> subst h <;> exact ⟨by simp [binOp, Op.stringOp, beq_toListBytes, bne], rfl⟩
  | _ => cases b <;> simp [vBin] at h
theorem vUn_run {op : UnOp} {a v : Value} (h : vUn op a = some v) (w : World) : (Op.unary op a).run P w = .ok v w ∧ v.oneCell' = true := by
  cases op <;> cases a <;> simp [vUn] at h <;> subst h <;> exact ⟨by simp [Op.unary, Op.intArith], rfl⟩
end
end Go.Rx

/- The operations that make values, and those that read and write the call's own variables. -/
namespace Go.Rx
open Go.RowKit

abbrev sc (v : Value) : AV := .lf (.pv (.sc v))
abbrev lsc (v : Value) : Lf := .pv (.sc v)
def cst (v : Value) : AV :=
  match v with
  | .agg cs => bif cs.toList.all (fun v => v.oneCell') then .agg (cs.toList.map lsc) else .un
  | .tuple _ => .un
  | v => sc v
def ev (sl : Nat → AV) : Operand → AV
  | .tmp t => sl t
  | .const v => cst v
  | .func f => .lf (.fn f [])
  | .global _ => .un
def leaves : AV → Option (List Lf)
  | .lf l => some [l]
  | .agg l => some l
  | _ => none
def mkAV (agg : Bool) (l : List Lf) : AV :=
  match agg, l with
  | true, l => .agg l
  | false, [x] => .lf x
  | false, _ => .un
def splice {α : Type} (l : List α) (off : Nat) (r : List α) : List α := l.take off ++ (r ++ l.drop (off + r.length))

section
variable {P : Program} {T : Tab} {C : Ctx} {G : Gh} {sl : Nat → AV} {bk : List Blk} {a : Act} {w : World}

/-- What may come of a step: some state that K holds of, and the world that goes with it. -/
def Ok (C : Ctx) (K : (Nat → AV) → List Blk → Prop) : Act → World → Prop := fun a w => ∃ G sl bk, K sl bk ∧ Rel C G sl bk a w

theorem fa_lsc {G : Gh} {bk : List Blk} {w : World} : ∀ {l : List Value}, (∀ v ∈ l, v.oneCell' = true) → Fa (RepL G bk w) (l.map lsc) l
  | [], _ => trivial
  | v :: l, h => ⟨RepP.sc v (h v (by simp)), fa_lsc fun u hu => h u (by simp [hu])⟩
theorem fa_pv {G : Gh} {bk : List Blk} {w : World} : ∀ {l : List PV} {m : List Value}, Fa (fun x v => RepP G.S w x v) l m → Fa (RepL G bk w) (l.map Lf.pv) m
  | [], [], _ => trivial
  | _ :: _, _ :: _, h => ⟨h.1, fa_pv h.2⟩
  | [], _ :: _, h => h.elim
  | _ :: _, [], h => h.elim
theorem fa_one {G : Gh} {bk : List Blk} {w : World} : ∀ {l : List Lf} {m : List Value}, Fa (RepL G bk w) l m → ∀ v ∈ m, v.oneCell' = true
  | [], [], _ => by simp
  | _ :: _, _ :: _, h => by simpa using ⟨RepL.one h.1, fun v hv => fa_one h.2 v hv⟩
  | [], _ :: _, h => h.elim
  | _ :: _, [], h => h.elim

theorem cst_rep (v : Value) : RepA G bk w (cst v) v := by
  cases v with
  | agg cs =>
    simp only [cst]
    cases h : cs.toList.all (fun v => v.oneCell') with
    | false => trivial
    | true => exact ⟨cs.toList, by simp, fa_lsc (List.all_eq_true.1 h)⟩
  | tuple vs => trivial
  | _ => exact RepP.sc _ rfl
theorem ev_rep (h : Rel C G sl bk a w) (x : Operand) : RepA G bk w (ev sl x) (a.eval x) := by
  cases x with
  | tmp t => exact h.slots t
  | const v => exact cst_rep v
  | func f => exact ⟨[], rfl, trivial⟩
  | global g => trivial
theorem leaves_rep {x : AV} {l : List Lf} {v : Value} (h : RepA G bk w x v) (e : leaves x = some l) : Fa (RepL G bk w) l v.cells.toList ∧ (v.cells.size = l.length) := by
  cases x with
  | lf l' =>
    simp only [leaves, Option.some.injEq] at e
    subst e
    have h1 := RepL.one h
    have : v.cells = #[v] := by cases v <;> first | rfl | cases h1
    rw [this]
    exact ⟨⟨h, trivial⟩, rfl⟩
  | agg l' =>
    simp only [leaves, Option.some.injEq] at e
    subst e
    obtain ⟨us, rfl, hu⟩ := h
    exact ⟨hu, by simp [Value.cells, hu.length]⟩
  | _ => cases e

theorem Rel.val (h : Rel C G sl bk a w) {x : AV} {v : Value} (hx : RepA G bk w x v) {d : Option Nat} (hd : ∀ k, d = some k → k < C.n) {K : (Nat → AV) → List Blk → Prop} (hk : K (putO sl d x) bk) : Ok C K (a.put d v) w :=
  ⟨G, _, bk, hk, h.put_of (Trn.refl _ _ _) h.mem hx d hd⟩

theorem run_isAgg (hT : TabOK P T) {t : TypeId} {ty : Ty} (ht : T.find t = some ty) (w : World) : (isAgg t).run P w = .ok ty.d.agg w := by
  obtain ⟨d, hd, hm⟩ := (hT t ty ht).agg
  unfold isAgg
  rw [Sem.run_bind, run_underlying hd w, Result.andThen_ok]
  cases d <;> simp at hm <;> simp [← hm]
theorem run_sizeOf (hT : TabOK P T) {t : TypeId} {ty : Ty} (ht : T.find t = some ty) (w : World) : (sizeOf t).run P w = .ok ty.size w := by
  obtain ⟨i, z, h1, h2, _⟩ := (hT t ty ht).info
  simp [sizeOf, typeInfo, h1, h2]

/-- Loads of cells that lie in a row. -/
theorem run_loadVar_cells (hT : TabOK P T) {t : TypeId} {ty : Ty} (ht : T.find t = some ty) {g o : Nat} {l : List Value} (hl : l.length = ty.size) (hone : ∀ v ∈ l, v.oneCell' = true) (hc : ∀ i v, l[i]? = some v → w.cell? ⟨g, o + i, none⟩ = some v) :
    ∃ v, (loadVar t ⟨g, o, none⟩).run P w = .ok v w ∧ ((ty.d.agg = true ∧ v = .agg l.toArray) ∨ (ty.d.agg = false ∧ ∀ x, l = [x] → v = x)) ∨ (ty.d.agg = false ∧ l.length ≠ 1) := by
  cases hagg : ty.d.agg with
  | true =>
    refine ⟨.agg l.toArray, .inl ⟨?_, .inl ⟨rfl, rfl⟩⟩⟩
    have h1 : (loadCells ⟨g, o, none⟩ l.length).run P w = .ok l.toArray w := run_loadCells_list (P := P) w ⟨g, o, none⟩ l (fun j v hv => by rw [Addr.add_lit]; exact hc j v hv)
    unfold loadVar
    rw [Sem.run_bind, run_isAgg hT ht, Result.andThen_ok, hagg, if_pos rfl, Sem.run_bind, run_sizeOf hT ht, Result.andThen_ok, Sem.run_bind, ← hl, h1, Result.andThen_ok]
    rfl
  | false =>
    by_cases h1 : l.length = 1
    · obtain ⟨x, rfl⟩ := List.length_eq_one_iff.1 h1
      refine ⟨x, .inl ⟨?_, .inr ⟨rfl, fun y e => (List.cons.inj e).1⟩⟩⟩
      have := hc 0 x rfl
      rw [Nat.add_zero] at this
      unfold loadVar
      rw [Sem.run_bind, run_isAgg hT ht, Result.andThen_ok, hagg]
      simp [this]
    · exact ⟨undef, .inr ⟨rfl, h1⟩⟩

/-- What is read in the blocks that stand together. -/
def loadR (ty : Ty) (u : Value) (bk : List Blk) (K : AV → Prop) : Prop :=
  match u with
  | .pointer (some ⟨g, o, none⟩) => ∃ (b : Nat) (h : Nat → Option (Nat × List Value)) (e : Nat) (cur : List Value), bk[b]? = some (.reg h) ∧ h g = some (e, cur) ∧ (o + ty.size ≤ cur.length ∧ (ty.d.agg || Nat.beq ty.size 1) = true) ∧ (∀ v ∈ (cur.drop o).take ty.size, v.oneCell' = true) ∧ K (mkAV ty.d.agg (((cur.drop o).take ty.size).map lsc))
  | _ => False
/-- What is read at a pointer. -/
def loadK (T : Tab) (t : TypeId) (p : AV) (bk : List Blk) (K : AV → Prop) : Prop :=
  match T.find t with
  | none => False
  | some ty =>
    match p with
    | .lf (.ptr b off) =>
      (match bk[b]? with
       | some (.var cells) => bif Nat.ble (off + ty.size) cells.length && (ty.d.agg || Nat.beq ty.size 1) then K (mkAV ty.d.agg ((cells.drop off).take ty.size)) else False
       | some (.frv cells) => bif Nat.ble (off + ty.size) cells.length && (ty.d.agg || Nat.beq ty.size 1) then K (mkAV ty.d.agg (((cells.drop off).take ty.size).map Lf.pv)) else False
       | _ => False)
    | .lf (.ro l) => bif Nat.ble ty.size l.length && (ty.d.agg || Nat.beq ty.size 1) then K (mkAV ty.d.agg ((l.take ty.size).map Lf.pv)) else False
    | .lf (.ept b n i sz off) =>
      (match rowsOf bk b with
       | some (sz', rows) => sz' = sz ∧ rows.length = n ∧ ∃ r, rows[i]? = some r ∧ (bif Nat.ble (off + ty.size) r.length && (ty.d.agg || Nat.beq ty.size 1) then K (mkAV ty.d.agg (((r.drop off).take ty.size).map Lf.pv)) else False)
       | none => False)
    | .lf (.pv (.sc u)) => loadR ty u bk K
    | _ => False

theorem load_core (hT : TabOK P T) {t : TypeId} {ty : Ty} (ht : T.find t = some ty) (hs : (ty.d.agg || Nat.beq ty.size 1) = true) {ls : List Lf} {l : List Value} (hf : Fa (RepL G bk w) ls l) (hl : l.length = ty.size) {g o : Nat}
    (hc : ∀ i v, l[i]? = some v → w.cell? ⟨g, o + i, none⟩ = some v) : ∃ v, (loadVar t ⟨g, o, none⟩).run P w = .ok v w ∧ RepA G bk w (mkAV ty.d.agg ls) v := by
  obtain ⟨v, h | ⟨h1, h2⟩⟩ := run_loadVar_cells hT ht (g := g) (o := o) hl (fa_one hf) hc
  · obtain ⟨hr, h⟩ := h
    refine ⟨v, hr, ?_⟩
    rcases h with ⟨e, rfl⟩ | ⟨e, h⟩
    · rw [e]; exact ⟨l, rfl, hf⟩
    · rw [e] at hs ⊢
      have h1 : l.length = 1 := by rw [hl]; simpa using hs
      obtain ⟨x, rfl⟩ := List.length_eq_one_iff.1 h1
      obtain ⟨y, rfl⟩ := List.length_eq_one_iff.1 (hf.length.trans h1)
      rw [h x rfl]
      exact hf.1
  · rw [h1] at hs
    exact absurd (by rw [hl]; simpa using hs) h2

theorem loadK_sound (hT : TabOK P T) (hm : Mem C G bk w) {t : TypeId} {p : AV} {v : Value} (hp : RepA G bk w p v) {K : AV → Prop} (h : loadK T t p bk K) :
    ∃ x u, (Instr.loadAt t v).run P w = .ok u w ∧ RepA G bk w x u ∧ K x := by
  unfold loadK at h
  split at h
  · exact h.elim
  rename_i ty ht
  have conv : ∀ {g o : Nat} {ls : List Lf} {l : List Value}, v = .pointer (some ⟨g, o, none⟩) → (ty.d.agg || Nat.beq ty.size 1) = true → Fa (RepL G bk w) ls l → l.length = ty.size → (∀ i u, l[i]? = some u → w.cell? ⟨g, o + i, none⟩ = some u) →
      K (mkAV ty.d.agg ls) → ∃ x u, (Instr.loadAt t v).run P w = .ok u w ∧ RepA G bk w x u ∧ K x := fun e hs hf hl hc hk => by
    obtain ⟨u, h1, h2⟩ := load_core hT ht hs hf hl hc
    subst e
    exact ⟨_, u, by simp [Instr.loadAt, Instr.sureAddr, h1], h2, hk⟩
  have ro : ∀ {g o : Nat} {l : List PV}, v = .pointer (some ⟨g, o, none⟩) → CellsP G.S w g o l → (bif Nat.ble ty.size l.length && (ty.d.agg || Nat.beq ty.size 1) then K (mkAV ty.d.agg ((l.take ty.size).map Lf.pv)) else False) → ∃ x u, (Instr.loadAt t v).run P w = .ok u w ∧ RepA G bk w x u ∧ K x := fun {g o l} e hc hk => by
    cases hb : (Nat.ble ty.size l.length && (ty.d.agg || Nat.beq ty.size 1)) with
    | false => rw [hb] at hk; exact hk.elim
    | true =>
      rw [hb] at hk
      simp only [Bool.and_eq_true] at hb
      have hle : ty.size ≤ l.length := Nat.le_of_ble_eq_true hb.1
      have hget : ∀ i, i < ty.size → ∃ u, w.cell? ⟨g, o + i, none⟩ = some u ∧ ∃ p, l[i]? = some p ∧ RepP G.S w p u := fun i hi => by
        obtain ⟨_, u, h1, h2⟩ := hc i l[i] (List.getElem?_eq_getElem (by omega))
        exact ⟨u, h1, _, List.getElem?_eq_getElem (by omega), h2⟩
      let f : Nat → Value := fun i => (w.cell? ⟨g, o + i, none⟩).getD undef
      refine conv (l := (List.range ty.size).map f) e hb.2 (fa_pv (Fa.of_get (by simp; omega) fun i x y hx hy => ?_)) (by simp) (fun i u hu => ?_) hk
      · have hi : i < ty.size := by
          have := (List.getElem?_eq_some_iff.1 hy).1
          simpa using this
        obtain ⟨u, h1, p, h2, h3⟩ := hget i hi
        rw [List.getElem?_take_of_lt hi, h2] at hx
        cases hx
        simp [hi, f, h1] at hy
        rw [← hy]
        exact h3
      · have hi : i < ty.size := by
          have := (List.getElem?_eq_some_iff.1 hu).1
          simpa using this
        obtain ⟨u', h1, _⟩ := hget i hi
        simp [hi, f, h1] at hu
        rw [h1, hu]
  split at h
  · rename_i b off
    obtain ⟨⟨g, hg, rfl⟩, hb, hr⟩ := hp
    split at h
    · rename_i cells hbk
      obtain ⟨g', cur, ty', hg', h1, h2⟩ := hm.blk b _ hbk
      rw [hg] at hg'
      cases hg'
      cases hbb : (Nat.ble (off + ty.size) cells.length && (ty.d.agg || Nat.beq ty.size 1)) with
      | false => rw [hbb] at h; exact h.elim
      | true =>
        rw [hbb] at h
        simp only [Bool.and_eq_true] at hbb
        have hle : off + ty.size ≤ cells.length := Nat.le_of_ble_eq_true hbb.1
        have hlen := h2.length
        refine conv (l := (cur.drop off).take ty.size) rfl hbb.2 ((h2.drop off).take ty.size) (by simp; omega) (fun i u hu => ?_) h
        have hi : i < ty.size := by
          have := (List.getElem?_eq_some_iff.1 hu).1
          simp at this; omega
        rw [List.getElem?_take_of_lt hi] at hu
        rw [cell_of_row w _ _ _ _ _ h1.1]
        simpa using hu
    · rename_i cells hbk
      obtain ⟨g', hg', h1⟩ := hm.blk b _ hbk
      rw [hg] at hg'
      cases hg'
      have h2 := h1.drop off
      rw [Nat.zero_add] at h2
      refine ro rfl h2 ?_
      have : Nat.ble ty.size (cells.drop off).length = Nat.ble (off + ty.size) cells.length := by
        rw [Bool.eq_iff_iff, Nat.ble_eq, Nat.ble_eq, List.length_drop]
        constructor
        · intro h3
          cases hb0 : Nat.ble (off + ty.size) cells.length with
          | true => exact Nat.le_of_ble_eq_true hb0
          | false => rw [hb0] at h; exact h.elim
        · omega
      rw [this]
      exact h
    · exact h.elim
  · rename_i l
    obtain ⟨g, o, rfl, hc⟩ := hp
    exact ro rfl hc h
  · rename_i b n i sz off
    split at h
    · rename_i sz' rows hrow
      obtain ⟨rfl, hn, r, hr, h⟩ := h
      obtain ⟨_, rows', h1, _, h2⟩ := hp
      rw [hrow] at h1
      cases h1
      obtain ⟨g, hg, rfl⟩ := h2 hn
      cases hbb : (Nat.ble (off + ty.size) r.length && (ty.d.agg || Nat.beq ty.size 1)) with
      | false => rw [hbb] at h; exact h.elim
      | true =>
        rw [hbb] at h
        simp only [Bool.and_eq_true] at hbb
        have hle : off + ty.size ≤ r.length := Nat.le_of_ble_eq_true hbb.1
        have hcell : ∀ c, c < r.length → ∃ u, w.cell? ⟨g, i * sz' + c, none⟩ = some u ∧ ∃ p, r[c]? = some p ∧ RepP G.S w p u := fun c hc => by
          unfold rowsOf at hrow
          split at hrow
          · rename_i ety szq rows' hbk
            cases hrow
            rcases hm.blk b _ hbk with ⟨e0, _⟩ | ⟨g', cur, hg', ⟨fz, k1, _⟩, k2, k3, k4, k5⟩
            · rw [hg] at e0; cases e0
            rw [hg] at hg'
            cases hg'
            obtain ⟨u, hu, hrp⟩ := (k5 i r hr).2 c r[c] (List.getElem?_eq_getElem hc)
            exact ⟨u, by rw [cell_of_row w _ _ _ _ _ k1]; exact hu, _, List.getElem?_eq_getElem hc, hrp⟩
          · rename_i szq rows' hbk
            cases hrow
            rcases hm.blk b _ hbk with ⟨e0, _⟩ | ⟨g', hg', k1, k2⟩
            · rw [hg] at e0; cases e0
            rw [hg] at hg'
            cases hg'
            obtain ⟨_, u, hu, hrp⟩ := (k2 i r hr).2 c r[c] (List.getElem?_eq_getElem hc)
            exact ⟨u, hu, _, List.getElem?_eq_getElem hc, hrp⟩
          · rename_i szq rows' hbk
            have e0 : G.M b = none := hm.blk b _ hbk
            rw [hg] at e0; cases e0
          · cases hrow
        let f : Nat → Value := fun c => (w.cell? ⟨g, i * sz' + off + c, none⟩).getD undef
        refine conv (l := (List.range ty.size).map f) rfl hbb.2 (fa_pv (Fa.of_get (by simp; omega) fun c x y hx hy => ?_)) (by simp) (fun c u hu => ?_) h
        · have hi : c < ty.size := by
            have := (List.getElem?_eq_some_iff.1 hy).1
            simpa using this
          obtain ⟨u, h1, p, h2, h3⟩ := hcell (off + c) (by omega)
          rw [List.getElem?_take_of_lt hi, List.getElem?_drop, h2] at hx
          cases hx
          rw [← Nat.add_assoc] at h1
          simp [hi, f, h1] at hy
          rw [← hy]
          exact h3
        · have hi : c < ty.size := by
            have := (List.getElem?_eq_some_iff.1 hu).1
            simpa using this
          obtain ⟨u', h1, _⟩ := hcell (off + c) (by omega)
          rw [← Nat.add_assoc] at h1
          simp [hi, f, h1] at hu
          rw [h1, hu]
    · exact h.elim
  · rename_i u
    unfold loadR at h
    split at h
    · rename_i g o
      obtain ⟨b, hh, e, cur, hb, hg, ⟨hl, hs⟩, h1, hk⟩ := h
      obtain ⟨fz, hw, _⟩ := hm.blk b _ hb g e cur hg
      have hv : v = .pointer (some ⟨g, o, none⟩) := by
        have h' : RepP G.S w (.sc (.pointer (some ⟨g, o, none⟩))) v := hp
        cases h'
        rfl
      refine conv (l := (cur.drop o).take ty.size) hv hs (fa_lsc h1) (by simp; omega) (fun i u hu => ?_) hk
      have hi : i < ty.size := by
        have := (List.getElem?_eq_some_iff.1 hu).1
        simp at this; omega
      rw [List.getElem?_take_of_lt hi] at hu
      rw [cell_of_row w _ _ _ _ _ hw]
      simpa using hu
    · exact h.elim
  · exact h.elim
end
end Go.Rx

/- Stores, new variables, structs and rows built, and what stays as it is. -/
set_option linter.unusedVariables false
set_option linter.unusedSimpArgs false
namespace Go.Rx
open Go.RowKit

section
variable {P : Program} {T : Tab} {C : Ctx} {G : Gh} {sl : Nat → AV} {bk : List Blk} {a : Act} {w : World}

theorem length_splice {α : Type} {l : List α} {off : Nat} {r : List α} (h : off + r.length ≤ l.length) : (splice l off r).length = l.length := by
  simp [splice]; omega
theorem fa_splice {α β : Type} {R : α → β → Prop} {l : List α} {m : List β} {r : List α} {s : List β} (off : Nat) (h : Fa R l m) (k : Fa R r s) : Fa R (splice l off r) (splice m off s) := by
  unfold splice
  rw [k.length]
  exact (h.take off).append (k.append (h.drop _))

theorem badOk_splice {b : Nat} {ty : TypeId} {l r : List Lf} {off : Nat} (h : BadOk b ty l) (hr : r.all notBad = true) : BadOk b ty (splice l off r) := fun t ht => by
  unfold splice at ht
  rw [List.mem_append, List.mem_append] at ht
  rcases ht with ht | ht | ht
  · exact h t (List.mem_of_mem_take ht)
  · exact badOk_of hr t ht
  · exact h t (List.mem_of_mem_drop ht)
/-! ### What stays as it is from now on -/
def pvK (bk : List Blk) (l : Lf) (K : List Blk → PV → Prop) : Prop :=
  match l with
  | .pv p => K bk p
  | .own b len =>
    (match bk[b]? with
     | some (.arr _ sz rows) => rows.length = len ∧ K (bk.set b (.frz sz rows)) (.sl sz rows)
     | some (.frz sz rows) => rows.length = len ∧ K bk (.sl sz rows)
     | _ => False)
  | .view b n k =>
    (match bk[b]? with
     | some (.arr _ sz rows) => rows.length = n ∧ K (bk.set b (.frz sz rows)) (.sl sz (rows.take k))
     | some (.frz sz rows) => rows.length = n ∧ K bk (.sl sz (rows.take k))
     | _ => False)
  | _ => False
/-- A view of rows that stay: its rows, and no more. -/
theorem view_pv (h : Mem C G bk w) {b sz k : Nat} {rows : List (List PV)} {v : Value} (hb : bk[b]? = some (.frz sz rows)) (hv : RepL G bk w (.view b rows.length k) v) : RepP G.S w (.sl sz (rows.take k)) v := by
  obtain ⟨h1, sz', rows', h2, _, hk, h4⟩ := hv
  have e : rowsOf bk b = some (sz, rows) := by unfold rowsOf; rw [hb]
  rw [e] at h2
  cases h2
  rcases h4 rfl with ⟨g, hg, rfl⟩ | ⟨hg, hl, rfl⟩
  · have own : RepL G bk w (.own b rows.length) (.slice (some ⟨g, 0, none⟩) rows.length (G.cp b)) := ⟨rfl, sz, rows, e, Nat.le_refl _, fun _ => .inl ⟨g, hg, rfl⟩⟩
    have hp := own_pv h hb own
    have hlen : (rows.take k).length = k := by rw [List.length_take]; omega
    by_cases h0 : k = 0
    · subst h0
      exact RepP.emp sz _ _
    generalize hrr : rows = rs at hp
    cases hp with
    | emp _ a cap => subst hrr; simp at hk; omega
    | sl _ g' o cap _ vs hc hu hm hr =>
      subst hrr
      have := RepP.sl (S := G.S) (w := w) sz g 0 (G.cp b) (rows.take k) vs (by omega) (fun r hr' => hu r (List.mem_of_mem_take hr')) (fun j r c p hj hp => by
        have hjk : j < k := by have := (List.getElem?_eq_some_iff.1 hj).1; omega
        rw [List.getElem?_take_of_lt hjk] at hj
        exact hm j r c p hj hp) (fun j r c p hj hp => by
        have hjk : j < k := by have := (List.getElem?_eq_some_iff.1 hj).1; omega
        rw [List.getElem?_take_of_lt hjk] at hj
        exact hr j r c p hj hp)
      rw [hlen] at this
      exact this
  · have : rows = [] := List.eq_nil_of_length_eq_zero hl
    subst this
    rw [List.take_nil]
    exact .nil sz
def pvsK : List Blk → List Lf → (List Blk → List PV → Prop) → Prop
  | bk, [], K => K bk []
  | bk, l :: ls, K => pvK bk l fun bk p => pvsK bk ls fun bk ps => K bk (p :: ps)

theorem pvK_sound (hm : Mem C G bk w) {l : Lf} {v : Value} (hl : RepL G bk w l v) {K : List Blk → PV → Prop} (h : pvK bk l K) :
    ∃ G' bk' p, Trn G bk w G' bk' w ∧ Mem C G' bk' w ∧ RepP G'.S w p v ∧ K bk' p := by
  cases l with
  | pv p => exact ⟨G, bk, p, Trn.refl _ _ _, hm, hl, h⟩
  | own b len =>
    simp only [pvK] at h
    split at h
    · rename_i e sz rows hb
      obtain ⟨rfl, h⟩ := h
      obtain ⟨G', t, hm', _, _, _⟩ := hm.frz b _ (.frz sz rows) hb rfl
      exact ⟨G', _, _, t, hm', own_pv hm' (by rw [List.getElem?_set_self (List.getElem?_eq_some_iff.1 hb).1]) (t.repL hl), h⟩
    · rename_i sz rows hb
      obtain ⟨rfl, h⟩ := h
      exact ⟨G, bk, _, Trn.refl _ _ _, hm, own_pv hm hb hl, h⟩
    · exact h.elim
  | view b n k =>
    simp only [pvK] at h
    split at h
    · rename_i e sz rows hb
      obtain ⟨rfl, h⟩ := h
      obtain ⟨G', t, hm', _, _, _⟩ := hm.frz b _ (.frz sz rows) hb rfl
      exact ⟨G', _, _, t, hm', view_pv hm' (by rw [List.getElem?_set_self (List.getElem?_eq_some_iff.1 hb).1]) (t.repL hl), h⟩
    · rename_i sz rows hb
      obtain ⟨rfl, h⟩ := h
      exact ⟨G, bk, _, Trn.refl _ _ _, hm, view_pv hm hb hl, h⟩
    · exact h.elim
  | _ => exact h.elim
theorem pvsK_sound : ∀ {ls : List Lf} {G : Gh} {bk : List Blk} {vs : List Value} {K : List Blk → List PV → Prop}, Mem C G bk w → Fa (RepL G bk w) ls vs → pvsK bk ls K →
    ∃ G' bk' ps, Trn G bk w G' bk' w ∧ Mem C G' bk' w ∧ Fa (fun p v => RepP G'.S w p v) ps vs ∧ K bk' ps
  | [], G, bk, [], K, hm, _, h => ⟨G, bk, [], Trn.refl _ _ _, hm, trivial, h⟩
  | l :: ls, G, bk, v :: vs, K, hm, hf, h => by
    obtain ⟨G1, b1, p, t1, m1, hp, h1⟩ := pvK_sound hm hf.1 h
    obtain ⟨G2, b2, ps, t2, m2, hps, h2⟩ := pvsK_sound m1 (hf.2.mono fun _ _ => t1.repL) h1
    exact ⟨G2, b2, p :: ps, t1.trans t2, m2, ⟨t2.repP hp, hps⟩, h2⟩
  | [], _, _, _ :: _, _, _, hf, _ => hf.elim
  | _ :: _, _, _, [], _, _, hf, _ => hf.elim

/-! ### Stores -/
/-- What is written in the blocks that stand together. -/
def storeR (ty : Ty) (u : Value) (ls : List Lf) (bk : List Blk) (K : List Blk → Prop) : Prop :=
  match u with
  | .pointer (some ⟨g, o, none⟩) => ∃ (b : Nat) (h : Nat → Option (Nat × List Value)) (e : Nat) (cur vs : List Value), bk[b]? = some (.reg h) ∧ h g = some (e, cur) ∧ (o + ty.size ≤ cur.length ∧ ls.length = ty.size) ∧ ls = vs.map lsc ∧ K (bk.set b (.reg (regSet h g e (splice cur o vs))))
  | _ => False
def storeK (T : Tab) (t : TypeId) (p x : AV) (bk : List Blk) (K : List Blk → Prop) : Prop :=
  match T.find t, leaves x with
  | some ty, some ls =>
    (match p with
     | .lf (.ptr b off) =>
       (match bk[b]? with
        | some (.var cells) => bif Nat.beq ls.length ty.size && (Nat.ble (off + ty.size) cells.length && ls.all notBad) then K (bk.set b (.var (splice cells off ls))) else False
        | _ => False)
     | .lf (.ept b n i sz off) => pvsK bk ls fun bk ps =>
       (match bk[b]? with
        | some (.arr ety sz' rows) => sz' = sz ∧ rows.length = n ∧ ∃ r, rows[i]? = some r ∧ (bif Nat.beq ps.length ty.size then off + ty.size ≤ sz ∧ K (bk.set b (.arr ety sz (rows.set i (splice r off ps)))) else False)
        | _ => False)
     | .lf (.pv (.sc u)) => storeR ty u ls bk K
     | _ => False)
  | _, _ => False

theorem fa_lsc_eq {G : Gh} {bk : List Blk} {w : World} : ∀ {l m : List Value}, Fa (RepL G bk w) (l.map lsc) m → m = l
  | [], [], _ => rfl
  | x :: l, y :: m, h => by
    have h1 : RepP G.S w (.sc x) y := h.1
    cases h1
    rw [fa_lsc_eq h.2]
  | [], _ :: _, h => h.elim
  | _ :: _, [], h => h.elim
theorem run_storeCells_fz (P : Program) (g o : Nat) (t : TypeId) (fz : Nat × Nat) : ∀ (vs : List Value) (i : Nat) (cur : Array Value) (w : World), w.heap[g]? = some (.cells cur t fz) → FzAny cur.size fz → o + i + vs.length ≤ cur.size → (∀ v ∈ vs, v.oneCell' = true) →
    (storeCells ⟨g, o, none⟩ vs i).run P w = .ok () (w.setRow g (cur.toList.take (o + i) ++ vs ++ cur.toList.drop (o + i + vs.length)).toArray)
  | [], i, cur, w, hg, _, _, _ => by
    simp only [storeCells, List.append_nil, List.length_nil, Nat.add_zero, List.take_append_drop, Array.toArray_toList]
    rw [setRow_self w g cur t fz hg]
    rfl
  | v :: rest, i, cur, w, hg, hfz, hl, h1 => by
    have hi : o + i < cur.size := by simp at hl; omega
    have hadd : (⟨g, o, none⟩ : Addr).add i = ⟨g, o + i, none⟩ := by unfold Addr.add; split <;> simp_all
    have hcell : w.cell? ⟨g, o + i, none⟩ = some cur[o + i] := by simp [World.cell?, hg, hi]
    have hfro : w.frozen? ⟨g, o + i, none⟩ = false := by
      obtain ⟨lo, hi'⟩ := fz
      rcases hfz with h | h
      · cases h; simp [World.frozen?, hg]
      · simp only [World.frozen?, hg, Bool.and_eq_false_iff, decide_eq_false_iff_not]
        left
        simp only at h
        omega
    have hst : (store ((⟨g, o, none⟩ : Addr).add i) v).run P w = .ok () (w.setRow g (cur.setIfInBounds (o + i) v)) := by
      rw [hadd, run_store P w _ v _ (h1 v (by simp)), hcell]
      simp [hfro, setCell_eq_setRow w g (o + i) cur t fz v hg]
    have ih := run_storeCells_fz P g o t fz rest (i + 1) (cur.setIfInBounds (o + i) v) (w.setRow g (cur.setIfInBounds (o + i) v)) (setRow_heap w g cur _ t _ hg) (by simpa using hfz) (by simp at hl ⊢; omega) (fun x hx => h1 x (by simp [hx]))
    simp only [storeCells, Sem.run_bind, hst, Result.andThen_ok, ih, setRow_setRow]
    congr 3
    have e := list_seg_step cur.toList (o + i) v rest (by simp at hl ⊢; omega)
    simpa [Array.toList_setIfInBounds, Nat.add_assoc] using e
theorem run_storeVar (hT : TabOK P T) {t : TypeId} {ty : Ty} (ht : T.find t = some ty) {v : Value} (hv : v.cells.size = ty.size) (h1 : ∀ u ∈ v.cells.toList, u.oneCell' = true) {g off : Nat} {e : TypeId} {cur : Array Value}
    {fz : Nat × Nat} (hg : w.heap[g]? = some (.cells cur e fz)) (hfz : FzAny cur.size fz) (hl : off + ty.size ≤ cur.size) :
    (Instr.storeAt t (.pointer (some ⟨g, off, none⟩)) v).run P w = .ok () (w.setRow g (splice cur.toList off v.cells.toList).toArray) := by
  have hs := run_storeCells_fz P g off e fz v.cells.toList 0 cur w hg hfz (by simp [hv]; omega) h1
  simp only [Nat.add_zero] at hs
  unfold Instr.storeAt Instr.sureAddr storeVar
  simp only [Sem.run_bind, Sem.run_pure, Result.andThen_ok, run_sizeOf hT ht, Sem.run_ite, hv, ne_eq, not_true_eq_false, if_false]
  rw [hs]
  unfold splice
  rw [List.append_assoc]

theorem alive_var {b : Nat} {cells : List Lf} (h : bk[b]? = some (.var cells)) : Alive bk b := by unfold Alive; rw [h]; trivial
theorem alive_arr {b : Nat} {e sz : Nat} {rows : List (List PV)} (h : bk[b]? = some (.arr e sz rows)) : Alive bk b := by unfold Alive; rw [h]; trivial

theorem storeK_sound (hT : TabOK P T) (hm : Mem C G bk w) {t : TypeId} {p x : AV} {u v : Value} (hp : RepA G bk w p u) (hx : RepA G bk w x v) {K : List Blk → Prop} (h : storeK T t p x bk K) :
    ∃ G' bk' w', (Instr.storeAt t u v).run P w = .ok () w' ∧ Trn G bk w G' bk' w' ∧ Mem C G' bk' w' ∧ K bk' := by
  unfold storeK at h
  split at h
  · rename_i ty ls ht hls
    obtain ⟨hf, hsz⟩ := leaves_rep hx hls
    split at h
    · rename_i b off
      split at h
      · rename_i cells hb
        obtain ⟨⟨g, hg, rfl⟩, _, hr⟩ := hp
        cases hbb : (Nat.beq ls.length ty.size && (Nat.ble (off + ty.size) cells.length && ls.all notBad)) with
        | false => rw [hbb] at h; exact h.elim
        | true =>
          rw [hbb] at h
          simp only [Bool.and_eq_true] at hbb
          have e1 : ls.length = ty.size := Nat.eq_of_beq_eq_true hbb.1
          have e2 : off + ty.size ≤ cells.length := Nat.le_of_ble_eq_true hbb.2.1
          have e3 := hbb.2.2
          obtain ⟨g', cur, e, hg', h1, h2⟩ := hm.blk b _ hb
          rw [hg] at hg'
          cases hg'
          have hlen := h2.length
          have hrun := run_storeVar hT ht (v := v) (by omega) (fa_one hf) h1.1 (.inl rfl) (off := off) (by simp; omega)
          have hbl := (List.getElem?_eq_some_iff.1 hb).1
          have hnew : (bk.set b (.var (splice cells off ls)))[b]? = some (.var (splice cells off ls)) := List.getElem?_set_self hbl
          obtain ⟨t, hm'⟩ := hm.setb (w' := w.setRow g (splice cur off v.cells.toList).toArray) b (alive_var hb) (.var (splice cells off ls)) (alive_var hnew) (.inl ⟨hr, by unfold rowsOf; rw [hnew]⟩)
            (fun k hk => setRow_other w g k _ fun e => hk (by rw [hg, e])) (by simp) rfl rfl rfl
            (fun t => ⟨g, splice cur off v.cells.toList, e, hg, ⟨by rw [setRow_heap w g _ _ _ _ h1.1], badOk_splice h1.2 e3⟩, (fa_splice off h2 hf).mono fun _ _ => t.repL⟩)
          exact ⟨G, _, _, hrun, t, hm', h⟩
      · exact h.elim
    · rename_i b n i sz off
      obtain ⟨G1, b1, ps, t1, m1, hps, h⟩ := pvsK_sound hm hf h
      split at h
      · rename_i e sz' rows hb
        obtain ⟨rfl, hn, r, hr, h⟩ := h
        obtain ⟨_, rows', k1, _, k2⟩ := (t1.repL (l := .ept b n i sz' off) hp)
        have hrow : rowsOf b1 b = some (sz', rows) := by unfold rowsOf; rw [hb]
        rw [hrow] at k1
        cases k1
        obtain ⟨g, hg, rfl⟩ := k2 hn
        cases hbb : Nat.beq ps.length ty.size with
        | false => rw [hbb] at h; exact h.elim
        | true =>
          rw [hbb] at h
          obtain ⟨hle, h⟩ := h
          have e1 : ps.length = ty.size := Nat.eq_of_beq_eq_true hbb
          rcases m1.blk b _ hb with ⟨e0, _⟩ | ⟨g', cur, hg', ⟨fz, c1, cfz⟩, c2, c3, c4, c5⟩
          · rw [hg] at e0; cases e0
          rw [hg] at hg'
          cases hg'
          have hil : i < rows.length := (List.getElem?_eq_some_iff.1 hr).1
          have hrl : r.length = sz' := (c5 i r hr).1
          have hvl : v.cells.size = ty.size := by have := hps.length; simp at this; omega
          have hroom : i * sz' + sz' ≤ cur.size := by
            rw [c3]
            calc i * sz' + sz' = (i + 1) * sz' := (Nat.succ_mul i sz').symm
              _ ≤ G1.cp b * sz' := Nat.mul_le_mul_right _ (by omega)
          have hrun := run_storeVar hT ht (v := v) hvl (fa_one hf) c1 cfz.any (off := i * sz' + off) (by omega)
          have hsl : (splice cur.toList (i * sz' + off) v.cells.toList).toArray.size = cur.size := by
            simp only [List.size_toArray]; rw [length_splice (by simp; omega)]; simp
          have hbl := (List.getElem?_eq_some_iff.1 hb).1
          have hnew : (b1.set b (.arr e sz' (rows.set i (splice r off ps))))[b]? = some (.arr e sz' (rows.set i (splice r off ps))) := List.getElem?_set_self hbl
          obtain ⟨t, hm'⟩ := m1.setb (w' := w.setRow g (splice cur.toList (i * sz' + off) v.cells.toList).toArray) b (alive_arr hb) (.arr e sz' (rows.set i (splice r off ps))) (alive_arr hnew)
            (.inr ⟨sz', rows, rows.set i (splice r off ps), hrow, by unfold rowsOf; rw [hnew], by simp⟩)
            (fun k hk => setRow_other w g k _ fun e => hk (by rw [hg, e])) (by simp) rfl rfl rfl
            (fun t => .inr ⟨g, _, hg, ⟨fz, setRow_heap w g _ _ _ _ c1, by rw [hsl]; exact cfz⟩, c2, by simp only [List.size_toArray]; rw [length_splice (by simp; omega)]; simpa using c3, by simpa using c4, fun j r' hj => by
              have hspl : ∀ k, k < cur.size → (k < i * sz' + off ∨ i * sz' + off + ps.length ≤ k) → (splice cur.toList (i * sz' + off) v.cells.toList).toArray[k]? = cur[k]? := fun k hk hout => by
                simp only [List.getElem?_toArray, splice, ← Array.getElem?_toList]
                have hvl' : v.cells.toList.length = ps.length := by rw [hps.length]
                rcases hout with hlt | hge
                · rw [List.getElem?_append_left (by simp; omega), List.getElem?_take_of_lt (by omega)]
                · rw [List.getElem?_append_right (by simp; omega), List.getElem?_append_right (by simp; omega), List.getElem?_drop]
                  congr 1
                  simp
                  omega
              by_cases hij : i = j
              · subst hij
                rw [List.getElem?_set_self hil] at hj
                cases hj
                refine ⟨by rw [length_splice (by omega)]; exact hrl, fun c p hp => ?_⟩
                have hcl : c < sz' := by
                  have := (List.getElem?_eq_some_iff.1 hp).1
                  rw [length_splice (by omega)] at this; omega
                by_cases hin : off ≤ c ∧ c < off + ps.length
                · have hpc : ps[c - off]? = some p := by
                    unfold splice at hp
                    rw [List.getElem?_append_right (by simp; omega), List.getElem?_append_left (by simp; omega)] at hp
                    rw [← hp]; congr 1; simp; omega
                  obtain ⟨u, hu, hrp⟩ := hps.get hpc
                  refine ⟨u, ?_, t.repP hrp⟩
                  simp only [List.getElem?_toArray, splice]
                  have hul := (List.getElem?_eq_some_iff.1 hu).1
                  rw [List.getElem?_append_right (by simp; omega), List.getElem?_append_left (by simp at hul ⊢; omega)]
                  rw [← hu]; congr 1; simp; omega
                · have hpc : r[c]? = some p := by
                    unfold splice at hp
                    by_cases hlt : c < off
                    · rw [List.getElem?_append_left (by simp; omega), List.getElem?_take_of_lt hlt] at hp
                      exact hp
                    · rw [List.getElem?_append_right (by simp; omega), List.getElem?_append_right (by simp; omega), List.getElem?_drop] at hp
                      rw [← hp]; congr 1; simp; omega
                  obtain ⟨u, hu, hrp⟩ := (c5 i r hr).2 c p hpc
                  have hcu := (Array.getElem?_eq_some_iff.1 hu).1
                  exact ⟨u, by rw [hspl _ hcu (by omega)]; exact hu, t.repP hrp⟩
              · rw [List.getElem?_set_ne hij] at hj
                refine ⟨(c5 j r' hj).1, fun c p hp => ?_⟩
                obtain ⟨u, hu, hrp⟩ := (c5 j r' hj).2 c p hp
                have hcu := (Array.getElem?_eq_some_iff.1 hu).1
                have hcl : c < sz' := by
                  have h1 := (List.getElem?_eq_some_iff.1 hp).1
                  have h2 := (c5 j r' hj).1
                  omega
                refine ⟨u, ?_, t.repP hrp⟩
                rw [hspl _ hcu ?_]
                · exact hu
                · rcases Nat.lt_or_gt_of_ne hij with h3 | h3
                  · right
                    have : (i + 1) * sz' ≤ j * sz' := Nat.mul_le_mul_right _ h3
                    rw [Nat.succ_mul] at this
                    omega
                  · left
                    have : (j + 1) * sz' ≤ i * sz' := Nat.mul_le_mul_right _ h3
                    rw [Nat.succ_mul] at this
                    omega⟩)
          exact ⟨G1, _, _, hrun, t1.trans t, hm', h⟩
      · exact h.elim
    · rename_i u'
      unfold storeR at h
      split at h
      · rename_i g o
        obtain ⟨b, hh, e, cur, vs, hb, hg, ⟨hl, hn⟩, rfl, hk⟩ := h
        obtain ⟨fz, hw, hfz⟩ := hm.blk b _ hb g e cur hg
        have hu : u = .pointer (some ⟨g, o, none⟩) := by
          have h' : RepP G.S w (.sc (.pointer (some ⟨g, o, none⟩))) u := hp
          cases h'
          rfl
        subst hu
        have hvs := fa_lsc_eq hf
        have hrun := run_storeVar hT ht (v := v) (by omega) (fa_one hf) hw (by simpa using hfz) (off := o) (by simpa using hl)
        have hlen : (splice cur o v.cells.toList).length = cur.length := length_splice (by simp; omega)
        obtain ⟨t, hm'⟩ := hm.setReg (w' := w.setRow g (splice cur o v.cells.toList).toArray) hb hg (cur' := splice cur o v.cells.toList) ⟨fz, setRow_heap w g _ _ _ _ hw, by rw [hlen]; exact hfz⟩
          (fun k hk => setRow_other w g k _ hk) (by simp) rfl rfl rfl
        rw [hvs] at t hm' hrun
        exact ⟨G, _, _, hrun, t, hm', hk⟩
      · exact h.elim
    · exact h.elim
  · exact h.elim

/-! ### New variables -/
theorem mem_newVar (hm : Mem C G bk w) (t : TypeId) {ls : List Lf} {v : Value} (hf : Fa (RepL G bk w) ls v.cells.toList) (hno : ls.all notBad = true) :
    ∃ G' u, (newVar t v).run P w = .ok u (w.alloc (.cells v.cells t)) ∧ Trn G bk w G' (bk ++ [.var ls]) (w.alloc (.cells v.cells t)) ∧ Mem C G' (bk ++ [.var ls]) (w.alloc (.cells v.cells t)) ∧
      RepL G' (bk ++ [.var ls]) (w.alloc (.cells v.cells t)) (.ptr bk.length 0) (.pointer (some u)) := by
  obtain ⟨G', t', hm', hM, _⟩ := hm.alloc (some (.cells v.cells t)) (.var ls) 0 rfl (fun G' _ hM _ tr => ⟨w.heap.size, v.cells.toList, t, hM, ⟨by rw [Array.toArray_toList]; exact heap_alloc_new w _, badOk_of hno⟩, hf.mono fun _ _ => tr.repL⟩)
  refine ⟨G', ⟨w.heap.size, 0, none⟩, by simp [Go.newVar, Go.newRow], t', hm', ⟨_, hM, rfl⟩, by simp, ?_⟩
  unfold rowsOf
  rw [List.getElem?_append_right (Nat.le_refl _)]
  simp

/-! ### Structs -/
def fillL (place : Nat → Option (Nat × Nat)) (cells : List Lf) : List (Nat × Option (List Lf)) → Option (List Lf)
  | [] => some cells
  | (i, some ls) :: rest =>
    match place i with
    | some (off, size) => bif Nat.beq ls.length size && Nat.ble (off + size) cells.length then fillL place (splice cells off ls) rest else none
    | none => none
  | (_, none) :: _ => none
def placeT (T : Tab) (fs : List (Nat × TypeId)) (i : Nat) : Option (Nat × Nat) :=
  match fs[i]? with
  | some (off, t) => (match T.find t with | some ty => some (off, ty.size) | none => none)
  | none => none

theorem splice_cons {α : Type} {l : List α} {off : Nat} {x : α} {r : List α} (h : off + (r.length + 1) ≤ l.length) : splice (l.set off x) (off + 1) r = splice l off (x :: r) := by
  unfold splice
  rw [List.take_set, List.drop_set_of_lt (by omega)]
  have h1 : (l.take (off + 1)).set off x = l.take off ++ [x] := by
    rw [List.take_succ_eq_append_getElem (by omega), List.set_append_right _ _ (by simp; omega)]
    simp [Nat.min_eq_left (show off ≤ l.length by omega)]
  rw [h1]
  simp [Nat.add_comm, Nat.add_left_comm, Nat.add_assoc]
theorem foldl_fill : ∀ (vs : List Value) (k off : Nat) (cs : Array Value), off + k + vs.length ≤ cs.size →
    ((vs.zipIdx k).foldl (fun (cs : Array Value) (x : Value × Nat) => cs.setIfInBounds (off + x.2) x.1) cs).toList = splice cs.toList (off + k) vs
  | [], k, off, cs, _ => by simp [splice]
  | v :: vs, k, off, cs, h => by
    rw [List.zipIdx_cons, List.foldl_cons, foldl_fill vs (k + 1) off _ (by simp at h ⊢; omega)]
    simp only [Array.toList_setIfInBounds]
    rw [← Nat.add_assoc]
    exact splice_cons (by simp at h ⊢; omega)

theorem fill_sound {place : Nat → Option (Nat × Nat)} {place' : Nat → Option (Nat × Nat)} (hpl : ∀ i x, place i = some x → place' i = some x) : ∀ {parts : List (Nat × Option (List Lf))} {vals : List (Nat × Value)} {cells : List Lf} {cs : Array Value} {r : List Lf},
    Fa (RepL G bk w) cells cs.toList → Fa (fun p v => p.1 = v.1 ∧ ∀ ls, p.2 = some ls → Fa (RepL G bk w) ls v.2.cells.toList ∧ v.2.cells.size = ls.length) parts vals → fillL place cells parts = some r →
    ∃ rs, Instr.fill place' cs vals = some rs ∧ Fa (RepL G bk w) r rs.toList
  | [], [], cells, cs, r, hf, _, h => by simp only [fillL, Option.some.injEq] at h; subst h; exact ⟨cs, rfl, hf⟩
  | (i, o) :: parts, (j, v) :: vals, cells, cs, r, hf, hp, h => by
    obtain ⟨⟨h1, h2⟩, hp⟩ := hp
    simp only at h1
    subst h1
    cases o with
    | none => simp [fillL] at h
    | some ls =>
      simp only [fillL] at h
      cases hpi : place i with
      | none => rw [hpi] at h; cases h
      | some x =>
        obtain ⟨off, size⟩ := x
        rw [hpi] at h
        simp only at h
        cases hbb : (Nat.beq ls.length size && Nat.ble (off + size) cells.length) with
        | false => rw [hbb] at h; cases h
        | true =>
          rw [hbb] at h
          simp only [Bool.and_eq_true] at hbb
          have e1 : ls.length = size := Nat.eq_of_beq_eq_true hbb.1
          have e2 : off + size ≤ cells.length := Nat.le_of_ble_eq_true hbb.2
          obtain ⟨hv, hvs⟩ := h2 ls rfl
          replace hvs : v.cells.size = ls.length := hvs
          have hlen := hf.length
          simp at hlen
          have hfold := foldl_fill v.cells.toList 0 off cs (by simp; omega)
          have key : (v.cells.zipIdx.foldl (fun cs (x : Value × Nat) => cs.setIfInBounds (off + x.2) x.1) cs).toList = splice cs.toList off v.cells.toList := by
            rw [← Array.foldl_toList]
            simpa using hfold
          obtain ⟨rs, h3, h4⟩ := fill_sound hpl (cs := v.cells.zipIdx.foldl (fun cs (x : Value × Nat) => cs.setIfInBounds (off + x.2) x.1) cs) (by rw [key]; exact fa_splice off hf hv) hp h
          refine ⟨rs, ?_, h4⟩
          simp only [Instr.fill, hpl i _ hpi]
          rw [if_neg (by simp; omega)]
          exact h3
  | [], _ :: _, _, _, _, _, hp, _ => hp.elim
  | _ :: _, [], _, _, _, _, hp, _ => hp.elim

theorem run_places (hT : TabOK P T) {F : Array Field} {fs : List (Nat × TypeId)} (hF : F.toList.map (fun (f : Field) => (f.offset, f.type)) = fs) (hall : ∀ f ∈ F.toList, ∃ i, P.info? f.type = some i) (w : World) :
    (F.mapM fun (f : Field) => do pure (f.offset, ← sizeOf f.type)).run P w = .ok (F.map fun (f : Field) => (f.offset, P.cellsOf f.type)) w := by
  rw [Array.mapM_eq_mapM_toList, Sem.run_map]
  have key : ∀ l : List Field, (∀ f ∈ l, ∃ i, P.info? f.type = some i) → (l.mapM (m := Sem) fun (f : Field) => do pure (f.offset, ← sizeOf f.type)).run P w = .ok (l.map fun (f : Field) => (f.offset, P.cellsOf f.type)) w := by
    intro l
    induction l with
    | nil => intro _; rfl
    | cons f l ih =>
      intro h
      obtain ⟨i, hi⟩ := h f (by simp)
      rw [List.mapM_cons, Sem.run_bind, Sem.run_bind]
      have h1 : (sizeOf f.type).run P w = .ok (P.cellsOf f.type) w := by simp [sizeOf, typeInfo, hi, Program.cellsOf]
      rw [h1, Result.andThen_ok]
      simp only [Sem.run_pure, Result.andThen_ok, Sem.run_bind, ih fun g hg => h g (by simp [hg])]
      rfl
  rw [key _ hall, Result.andThen_ok]
  congr 1
  apply Array.toList_inj.1
  simp
end
end Go.Rx

/- append to a slice of the call's own. -/
set_option linter.unusedVariables false
set_option linter.unusedSimpArgs false
namespace Go.Rx
open Go.RowKit

section
variable {P : Program} {T : Tab} {C : Ctx} {G : Gh} {sl : Nat → AV} {bk : List Blk} {a : Act} {w : World}

/-- A row of the call's own moves to a new, larger block. -/
theorem Mem.grow (h : Mem C G bk w) (b e sz : Nat) (rows rows' : List (List PV)) (cur : Array Value) (c : Nat) (hb : bk[b]? = some (.arr e sz rows)) (hlt : rows.length < rows'.length)
    (hB : c ≤ maxLen ∧ cur.size = c * sz ∧ rows'.length ≤ c ∧ ∀ j r, rows'[j]? = some r → r.length = sz ∧ ∀ k p, r[k]? = some p → ∃ u, cur[j * sz + k]? = some u ∧ RepP G.S w p u) :
    ∃ G', Trn G bk w G' (bk.set b (.arr e sz rows')) (w.alloc (.cells cur e)) ∧ Mem C G' (bk.set b (.arr e sz rows')) (w.alloc (.cells cur e)) ∧ G'.M b = some w.heap.size ∧ G'.cp b = c := by
  have hbl : b < bk.length := (List.getElem?_eq_some_iff.1 hb).1
  let G' : Gh := { M := fun k => if k = b then some w.heap.size else G.M k, S := G.S, cp := fun k => if k = b then c else G.cp k, H := G.H }
  have hM : ∀ k, k ≠ b → G'.M k = G.M k := fun k hk => if_neg hk
  have hc : ∀ k, k ≠ b → G'.cp k = G.cp k := fun k hk => if_neg hk
  have hM0 : G'.M b = some w.heap.size := if_pos rfl
  have hnew : (bk.set b (.arr e sz rows'))[b]? = some (.arr e sz rows') := List.getElem?_set_self hbl
  have hrb : rowsOf bk b = some (sz, rows) := by unfold rowsOf; rw [hb]
  have t : Trn G bk w G' (bk.set b (.arr e sz rows')) (w.alloc (.cells cur e)) := by
    refine ⟨fun _ _ h => h, fun _ _ h => h, fun g o hs => World.cell?_of_block (a := ⟨g, o, none⟩) (heap_alloc_old w _ _ (h.slt g o hs)), fun k hk e0 => ⟨hp_set e0 rfl, rfl, fun g x hg => heap_alloc_old w _ _ (h.hlt (hp_of (hp_set e0 rfl) (.inl ⟨rfl, rfl⟩)) hg).1⟩, by simp, fun k hk hr => ?_, fun k sz' rows0 hr => ?_⟩
    · have hkb : k ≠ b := fun e => by subst e; rw [hrb] at hr; cases hr
      exact ⟨by rw [rowsOf_set _ hkb]; exact hr, hM k hkb⟩
    · by_cases hkb : k = b
      · subst hkb
        rw [hrb] at hr
        cases hr
        exact ⟨rows', by unfold rowsOf; rw [hnew], by omega, fun e => by omega⟩
      · exact ⟨rows0, by rw [rowsOf_set _ hkb]; exact hr, Nat.le_refl _, fun _ => ⟨hM k hkb, hc k hkb⟩⟩
  have hlen : (bk.set b (.arr e sz rows')).length = bk.length := by simp
  refine ⟨G', t, ⟨fun k B hk => ?_, fun k k' g hk hk' e1 e2 => ?_, fun g o k hs ha e1 => ?_, fun g o hs => ?_, fun k g hk e1 => ?_, fun k g hk e1 => ?_, h.s0, h.snew, h.fnew, fun g e hf => (h.fty g e hf).keep (heap_alloc_old w _ _ (h.flt g e hf)), fun g e' k hf ha e1 => ?_, h.os, h.tape, h.output, ?_, fun g hg hn hx => ?_, h.regsK (fun k hh e0 => hpOf_set e0 rfl) (fun k g hk e1 => ?_) (fun g o hs => .inl hs) (fun g e hf => .inl hf), ?_, h.t0.trans t⟩, hM0, if_pos rfl⟩
  · by_cases hkb : k = b
    · subst hkb
      rw [hnew] at hk
      cases hk
      refine .inr ⟨w.heap.size, cur, hM0, ⟨_, heap_alloc_new w _, .inl rfl⟩, ?_, ?_, ?_, fun j r hj => ⟨(hB.2.2.2 j r hj).1, fun q p hp => ?_⟩⟩
      · show (if k = k then c else G.cp k) ≤ maxLen; rw [if_pos rfl]; exact hB.1
      · show cur.size = (if k = k then c else G.cp k) * sz; rw [if_pos rfl]; exact hB.2.1
      · show rows'.length ≤ (if k = k then c else G.cp k); rw [if_pos rfl]; exact hB.2.2.1
      · obtain ⟨u, hu, hr⟩ := (hB.2.2.2 j r hj).2 q p hp
        exact ⟨u, hu, t.repP hr⟩
    · rw [List.getElem?_set_ne (Ne.symm hkb)] at hk
      have hkl : k < bk.length := (List.getElem?_eq_some_iff.1 hk).1
      exact RepB.step t (hM k hkb) (hc k hkb) (fun g hg => heap_alloc_old w _ _ (h.mlt k g hkl hg)) (fun hh g x e0 hg => heap_alloc_old w _ _ (h.hlt (hp_of hk e0) hg).1) (h.blk k B hk)
  · rw [hlen] at hk hk'
    by_cases h1 : k = b <;> by_cases h2 : k' = b
    · omega
    · rw [h1, hM0] at e1; rw [hM k' h2] at e2; have := h.mlt k' g hk' e2; cases e1; omega
    · rw [h2, hM0] at e2; rw [hM k h1] at e1; have := h.mlt k g hk e1; cases e2; omega
    · rw [hM k h1] at e1; rw [hM k' h2] at e2; exact h.inj k k' g hk hk' e1 e2
  · have hs' := h.slt g o hs
    by_cases h1 : k = b
    · rw [h1, hM0] at e1; cases e1; omega
    · rw [hM k h1] at e1; exact h.sdis g o k hs ((alive_set _ h1).1 ha) e1
  · have := h.slt g o hs; simp; omega
  · rw [hlen] at hk
    by_cases h1 : k = b
    · rw [h1, hM0] at e1; cases e1; simp
    · rw [hM k h1] at e1; have := h.mlt k g hk e1; simp; omega
  · rw [hlen] at hk
    by_cases h1 : k = b
    · rw [h1, hM0] at e1; cases e1; exact .inl h.size
    · rw [hM k h1] at e1; exact h.new k g hk e1
  · have hs' := h.flt g e' hf
    by_cases h1 : k = b
    · rw [h1, hM0] at e1; cases e1; omega
    · rw [hM k h1] at e1; exact h.fdis g e' k hf ((alive_set _ h1).1 ha) e1
  · have := h.size; simp; omega
  · rw [heap_alloc_old w _ _ (by have := h.size; omega)]; exact h.block g hg hn hx
  · rw [hlen] at hk
    by_cases h1 : k = b
    · rw [h1, hM0] at e1; cases e1; exact .inr (Nat.le_refl _)
    · rw [hM k h1] at e1; exact .inl ⟨k, hk, e1⟩
  · have := h.mle; rw [hlen]; exact this

/-- The cells of a slice's rows, as a list. -/
theorem rows_cells {S : Sp} {sz : Nat} {rows : List (List PV)} {v : Value} (h : RepP S w (.sl sz rows) v) :
    (v = .slice none 0 0 ∧ rows = []) ∨ ∃ (ad : Addr) (c : Nat) (news : List Value), v = .slice (some ad) rows.length c ∧ news.length = rows.length * sz ∧ (∀ j u, news[j]? = some u → w.cell? (ad.add j) = some u) ∧ (∀ u ∈ news, u.oneCell' = true) ∧
      ∀ j r, rows[j]? = some r → r.length = sz ∧ ∀ k p, r[k]? = some p → ∃ u, news[j * sz + k]? = some u ∧ RepP S w p u := by
  cases h with
  | nil => exact .inl ⟨rfl, rfl⟩
  | emp _ a cap => exact .inr ⟨a, cap, [], rfl, by simp, by simp, by simp, by simp⟩
  | sl _ g o cap rows vs hc hu hm hr =>
    right
    have pos : ∀ k, k < rows.length * sz → ∃ r p, rows[k / sz]? = some r ∧ r[k % sz]? = some p ∧ k / sz * sz + k % sz = k := fun k hk => by
      have hsz : 0 < sz := by
        rcases Nat.eq_zero_or_pos sz with e | e
        · subst e; simp at hk
        · exact e
      have h1 : k / sz < rows.length := (Nat.div_lt_iff_lt_mul hsz).2 hk
      have h2 : k % sz < sz := Nat.mod_lt _ hsz
      have h3 := hu rows[k / sz] (List.getElem_mem h1)
      exact ⟨_, _, List.getElem?_eq_getElem h1, List.getElem?_eq_getElem (by omega), by rw [Nat.mul_comm]; exact Nat.div_add_mod k sz⟩
    have cell : ∀ k, k < rows.length * sz → w.cell? ⟨g, o + k, none⟩ = some (vs (k / sz) (k % sz)) ∧ (vs (k / sz) (k % sz)).oneCell' = true := fun k hk => by
      obtain ⟨r, p, h1, h2, h3⟩ := pos k hk
      have := (hm _ r _ p h1 h2).2
      rw [h3] at this
      exact ⟨this, (hr _ r _ p h1 h2).one⟩
    refine ⟨⟨g, o, none⟩, cap, (List.range (rows.length * sz)).map fun k => vs (k / sz) (k % sz), rfl, by simp, fun j u hj => ?_, fun u hu' => ?_, fun j r hj => ⟨hu r (List.mem_of_getElem? hj), fun k p hp => ?_⟩⟩
    · have hjl : j < rows.length * sz := by have := (List.getElem?_eq_some_iff.1 hj).1; simpa using this
      rw [Addr.add_lit, (cell j hjl).1]
      simpa [hjl] using hj
    · obtain ⟨k, hk, rfl⟩ := List.mem_map.1 hu'
      exact (cell k (by simpa using hk)).2
    · have hjl := (List.getElem?_eq_some_iff.1 hj).1
      have hkl : k < sz := by have := (List.getElem?_eq_some_iff.1 hp).1; have := hu r (List.mem_of_getElem? hj); omega
      have hlt : j * sz + k < rows.length * sz := by
        have : (j + 1) * sz ≤ rows.length * sz := Nat.mul_le_mul_right _ hjl
        rw [Nat.succ_mul] at this
        omega
      have e1 : (j * sz + k) / sz = j := by rw [Nat.mul_comm, Nat.mul_add_div (by omega)]; simp [Nat.div_eq_of_lt hkl]
      have e2 : (j * sz + k) % sz = k := by rw [Nat.mul_comm, Nat.mul_add_mod, Nat.mod_eq_of_lt hkl]
      exact ⟨vs j k, by simp [hlt, e1, e2], hr j r k p hj hp⟩

theorem rows_append {S : Sp} {sz : Nat} {rows rows2 : List (List PV)} {xs news : List Value} (hx : xs.length = rows.length * sz)
    (h1 : ∀ j r, rows[j]? = some r → r.length = sz ∧ ∀ k p, r[k]? = some p → ∃ u, xs[j * sz + k]? = some u ∧ RepP S w p u)
    (h2 : ∀ j r, rows2[j]? = some r → r.length = sz ∧ ∀ k p, r[k]? = some p → ∃ u, news[j * sz + k]? = some u ∧ RepP S w p u) :
    ∀ j r, (rows ++ rows2)[j]? = some r → r.length = sz ∧ ∀ k p, r[k]? = some p → ∃ u, (xs ++ news)[j * sz + k]? = some u ∧ RepP S w p u := by
  intro j r hj
  rcases Nat.lt_or_ge j rows.length with hl | hl
  · rw [List.getElem?_append_left hl] at hj
    refine ⟨(h1 j r hj).1, fun k p hp => ?_⟩
    obtain ⟨u, hu, hr⟩ := (h1 j r hj).2 k p hp
    exact ⟨u, by rw [List.getElem?_append_left (List.getElem?_eq_some_iff.1 hu).1]; exact hu, hr⟩
  · rw [List.getElem?_append_right hl] at hj
    refine ⟨(h2 _ r hj).1, fun k p hp => ?_⟩
    obtain ⟨u, hu, hr⟩ := (h2 _ r hj).2 k p hp
    refine ⟨u, ?_, hr⟩
    have e : j * sz + k = xs.length + ((j - rows.length) * sz + k) := by
      rw [hx, Nat.sub_mul]
      have : rows.length * sz ≤ j * sz := Nat.mul_le_mul_right _ hl
      omega
    rw [e, List.getElem?_append_right (by omega), Nat.add_sub_cancel_left]
    exact hu

theorem run_append_room_fz {P : Program} (w : World) (t ty e : TypeId) (i : TypeInfo) (ht : P.underlying t = some (.slice e)) (hi : P.info? e = some i)
    (g sLen sCap : Nat) (cur : Array Value) (fz : Nat × Nat) (hg : w.heap[g]? = some (.cells cur e fz)) (hfz : FzOk cur.size fz)
    (a : Addr) (m c : Nat) (news : List Value) (hl : news.length = m * i.size) (hnews : ∀ j u, news[j]? = some u → w.cell? (a.add j) = some u) (h1 : ∀ u ∈ news, u.oneCell' = true)
    (hroom : sLen + m ≤ sCap) (hfit : sLen * i.size + news.length ≤ cur.size) :
    (Builtin.append_ #[t, t] ty #[.slice (some ⟨g, 0, none⟩) sLen sCap, .slice (some a) m c]).run P w =
      .ok (.slice (some ⟨g, 0, none⟩) (sLen + m) sCap) (w.setRow g (cur.toList.take (sLen * i.size) ++ news ++ cur.toList.drop (sLen * i.size + news.length)).toArray) := by
  have hf := run_firstCells_some (P := P) w i.size m a m c news hl hnews
  have hst := run_storeCells_fz P g (sLen * i.size) e fz news 0 cur w hg hfz.any (by simpa using hfit) h1
  simp only [Nat.add_zero] at hst
  simp [Builtin.append_, run_underlying ht, sizeOf, typeInfo, hi, Builtin.lenOf, hroom, hf, Addr.add_lit, hst]
theorem run_append_room_string_fz {P : Program} (w : World) (t u ty e : TypeId) (i : TypeInfo) (ht : P.underlying t = some (.slice e)) (hu : P.underlying u = some .string) (hi : P.info? e = some i) (hs1 : i.size = 1)
    (g sLen sCap : Nat) (cur : Array Value) (fz : Nat × Nat) (hg : w.heap[g]? = some (.cells cur e fz)) (hfz : FzOk cur.size fz) (s : ByteArray)
    (hroom : sLen + s.size ≤ sCap) (hfit : sLen + s.size ≤ cur.size) :
    (Builtin.append_ #[t, u] ty #[.slice (some ⟨g, 0, none⟩) sLen sCap, .string s]).run P w =
      .ok (.slice (some ⟨g, 0, none⟩) (sLen + s.size) sCap) (w.setRow g (cur.toList.take sLen ++ Lib.strCells s ++ cur.toList.drop (sLen + s.size)).toArray) := by
  have hf := Lib.run_firstCells_string (P := P) w 1 s
  have hst := run_storeCells_fz P g sLen e fz (Lib.strCells s) 0 cur w hg hfz.any (by simpa [Lib.strCells_length] using hfit) (Lib.strCells_oneCell s)
  simp only [Nat.add_zero, Lib.strCells_length] at hst
  simp [Builtin.append_, run_underlying ht, run_underlying hu, sizeOf, typeInfo, hi, hs1, Builtin.lenOf, hroom, hf, Addr.add_lit, hst]
/-- What is to be known of the rows that are appended. -/
structure AppRun (P : Program) (w : World) (ts : Array TypeId) (ty e : TypeId) (size : Nat) (z y : Value) (n m : Nat) (news : List Value) : Prop where
  room : ∀ (g cap : Nat) (cur : Array Value) (fz : Nat × Nat), w.heap[g]? = some (.cells cur e fz) → FzOk cur.size fz → n + m ≤ cap → n * size + news.length ≤ cur.size →
    (Builtin.append_ ts ty #[.slice (some ⟨g, 0, none⟩) n cap, y]).run P w = .ok (.slice (some ⟨g, 0, none⟩) (n + m) cap) (w.setRow g (cur.toList.take (n * size) ++ news ++ cur.toList.drop (n * size + news.length)).toArray)
  grow : ∀ (g cap : Nat) (olds : List Value), olds.length = n * size → (∀ j u, olds[j]? = some u → w.cell? ((⟨g, 0, none⟩ : Addr).add j) = some u) → n ≤ cap → cap < n + m →
    (Builtin.append_ ts ty #[.slice (some ⟨g, 0, none⟩) n cap, y]).run P w = .ok (.slice (some ⟨w.heap.size, 0, none⟩) (n + m) (grownCap w (n + m) cap e)) (w.drew.alloc (.cells (olds.toArray ++ news.toArray ++ Builtin.zeroCells z.cells (grownCap w (n + m) cap e - (n + m))) e))
  nil : n = 0 → 0 < m → (Builtin.append_ ts ty #[.slice none 0 0, y]).run P w = .ok (.slice (some ⟨w.heap.size, 0, none⟩) m (grownCap w m 0 e)) (w.drew.alloc (.cells (news.toArray ++ Builtin.zeroCells z.cells (grownCap w m 0 e - m)) e))
  none : n = 0 → m = 0 → (Builtin.append_ ts ty #[.slice none 0 0, y]).run P w = .ok (.slice none 0 0) w
/-- What an append to a slice of the call's own gives: the same slice, with more rows. -/
theorem append_core (hT : TabOK P T) (hm : Mem C G bk w) {t ty e : TypeId} {tt te : Ty} (ht : T.find t = some tt) (htd : tt.d = .slice e) (hte : T.find e = some te) (hpos : 0 < te.size) (hposb : 0 < te.bytes)
    {ts : Array TypeId} {i : TypeInfo} {z : Value} (hi : P.info? e = some i) (hisz : i.size = te.size) (hiby : i.bytes = te.bytes) (hiz : i.zero = some z) (hzl : z.cells.toList = te.zero)
    {b : Nat} {rows rows2 : List (List PV)} {u v : Value} {news : List Value} (hb : bk[b]? = some (.arr e te.size rows)) (hu : RepL G bk w (.own b rows.length) u) (hrun : AppRun P w ts ty e te.size z v rows.length rows2.length news) (hnl : news.length = rows2.length * te.size)
    (hnrep : ∀ j r, rows2[j]? = some r → r.length = te.size ∧ ∀ k p, r[k]? = some p → ∃ u, news[j * te.size + k]? = some u ∧ RepP G.S w p u)
    (hbound : (rows.length + rows2.length) * te.bytes ≤ 140737488355328) :
    ∃ G' w' x, (Builtin.append_ ts ty #[u, v]).run P w = .ok x w' ∧ Trn G bk w G' (bk.set b (.arr e te.size (rows ++ rows2))) w' ∧ Mem C G' (bk.set b (.arr e te.size (rows ++ rows2))) w' ∧
      RepL G' (bk.set b (.arr e te.size (rows ++ rows2))) w' (.own b (rows.length + rows2.length)) x := by
  have hsl := (hT t tt ht).slice e htd
  have hzs : z.cells.size = te.size := by have := (hT e te hte).zs; rw [← hzl] at this; simpa using this
  have hbl := (List.getElem?_eq_some_iff.1 hb).1
  have hrow : rowsOf bk b = some (te.size, rows) := by unfold rowsOf; rw [hb]
  have hnewb : (bk.set b (.arr e te.size (rows ++ rows2)))[b]? = some (.arr e te.size (rows ++ rows2)) := List.getElem?_set_self hbl
  have hnrow : rowsOf (bk.set b (.arr e te.size (rows ++ rows2))) b = some (te.size, rows ++ rows2) := by unfold rowsOf; rw [hnewb]
  have hsmall : rows.length + rows2.length ≤ 140737488355328 := Nat.le_trans (Nat.le_mul_of_pos_right _ hposb) hbound
  obtain ⟨hone, szq, rowsq, hq, hle, hrep⟩ := hu
  rw [hrow] at hq
  cases hq
  have hrep := hrep rfl
  -- nothing is appended
  have none_case : rows2 = [] → (Builtin.append_ ts ty #[u, v]).run P w = .ok u w → ∃ G' w' x, (Builtin.append_ ts ty #[u, v]).run P w = .ok x w' ∧ Trn G bk w G' (bk.set b (.arr e te.size (rows ++ rows2))) w' ∧ Mem C G' (bk.set b (.arr e te.size (rows ++ rows2))) w' ∧
      RepL G' (bk.set b (.arr e te.size (rows ++ rows2))) w' (.own b (rows.length + rows2.length)) x := by
    rintro rfl hr
    have e0 : bk.set b (.arr e te.size (rows ++ [])) = bk := by
      rw [List.append_nil]
      apply List.ext_getElem?
      intro k
      by_cases hk : k = b
      · subst hk; rw [List.getElem?_set_self hbl, hb]
      · rw [List.getElem?_set_ne (Ne.symm hk)]
    rw [e0]
    exact ⟨G, w, u, hr, Trn.refl _ _ _, hm, ⟨hone, te.size, rows, hrow, by simp, fun _ => by simpa using hrep⟩⟩
  have hgrowcap : ∀ old, rows.length + rows2.length ≤ grownCap w (rows.length + rows2.length) old e := fun old => grownCap_ge w _ old e
  have hcapm : ∀ old, grownCap w (rows.length + rows2.length) old e ≤ maxLen := fun old => grownCap_le_maxLen w _ old e (by simp only [maxLen]; omega)
  rcases hrep with ⟨g, hg, rfl⟩ | ⟨hg, h0, rfl⟩
  · rcases hm.blk b _ hb with ⟨hq, _⟩ | ⟨g', cur, hg', ⟨fz, h1, hfz⟩, h2, h3, h4, h5⟩
    · rw [hg] at hq; cases hq
    rw [hg] at hg'
    cases hg'
    have hxl : (cur.toList.take (rows.length * te.size)).length = rows.length * te.size := by
      have : rows.length * te.size ≤ cur.size := by rw [h3]; exact Nat.mul_le_mul_right _ h4
      simp; omega
    have hxrep : ∀ j r, rows[j]? = some r → r.length = te.size ∧ ∀ k p, r[k]? = some p → ∃ u, (cur.toList.take (rows.length * te.size))[j * te.size + k]? = some u ∧ RepP G.S w p u := fun j r hj => ⟨(h5 j r hj).1, fun k p hp => by
      obtain ⟨u, hu, hr⟩ := (h5 j r hj).2 k p hp
      have hjl := (List.getElem?_eq_some_iff.1 hj).1
      have hkl : k < te.size := by have := (List.getElem?_eq_some_iff.1 hp).1; have := (h5 j r hj).1; omega
      have hlt : j * te.size + k < rows.length * te.size := by
        have : (j + 1) * te.size ≤ rows.length * te.size := Nat.mul_le_mul_right _ hjl
        rw [Nat.succ_mul] at this
        omega
      exact ⟨u, by rw [List.getElem?_take_of_lt hlt]; simpa using hu, hr⟩⟩
    by_cases hroom : rows.length + rows2.length ≤ G.cp b
    · -- in place
      have hfit : rows.length * te.size + news.length ≤ cur.size := by rw [hnl, h3, ← Nat.add_mul]; exact Nat.mul_le_mul_right _ hroom
      have hr := hrun.room g (G.cp b) cur fz h1 hfz hroom hfit
      have hszn : (cur.toList.take (rows.length * te.size) ++ news ++ cur.toList.drop (rows.length * te.size + news.length)).toArray.size = cur.size := by
        simp only [List.size_toArray, List.length_append, hxl, List.length_drop, Array.length_toList]; omega
      have hrows := rows_append (S := G.S) (w := w) hxl hxrep hnrep
      have hgenB : ∀ (W : World), (∀ p u, RepP G.S w p u → RepP G.S W p u) → ∀ j r, (rows ++ rows2)[j]? = some r → r.length = te.size ∧ ∀ k p, r[k]? = some p → ∃ u, (cur.toList.take (rows.length * te.size) ++ news ++ cur.toList.drop (rows.length * te.size + news.length)).toArray[j * te.size + k]? = some u ∧ RepP G.S W p u := fun W hW j r hj => ⟨(hrows j r hj).1, fun k p hp => by
        obtain ⟨u, hu, hrp⟩ := (hrows j r hj).2 k p hp
        exact ⟨u, by rw [List.getElem?_toArray, List.getElem?_append_left (List.getElem?_eq_some_iff.1 hu).1]; exact hu, hW _ _ hrp⟩⟩
      by_cases hz : rows2.length = 0
      · have hz' : rows2 = [] := List.eq_nil_of_length_eq_zero hz
        have hnz : news = [] := List.eq_nil_of_length_eq_zero (by rw [hnl, hz]; simp)
        refine none_case hz' ?_
        rw [hr, hz, hnz]
        congr 1
        simp only [List.append_nil, List.length_nil, Nat.add_zero, List.take_append_drop, Array.toArray_toList]
        exact setRow_self w g cur e fz h1
      · -- longer
        let w' := w.setRow g (cur.toList.take (rows.length * te.size) ++ news ++ cur.toList.drop (rows.length * te.size + news.length)).toArray
        have hoth : ∀ k, G.M b ≠ some k → w'.heap[k]? = w.heap[k]? := fun k hk => setRow_other w g k _ fun e => hk (by rw [hg, e])
        have halive := alive_arr hb
        have hreg : ∀ k hh g1 x, hpOf G bk k = some hh → hh g1 = some x → w'.heap[g1]? = w.heap[g1]? := fun k hh g1 x e0 hg1 => hoth g1 ((hm.regs.dis k hh g1 x e0 hg1).1 b hbl)
        have t0 : Trn G bk w G (bk.set b (.arr e te.size (rows ++ rows2))) w' := by
          refine ⟨fun _ _ h => h, fun _ _ h => h, fun g1 o hs => World.cell?_of_block (a := ⟨g1, o, none⟩) (hoth g1 (hm.sdis g1 o b hs halive)), fun k hk e0 => ⟨hp_set e0 rfl, rfl, fun g1 x hg1 => hreg k _ g1 x (hp_of (hp_set e0 rfl) (.inl ⟨rfl, rfl⟩)) hg1⟩, by simp, fun k hk hrn => ?_, fun k sz' rows0 hrn => ?_⟩
          · have hkb : k ≠ b := fun e => by subst e; rw [hrow] at hrn; cases hrn
            exact ⟨by rw [rowsOf_set _ hkb]; exact hrn, rfl⟩
          · by_cases hkb : k = b
            · subst hkb
              rw [hrow] at hrn
              cases hrn
              exact ⟨_, hnrow, by simp, fun _ => ⟨rfl, rfl⟩⟩
            · exact ⟨rows0, by rw [rowsOf_set _ hkb]; exact hrn, Nat.le_refl _, fun _ => ⟨rfl, rfl⟩⟩
        have hm' : Mem C G (bk.set b (.arr e te.size (rows ++ rows2))) w' := by
          refine ⟨fun k B hk => ?_, fun k k' q hk hk' => hm.inj k k' q (by simpa using hk) (by simpa using hk'), fun q o k hs ha => ?_, fun q o hs => by have := hm.slt q o hs; simpa [w'] using this, fun k q hk hq => by have := hm.mlt k q (by simpa using hk) hq; simpa [w'] using this, fun k q hk => hm.new k q (by simpa using hk), hm.s0, hm.snew, hm.fnew, fun g1 e1 hf => (hm.fty g1 e1 hf).keep (hoth g1 (hm.fdis g1 e1 b hf halive)), fun g1 e1 k hf ha => ?_,
            hm.os, hm.tape, hm.output, by have := hm.size; simpa [w'] using this, fun q hq hn hx => ?_, hm.regsK (fun k hh e0 => hpOf_set e0 rfl) (fun k g1 hk e1 => .inl ⟨k, by simpa using hk, e1⟩) (fun g1 o hs => .inl hs) (fun g1 e hf => .inl hf), by have := hm.mle; simpa using this, hm.t0.trans t0⟩
          · by_cases hkb : k = b
            · subst hkb
              rw [hnewb] at hk
              cases hk
              exact .inr ⟨g, _, hg, ⟨fz, setRow_heap w g _ _ _ _ h1, by rw [hszn]; exact hfz⟩, h2, by simp only [List.size_toArray, List.length_append, hxl, List.length_drop, Array.length_toList]; omega, by simpa using hroom, hgenB w' fun p u h => t0.repP h⟩
            · rw [List.getElem?_set_ne (Ne.symm hkb)] at hk
              have hkl : k < bk.length := (List.getElem?_eq_some_iff.1 hk).1
              exact RepB.step t0 rfl rfl (fun q hq => hoth q fun e' => hkb (hm.inj k b q hkl hbl hq e')) (fun hh g1 x e0 hg1 => hreg k hh g1 x (hp_of hk e0) hg1) (hm.blk k B hk)
          · by_cases hkb : k = b
            · subst hkb; exact hm.sdis q o k hs halive
            · exact hm.sdis q o k hs ((alive_set _ hkb).1 ha)
          · by_cases hkb : k = b
            · subst hkb; exact hm.fdis g1 e1 k hf halive
            · exact hm.fdis g1 e1 k hf ((alive_set _ hkb).1 ha)
          · rw [hoth q ?_]
            · exact hm.block q hq hn hx
            · intro e1
              rcases hm.new b q hbl e1 with k1 | ⟨b', k1, k2⟩
              · omega
              · exact hn b' k1 k2
        exact ⟨G, w', _, hr, t0, hm', ⟨rfl, te.size, rows ++ rows2, hnrow, by simp, fun _ => .inl ⟨g, hg, rfl⟩⟩⟩
    · have hlt : G.cp b < rows.length + rows2.length := by omega
      have hpos2 : rows.length < (rows ++ rows2).length := by simp; omega
      have hr := hrun.grow g (G.cp b) (cur.toList.take (rows.length * te.size)) hxl
        (fun j u hj => by
          have hjl := (List.getElem?_eq_some_iff.1 hj).1
          rw [hxl] at hjl
          rw [List.getElem?_take_of_lt hjl] at hj
          rw [Addr.add_lit, Nat.zero_add, cell_of_row w _ _ _ _ _ h1]; simpa using hj) h4 hlt
      have hd := hm.drew
      have hrows := rows_append (S := G.S) (w := w) hxl hxrep hnrep
      obtain ⟨G', t1, m1, hM1, hc1⟩ := hd.2.grow b e te.size rows (rows ++ rows2) (((cur.toList.take (rows.length * te.size)).toArray ++ news.toArray) ++ Builtin.zeroCells z.cells (grownCap w (rows.length + rows2.length) (G.cp b) e - (rows.length + rows2.length)))
        (grownCap w (rows.length + rows2.length) (G.cp b) e) hb hpos2 ⟨hcapm _, by
          simp only [Array.size_append, List.size_toArray, size_zeroCells, hzs, hxl, hnl, ← Nat.add_mul]
          have := hgrowcap (G.cp b)
          congr 1; omega, by simpa using hgrowcap (G.cp b), fun j r hj => ⟨(hrows j r hj).1, fun k p hp => by
            obtain ⟨u, hu, hrp⟩ := (hrows j r hj).2 k p hp
            have hul := (List.getElem?_eq_some_iff.1 hu).1
            refine ⟨u, ?_, hd.1.repP hrp⟩
            rw [Array.getElem?_append_left (by simpa using hul), List.append_toArray, List.getElem?_toArray]
            exact hu⟩⟩
      exact ⟨G', _, _, hr, hd.1.trans t1, m1, ⟨rfl, te.size, rows ++ rows2, hnrow, by simp, fun _ => .inl ⟨_, hM1, by rw [hc1] <;> rfl⟩⟩⟩
  · have hrows0 : rows = [] := List.eq_nil_of_length_eq_zero h0
    subst hrows0
    by_cases hz : rows2.length = 0
    · have hz' : rows2 = [] := List.eq_nil_of_length_eq_zero hz
      exact none_case hz' (hrun.none rfl hz)
    · have hr := hrun.nil rfl (by omega)
      have hd := hm.drew
      simp only [List.length_nil, Nat.zero_add] at hgrowcap hcapm
      obtain ⟨G', t1, m1, hM1, hc1⟩ := hd.2.grow b e te.size [] rows2 (news.toArray ++ Builtin.zeroCells z.cells (grownCap w rows2.length 0 e - rows2.length)) (grownCap w rows2.length 0 e) hb (by simp; omega)
        ⟨hcapm 0, by
          simp only [Array.size_append, List.size_toArray, size_zeroCells, hzs, hnl, ← Nat.add_mul]
          have := hgrowcap 0
          congr 1; omega, hgrowcap 0, fun j r hj => ⟨(hnrep j r hj).1, fun k p hp => by
            obtain ⟨u, hu, hrp⟩ := (hnrep j r hj).2 k p hp
            have hul := (List.getElem?_eq_some_iff.1 hu).1
            refine ⟨u, ?_, hd.1.repP hrp⟩
            rw [Array.getElem?_append_left (by simpa using hul), List.getElem?_toArray]
            exact hu⟩⟩
      simp only [List.nil_append, List.length_nil, Nat.zero_add] at hnrow ⊢
      exact ⟨G', _, _, hr, hd.1.trans t1, m1, ⟨rfl, te.size, rows2, hnrow, Nat.le_refl _, fun _ => .inl ⟨_, hM1, by rw [hc1] <;> rfl⟩⟩⟩

theorem append_sound (hT : TabOK P T) (hm : Mem C G bk w) {t ty e : TypeId} {tt te : Ty} (ht : T.find t = some tt) (htd : tt.d = .slice e) (hte : T.find e = some te) (hpos : 0 < te.size) (hposb : 0 < te.bytes)
    {b : Nat} {rows rows2 : List (List PV)} {u v : Value} (hb : bk[b]? = some (.arr e te.size rows)) (hu : RepL G bk w (.own b rows.length) u) (hv : RepP G.S w (.sl te.size rows2) v)
    (hbound : (rows.length + rows2.length) * te.bytes ≤ 140737488355328) :
    ∃ G' w' x, (Builtin.append_ #[t, t] ty #[u, v]).run P w = .ok x w' ∧ Trn G bk w G' (bk.set b (.arr e te.size (rows ++ rows2))) w' ∧ Mem C G' (bk.set b (.arr e te.size (rows ++ rows2))) w' ∧
      RepL G' (bk.set b (.arr e te.size (rows ++ rows2))) w' (.own b (rows.length + rows2.length)) x := by
  have hsl := (hT t tt ht).slice e htd
  obtain ⟨i, z, hi, hisz, hiby, hiz, hzl, _⟩ := (hT e te hte).info
  have hsmall : rows.length + rows2.length ≤ 140737488355328 := Nat.le_trans (Nat.le_mul_of_pos_right _ hposb) hbound
  rcases rows_cells hv with ⟨rfl, rfl⟩ | ⟨a2, c2, news, rfl, hnl, hncell, hnone, hnrep⟩
  · refine append_core hT hm ht htd hte hpos hposb hi hisz hiby hiz hzl hb hu (rows2 := []) (news := []) ⟨fun g cap cur fz h1 hfz h2 h3 => ?_, fun g cap olds h1 h2 h3 h4 => ?_, fun h1 h2 => ?_, fun h1 h2 => ?_⟩ (by simp) (by simp) hbound
    · simp only [List.length_nil, Nat.add_zero, List.append_nil, List.take_append_drop, Array.toArray_toList] at h2 ⊢
      rw [setRow_self w g cur e fz h1]
      simp [Builtin.append_, run_underlying hsl, sizeOf, typeInfo, hi, Builtin.lenOf, h2, Builtin.firstCells, storeCells]
    · simp at h4; omega
    · simp at h2
    · simp [Builtin.append_, run_underlying hsl, sizeOf, typeInfo, hi, Builtin.lenOf, Builtin.firstCells]
  · refine append_core hT hm ht htd hte hpos hposb hi hisz hiby hiz hzl hb hu (rows2 := rows2) (news := news) ⟨fun g cap cur fz h1 hfz h2 h3 => ?_, fun g cap olds h1 h2 h3 h4 => ?_, fun h1 h2 => ?_, fun h1 h2 => ?_⟩ hnl hnrep hbound
    · have hr := run_append_room_fz (P := P) w t ty e i hsl hi g rows.length cap cur fz h1 hfz a2 rows2.length c2 news (by rw [hisz]; exact hnl) hncell hnone h2 (by rw [hisz]; exact h3)
      rw [hisz] at hr
      exact hr
    · exact run_append_grow (P := P) w t ty e i z hsl hi hiz ⟨g, 0, none⟩ rows.length cap olds (by rw [hisz]; exact h1) h2 a2 rows2.length c2 news (by rw [hisz]; exact hnl) hncell h4 (by omega) (by rw [hiby]; exact growslice_fits h4 hbound)
    · exact run_append_nil (P := P) w t ty e i z hsl hi hiz a2 rows2.length c2 news (by rw [hisz]; exact hnl) hncell h2 (by omega) (by
        rw [hiby]
        have : rows2.length * te.bytes ≤ (rows.length + rows2.length) * te.bytes := Nat.mul_le_mul_right _ (by omega)
        omega)
    · simp [Builtin.append_, run_underlying hsl, sizeOf, typeInfo, hi, Builtin.lenOf, Builtin.firstCells, h2, loadCells, loadCellsFrom]
def byteRows (s : ByteArray) : List (List PV) := s.data.toList.map fun c => [.sc (.int .u8 c.toNat)]
/-- The same of a text's bytes. -/
theorem append_str_sound (hT : TabOK P T) (hm : Mem C G bk w) {t ut ty e : TypeId} {tt te : Ty} (ht : T.find t = some tt) (htd : tt.d = .slice e) (hte : T.find e = some te) (hut : P.underlying ut = some .string) (hs1 : te.size = 1) (hposb : 0 < te.bytes)
    {b : Nat} {rows : List (List PV)} {u : Value} (s : ByteArray) (hb : bk[b]? = some (.arr e te.size rows)) (hu : RepL G bk w (.own b rows.length) u)
    (hbound : (rows.length + (byteRows s).length) * te.bytes ≤ 140737488355328) :
    ∃ G' w' x, (Builtin.append_ #[t, ut] ty #[u, .string s]).run P w = .ok x w' ∧ Trn G bk w G' (bk.set b (.arr e te.size (rows ++ byteRows s))) w' ∧ Mem C G' (bk.set b (.arr e te.size (rows ++ byteRows s))) w' ∧
      RepL G' (bk.set b (.arr e te.size (rows ++ byteRows s))) w' (.own b (rows.length + (byteRows s).length)) x := by
  have hsl := (hT t tt ht).slice e htd
  obtain ⟨i, z, hi, hisz, hiby, hiz, hzl, _⟩ := (hT e te hte).info
  have hrl : (byteRows s).length = s.size := by simp [byteRows]
  have hsmall : rows.length + (byteRows s).length ≤ 140737488355328 := Nat.le_trans (Nat.le_mul_of_pos_right _ hposb) hbound
  have hi1 : i.size = 1 := hisz.trans hs1
  refine append_core hT hm ht htd hte (by omega) hposb hi hisz hiby hiz hzl hb hu (rows2 := byteRows s) (news := Lib.strCells s) ⟨fun g cap cur fz h1 hfz h2 h3 => ?_, fun g cap olds h1 h2 h3 h4 => ?_, fun h1 h2 => ?_, fun h1 h2 => ?_⟩ (by rw [Lib.strCells_length, hs1, hrl]; omega) (fun j r hj => ?_) hbound
  · rw [hrl] at h2
    rw [hs1, Lib.strCells_length, Nat.mul_one] at h3
    have hr := run_append_room_string_fz (P := P) w t ut ty e i hsl hut hi hi1 g rows.length cap cur fz h1 hfz s h2 h3
    rw [hs1, Nat.mul_one, hrl, Lib.strCells_length]
    exact hr
  · rw [hrl] at h4 ⊢
    rw [hrl] at hbound hsmall
    exact Lib.run_append_grow_string (P := P) w t ut ty e i z hsl hut hi hiz ⟨g, 0, none⟩ rows.length cap olds (by rw [hisz]; exact h1) h2 s h4 (by omega) (by rw [hiby]; exact growslice_fits h4 hbound)
  · rw [hrl] at h2 ⊢
    have e1 : (s.data.map fun b => Value.int .u8 b.toNat) = (Lib.strCells s).toArray := by
      apply Array.ext'
      simp [Lib.strCells]
    have hr := run_append_nil_string (P := P) w t ut ty e i z hsl hut hi hiz s h2 (by omega) (by
      rw [hiby]
      have : s.size * te.bytes ≤ (rows.length + (byteRows s).length) * te.bytes := Nat.mul_le_mul_right _ (by omega)
      omega)
    rw [e1] at hr
    exact hr
  · rw [hrl] at h2
    have hf := Lib.run_firstCells_string (P := P) w 1 s
    have hn : Lib.strCells s = [] := List.eq_nil_of_length_eq_zero (by rw [Lib.strCells_length]; exact h2)
    rw [h2] at hf
    simp [Builtin.append_, run_underlying hsl, run_underlying hut, sizeOf, typeInfo, hi, hi1, Builtin.lenOf, h2, hf]
  · unfold byteRows at hj
    rw [List.getElem?_map, Option.map_eq_some_iff] at hj
    obtain ⟨c, hc, rfl⟩ := hj
    refine ⟨hs1.symm, fun k p hp => ?_⟩
    have hk : k = 0 := by
      have := (List.getElem?_eq_some_iff.1 hp).1
      simp at this; exact this
    subst hk
    simp at hp
    subst hp
    refine ⟨.int .u8 c.toNat, ?_, RepP.sc _ rfl⟩
    rw [hs1, Nat.mul_one, Nat.add_zero]
    unfold Lib.strCells
    rw [List.getElem?_map, hc]; rfl
end
end Go.Rx

/- Blocks that a caller lends: what the callee sees of them, and what the caller has of them again. -/
set_option linter.unusedVariables false
set_option linter.unusedSimpArgs false
namespace Go.Rx
open Go.RowKit

/-- The places of the caller's blocks, as the callee counts them. -/
def renL (idx : List Nat) : Lf → Option Lf
  | .pv p => some (.pv p)
  | .ro l => some (.ro l)
  | .fn f c => some (.fn f c)
  | .ptr b off => (idx.idxOf? b).map fun p => .ptr p off
  | .ept b n i sz off => (idx.idxOf? b).map fun p => .ept p n i sz off
  | .own b len => (idx.idxOf? b).map fun p => .own p len
  | .view b n k => (idx.idxOf? b).map fun p => .view p n k
  | .bad b t => (idx.idxOf? b).map fun p => .bad p t
  | .frs b q => (idx.idxOf? b).map fun p => .frs p q
  | .bnd f b off => (idx.idxOf? b).map fun p => .bnd f p off
def renLs (idx : List Nat) : List Lf → Option (List Lf)
  | [] => some []
  | l :: ls => match renL idx l, renLs idx ls with | some x, some xs => some (x :: xs) | _, _ => none
def renB (idx : List Nat) : Blk → Option Blk
  | .var cells => (renLs idx cells).map .var
  | B => some B
def pickB (idx : List Nat) (bk : List Blk) : List Nat → Option (List Blk)
  | [] => some []
  | b :: l => match (bk[b]?).bind (renB idx), pickB idx bk l with | some x, some xs => some (x :: xs) | _, _ => none
def renA (idx : List Nat) : AV → Option AV
  | .lf l => (renL idx l).map .lf
  | .agg l => (renLs idx l).map .agg
  | _ => none
def renAs (idx : List Nat) : List AV → Option (List AV)
  | [] => some []
  | l :: ls => match renA idx l, renAs idx ls with | some x, some xs => some (x :: xs) | _, _ => none
/-- And back: what the callee has made stands behind the caller's own. -/
def bkI (idx : List Nat) (n : Nat) (p : Nat) : Nat := match idx[p]? with | some b => b | none => n + (p - idx.length)
def bkL (idx : List Nat) (n : Nat) : Lf → Lf
  | .pv p => .pv p
  | .ro l => .ro l
  | .fn f c => .fn f c
  | .ptr b off => .ptr (bkI idx n b) off
  | .ept b m i sz off => .ept (bkI idx n b) m i sz off
  | .own b len => .own (bkI idx n b) len
  | .view b m k => .view (bkI idx n b) m k
  | .bad b t => .bad (bkI idx n b) t
  | .frs b q => .frs (bkI idx n b) q
  | .bnd f b off => .bnd f (bkI idx n b) off
def bkB (idx : List Nat) (n : Nat) : Blk → Blk
  | .var cells => .var (cells.map (bkL idx n))
  | B => B
def bkT (idx : List Nat) (n : Nat) : TC → TC
  | .lf l => .lf (bkL idx n l)
  | .agg l => .agg (l.map (bkL idx n))
def bkA (idx : List Nat) (n : Nat) : AV → AV
  | .lf l => .lf (bkL idx n l)
  | .agg l => .agg (l.map (bkL idx n))
  | .tup l => .tup (l.map (bkT idx n))
  | .un => .un
def setAll : List Blk → List Nat → List Blk → List Blk
  | bk, b :: l, x :: xs => setAll (bk.set b x) l xs
  | bk, _, _ => bk
def bkBs (idx : List Nat) (bk B1 : List Blk) : List Blk := setAll bk idx (B1.map (bkB idx bk.length)) ++ (B1.map (bkB idx bk.length)).drop idx.length

def Gh.pick (G : Gh) (idx : List Nat) : Gh := ⟨fun p => (idx[p]?).bind G.M, G.S, fun p => match idx[p]? with | some b => G.cp b | none => 0, fun p => match idx[p]? with | some b => G.H b | none => fun _ => none⟩

section
variable {P : Program} {T : Tab} {C : Ctx} {G : Gh} {bk : List Blk} {w : World} {idx : List Nat}

theorem pickB_get : ∀ {l : List Nat} {B : List Blk}, pickB idx bk l = some B → B.length = l.length ∧ ∀ (p : Nat) (b : Nat), l[p]? = some b → ∃ X Y, bk[b]? = some X ∧ renB idx X = some Y ∧ B[p]? = some Y
  | [], B, h => by simp [pickB] at h; subst h; exact ⟨rfl, by simp⟩
  | b :: l, B, h => by
    unfold pickB at h
    split at h
    · rename_i x xs hx hxs
      cases h
      obtain ⟨h1, h2⟩ := pickB_get hxs
      refine ⟨by simp [h1], fun p b' hp => ?_⟩
      cases p with
      | zero =>
        simp at hp
        subst hp
        obtain ⟨X, hX, hY⟩ := Option.bind_eq_some_iff.1 hx
        exact ⟨X, x, hX, hY, rfl⟩
      | succ p => exact h2 p b' (by simpa using hp)
    · cases h
theorem idxOf_get {b p : Nat} (h : idx.idxOf? b = some p) : idx[p]? = some b := by
  rw [List.idxOf?, List.findIdx?_eq_some_iff_getElem] at h
  obtain ⟨hl, h1, _⟩ := h
  rw [List.getElem?_eq_getElem hl]
  simpa using h1
theorem renLs_get : ∀ {ls ms : List Lf} {R R' : Lf → Value → Prop}, renLs idx ls = some ms → (∀ l m v, renL idx l = some m → R l v → R' m v) → ∀ {us : List Value}, Fa R ls us → Fa R' ms us
  | [], ms, R, R', h, _, us, hf => by simp [renLs] at h; subst h; cases us <;> exact hf
  | l :: ls, ms, R, R', h, hr, us, hf => by
    unfold renLs at h
    split at h
    · rename_i x xs hx hxs
      cases h
      cases us with
      | nil => exact hf.elim
      | cons u us => exact ⟨hr _ _ _ hx hf.1, renLs_get hxs hr hf.2⟩
    · cases h

theorem renLs_bad {p : Nat} {t : TypeId} : ∀ {ls ms : List Lf}, renLs idx ls = some ms → Lf.bad p t ∈ ms → ∃ b, idx[p]? = some b ∧ Lf.bad b t ∈ ls
  | [], ms, h, hm => by simp [renLs] at h; subst h; cases hm
  | l :: ls, ms, h, hm => by
    unfold renLs at h
    split at h
    · rename_i x xs hx hxs
      cases h
      rcases List.mem_cons.1 hm with e | e
      · subst e
        cases l with
        | bad b t' =>
          simp only [renL, Option.map_eq_some_iff] at hx
          obtain ⟨q, hq, he⟩ := hx
          cases he
          exact ⟨b, idxOf_get hq, by simp⟩
        | pv _ => simp [renL] at hx
        | ro _ => simp [renL] at hx
        | fn _ _ => simp [renL] at hx
        | ptr b off => simp [renL] at hx
        | ept b m i sz off => simp [renL] at hx
        | own b len => simp [renL] at hx
        | view b n k => simp [renL] at hx
        | bnd f b off => simp [renL] at hx
        | frs b q => simp [renL] at hx
      · obtain ⟨b, h1, h2⟩ := renLs_bad hxs e
        exact ⟨b, h1, by simp [h2]⟩
    · cases h
/-- What the callee sees. -/
theorem Mem.pick (h : Mem C G bk w) (hnd : idx.Nodup) {B : List Blk} (hB : pickB idx bk idx = some B) (n : Nat) :
    Mem ⟨w, G.pick idx, B, n⟩ (G.pick idx) B w ∧ ∀ l l' v, renL idx l = some l' → RepL G bk w l v → RepL (G.pick idx) B w l' v := by
  obtain ⟨hlen, hget⟩ := pickB_get hB
  have hM : ∀ p b, idx[p]? = some b → (G.pick idx).M p = G.M b := fun p b hp => by simp [Gh.pick, hp]
  have hcp : ∀ p b, idx[p]? = some b → (G.pick idx).cp p = G.cp b := fun p b hp => by simp [Gh.pick, hp]
  have hHH : ∀ p b, idx[p]? = some b → (G.pick idx).H p = G.H b := fun p b hp => by simp [Gh.pick, hp]
  have hat : ∀ p, p < B.length → ∃ b, idx[p]? = some b ∧ b < bk.length := fun p hp => by
    have hp' : p < idx.length := by rw [hlen] at hp; exact hp
    obtain ⟨X, Y, h1, _, _⟩ := hget p idx[p] (List.getElem?_eq_getElem hp')
    exact ⟨idx[p], List.getElem?_eq_getElem hp', (List.getElem?_eq_some_iff.1 h1).1⟩
  have hrows : ∀ p b, idx[p]? = some b → rowsOf B p = rowsOf bk b := fun p b hp => by
    obtain ⟨X, Y, h1, h2, h3⟩ := hget p b hp
    unfold rowsOf
    rw [h1, h3]
    cases X with
    | var cells => simp [renB] at h2; obtain ⟨c, _, rfl⟩ := h2; rfl
    | _ => simp [renB] at h2; subst h2; rfl
  have hal : ∀ p b, idx[p]? = some b → Alive B p → Alive bk b := fun p b hp ha => by
    obtain ⟨X, Y, h1, h2, h3⟩ := hget p b hp
    unfold Alive at *
    rw [h1]
    rw [h3] at ha
    cases X with
    | var cells => trivial
    | arr => trivial
    | _ => simp [renB] at h2; subst h2; exact ha
  have hhp : ∀ p b X, idx[p]? = some b → B[p]? = some X → hpB X = true → bk[b]? = some X := fun p b X hp hX hh => by
    obtain ⟨X0, Y, h1, h2, h3⟩ := hget p b hp
    rw [hX] at h3
    cases h3
    cases X0 with
    | var cells => simp only [renB, Option.map_eq_some_iff] at h2; obtain ⟨c, _, rfl⟩ := h2; cases hh
    | _ => simp [renB] at h2; subst h2; exact h1
  have hhpo : ∀ p b hh, idx[p]? = some b → hpOf (G.pick idx) B p = some hh → hpOf G bk b = some hh := fun p b hh hp e => by
    unfold hpOf at *
    split at e
    · rename_i hb; cases e; rw [hhp p b _ hp hb rfl, hHH p b hp]
    · rename_i h0 hb; cases e; rw [hhp p b _ hp hb rfl]
    · cases e
  have rep : ∀ l l' v, renL idx l = some l' → RepL G bk w l v → RepL (G.pick idx) B w l' v := fun l l' v hl hr => by
    cases l with
    | pv p => simp [renL] at hl; subst hl; exact hr
    | ro p => simp [renL] at hl; subst hl; exact hr
    | fn f c => simp [renL] at hl; subst hl; exact hr
    | ptr b off =>
      simp only [renL, Option.map_eq_some_iff] at hl
      obtain ⟨p, hp, rfl⟩ := hl
      have hp := idxOf_get hp
      obtain ⟨⟨g, hg, rfl⟩, hb, hr⟩ := hr
      exact ⟨⟨g, by rw [hM p b hp]; exact hg, rfl⟩, by rw [hlen]; exact (List.getElem?_eq_some_iff.1 hp).1, by rw [hrows p b hp]; exact hr⟩
    | ept b m i sz off =>
      simp only [renL, Option.map_eq_some_iff] at hl
      obtain ⟨p, hp, rfl⟩ := hl
      have hp := idxOf_get hp
      obtain ⟨h1, rows, h2, h3, h4⟩ := hr
      exact ⟨h1, rows, by rw [hrows p b hp]; exact h2, h3, fun e => by rw [hM p b hp]; exact h4 e⟩
    | bnd f b off =>
      simp only [renL, Option.map_eq_some_iff] at hl
      obtain ⟨p, hp, rfl⟩ := hl
      have hp := idxOf_get hp
      obtain ⟨⟨g, hg, rfl⟩, hb, hr⟩ := hr
      exact ⟨⟨g, by rw [hM p b hp]; exact hg, rfl⟩, by rw [hlen]; exact (List.getElem?_eq_some_iff.1 hp).1, by rw [hrows p b hp]; exact hr⟩
    | bad b t =>
      simp only [renL, Option.map_eq_some_iff] at hl
      obtain ⟨p, hp, rfl⟩ := hl
      have hp := idxOf_get hp
      obtain ⟨h1, hb, hr⟩ := hr
      exact ⟨by rw [hM p b hp]; exact h1, by rw [hlen]; exact (List.getElem?_eq_some_iff.1 hp).1, by rw [hrows p b hp]; exact hr⟩
    | own b len =>
      simp only [renL, Option.map_eq_some_iff] at hl
      obtain ⟨p, hp, rfl⟩ := hl
      have hp := idxOf_get hp
      obtain ⟨h1, sz, rows, h2, h3, h4⟩ := hr
      exact ⟨h1, sz, rows, by rw [hrows p b hp]; exact h2, h3, fun e => by rw [hM p b hp, hcp p b hp]; exact h4 e⟩
    | frs b q =>
      simp only [renL, Option.map_eq_some_iff] at hl
      obtain ⟨p, hp, rfl⟩ := hl
      have hp := idxOf_get hp
      obtain ⟨h1, h2, h3, h4⟩ := hr
      obtain ⟨X, Y, k1, k2, k3⟩ := hget p b hp
      exact ⟨h1, (List.getElem?_eq_some_iff.1 k3).1, by rw [hrows p b hp]; exact h3, fun e => by rw [hHH p b hp]; exact h4 (hhp p b _ hp e rfl)⟩
    | view b n k =>
      simp only [renL, Option.map_eq_some_iff] at hl
      obtain ⟨p, hp, rfl⟩ := hl
      have hp := idxOf_get hp
      obtain ⟨h1, sz, rows, h2, h3, hk, h4⟩ := hr
      exact ⟨h1, sz, rows, by rw [hrows p b hp]; exact h2, h3, hk, fun e => by rw [hM p b hp, hcp p b hp]; exact h4 e⟩
  refine ⟨⟨fun p Y hY => ?_, fun p p' g hp hp' e e' => ?_, fun g o p hs ha e => ?_, h.slt, fun p g hp e => ?_, fun p g hp e => .inr ⟨p, hp, e⟩, fun _ _ hs => hs, fun _ _ hs => .inl hs, fun _ _ hs => .inl hs, h.fty, fun g e' p hf ha e => ?_, rfl, rfl, rfl, Nat.le_refl _, fun _ _ _ _ => rfl, ?_, Nat.le_refl _, Trn.refl _ _ _⟩, rep⟩
  · obtain ⟨b, hpb, _⟩ := hat p (List.getElem?_eq_some_iff.1 hY).1
    obtain ⟨X, Y', h1, h2, h3⟩ := hget p b hpb
    rw [hY] at h3
    cases h3
    have h0 := h.blk b X h1
    cases X with
    | var cells =>
      simp only [renB, Option.map_eq_some_iff] at h2
      obtain ⟨cs, hcs, rfl⟩ := h2
      obtain ⟨g, cur, ty, k1, k2, k3⟩ := h0
      exact ⟨g, cur, ty, by rw [hM p b hpb]; exact k1, ⟨k2.1, fun t ht => by
        obtain ⟨b0, q1, q2⟩ := renLs_bad hcs ht
        rw [hpb] at q1
        cases q1
        exact k2.2 t q2⟩, renLs_get hcs rep k3⟩
    | arr ety sz rows =>
      simp [renB] at h2
      subst h2
      rcases h0 with ⟨k1, k2⟩ | ⟨g, cur, k1, k2, k3, k4, k5, k6⟩
      · exact .inl ⟨by rw [hM p b hpb]; exact k1, k2⟩
      · exact .inr ⟨g, cur, by rw [hM p b hpb]; exact k1, k2, by rw [hcp p b hpb]; exact k3, by rw [hcp p b hpb]; exact k4, by rw [hcp p b hpb]; exact k5, k6⟩
    | frz sz rows =>
      simp [renB] at h2
      subst h2
      rcases h0 with ⟨k1, k2⟩ | ⟨g, k1, k2, k3⟩
      · exact .inl ⟨by rw [hM p b hpb]; exact k1, k2⟩
      · exact .inr ⟨g, by rw [hM p b hpb]; exact k1, by rw [hcp p b hpb]; exact k2, k3⟩
    | frv cells =>
      simp [renB] at h2
      subst h2
      obtain ⟨g, k1, k2⟩ := h0
      exact ⟨g, by rw [hM p b hpb]; exact k1, k2⟩
    | dead => simp [renB] at h2; subst h2; trivial
    | lost sz rows => simp [renB] at h2; subst h2; exact (hM p b hpb).trans h0
    | hp =>
      simp [renB] at h2
      subst h2
      intro g e cur hg
      rw [hHH p b hpb] at hg
      exact h0 g e cur hg
    | reg hh => simp [renB] at h2; subst h2; exact h0
  · obtain ⟨b, hpb, hb⟩ := hat p hp
    obtain ⟨b', hpb', hb'⟩ := hat p' hp'
    rw [hM p b hpb] at e
    rw [hM p' b' hpb'] at e'
    have := h.inj b b' g hb hb' e e'
    subst this
    obtain ⟨hl1, e1⟩ := List.getElem?_eq_some_iff.1 hpb
    obtain ⟨hl2, e2⟩ := List.getElem?_eq_some_iff.1 hpb'
    exact (List.getElem_inj hnd).1 (e1.trans e2.symm)
  · obtain ⟨b, hpb, hb⟩ := hat p (alive_lt ha)
    rw [hM p b hpb] at e
    exact h.sdis g o b hs (hal p b hpb ha) e
  · obtain ⟨b, hpb, hb⟩ := hat p hp
    rw [hM p b hpb] at e
    exact h.mlt b g hb e
  · obtain ⟨b, hpb, hb⟩ := hat p (alive_lt ha)
    rw [hM p b hpb] at e
    exact h.fdis g e' b hf (hal p b hpb ha) e
  · refine ⟨fun p hh g x e hg => .inr ⟨p, hh, x, e, hg⟩, fun p hh g x e hg => ?_, fun p p2 hh h2 g x x2 e e2 hg hg2 => ?_⟩
    · obtain ⟨b, hpb, _⟩ := hat p (hpOf_lt e)
      obtain ⟨d1, d2, d3⟩ := h.regs.dis b hh g x (hhpo p b hh hpb e) hg
      refine ⟨fun p' hp' em => ?_, d2, d3⟩
      obtain ⟨b', hpb', hb'⟩ := hat p' hp'
      rw [hM p' b' hpb'] at em
      exact d1 b' hb' em
    · obtain ⟨b, hpb, _⟩ := hat p (hpOf_lt e)
      obtain ⟨b2, hpb2, _⟩ := hat p2 (hpOf_lt e2)
      have := h.regs.inj b b2 hh h2 g x x2 (hhpo p b hh hpb e) (hhpo p2 b2 h2 hpb2 e2) hg hg2
      subst this
      obtain ⟨hl1, q1⟩ := List.getElem?_eq_some_iff.1 hpb
      obtain ⟨hl2, q2⟩ := List.getElem?_eq_some_iff.1 hpb2
      exact (List.getElem_inj hnd).1 (q1.trans q2.symm)
end
end Go.Rx

/- Lent blocks, given back. -/
set_option linter.unusedVariables false
set_option linter.unusedSimpArgs false
namespace Go.Rx
open Go.RowKit
section
variable {P : Program} {T : Tab} {C : Ctx} {G : Gh} {bk : List Blk} {w : World} {idx : List Nat}

theorem setAll_len : ∀ (bk : List Blk) (l : List Nat) (xs : List Blk), (setAll bk l xs).length = bk.length
  | bk, [], xs => by cases xs <;> rfl
  | bk, b :: l, [] => rfl
  | bk, b :: l, x :: xs => by rw [setAll, setAll_len]; simp
theorem setAll_not : ∀ (l : List Nat) (bk : List Blk) (xs : List Blk) {b : Nat}, b ∉ l → (setAll bk l xs)[b]? = bk[b]?
  | [], bk, xs, b, _ => by cases xs <;> rfl
  | c :: l, bk, [], b, _ => rfl
  | c :: l, bk, x :: xs, b, h => by
    rw [setAll, setAll_not l _ xs (fun e => h (by simp [e]))]
    exact List.getElem?_set_ne (fun e => h (by simp [e]))
theorem setAll_at : ∀ (l : List Nat) (bk : List Blk) (xs : List Blk) {p b : Nat}, l.Nodup → (∀ c ∈ l, c < bk.length) → l.length ≤ xs.length → l[p]? = some b → (setAll bk l xs)[b]? = xs[p]?
  | [], bk, xs, p, b, _, _, _, h => by simp at h
  | c :: l, bk, [], p, b, _, _, hl, h => by simp at hl
  | c :: l, bk, x :: xs, 0, b, hnd, hlt, hl, h => by
    simp at h
    subst h
    rw [setAll, setAll_not l _ xs (List.nodup_cons.1 hnd).1]
    rw [List.getElem?_set_self (hlt _ (by simp))]
    rfl
  | c :: l, bk, x :: xs, p + 1, b, hnd, hlt, hl, h => by
    rw [setAll, setAll_at l _ xs (List.nodup_cons.1 hnd).2 (fun d hd => by simpa using hlt d (by simp [hd])) (by simpa using hl) (by simpa using h)]
    rfl
theorem idxOf_nodup {p b : Nat} (hnd : idx.Nodup) (h : idx[p]? = some b) : idx.idxOf? b = some p := by
  obtain ⟨hl, he⟩ := List.getElem?_eq_some_iff.1 h
  rw [List.idxOf?, List.findIdx?_eq_some_iff_getElem]
  refine ⟨hl, by simp [he], fun j hj => ?_⟩
  simp only [beq_iff_eq]
  intro e
  have := (List.getElem_inj hnd).1 (e.trans he.symm)
  omega
theorem idxOf_none {b : Nat} (h : b ∉ idx) : idx.idxOf? b = none := by
  rw [List.idxOf?, List.findIdx?_eq_none_iff]
  intro c hc
  simp only [beq_eq_false_iff_ne]
  rintro rfl
  exact h hc
theorem fa_map2 {α : Type} {R R' : α → Value → Prop} {f : α → α} (hf : ∀ l u, R l u → R' (f l) u) : ∀ {ls : List α} {us : List Value}, Fa R ls us → Fa R' (ls.map f) us
  | [], [], _ => trivial
  | _ :: _, _ :: _, h => ⟨hf _ _ h.1, fa_map2 hf h.2⟩
  | [], _ :: _, h => h.elim
  | _ :: _, [], h => h.elim

/-- The callee's number of a block, if it has one. -/
def invI (idx : List Nat) (n b : Nat) : Option Nat := match idx.idxOf? b with | some p => some p | none => if b < n then none else some (idx.length + (b - n))
/-- What the callee has left is the caller's again. -/
theorem Mem.back (h : Mem C G bk w) (hnd : idx.Nodup) {B B1 : List Blk} (hB : pickB idx bk idx = some B) {w' : World} {G1 : Gh} {n : Nat} (k : Mem ⟨w, G.pick idx, B, n⟩ G1 B1 w') :
    ∃ G', Trn G bk w G' (bkBs idx bk B1) w' ∧ Mem C G' (bkBs idx bk B1) w' ∧ ∀ x u, RepA G1 B1 w' x u → RepA G' (bkBs idx bk B1) w' (bkA idx bk.length x) u := by
  obtain ⟨hlen, hget⟩ := pickB_get hB
  have hm : idx.length ≤ B1.length := by have := k.mle; rw [← hlen]; exact this
  have hlt : ∀ c ∈ idx, c < bk.length := fun c hc => by
    obtain ⟨p, hp⟩ := List.getElem?_of_mem hc
    obtain ⟨X, _, h1, _⟩ := hget p c hp
    exact (List.getElem?_eq_some_iff.1 h1).1
  have hmem : ∀ p b, idx[p]? = some b → b ∈ idx := fun p b hp => List.mem_of_getElem? hp
  have hpl : ∀ p b, idx[p]? = some b → p < idx.length := fun p b hp => (List.getElem?_eq_some_iff.1 hp).1
  have hM0 : ∀ p b, idx[p]? = some b → (G.pick idx).M p = G.M b := fun p b hp => by simp [Gh.pick, hp]
  have hcp0 : ∀ p b, idx[p]? = some b → (G.pick idx).cp p = G.cp b := fun p b hp => by simp [Gh.pick, hp]
  have hrow0 : ∀ p b, idx[p]? = some b → rowsOf B p = rowsOf bk b := fun p b hp => by
    obtain ⟨X, Y, h1, h2, h3⟩ := hget p b hp
    unfold rowsOf
    rw [h1, h3]
    cases X with
    | var cells => simp [renB] at h2; obtain ⟨c, _, rfl⟩ := h2; rfl
    | _ => simp [renB] at h2; subst h2; rfl
  let G' : Gh := { M := fun b => match invI idx bk.length b with | some p => G1.M p | none => G.M b, S := G1.S, cp := fun b => match invI idx bk.length b with | some p => G1.cp p | none => G.cp b, H := fun b => match invI idx bk.length b with | some p => G1.H p | none => G.H b }
  -- where a block comes from
  have split : ∀ b, b < (bkBs idx bk B1).length → (b < bk.length ∧ b ∉ idx ∧ invI idx bk.length b = none) ∨ ∃ p, p < B1.length ∧ b = bkI idx bk.length p := fun b hb => by
    have hb' : b < bk.length + (B1.length - idx.length) := by
      unfold bkBs at hb
      rw [List.length_append, setAll_len, List.length_drop, List.length_map] at hb
      exact hb
    by_cases hi : b ∈ idx
    · obtain ⟨p, hp⟩ := List.getElem?_of_mem hi
      exact .inr ⟨p, by have := hpl p b hp; omega, by unfold bkI; rw [hp]⟩
    · rcases Nat.lt_or_ge b bk.length with hl | hl
      · exact .inl ⟨hl, hi, by unfold invI; rw [idxOf_none hi]; simp [hl]⟩
      · refine .inr ⟨idx.length + (b - bk.length), by omega, ?_⟩
        unfold bkI
        rw [List.getElem?_eq_none (by omega)]
        simp only
        omega
  have inv : ∀ p, p < B1.length → invI idx bk.length (bkI idx bk.length p) = some p := fun p hp => by
    unfold bkI invI
    cases hi : idx[p]? with
    | some b => simp only; rw [idxOf_nodup hnd hi]
    | none =>
      have hge : idx.length ≤ p := by rw [List.getElem?_eq_none_iff] at hi; exact hi
      simp only
      rw [idxOf_none (fun e => by have := hlt _ e; omega)]
      simp only
      rw [if_neg (by omega)]
      congr 1
      omega
  have hMn : ∀ p, p < B1.length → G'.M (bkI idx bk.length p) = G1.M p := fun p hp => by show (match invI idx bk.length (bkI idx bk.length p) with | some p => G1.M p | none => _) = _; rw [inv p hp]
  have hcn : ∀ p, p < B1.length → G'.cp (bkI idx bk.length p) = G1.cp p := fun p hp => by show (match invI idx bk.length (bkI idx bk.length p) with | some p => G1.cp p | none => _) = _; rw [inv p hp]
  have hMo : ∀ b, invI idx bk.length b = none → G'.M b = G.M b := fun b hb => by show (match invI idx bk.length b with | some p => G1.M p | none => G.M b) = _; rw [hb]
  have hco : ∀ b, invI idx bk.length b = none → G'.cp b = G.cp b := fun b hb => by show (match invI idx bk.length b with | some p => G1.cp p | none => G.cp b) = _; rw [hb]
  have hgn : ∀ p, p < B1.length → (bkBs idx bk B1)[bkI idx bk.length p]? = (B1[p]?).map (bkB idx bk.length) := fun p hp => by
    unfold bkBs bkI
    cases hi : idx[p]? with
    | some b =>
      simp only
      rw [List.getElem?_append_left (by rw [setAll_len]; exact hlt b (hmem p b hi)), setAll_at idx bk _ hnd hlt (by rw [List.length_map]; exact hm) hi, List.getElem?_map]
    | none =>
      have hge : idx.length ≤ p := by rw [List.getElem?_eq_none_iff] at hi; exact hi
      simp only
      rw [List.getElem?_append_right (by rw [setAll_len]; omega), setAll_len, List.getElem?_drop, List.getElem?_map]
      congr 2
      omega
  have hgo : ∀ b, b < bk.length → b ∉ idx → (bkBs idx bk B1)[b]? = bk[b]? := fun b hb hi => by
    unfold bkBs
    rw [List.getElem?_append_left (by rw [setAll_len]; exact hb), setAll_not idx bk _ hi]
  have hlenB : bk.length ≤ (bkBs idx bk B1).length := by unfold bkBs; rw [List.length_append, setAll_len]; omega
  have hltB : ∀ p, p < B1.length → bkI idx bk.length p < (bkBs idx bk B1).length := fun p hp => by
    have := hgn p hp
    rw [List.getElem?_eq_getElem hp] at this
    exact (List.getElem?_eq_some_iff.1 this).1
  have hrn : ∀ p, p < B1.length → rowsOf (bkBs idx bk B1) (bkI idx bk.length p) = rowsOf B1 p := fun p hp => by
    unfold rowsOf
    rw [hgn p hp]
    cases B1[p]? with
    | none => rfl
    | some X => cases X <;> rfl
  have hro : ∀ b, b < bk.length → b ∉ idx → rowsOf (bkBs idx bk B1) b = rowsOf bk b := fun b hb hi => by unfold rowsOf; rw [hgo b hb hi]
  have hhp0 : ∀ p b X, idx[p]? = some b → B[p]? = some X → hpB X = true → bk[b]? = some X := fun p b X hp hX hh => by
    obtain ⟨X0, Y, h1, h2, h3⟩ := hget p b hp
    rw [hX] at h3
    cases h3
    cases X0 with
    | var cells => simp only [renB, Option.map_eq_some_iff] at h2; obtain ⟨c, _, rfl⟩ := h2; cases hh
    | _ => simp [renB] at h2; subst h2; exact h1
  have hH0 : ∀ p b, idx[p]? = some b → (G.pick idx).H p = G.H b := fun p b hp => by simp [Gh.pick, hp]
  have hHn : ∀ p, p < B1.length → G'.H (bkI idx bk.length p) = G1.H p := fun p hp => by show (match invI idx bk.length (bkI idx bk.length p) with | some p => G1.H p | none => _) = _; rw [inv p hp]
  have hHo : ∀ b, invI idx bk.length b = none → G'.H b = G.H b := fun b hb => by show (match invI idx bk.length b with | some p => G1.H p | none => G.H b) = _; rw [hb]
  have hhpB : ∀ p b hh, idx[p]? = some b → hpOf (G.pick idx) B p = some hh → hpOf G bk b = some hh := fun p b hh hp e => by
    unfold hpOf at *
    split at e
    · rename_i hb; cases e; rw [hhp0 p b _ hp hb rfl, hH0 p b hp]
    · rename_i h0 hb; cases e; rw [hhp0 p b _ hp hb rfl]
    · cases e
  have hhn : ∀ p, p < B1.length → hpOf G' (bkBs idx bk B1) (bkI idx bk.length p) = hpOf G1 B1 p := fun p hp => by
    unfold hpOf
    rw [hgn p hp, hHn p hp]
    cases B1[p]? with
    | none => rfl
    | some X => cases X <;> rfl
  have hho : ∀ b, b < bk.length → b ∉ idx → hpOf G' (bkBs idx bk B1) b = hpOf G bk b := fun b hb hi => by unfold hpOf; rw [hgo b hb hi, hHo b (by unfold invI; rw [idxOf_none hi]; simp [hb])]
  have hxB : ∀ g, regX (G.pick idx) B g → ∃ c hh x, c ∈ idx ∧ hpOf G bk c = some hh ∧ hh g = some x := fun g ⟨p, hh, x, e, hg⟩ => by
    have hp := hpOf_lt e
    obtain ⟨c, hc⟩ : ∃ c, idx[p]? = some c := ⟨idx[p]'(by rw [← hlen]; exact hp), List.getElem?_eq_getElem _⟩
    exact ⟨c, hh, x, hmem p c hc, hhpB p c hh hc e, hg⟩
  have hnx : ∀ b hh g x, b ∉ idx → hpOf G bk b = some hh → hh g = some x → ¬ regX (G.pick idx) B g := fun b hh g x hi e hg hx => by
    obtain ⟨c, h2, x2, hc, e2, hg2⟩ := hxB g hx
    exact hi (h.regs.inj b c hh h2 g x x2 e e2 hg hg2 ▸ hc)
  have hMx : ∀ b g, b < bk.length → G.M b = some g → ¬ regX (G.pick idx) B g := fun b g hb em hx => by
    obtain ⟨c, h2, x2, hc, e2, hg2⟩ := hxB g hx
    exact (h.regs.dis c h2 g x2 e2 hg2).1 b hb em
  have hS : ∀ g o, G1.S g o → G.S g o ∨ w.heap.size ≤ g ∨ ∃ p b, idx[p]? = some b ∧ G.M b = some g := fun g o hs => by
    rcases k.snew g o hs with h1 | h1 | ⟨p, h1, h2⟩
    · exact .inl h1
    · exact .inr (.inl h1)
    · obtain ⟨b, hb⟩ : ∃ b, idx[p]? = some b := ⟨idx[p]'(by rw [← hlen]; exact h1), List.getElem?_eq_getElem _⟩
      exact .inr (.inr ⟨p, b, hb, by rw [← hM0 p b hb]; exact h2⟩)
  have hSf : ∀ g e, G1.S.f g = some e → G.S.f g = some e ∨ w.heap.size ≤ g ∨ ∃ p b, idx[p]? = some b ∧ G.M b = some g := fun g e hs => by
    rcases k.fnew g e hs with h1 | h1 | ⟨p, h1, h2⟩
    · exact .inl h1
    · exact .inr (.inl h1)
    · obtain ⟨b, hb⟩ : ∃ b, idx[p]? = some b := ⟨idx[p]'(by rw [← hlen]; exact h1), List.getElem?_eq_getElem _⟩
      exact .inr (.inr ⟨p, b, hb, by rw [← hM0 p b hb]; exact h2⟩)
  have hnew : ∀ p g, p < B1.length → G1.M p = some g → w.heap.size ≤ g ∨ ∃ q b, idx[q]? = some b ∧ G.M b = some g := fun p g hp hg => by
    rcases k.new p g hp hg with h1 | ⟨q, h1, h2⟩
    · exact .inl h1
    · obtain ⟨b, hb⟩ : ∃ b, idx[q]? = some b := ⟨idx[q]'(by rw [← hlen]; exact h1), List.getElem?_eq_getElem _⟩
      exact .inr ⟨q, b, hb, by rw [← hM0 q b hb]; exact h2⟩
  have hold : ∀ g, g < w.heap.size → (∀ b ∈ idx, G.M b ≠ some g) → ¬ regX (G.pick idx) B g → w'.heap[g]? = w.heap[g]? := fun g hg hn hx => k.block g hg (fun p hp e => by
    obtain ⟨b, hb⟩ : ∃ b, idx[p]? = some b := ⟨idx[p]'(by rw [← hlen]; exact hp), List.getElem?_eq_getElem _⟩
    exact hn b (hmem p b hb) (by rw [← hM0 p b hb]; exact e)) hx
  have hreg0 : ∀ b hh g x, b ∉ idx → hpOf G bk b = some hh → hh g = some x → w'.heap[g]? = w.heap[g]? := fun b hh g x hi e hg =>
    hold g (h.hlt e hg).1 (fun c hc => (h.regs.dis b hh g x e hg).1 c (hlt c hc)) (hnx b hh g x hi e hg)
  have t : Trn G bk w G' (bkBs idx bk B1) w' := by
    refine ⟨k.t0.S, k.t0.F, k.t0.cell, fun b hb e => ?_, hlenB, fun b hb hr => ?_, fun b sz rows hr => ?_⟩
    · by_cases hi : b ∈ idx
      · obtain ⟨p, hp⟩ := List.getElem?_of_mem hi
        have hp1 : p < B1.length := by have := hpl p b hp; omega
        have hbi : bkI idx bk.length p = b := by unfold bkI; rw [hp]
        have e1 := hgn p hp1
        rw [hbi, e] at e1
        have e2 : B1[p]? = some .hp := by
          cases hq : B1[p]? with
          | none => rw [hq] at e1; cases e1
          | some X => rw [hq] at e1; cases X <;> first | rfl | (simp [bkB] at e1)
        obtain ⟨q1, q3, q2⟩ := k.t0.hp p (by rw [hlen]; exact hpl p b hp) e2
        exact ⟨hhp0 p b _ hp q1 rfl, by have := hHn p hp1; rw [hbi] at this; rw [this, q3]; exact hH0 p b hp, fun g x hg => q2 g x (by show (G.pick idx).H p g = some x; rw [hH0 p b hp]; exact hg)⟩
      · rw [hgo b hb hi] at e
        exact ⟨e, hHo b (by unfold invI; rw [idxOf_none hi]; simp [hb]), fun g x hg => hreg0 b _ g x hi (hp_of e (.inl ⟨rfl, rfl⟩)) hg⟩
    · by_cases hi : b ∈ idx
      · obtain ⟨p, hp⟩ := List.getElem?_of_mem hi
        have hpB : p < B.length := by rw [hlen]; exact hpl p b hp
        have hp1 : p < B1.length := by have := hpl p b hp; omega
        have hbi : bkI idx bk.length p = b := by unfold bkI; rw [hp]
        obtain ⟨h1, h2⟩ := k.t0.var p hpB (by rw [hrow0 p b hp]; exact hr)
        refine ⟨by rw [← hbi, hrn p hp1]; exact h1, ?_⟩
        have e1 := hMn p hp1
        rw [hbi] at e1
        rw [e1, h2]
        exact hM0 p b hp
      · exact ⟨by rw [hro b hb hi]; exact hr, hMo b (by unfold invI; rw [idxOf_none hi]; simp [hb])⟩
    · have hb := rowsOf_lt hr
      by_cases hi : b ∈ idx
      · obtain ⟨p, hp⟩ := List.getElem?_of_mem hi
        have hp1 : p < B1.length := by have := hpl p b hp; omega
        have hbi : bkI idx bk.length p = b := by unfold bkI; rw [hp]
        obtain ⟨rows', h1, h2, h3⟩ := k.t0.row p sz rows (by rw [hrow0 p b hp]; exact hr)
        refine ⟨rows', by rw [← hbi, hrn p hp1]; exact h1, h2, fun e => ?_⟩
        obtain ⟨h4, h5⟩ := h3 e
        have e1 := hMn p hp1
        have e2 := hcn p hp1
        rw [hbi] at e1 e2
        exact ⟨by rw [e1, h4]; exact hM0 p b hp, by rw [e2, h5]; exact hcp0 p b hp⟩
      · have hin : invI idx bk.length b = none := by unfold invI; rw [idxOf_none hi]; simp [hb]
        exact ⟨rows, by rw [hro b hb hi]; exact hr, Nat.le_refl _, fun _ => ⟨hMo b hin, hco b hin⟩⟩
  have repLn : ∀ l u, RepL G1 B1 w' l u → RepL G' (bkBs idx bk B1) w' (bkL idx bk.length l) u := fun l u hl => by
    cases l with
    | pv p => exact hl
    | ro p => exact hl
    | fn f c => exact hl
    | ptr b off =>
      obtain ⟨⟨g, hg, rfl⟩, hb, hr⟩ := hl
      exact ⟨⟨g, by rw [hMn b hb]; exact hg, rfl⟩, hltB b hb, by rw [hrn b hb]; exact hr⟩
    | ept b m i sz off =>
      obtain ⟨h1, rows, h2, h3, h4⟩ := hl
      have hb := rowsOf_lt h2
      exact ⟨h1, rows, by rw [hrn b hb]; exact h2, h3, fun e => by rw [hMn b hb]; exact h4 e⟩
    | bnd f b off =>
      obtain ⟨⟨g, hg, rfl⟩, hb, hr⟩ := hl
      exact ⟨⟨g, by rw [hMn b hb]; exact hg, rfl⟩, hltB b hb, by rw [hrn b hb]; exact hr⟩
    | bad b t =>
      obtain ⟨h1, hb, hr⟩ := hl
      exact ⟨by rw [hMn b hb]; exact h1, hltB b hb, by rw [hrn b hb]; exact hr⟩
    | frs b q =>
      obtain ⟨h1, hb, hr, h4⟩ := hl
      refine ⟨h1, hltB b hb, by rw [hrn b hb]; exact hr, fun e => ?_⟩
      rw [hHn b hb]
      refine h4 ?_
      rw [hgn b hb] at e
      cases hq : B1[b]? with
      | none => rw [hq] at e; cases e
      | some X => rw [hq] at e; cases X <;> first | rfl | (simp [bkB] at e)
    | own b len =>
      obtain ⟨h1, sz, rows, h2, h3, h4⟩ := hl
      have hb := rowsOf_lt h2
      exact ⟨h1, sz, rows, by rw [hrn b hb]; exact h2, h3, fun e => by rw [hMn b hb, hcn b hb]; exact h4 e⟩
    | view b n k =>
      obtain ⟨h1, sz, rows, h2, h3, hk, h4⟩ := hl
      have hb := rowsOf_lt h2
      exact ⟨h1, sz, rows, by rw [hrn b hb]; exact h2, h3, hk, fun e => by rw [hMn b hb, hcn b hb]; exact h4 e⟩
  refine ⟨G', t, ⟨fun b X hX => ?_, fun b b' g hb hb' e e' => ?_, fun g o b hs ha e => ?_, k.slt, fun b g hb e => ?_, fun b g hb e => ?_, fun g o hs => k.t0.S g o (h.s0 g o hs), fun g o hs => ?_, fun g e hf => ?_, k.fty, fun g e' b hf ha e => ?_, k.os.trans h.os, k.tape.trans h.tape, k.output.trans h.output, Nat.le_trans h.size k.size,
    fun g hg hn' hx' => ?_, ?_, Nat.le_trans h.mle hlenB, h.t0.trans t⟩, fun x u hx => ?_⟩
  · rcases split b (List.getElem?_eq_some_iff.1 hX).1 with ⟨hl, hi, hin⟩ | ⟨p, hp, rfl⟩
    · rw [hgo b hl hi] at hX
      exact RepB.step t (hMo b hin) (hco b hin) (fun g hg => hold g (h.mlt b g hl hg) (fun c hc e => hi (by rw [h.inj b c g hl (hlt c hc) hg e]; exact hc)) (hMx b g hl hg)) (fun hh g x e hg => hreg0 b hh g x hi (hp_of hX e) hg) (h.blk b X hX) (hHo b hin)
    · rw [hgn p hp, Option.map_eq_some_iff] at hX
      obtain ⟨Y, hY, rfl⟩ := hX
      have hk := k.blk p Y hY
      cases Y with
      | var cells =>
        obtain ⟨g, cur, ty, h1, h2, h3⟩ := hk
        refine ⟨g, cur, ty, by rw [hMn p hp]; exact h1, ⟨h2.1, fun t ht => ?_⟩, fa_map2 repLn h3⟩
        obtain ⟨l, hl, e⟩ := List.mem_map.1 ht
        cases l with
        | bad q t' =>
          simp only [bkL, Lf.bad.injEq] at e
          obtain ⟨e, rfl⟩ := e
          obtain ⟨i, hi⟩ := List.getElem?_of_mem hl
          obtain ⟨_, _, _, hq, _⟩ := h3.get hi
          have : q = p := by have a1 := inv q hq; rw [e, inv p hp] at a1; exact (Option.some.inj a1).symm
          subst this
          exact h2.2 t' hl
        | _ => simp [bkL] at e
      | arr e sz rows =>
        rcases hk with ⟨h1, h2⟩ | ⟨g, cur, h0, h1, h2, h3, h4, h5⟩
        · exact .inl ⟨by rw [hMn p hp]; exact h1, h2⟩
        · exact .inr ⟨g, cur, by rw [hMn p hp]; exact h0, h1, by rw [hcn p hp]; exact h2, by rw [hcn p hp]; exact h3, by rw [hcn p hp]; exact h4, h5⟩
      | frz sz rows =>
        rcases hk with ⟨h1, h2⟩ | ⟨g, h1, h2, h3⟩
        · exact .inl ⟨by rw [hMn p hp]; exact h1, h2⟩
        · exact .inr ⟨g, by rw [hMn p hp]; exact h1, by rw [hcn p hp]; exact h2, h3⟩
      | frv cells => obtain ⟨g, h1, h2⟩ := hk; exact ⟨g, by rw [hMn p hp]; exact h1, h2⟩
      | dead => trivial
      | lost sz rows => exact (hMn p hp).trans hk
      | hp => intro g e cur hg; rw [hHn p hp] at hg; exact hk g e cur hg
      | reg hh => exact hk
  · rcases split b hb with ⟨hl, hi, hin⟩ | ⟨p, hp, rfl⟩ <;> rcases split b' hb' with ⟨hl', hi', hin'⟩ | ⟨p', hp', rfl⟩
    · rw [hMo b hin] at e; rw [hMo b' hin'] at e'; exact h.inj b b' g hl hl' e e'
    · rw [hMo b hin] at e; rw [hMn p' hp'] at e'
      rcases hnew p' g hp' e' with h1 | ⟨q, c, hc, h1⟩
      · have := h.mlt b g hl e; omega
      · exact absurd (h.inj b c g hl (hlt c (hmem q c hc)) e h1 ▸ hmem q c hc) hi
    · rw [hMn p hp] at e; rw [hMo b' hin'] at e'
      rcases hnew p g hp e with h1 | ⟨q, c, hc, h1⟩
      · have := h.mlt b' g hl' e'; omega
      · exact absurd (h.inj b' c g hl' (hlt c (hmem q c hc)) e' h1 ▸ hmem q c hc) hi'
    · rw [hMn p hp] at e; rw [hMn p' hp'] at e'; rw [k.inj p p' g hp hp' e e']
  · rcases split b (alive_lt ha) with ⟨hl, hi, hin⟩ | ⟨p, hp, rfl⟩
    · rw [hMo b hin] at e
      have hab : Alive bk b := by unfold Alive at ha ⊢; rw [hgo b hl hi] at ha; exact ha
      rcases hS g o hs with h1 | h1 | ⟨q, c, hc, h1⟩
      · exact h.sdis g o b h1 hab e
      · have := h.mlt b g hl e; omega
      · exact hi (h.inj b c g hl (hlt c (hmem q c hc)) e h1 ▸ hmem q c hc)
    · rw [hMn p hp] at e
      refine k.sdis g o p hs ?_ e
      unfold Alive at ha ⊢
      rw [hgn p hp] at ha
      cases hY : B1[p]? with
      | none => rw [hY] at ha; exact ha
      | some Y => rw [hY] at ha; cases Y <;> exact ha
  · rcases split b hb with ⟨hl, hi, hin⟩ | ⟨p, hp, rfl⟩
    · rw [hMo b hin] at e; exact Nat.lt_of_lt_of_le (h.mlt b g hl e) k.size
    · rw [hMn p hp] at e; exact k.mlt p g hp e
  · rcases split b hb with ⟨hl, hi, hin⟩ | ⟨p, hp, rfl⟩
    · rw [hMo b hin] at e; exact h.new b g hl e
    · rw [hMn p hp] at e
      rcases hnew p g hp e with h1 | ⟨q, c, hc, h1⟩
      · exact .inl (Nat.le_trans h.size h1)
      · exact h.new c g (hlt c (hmem q c hc)) h1
  · rcases hS g o hs with h1 | h1 | ⟨q, c, hc, h1⟩
    · exact h.snew g o h1
    · exact .inr (.inl (Nat.le_trans h.size h1))
    · rcases h.new c g (hlt c (hmem q c hc)) h1 with h2 | h2
      · exact .inr (.inl h2)
      · exact .inr (.inr h2)
  · rcases hSf g e hf with h1 | h1 | ⟨q, c, hc, h1⟩
    · exact h.fnew g e h1
    · exact .inr (.inl (Nat.le_trans h.size h1))
    · rcases h.new c g (hlt c (hmem q c hc)) h1 with h2 | h2
      · exact .inr (.inl h2)
      · exact .inr (.inr h2)
  · rcases split b (alive_lt ha) with ⟨hl, hi, hin⟩ | ⟨p, hp, rfl⟩
    · rw [hMo b hin] at e
      have hab : Alive bk b := by unfold Alive at ha ⊢; rw [hgo b hl hi] at ha; exact ha
      rcases hSf g e' hf with h1 | h1 | ⟨q, c, hc, h1⟩
      · exact h.fdis g e' b h1 hab e
      · have := h.mlt b g hl e; omega
      · exact hi (h.inj b c g hl (hlt c (hmem q c hc)) e h1 ▸ hmem q c hc)
    · rw [hMn p hp] at e
      refine k.fdis g e' p hf ?_ e
      unfold Alive at ha ⊢
      rw [hgn p hp] at ha
      cases hY : B1[p]? with
      | none => rw [hY] at ha; exact ha
      | some Y => rw [hY] at ha; cases Y <;> exact ha
  · rw [hold g (Nat.lt_of_lt_of_le hg h.size) (fun c hc e => ?_) (fun hx0 => ?_)]
    · exact h.block g hg hn' hx'
    · rcases h.new c g (hlt c hc) e with h2 | ⟨b', h2, h3⟩
      · omega
      · exact hn' b' h2 h3
    · obtain ⟨c, h2, x2, hc, e2, hg2⟩ := hxB g hx0
      rcases h.regs.own c h2 g x2 e2 hg2 with q | q
      · omega
      · exact hx' q
  · have ownp : ∀ p hh g x, hpOf G1 B1 p = some hh → hh g = some x → w.heap.size ≤ g ∨ ∃ c h2 x2, c ∈ idx ∧ hpOf G bk c = some h2 ∧ h2 g = some x2 := fun p hh g x e hg => (k.regs.own p hh g x e hg).imp id (hxB g)
    refine ⟨fun b hh g x e hg => ?_, fun b hh g x e hg => ?_, fun b b2 hh h2 g x x2 e e2 hg hg2 => ?_⟩
    · rcases split b (hpOf_lt e) with ⟨hl, hi, hin⟩ | ⟨p, hp, rfl⟩
      · rw [hho b hl hi] at e; exact h.regs.own b hh g x e hg
      · rw [hhn p hp] at e
        rcases ownp p hh g x e hg with q | ⟨c, h2, x2, hc, e2, hg2⟩
        · exact .inl (Nat.le_trans h.size q)
        · exact h.regs.own c h2 g x2 e2 hg2
    · rcases split b (hpOf_lt e) with ⟨hl, hi, hin⟩ | ⟨p, hp, rfl⟩
      · rw [hho b hl hi] at e
        obtain ⟨d1, d2, d3⟩ := h.regs.dis b hh g x e hg
        have hgl := (h.hlt e hg).1
        refine ⟨fun b' hb' em => ?_, fun o hs => ?_, ?_⟩
        · rcases split b' hb' with ⟨hl', hi', hin'⟩ | ⟨p', hp', rfl⟩
          · rw [hMo b' hin'] at em; exact d1 b' hl' em
          · rw [hMn p' hp'] at em
            rcases hnew p' g hp' em with q | ⟨q, c, hc, q2⟩
            · omega
            · exact d1 c (hlt c (hmem q c hc)) q2
        · rcases hS g o hs with q | q | ⟨q, c, hc, q2⟩
          · exact d2 o q
          · omega
          · exact d1 c (hlt c (hmem q c hc)) q2
        · show G1.S.f g = none
          cases hf : G1.S.f g with
          | none => rfl
          | some e' =>
            rcases hSf g e' hf with q | q | ⟨q, c, hc, q2⟩
            · rw [d3] at q; cases q
            · omega
            · exact absurd q2 (d1 c (hlt c (hmem q c hc)))
      · rw [hhn p hp] at e
        obtain ⟨d1, d2, d3⟩ := k.regs.dis p hh g x e hg
        refine ⟨fun b' hb' em => ?_, d2, d3⟩
        rcases split b' hb' with ⟨hl', hi', hin'⟩ | ⟨p', hp', rfl⟩
        · rw [hMo b' hin'] at em
          rcases ownp p hh g x e hg with q | ⟨c, h2, x2, hc, e2, hg2⟩
          · have := h.mlt b' g hl' em; omega
          · exact (h.regs.dis c h2 g x2 e2 hg2).1 b' hl' em
        · rw [hMn p' hp'] at em; exact d1 p' hp' em
    · rcases split b (hpOf_lt e) with ⟨hl, hi, hin⟩ | ⟨p, hp, rfl⟩ <;> rcases split b2 (hpOf_lt e2) with ⟨hl2, hi2, hin2⟩ | ⟨p2, hp2, rfl⟩
      · rw [hho b hl hi] at e; rw [hho b2 hl2 hi2] at e2; exact h.regs.inj b b2 hh h2 g x x2 e e2 hg hg2
      · rw [hho b hl hi] at e; rw [hhn p2 hp2] at e2
        rcases ownp p2 h2 g x2 e2 hg2 with q | ⟨c, h3, x3, hc, e3, hg3⟩
        · have := (h.hlt e hg).1; omega
        · exact absurd (h.regs.inj b c hh h3 g x x3 e e3 hg hg3 ▸ hc) hi
      · rw [hhn p hp] at e; rw [hho b2 hl2 hi2] at e2
        rcases ownp p hh g x e hg with q | ⟨c, h3, x3, hc, e3, hg3⟩
        · have := (h.hlt e2 hg2).1; omega
        · exact absurd (h.regs.inj b2 c h2 h3 g x2 x3 e2 e3 hg2 hg3 ▸ hc) hi2
      · rw [hhn p hp] at e; rw [hhn p2 hp2] at e2
        rw [k.regs.inj p p2 hh h2 g x x2 e e2 hg hg2]
  · cases x with
    | lf l => exact repLn l u hx
    | agg l => obtain ⟨us, rfl, hu⟩ := hx; exact ⟨us, rfl, fa_map2 repLn hu⟩
    | tup l =>
      obtain ⟨us, rfl, hu⟩ := hx
      refine ⟨us, rfl, fa_map2 (fun t u ht => ?_) hu⟩
      cases t with
      | lf l => exact repLn l u ht
      | agg l => obtain ⟨us, rfl, hu⟩ := ht; exact ⟨us, rfl, fa_map2 repLn hu⟩
    | un => trivial
end
end Go.Rx
