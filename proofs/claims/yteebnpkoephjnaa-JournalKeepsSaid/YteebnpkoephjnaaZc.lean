/- The texts of the proof, part 3, in order. -/
import Derived.Test.YteebnpkoephjnaaZb
import Derived.SizedLaws
import Derived.ChangeArms
import Derived.ChangeSlices
import Derived.Test.YteebnpkoephjnaaProg
import Derived.KernelRfl
import Derived.Tactics
import Derived.WalkKit
import Derived.Lib.Strings
import Derived.Lib.Walk
import Derived.Lib.Builder
import Derived.Lib.UnsafeStr
import Derived.Laws.Externs
import Derived.Lib.Hide
import Derived.WalkSpells
import Derived.Below
import Derived.Shelf.Strings.BuilderF
import Derived.Test.YteebnpkoephjnaaShelf
import Derived.Laws.RangeString
import Derived.Laws.RangeAny
/- The program's own data as plain Lean, and what may be, in plain Lean: no program here. -/
namespace Go.Rx

/-! ### Words for calls and ends -/
theorem callS {P : Program} {f : FuncId} {cargs : List AV} {r : AV} {bk bk' : List Blk} {K : AV → List Blk → Prop} (hc : Con P f cargs r []) (hs : scalA r = true) (k : K r bk) :
    ∃ cargs' r nb, Fa WkA cargs cargs' ∧ Con P f cargs' r nb ∧ ((scalA r = true ∧ nb = [] ∧ K r bk) ∨ K (shA bk'.length r) (bk' ++ nb)) := ⟨cargs, r, [], wk_refl _, hc, .inl ⟨hs, rfl, k⟩⟩
theorem callW {P : Program} {f : FuncId} {cargs cs : List AV} {r : AV} {bk bk' : List Blk} {K : AV → List Blk → Prop} (hc : Con P f cs r []) (hw : Fa WkA cargs cs) (hs : scalA r = true) (k : K r bk) :
    ∃ cargs' r nb, Fa WkA cargs cargs' ∧ Con P f cargs' r nb ∧ ((scalA r = true ∧ nb = [] ∧ K r bk) ∨ K (shA bk'.length r) (bk' ++ nb)) := ⟨cs, r, [], hw, hc, .inl ⟨hs, rfl, k⟩⟩
/-- A result that holds slices: what was handed over stays as it is. -/
theorem callP {P : Program} {f : FuncId} {cargs cs : List AV} {r : AV} {bk bk' : List Blk} {K : AV → List Blk → Prop} (hc : Con P f cs r []) (hw : Fa WkA cargs cs) (hr : ∀ n, shA n r = r) (k : K r bk') :
    ∃ cargs' r nb, Fa WkA cargs cargs' ∧ Con P f cargs' r nb ∧ ((scalA r = true ∧ nb = [] ∧ K r bk) ∨ K (shA bk'.length r) (bk' ++ nb)) := ⟨cs, r, [], hw, hc, .inr (by rw [hr, List.append_nil]; exact k)⟩
theorem callU {P : Program} {f : FuncId} {cargs : List AV} {r : AV} {bk bk' : List Blk} {K : AV → List Blk → Prop} (hc : Con P f cargs r []) (hr : ∀ n, shA n r = r) (k : K r bk') :
    ∃ cargs' r nb, Fa WkA cargs cargs' ∧ Con P f cargs' r nb ∧ ((scalA r = true ∧ nb = [] ∧ K r bk) ∨ K (shA bk'.length r) (bk' ++ nb)) := callP hc (wk_refl _) hr k
/-- A call to which blocks are lent: idx says which of the caller's. -/
theorem callG {P : Program} {f : FuncId} {args cargs cargs' : List AV} {r : AV} {bk B0 B1 : List Blk} {K : AV → List Blk → Prop} (idx : List Nat) (hc : ConG P f B0 cargs' r B1) (hn : nodupB idx = true) (hB : pickB idx bk idx = some B0) (hr : renAs idx args = some cargs) (hw : Fa WkA cargs cargs')
    (k : K (bkA idx bk.length r) (bkBs idx bk B1)) :
    ∃ idx B0 cargs cargs' r B1, idx.Nodup ∧ pickB idx bk idx = some B0 ∧ renAs idx args = some cargs ∧ Fa WkA cargs cargs' ∧ ConG P f B0 cargs' r B1 ∧ K (bkA idx bk.length r) (bkBs idx bk B1) :=
  ⟨idx, B0, cargs, cargs', r, B1, nodupB_ok hn, hB, hr, hw, hc, k⟩
/-- What is left where a walk ends. -/
structure Fin {α : Type} (x y : α) : Prop where
  out : x = y
theorem finB {x y : Bool} (h : Fin x y) : ∃ zs, Fa WkA [Bl x] zs ∧ pack zs = some (Bl y) := retB h.out
theorem finI {x y : Int} (h : Fin x y) : ∃ zs, Fa WkA [Go.Rx.I x] zs ∧ pack zs = some (Go.Rx.I y) := retI h.out
theorem finA {xs : List AV} {y : AV} (h : Fin (pack xs) (some y)) : ∃ zs, Fa WkA xs zs ∧ pack zs = some y := ⟨xs, wk_refl _, h.out⟩
theorem retA {xs : List AV} {y : AV} (h : pack xs = some y) : ∃ zs, Fa WkA xs zs ∧ pack zs = some y := ⟨xs, wk_refl _, h⟩
theorem wkPN (sz : Nat) : WkP (.sc (.slice none 0 0)) (.sl sz []) := fun S w v h => by cases h; exact .nil sz
theorem wkPE (p : PV) : WkP p p := fun _ _ _ h => h
/-- Rows, one by one. -/
theorem wkPR {sz : Nat} {rows rows' : List (List PV)} (h : Fa (Fa WkP) rows rows') : WkP (.sl sz rows) (.sl sz rows') := fun S w v hv => by
  have hl := h.length
  have back : ∀ {j r' c q}, rows'[j]? = some r' → r'[c]? = some q → ∃ r p, rows[j]? = some r ∧ r[c]? = some p ∧ WkP p q := fun {j r' c q} hj hc => by
    have hjl : j < rows.length := by rw [hl]; exact (List.getElem?_eq_some_iff.1 hj).1
    obtain ⟨r2, h1, h2⟩ := h.get (List.getElem?_eq_getElem hjl)
    rw [hj] at h1
    cases h1
    have hcl : c < rows[j].length := by rw [h2.length]; exact (List.getElem?_eq_some_iff.1 hc).1
    obtain ⟨q2, h3, h4⟩ := h2.get (List.getElem?_eq_getElem hcl)
    rw [hc] at h3
    cases h3
    exact ⟨_, _, List.getElem?_eq_getElem hjl, List.getElem?_eq_getElem hcl, h4⟩
  have none : rows = [] → rows' = [] := fun e => List.eq_nil_of_length_eq_zero (by rw [← hl, e]; rfl)
  generalize hr : rows = rw at hv
  cases hv with
  | nil => rw [none hr]; exact .nil sz
  | emp _ a cap => rw [none hr]; exact .emp sz a cap
  | sl _ g o cap _ vs hc hu hm hrp =>
    subst hr
    rw [hl]
    refine .sl sz g o cap rows' vs (by omega) (fun r' hr' => ?_) (fun j r' c q hj hcq => ?_) (fun j r' c q hj hcq => ?_)
    · obtain ⟨j, hj⟩ := List.getElem?_of_mem hr'
      have hjl : j < rows.length := by rw [hl]; exact (List.getElem?_eq_some_iff.1 hj).1
      obtain ⟨r2, h1, h2⟩ := h.get (List.getElem?_eq_getElem hjl)
      rw [hj] at h1
      cases h1
      rw [← h2.length]
      exact hu _ (List.getElem_mem hjl)
    · obtain ⟨r, p, h1, h2, _⟩ := back hj hcq
      exact hm j r c p h1 h2
    · obtain ⟨r, p, h1, h2, h3⟩ := back hj hcq
      exact h3 _ _ _ (hrp j r c p h1 h2)
theorem fa_refl {α : Type} {R : α → α → Prop} (h : ∀ a, R a a) : ∀ l : List α, Fa R l l
  | [] => trivial
  | a :: l => ⟨h a, fa_refl h l⟩
theorem fa_maps {α β : Type} {R : β → β → Prop} {f g : α → β} (h : ∀ a, R (f a) (g a)) : ∀ l : List α, Fa R (l.map f) (l.map g)
  | [] => trivial
  | a :: l => ⟨h a, fa_maps h l⟩
theorem wkR {sz : Nat} {rows rows' : List (List PV)} (h : Fa (Fa WkP) rows rows') : WkL (.pv (.sl sz rows)) (.pv (.sl sz rows')) := .inr ⟨_, _, rfl, rfl, wkPR h⟩
theorem wkN (sz : Nat) : WkL (.pv (.sc (.slice none 0 0))) (.pv (.sl sz [])) := .inr ⟨_, _, rfl, rfl, wkPN sz⟩
theorem wkE (l : Lf) : WkL l l := .inl rfl

/-- A callee's contract in the kit's own form, for plain values. -/
theorem Con.plain {P : Program} {f : FuncId} {vs : List Value} {v : Value} (hn : fnOK P f = true) (hv : v.oneCell' = true) (h : ∀ w, Calls P f vs.toArray w fun e w' => e = .returned v ∧ Go.RowKit.Below w.heap.size w w') : Con P f (vs.map sc) (sc v) [] := by
  refine ⟨hn, rfl, fun w S us hS hargs => ?_⟩
  have hus : us = vs := by
    have : ∀ {vs us : List Value}, Fa (RepA (Gh.base S) [] w) (vs.map sc) us → us = vs := fun {vs} => by
      induction vs with
      | nil => intro us h; cases us with
        | nil => rfl
        | cons u us => exact h.elim
      | cons v vs ih => intro us h; cases us with
        | nil => exact h.elim
        | cons u us => rw [(sc_rep h.1).1, ih h.2]
    exact this hargs
  subst hus
  refine (h w).mono ?_
  rintro e w' ⟨rfl, hb⟩
  exact ⟨v, Gh.base S, rfl, RepP.sc v hv, ⟨fun b B hb => by simp at hb, fun b b' g hb => by simp at hb, fun g o b hs ha => absurd (alive_lt ha) (by simp), fun g o hs => Nat.lt_of_lt_of_le (hS g o hs) hb.size, fun b g hb => by simp at hb, fun b g hb => by simp at hb,
    fun g o hs => hs, fun g o hs => .inl hs, hb.os, hb.tape, hb.output, hb.size, fun g hg _ => hb.block g hg, Nat.le_refl _, ⟨fun g o hs => hs, fun g o hs => World.cell?_of_block (a := ⟨g, o, none⟩) (hb.block g (hS g o hs)), Nat.le_refl _, fun b hb => absurd hb (Nat.not_lt_zero _), fun b sz rows h => (by unfold rowsOf at h; simp [Ctx.base] at h)⟩⟩⟩
theorem Con.plains {P : Program} {f : FuncId} {vs rs : List Value} (hn : fnOK P f = true) (hv : ∀ v ∈ rs, v.oneCell' = true) (h : ∀ w, Calls P f vs.toArray w fun e w' => e = .returned (.tuple rs.toArray) ∧ Go.RowKit.Below w.heap.size w w') :
    Con P f (vs.map sc) (.tup (rs.map fun v => .lf (lsc v))) [] := by
  refine ⟨hn, rfl, fun w S us hS hargs => ?_⟩
  have hus : us = vs := by
    have : ∀ {vs us : List Value}, Fa (RepA (Gh.base S) [] w) (vs.map sc) us → us = vs := fun {vs} => by
      induction vs with
      | nil => intro us h; cases us with
        | nil => rfl
        | cons u us => exact h.elim
      | cons v vs ih => intro us h; cases us with
        | nil => exact h.elim
        | cons u us => rw [(sc_rep h.1).1, ih h.2]
    exact this hargs
  subst hus
  refine (h w).mono ?_
  rintro e w' ⟨rfl, hb⟩
  have hf : ∀ {rs : List Value}, (∀ v ∈ rs, v.oneCell' = true) → Fa (RepT (Gh.base S) [] w') (rs.map fun v => .lf (lsc v)) rs := fun {rs} => by
    induction rs with
    | nil => intro _; trivial
    | cons v rs ih => intro h; exact ⟨RepP.sc v (h v (by simp)), ih fun u hu => h u (by simp [hu])⟩
  exact ⟨_, Gh.base S, rfl, ⟨rs, rfl, hf hv⟩, ⟨fun b B hb => by simp at hb, fun b b' g hb => by simp at hb, fun g o b hs ha => absurd (alive_lt ha) (by simp), fun g o hs => Nat.lt_of_lt_of_le (hS g o hs) hb.size, fun b g hb => by simp at hb, fun b g hb => by simp at hb,
    fun g o hs => hs, fun g o hs => .inl hs, hb.os, hb.tape, hb.output, hb.size, fun g hg _ => hb.block g hg, Nat.le_refl _, ⟨fun g o hs => hs, fun g o hs => World.cell?_of_block (a := ⟨g, o, none⟩) (hb.block g (hS g o hs)), Nat.le_refl _, fun b hb => absurd hb (Nat.not_lt_zero _), fun b sz rows h => (by unfold rowsOf at h; simp [Ctx.base] at h)⟩⟩⟩

theorem baEq (x y : ByteArray) : (x == y) = decide (x = y) := by
  rw [beq_toListBytes, Bool.eq_iff_iff, beq_iff_eq, decide_eq_true_eq, ByteArray.toList_eq, ByteArray.toList_eq]
  exact ⟨fun h => ByteArray.ext (Array.toList_inj.mp h), fun h => by rw [h]⟩
instance : ReflBEq ByteArray := ⟨by intro a; rw [baEq]; exact decide_eq_true rfl⟩
instance : LawfulBEq ByteArray := ⟨fun h => by rw [baEq] at h; exact of_decide_eq_true h⟩
/-! ### Data -/
structure Step where
  nm : ByteArray
  service : Int
  op : ByteArray
  undo : ByteArray
  who : ByteArray
  n : Int
theorem Step.eq_of {a b : Step} (h : a.nm = b.nm ∧ a.service = b.service ∧ a.op = b.op ∧ a.undo = b.undo ∧ a.who = b.who ∧ a.n = b.n) : a = b := by cases a; cases b; simp_all
instance : DecidableEq Step := fun a b => decidable_of_iff (a.nm = b.nm ∧ a.service = b.service ∧ a.op = b.op ∧ a.undo = b.undo ∧ a.who = b.who ∧ a.n = b.n) ⟨Step.eq_of, fun h => by subst h; simp⟩
def Step.enc (s : Step) : List PV := [pS s.nm, pI s.service, pS s.op, pS s.undo, pS s.who, pI s.n]
abbrev encSteps (l : List Step) : PV := .sl 6 (l.map Step.enc)
structure Rec where
  kind : Int
  id : Int
  n : Int
  key : ByteArray
  body : ByteArray
  steps : List Step
abbrev Rec.enc (r : Rec) : List PV := [pI r.kind, pI r.id, pI r.n, pS r.key, pS r.body, encSteps r.steps]
abbrev encRec (r : Rec) : AV := .agg [.pv (pI r.kind), .pv (pI r.id), .pv (pI r.n), .pv (pS r.key), .pv (pS r.body), .pv (encSteps r.steps)]
structure Saga where
  id : Int
  key : ByteArray
  body : ByteArray
  steps : List Step
  done : Int
  out : Bool
  back : Bool
  left : Int
  status : Int
abbrev Saga.enc (s : Saga) : List PV := [pI s.id, pS s.key, pS s.body, encSteps s.steps, pI s.done, pB s.out, pB s.back, pI s.left, pI s.status]
abbrev encSaga (s : Saga) : AV := .agg [.pv (pI s.id), .pv (pS s.key), .pv (pS s.body), .pv (encSteps s.steps), .pv (pI s.done), .pv (pB s.out), .pv (pB s.back), .pv (pI s.left), .pv (pI s.status)]
theorem Rec.eq_of {a b : Rec} (h : a.kind = b.kind ∧ a.id = b.id ∧ a.n = b.n ∧ a.key = b.key ∧ a.body = b.body ∧ a.steps = b.steps) : a = b := by cases a; cases b; simp_all
instance : DecidableEq Rec := fun a b => decidable_of_iff (a.kind = b.kind ∧ a.id = b.id ∧ a.n = b.n ∧ a.key = b.key ∧ a.body = b.body ∧ a.steps = b.steps) ⟨Rec.eq_of, fun h => by subst h; simp⟩
theorem Saga.eq_of {a b : Saga} (h : a.id = b.id ∧ a.key = b.key ∧ a.body = b.body ∧ a.steps = b.steps ∧ a.done = b.done ∧ a.out = b.out ∧ a.back = b.back ∧ a.left = b.left ∧ a.status = b.status) : a = b := by cases a; cases b; simp_all
instance : DecidableEq Saga := fun a b => decidable_of_iff (a.id = b.id ∧ a.key = b.key ∧ a.body = b.body ∧ a.steps = b.steps ∧ a.done = b.done ∧ a.out = b.out ∧ a.back = b.back ∧ a.left = b.left ∧ a.status = b.status) ⟨Saga.eq_of, fun h => by subst h; simp⟩
theorem stepEq (x y : Step) : ((x.nm == y.nm) && ((x.service == y.service) && ((x.op == y.op) && ((x.undo == y.undo) && ((x.who == y.who) && ((x.n == y.n) && true)))))) = decide (x = y) := by
  rw [Bool.eq_iff_iff]
  simp only [Bool.and_eq_true, beq_iff_eq, decide_eq_true_eq, and_true]
  exact ⟨Step.eq_of, fun h => by subst h; simp⟩
theorem recEq (a b : Rec) : decide (a = b) = (a.kind == b.kind && a.id == b.id && a.n == b.n && a.key == b.key && a.body == b.body && decide (a.steps = b.steps)) := by
  rw [Bool.eq_iff_iff]
  simp only [Bool.and_eq_true, beq_iff_eq, decide_eq_true_eq]
  exact ⟨fun h => by subst h; simp, fun h => Rec.eq_of ⟨h.1.1.1.1.1, h.1.1.1.1.2, h.1.1.1.2, h.1.1.2, h.1.2, h.2⟩⟩
theorem sagaEq (a b : Saga) : decide (a = b) = (a.id == b.id && a.key == b.key && a.body == b.body && decide (a.steps = b.steps) && a.done == b.done && a.out == b.out && a.back == b.back && a.left == b.left && a.status == b.status) := by
  rw [Bool.eq_iff_iff]
  simp only [Bool.and_eq_true, beq_iff_eq, decide_eq_true_eq]
  exact ⟨fun h => by subst h; simp, fun h => Saga.eq_of ⟨h.1.1.1.1.1.1.1.1, h.1.1.1.1.1.1.1.2, h.1.1.1.1.1.1.2, h.1.1.1.1.1.2, h.1.1.1.1.2, h.1.1.1.2, h.1.1.2, h.1.2, h.2⟩⟩
/-- May a saga end so? -/
def endsB (s : Saga) (st : Int) : Bool :=
  if st = 0 then true else if st = 1 then !s.back && s.done == s.steps.length && !s.out else if st = 2 then s.back && s.left == 0 else if st = 3 then s.back && decide (0 < s.left) else false
def mostI (s : Saga) : Int := if s.out then s.done + 1 else s.done
theorem wrapI {n : Int} (h : -9223372036854775808 ≤ n ∧ n ≤ 9223372036854775807) : IntKind.i64.wrap n = n := Go.IntWalk.i64_in n h
theorem take_succ' {α : Type} {l : List α} {k : Nat} (h : k < l.length) : l.take (k + 1) = l.take k ++ [l[k]] := List.take_succ_eq_append_getElem h
end Go.Rx

/- What a reading of an argument tells: the plain values that it holds. -/
set_option linter.unusedVariables false
set_option linter.unusedSimpArgs false
namespace Go.Rx.Lift
open Go.RowKit Go.WideShapes Go.ChangeShapes Go.Rx
/-- What was there. -/
def Was (w : World) (g _o : Nat) : Prop := g < w.heap.size
/-- A value of type t that reads as data is, cell by cell, what e says of some a, and ok holds of it. -/
def Opens (P : Program) (t : TypeId) {α : Type} (e : α → List PV) (ok : α → Prop) : Prop :=
  ∀ (H : Type) (enc : TypeId × Value → H) (w : World) (base : Nat) (spare : Nat → Bool) (held : Bool) (fuel : Nat) (cs : List Value) (x : DataW H × List MemPlace),
    DataW.trod enc P w base spare held fuel t cs = some x → (∀ n ∈ x.1.weights P t, n ≤ reachBytes) → ∃ a, Fa (fun p v => RepP (Was w) w p v) (e a) cs ∧ ok a

variable {P : Program}

theorem opens_int {t : TypeId} {k : IntKind} (ht : P.underlying t = some (.int k)) : Opens P t (fun n : Int => [.sc (.int k n)]) (fun n => (Lit.int k n).wf = true) := by
  intro H enc w base spare held fuel cs x h _
  obtain ⟨n, rfl, _, hw⟩ := DataW.trod_int ht h
  exact ⟨n, ⟨.sc _ rfl, trivial⟩, hw⟩
theorem opens_bool {t : TypeId} (ht : P.underlying t = some .bool) : Opens P t (fun b : Bool => [.sc (.bool b)]) (fun _ => True) := by
  intro H enc w base spare held fuel cs x h _
  obtain ⟨b, rfl, _⟩ := DataW.trod_bool ht h
  exact ⟨b, ⟨.sc _ rfl, trivial⟩, trivial⟩
theorem opens_string {t : TypeId} (ht : P.underlying t = some .string) : Opens P t (fun s : ByteArray => [.sc (.string s)]) (fun s => s.size ≤ 140737488351232) := by
  intro H enc w base spare held fuel cs x h hw
  obtain ⟨s, rfl, rfl, _⟩ := DataW.trod_string ht h
  refine ⟨s, ⟨.sc _ rfl, trivial⟩, ?_⟩
  have := hw s.data.toList.length (by simp [DataW.weights])
  rw [Array.length_toList] at this
  exact this
theorem cells_get {w : World} {base : Nat} {a : Addr} {n : Nat} {cs : List Value} (h : w.cells? base a n = some cs) : cs.length = n ∧ ∀ i u, cs[i]? = some u → w.cell? (a.add i) = some u := by
  obtain ⟨_, hl, hc⟩ := World.cells?_some h
  refine ⟨hl, fun i u hu => ?_⟩
  have hi : i < n := by rw [← hl]; exact (List.getElem?_eq_some_iff.1 hu).1
  rw [hc i hi, hu]
theorem weightsAll_mem {H : Type} {e : TypeId} : ∀ {l : List (DataW H)} {d : DataW H}, d ∈ l → ∀ n ∈ d.weights P e, n ∈ DataW.weightsAll P e l
  | d0 :: l, d, hd, n, hn => by
    simp only [DataW.weightsAll, List.mem_append]
    rcases List.mem_cons.1 hd with rfl | hd
    · exact .inl hn
    · exact .inr (weightsAll_mem hd n hn)
theorem list_of {α : Type} {Q : Nat → α → Prop} : ∀ {len : Nat}, (∀ i, i < len → ∃ p, Q i p) → ∃ l : List α, l.length = len ∧ ∀ i p, l[i]? = some p → Q i p
  | 0, _ => ⟨[], rfl, by simp⟩
  | m + 1, each => by
    obtain ⟨l, h1, h2⟩ := list_of (len := m) (fun i hi => each i (by omega))
    obtain ⟨p, hp⟩ := each m (by omega)
    refine ⟨l ++ [p], by simp [h1], fun i q hq => ?_⟩
    rcases Nat.lt_trichotomy i m with hi | hi | hi
    · rw [List.getElem?_append_left (by omega)] at hq
      exact h2 i q hq
    · subst hi
      rw [List.getElem?_append_right (by omega), h1] at hq
      simp at hq
      subst hq
      exact hp
    · rw [List.getElem?_eq_none (by simp; omega)] at hq
      cases hq
theorem cell_spot {w : World} {a : Addr} {u : Value} (h : w.cell? a = some u) : a.spot = none ∧ a.block < w.heap.size := by
  unfold World.cell? at h
  cases hb : w.heap[a.block]? with
  | none => rw [hb] at h; cases h
  | some o =>
    rw [hb] at h
    have hlt : a.block < w.heap.size := by
      rcases Nat.lt_or_ge a.block w.heap.size with h' | h'
      · exact h'
      · rw [Array.getElem?_eq_none h'] at hb; cases hb
    cases o with
    | cells c e fz =>
      refine ⟨?_, hlt⟩
      simp only at h
      split at h
      · cases h
      · rename_i hs; simpa using hs
    | _ => cases h
theorem opens_slice {t el : TypeId} {α : Type} {e : α → List PV} {ok : α → Prop} {sz B : Nat} (ht : P.underlying t = some (.slice el)) (hc : P.cellsOf el = sz) (hpos : 0 < sz) (hB : P.bytesOf el = B) (he : Opens P el e ok) :
    Opens P t (fun l : List α => [.sl sz (l.map e)]) (fun l => l.length * B ≤ 140737488351232 ∧ ∀ a ∈ l, ok a) := by
  intro H enc w base spare held fuel cs x h hw
  rcases DataW.trod_slice ht h with ⟨rfl, rfl⟩ | ⟨a, len, cap, elems, rest, n, _, rfl, rfl, _, hl, hm, hlen, hel, _, _⟩
  · exact ⟨[], ⟨.nil sz, trivial⟩, by simp, by simp⟩
  · have each : ∀ i, i < len → ∃ p : α, ok p ∧ ∃ c, c.length = sz ∧ Fa (fun p v => RepP (Was w) w p v) (e p) c ∧ ∀ j u, c[j]? = some u → w.cell? (a.add (i * sz + j)) = some u := by
      intro i hi
      have h1 := hel i hi
      rw [hc] at h1
      have hil : i < elems.length := by omega
      rw [List.getElem?_eq_getElem hil, Option.bind_eq_some_iff] at h1
      obtain ⟨c, hcs, hr⟩ := h1
      obtain ⟨hlc, hcell⟩ := cells_get hcs
      obtain ⟨p, hK, hok⟩ := he H enc w base spare held n c _ hr (fun m hm => hw m (by
        simp only [DataW.weights, ht, List.mem_cons, List.mem_append]
        refine .inr (.inl ?_)
        exact weightsAll_mem (List.mem_map_of_mem (List.getElem_mem hil)) m hm))
      refine ⟨p, hok, c, hlc, hK, fun j u hu => ?_⟩
      have := hcell j u hu
      rw [Addr.add_add] at this
      exact this
    obtain ⟨l, h1, h2⟩ := list_of each
    have hbytes : (elems.length + rest.length) * B ≤ 140737488351232 := by
      have := hw ((elems.length + rest.length) * B) (by simp [DataW.weights, ht, hB])
      exact this
    refine ⟨l, ⟨?_, trivial⟩, ?_, fun p hp => ?_⟩
    · by_cases h0 : len = 0
      · subst h0
        have : l = [] := List.eq_nil_of_length_eq_zero h1
        subst this
        exact RepP.emp sz a cap
      · -- there is a row: the address has no spot
        have sp : a.spot = none ∧ a.block < w.heap.size := by
          obtain ⟨p, hp⟩ : ∃ p, l[0]? = some p := ⟨l[0]'(by omega), List.getElem?_eq_getElem (by omega)⟩
          obtain ⟨_, c, hcl, _, hcc⟩ := h2 0 p hp
          obtain ⟨u, hu⟩ : ∃ u, c[0]? = some u := ⟨c[0]'(by omega), List.getElem?_eq_getElem (by omega)⟩
          have := hcc 0 u hu
          rw [Nat.zero_mul, Nat.add_zero] at this
          have e0 : a.add 0 = a := by unfold Addr.add; rw [if_pos rfl]
          rw [e0] at this
          exact cell_spot this
        obtain ⟨g, o, s⟩ := a
        obtain ⟨hs1, hs2⟩ := sp
        simp only at hs1 hs2
        subst hs1
        have hcl : ∀ (i : Nat) (p : α) (k : Nat) (q : PV), l[i]? = some p → (e p)[k]? = some q → ∃ u, w.cell? ⟨g, o + (i * sz + k), none⟩ = some u ∧ RepP (Was w) w q u := fun i p k q hi hk => by
          obtain ⟨_, c, hcl, hK, hcc⟩ := h2 i p hi
          obtain ⟨u, hu, hr⟩ := hK.get hk
          have := hcc k u hu
          rw [Addr.add_lit] at this
          exact ⟨u, this, hr⟩
        rw [show len = (l.map e).length by rw [List.length_map, h1]]
        refine RepP.sl sz g o cap (l.map e) (fun i k => (w.cell? ⟨g, o + (i * sz + k), none⟩).getD undef) (by rw [List.length_map]; omega) (fun r hr => ?_) (fun j r c p hj hp => ?_) (fun j r c p hj hp => ?_)
        · obtain ⟨p, hp, rfl⟩ := List.mem_map.1 hr
          obtain ⟨i, hi⟩ := List.getElem?_of_mem hp
          obtain ⟨_, c, hcl', hK, _⟩ := h2 i p hi
          rw [hK.length, hcl']
        · rw [List.getElem?_map, Option.map_eq_some_iff] at hj
          obtain ⟨q, hq, rfl⟩ := hj
          obtain ⟨u, hu, _⟩ := hcl j q c p hq hp
          rw [hu]
          exact ⟨hs2, rfl⟩
        · rw [List.getElem?_map, Option.map_eq_some_iff] at hj
          obtain ⟨q, hq, rfl⟩ := hj
          obtain ⟨u, hu, hr⟩ := hcl j q c p hq hp
          rw [hu]
          exact hr
    · rw [h1]
      exact Nat.le_trans (Nat.mul_le_mul_right _ (by omega)) hbytes
    · obtain ⟨i, hi⟩ := List.getElem?_of_mem hp
      exact (h2 i p hi).1
/-- The same of values of another make. -/
theorem opens_iso {t : TypeId} {α β : Type} {e : α → List PV} {ok : α → Prop} {e' : β → List PV} {ok' : β → Prop} (f : α → β) (he : ∀ a, e' (f a) = e a) (hok : ∀ a, ok a → ok' (f a)) (h : Opens P t e ok) : Opens P t e' ok' := by
  intro H enc w base spare held fuel cs x hx hw
  obtain ⟨a, hK, hk⟩ := h H enc w base spare held fuel cs x hx hw
  exact ⟨f a, by rw [he]; exact hK, hok a hk⟩

/-- A struct's fields from field i on, whose cells begin at off. -/
def From (P : Program) (fs : Array Field) (i off total : Nat) {α : Type} (e : α → List PV) (ok : α → Prop) : Prop :=
  ∀ (H : Type) (enc : TypeId × Value → H) (w : World) (base : Nat) (spare : Nat → Bool) (held : Bool) (n : Nat) (cs : List Value) (xs : List (DataW H × List MemPlace)),
    cs.length = total → xs.length = fs.size →
    (∀ (j : Nat) (f : Field), fs[j]? = some f → DataW.trod enc P w base spare held n f.type ((cs.drop f.offset).take (P.cellsOf f.type)) = xs[j]?) →
    (∀ (j : Nat) (f : Field) (d : DataW H × List MemPlace), fs[j]? = some f → xs[j]? = some d → ∀ m ∈ d.1.weights P f.type, m ≤ reachBytes) →
    ∃ a, Fa (fun p v => RepP (Was w) w p v) (e a) (cs.drop off) ∧ ok a
theorem from_last {fs : Array Field} {i off total : Nat} {f : Field} {α : Type} {e : α → List PV} {ok : α → Prop} (sz : Nat) (hf : fs[i]? = some f) (ho : f.offset = off) (hs : P.cellsOf f.type = sz) (htot : off + sz = total) (h : Opens P f.type e ok) : From P fs i off total e ok := by
  intro H enc w base spare held n cs xs hcs hxs hr hw
  have hi : i < fs.size := by
    rcases Nat.lt_or_ge i fs.size with h | h
    · exact h
    · rw [Array.getElem?_eq_none h] at hf; cases hf
  have h1 := hr i f hf
  have hx : i < xs.length := by omega
  rw [List.getElem?_eq_getElem hx, ho, hs, List.take_of_length_le (by rw [List.length_drop]; omega)] at h1
  exact h H enc w base spare held n _ _ h1 (hw i f _ hf (List.getElem?_eq_getElem hx))
theorem from_cons {fs : Array Field} {i off total : Nat} {f : Field} {α β : Type} {e : α → List PV} {ok : α → Prop} {e2 : β → List PV} {ok2 : β → Prop} (sz : Nat) (hf : fs[i]? = some f) (ho : f.offset = off) (hs : P.cellsOf f.type = sz) (h : Opens P f.type e ok) (hr2 : From P fs (i + 1) (off + sz) total e2 ok2) :
    From P fs i off total (fun p : α × β => e p.1 ++ e2 p.2) (fun p => ok p.1 ∧ ok2 p.2) := by
  intro H enc w base spare held n cs xs hcs hxs hr hw
  have hi : i < fs.size := by
    rcases Nat.lt_or_ge i fs.size with h | h
    · exact h
    · rw [Array.getElem?_eq_none h] at hf; cases hf
  have h1 := hr i f hf
  have hx : i < xs.length := by omega
  rw [List.getElem?_eq_getElem hx, ho, hs] at h1
  obtain ⟨a, hK, hok⟩ := h H enc w base spare held n _ _ h1 (hw i f _ hf (List.getElem?_eq_getElem hx))
  obtain ⟨b, hK2, hok2⟩ := hr2 H enc w base spare held n cs xs hcs hxs hr hw
  refine ⟨(a, b), ?_, hok, hok2⟩
  have e0 : cs.drop off = (cs.drop off).take sz ++ cs.drop (off + sz) := by rw [← List.drop_drop, List.take_append_drop]
  rw [e0]
  exact hK.append hK2
theorem opens_struct {t : TypeId} {fs : Array Field} {total : Nat} {α : Type} {e : α → List PV} {ok : α → Prop} (ht : P.underlying t = some (.struct fs)) (htot : P.cellsOf t = total) (h : From P fs 0 0 total e ok) : Opens P t e ok := by
  intro H enc w base spare held fuel cs x hx hw
  obtain ⟨xs, n, _, rfl, hl, hlen, hr⟩ := DataW.trod_struct ht hx
  obtain ⟨a, hK, hok⟩ := h H enc w base spare held n cs xs (hl.trans htot) hlen hr (fun j f d hf hd m hm => hw m (by
    simp only [DataW.weights, ht]
    exact DataW.weights_mem_each (j := j) (t := f.type) (d := d.1) (by rw [List.getElem?_map]; simp [hf]) (by rw [List.getElem?_map, hd]; rfl) m hm))
  exact ⟨a, by simpa using hK, hok⟩
/-- A parameter, opened. -/
theorem opened {H : Type} {enc : TypeId × Value → H} {w : World} {base : Nat} {spare : Nat → Bool} {held : Bool} {t : TypeId} {v : Value} {d : DataW H} {ps : List MemPlace} {ts : List TypeId} {ds : List (DataW H)} {j : Nat} {α : Type} {e : α → List PV} {ok : α → Prop}
    (ho : Opens P t e ok) (hsz : (DataW.weightsEach P ts ds).all (· ≤ reachBytes) = true) (ht : ts[j]? = some t) (hd : ds[j]? = some d) (h : DataW.Trod enc P w base spare held t v d ps) : ∃ a, Fa (fun p v => RepP (Was w) w p v) (e a) v.cells.toList ∧ ok a := by
  obtain ⟨fuel, hf⟩ := h
  exact ho H enc w base spare held fuel _ _ hf (fun n hn => by
    have := List.all_eq_true.1 hsz _ (DataW.weights_mem_each ht hd n hn)
    simpa using this)
/-- Cells that stand for values, as leaves of an argument. -/
theorem leaves_of {w : World} : ∀ {ps : List PV} {cs : List Value}, Fa (fun p v => RepP (Was w) w p v) ps cs → Fa (RepL (Gh.base (Was w)) [] w) (ps.map .pv) cs
  | [], [], _ => trivial
  | _ :: _, _ :: _, h => ⟨h.1, leaves_of h.2⟩
  | [], _ :: _, h => h.elim
  | _ :: _, [], h => h.elim
/-- A call by contract, from a world as a law has it. -/
theorem Con.law {f : FuncId} {args : List AV} {r : AV} (h : Con P f args r []) (hs : scalA r = true) {w : World} {us : List Value} (hu : Fa (RepA (Gh.base (Was w)) [] w) args us) {v : Value} (hv : ∀ (G : Gh) (w' : World) (u : Value), RepA G [] w' r u → u = v) :
    Calls P f us.toArray w fun e w' => e = .returned v ∧ Below w.heap.size w w' := by
  refine (h.2.2 w (Was w) us (fun g o h => h) hu).mono ?_
  rintro e w' ⟨u, G, rfl, hr, hm⟩
  rw [hv G w' u hr]
  exact ⟨rfl, hm.os, hm.tape, hm.output, hm.size, fun g hg => hm.block g hg (fun b hb => absurd hb (Nat.not_lt_zero _))⟩
end Go.Rx.Lift

/- The types of the translation that the functions use, in short, against the program's own. -/
namespace Go.Proofs.Yteebnpkoephjnaa.Rx
open Go.Rx Go.Proofs
noncomputable abbrev P := Try.prog
def T : Tab := ⟨[
  (2, ⟨.int .i64, 1, 8, [.int .i64 0]⟩),
  (3, ⟨.int .i64, 1, 8, [.int .i64 0]⟩),
  (4, ⟨.bool, 1, 1, [.bool false]⟩),
  (5, ⟨.int .u8, 1, 1, [.int .u8 0]⟩),
  (6, ⟨.int .u8, 1, 1, [.int .u8 0]⟩),
  (7, ⟨.strct [(0, 2), (1, 3), (2, 4), (3, 6)], 4, 24, [.int .i64 0, .int .i64 0, .bool false, .int .u8 0]⟩),
  (8, ⟨.strct [(0, 2), (1, 3), (2, 4), (3, 6)], 4, 24, [.int .i64 0, .int .i64 0, .bool false, .int .u8 0]⟩),
  (9, ⟨.str, 1, 16, [.string ⟨#[]⟩]⟩),
  (10, ⟨.str, 1, 16, [.string ⟨#[]⟩]⟩),
  (11, ⟨.str, 1, 16, [.string ⟨#[]⟩]⟩),
  (12, ⟨.int .u64, 1, 8, [.int .u64 0]⟩),
  (21, ⟨.int .i32, 1, 4, [.int .i32 0]⟩),
  (22, ⟨.slice 42, 1, 24, [.slice none 0 0]⟩),
  (23, ⟨.slice 9, 1, 24, [.slice none 0 0]⟩),
  (24, ⟨.slice 3, 1, 24, [.slice none 0 0]⟩),
  (25, ⟨.strct [(0, 23), (1, 24)], 2, 48, [.slice none 0 0, .slice none 0 0]⟩),
  (26, ⟨.strct [(0, 23), (1, 24)], 2, 48, [.slice none 0 0, .slice none 0 0]⟩),
  (27, ⟨.strct [(0, 22), (1, 26)], 3, 72, [.slice none 0 0, .slice none 0 0, .slice none 0 0]⟩),
  (28, ⟨.strct [(0, 22), (1, 26)], 3, 72, [.slice none 0 0, .slice none 0 0, .slice none 0 0]⟩),
  (29, ⟨.strct [(0, 9), (1, 9), (2, 3)], 3, 40, [.string ⟨#[]⟩, .string ⟨#[]⟩, .int .i64 0]⟩),
  (30, ⟨.strct [(0, 9), (1, 9), (2, 3)], 3, 40, [.string ⟨#[]⟩, .string ⟨#[]⟩, .int .i64 0]⟩),
  (31, ⟨.slice 77, 1, 24, [.slice none 0 0]⟩),
  (32, ⟨.strct [(0, 30), (3, 3), (4, 31)], 5, 72, [.string ⟨#[]⟩, .string ⟨#[]⟩, .int .i64 0, .int .i64 0, .slice none 0 0]⟩),
  (33, ⟨.strct [(0, 30), (3, 3), (4, 31)], 5, 72, [.string ⟨#[]⟩, .string ⟨#[]⟩, .int .i64 0, .int .i64 0, .slice none 0 0]⟩),
  (34, ⟨.strct [(0, 28), (3, 33)], 8, 144, [.slice none 0 0, .slice none 0 0, .slice none 0 0, .string ⟨#[]⟩, .string ⟨#[]⟩, .int .i64 0, .int .i64 0, .slice none 0 0]⟩),
  (35, ⟨.strct [(0, 28), (3, 33)], 8, 144, [.slice none 0 0, .slice none 0 0, .slice none 0 0, .string ⟨#[]⟩, .string ⟨#[]⟩, .int .i64 0, .int .i64 0, .slice none 0 0]⟩),
  (37, ⟨.int .i64, 1, 8, [.int .i64 0]⟩),
  (40, ⟨.slice 80, 1, 24, [.slice none 0 0]⟩),
  (41, ⟨.strct [(0, 3), (1, 3), (2, 3), (3, 9), (4, 9), (5, 40)], 6, 80, [.int .i64 0, .int .i64 0, .int .i64 0, .string ⟨#[]⟩, .string ⟨#[]⟩, .slice none 0 0]⟩),
  (42, ⟨.strct [(0, 3), (1, 3), (2, 3), (3, 9), (4, 9), (5, 40)], 6, 80, [.int .i64 0, .int .i64 0, .int .i64 0, .string ⟨#[]⟩, .string ⟨#[]⟩, .slice none 0 0]⟩),
  (57, ⟨.slice 5, 1, 24, [.slice none 0 0]⟩),
  (64, ⟨.int .u64, 1, 8, [.int .u64 0]⟩),
  (76, ⟨.strct [(0, 3), (1, 3), (2, 9)], 3, 32, [.int .i64 0, .int .i64 0, .string ⟨#[]⟩]⟩),
  (77, ⟨.strct [(0, 3), (1, 3), (2, 9)], 3, 32, [.int .i64 0, .int .i64 0, .string ⟨#[]⟩]⟩),
  (79, ⟨.strct [(0, 9), (1, 3), (2, 9), (3, 9), (4, 9), (5, 3)], 6, 80, [.string ⟨#[]⟩, .int .i64 0, .string ⟨#[]⟩, .string ⟨#[]⟩, .string ⟨#[]⟩, .int .i64 0]⟩),
  (80, ⟨.strct [(0, 9), (1, 3), (2, 9), (3, 9), (4, 9), (5, 3)], 6, 80, [.string ⟨#[]⟩, .int .i64 0, .string ⟨#[]⟩, .string ⟨#[]⟩, .string ⟨#[]⟩, .int .i64 0]⟩),
  (83, ⟨.int .u32, 1, 4, [.int .u32 0]⟩),
  (88, ⟨.strct [(0, 9), (1, 4)], 2, 24, [.string ⟨#[]⟩, .bool false]⟩),
  (89, ⟨.strct [(0, 9), (1, 4)], 2, 24, [.string ⟨#[]⟩, .bool false]⟩),
  (98, ⟨.int .u64, 1, 8, [.int .u64 0]⟩),
  (101, ⟨.strct [(0, 100), (1, 57)], 2, 32, [.pointer none, .slice none 0 0]⟩),
  (102, ⟨.strct [(0, 100), (1, 57)], 2, 32, [.pointer none, .slice none 0 0]⟩),
  (103, ⟨.strct [(0, 102)], 2, 32, [.pointer none, .slice none 0 0]⟩),
  (104, ⟨.strct [(0, 102)], 2, 32, [.pointer none, .slice none 0 0]⟩),
  (129, ⟨.slice 23, 1, 24, [.slice none 0 0]⟩),
  (147, ⟨.int .u8, 1, 1, [.int .u8 0]⟩),
  (148, ⟨.int .u8, 1, 1, [.int .u8 0]⟩),
  (150, ⟨.int .i32, 1, 4, [.int .i32 0]⟩),
  (151, ⟨.int .i32, 1, 4, [.int .i32 0]⟩)
], [0, 1, 2, 45, 46, 60, 61, 62, 63, 64, 75, 76, 87, 101, 106, 108, 110, 112, 113, 114, 115, 116, 117, 119, 120], [102, 104]⟩
theorem T_ok : TabOK P T := tabOK_of (by kernel_rfl)
end Go.Proofs.Yteebnpkoephjnaa.Rx

/- strings.Builder: its functions as contracts of functions that blocks are lent to. -/
set_option linter.unusedVariables false
set_option linter.unusedSimpArgs false
namespace Go.Proofs.Yteebnpkoephjnaa.RxB
open Go.RowKit Go.Proofs
theorem hb_size : (Try.prog.info? 102).map (·.size) = some 2 := by kernel_rfl
theorem hb_byte : (Try.prog.info? 5).map (fun i => (i.zero, i.size, i.bytes)) = some (some (.int .u8 0), 1, 1) := by kernel_rfl
/-- A builder lies at the begin of a variable of this type. -/
def Lies (T : TypeId) : Prop := liesAt Try.prog Try.prog.depth T (2 / Try.prog.cellsOf T) 0 102 1 = true
set_option maxHeartbeats 1000000 in
set_option maxRecDepth 100000 in
theorem copyCheck_used (b : Nat) (w : World) (h0 : w.cell? ⟨b, 0, none⟩ = some (.pointer (some ⟨b, 0, none⟩))) :
    Calls Try.prog 87 #[.pointer (some ⟨b, 0, none⟩)] w fun e w' => e = .returned (.tuple #[]) ∧ w' = w := by
  obtain ⟨j, hj, _⟩ := Option.map_eq_some_iff.1 hb_size
  go_enter Try.func87, Try.ntmps87
  go_wp2
  rw [Lib.run_neq_ptr_same w _ Try.underlying100 hj]
  go_wp2
  go_end0
  exact ⟨rfl, rfl⟩
set_option maxHeartbeats 1000000 in
set_option maxRecDepth 100000 in
theorem copyCheck_fresh (b : Nat) (T : TypeId) (hT : Lies T) (w : World) (h0 : w.cell? ⟨b, 0, none⟩ = some (.pointer none)) (hsh : w.shape? b = some (T, 2)) (hfz : w.frozen? ⟨b, 0, none⟩ = false) :
    Calls Try.prog 87 #[.pointer (some ⟨b, 0, none⟩)] w fun e w' => e = .returned (.tuple #[]) ∧ w' = w.setCell ⟨b, 0, none⟩ (.pointer (some ⟨b, 0, none⟩)) := by
  obtain ⟨j, hj, hjs⟩ := Option.map_eq_some_iff.1 hb_size
  go_enter Try.func87, Try.ntmps87
  go_wp2
  rw [Lib.run_to_unsafe w ⟨b, 0, none⟩ Try.underlying100 Try.underlying131 hj (by rw [hjs]; decide) hsh (Nat.zero_lt_succ 1)]
  simp only [Result.andThen]
  rw [Oper.upon_value]
  go_wp2
  rw [run_callFunc_extern Try.func91 (by kernel_rfl) (by kernel_rfl) (by kernel_rfl) (e := Extern.AbiNoEscape.same) (by kernel_rfl)]
  rw [Lib.run_noEscape]
  simp only [Result.andThen]
  rw [Oper.upon_value]
  go_wp2
  rw [Lib.run_from_unsafe w ⟨b, 0, none⟩ Try.underlying131 Try.underlying100 hj hsh hT]
  simp only [Result.andThen]
  rw [Oper.upon_value]
  go_wp2
  go_end0
  exact ⟨rfl, rfl⟩
set_option maxHeartbeats 2000000 in
set_option maxRecDepth 100000 in
/-- The text of a builder that holds some bytes: they are frozen in its rows. -/
theorem string_some (b g cap : Nat) (cs cur : Array Value) (T : TypeId) (l : List UInt8) (w : World) (h0 : l ≠ []) (hcap : cap ≠ 0) (hb : w.heap[b]? = some (.cells cs T (0, 0))) (hc : cs[1]? = some (.slice (some ⟨g, 0, none⟩) l.length cap))
    {fz : Nat × Nat} (hg : w.heap[g]? = some (.cells cur 5 fz)) (hl : l.length ≤ cur.size) (h63 : l.length ≤ 9223372036854775807) (hcell : ∀ (j : Nat) (x : UInt8), l[j]? = some x → cur[j]? = some (Value.int .u8 x.toNat)) :
    Calls Try.prog 63 #[.pointer (some ⟨b, 0, none⟩)] w fun e w' => e = .returned (.string ⟨l.toArray⟩) ∧ w' = w.drew.freeze ⟨g, 0, none⟩ l.length := by
  have c1 : w.drew.cell? ⟨b, 1, none⟩ = some (.slice (some ⟨g, 0, none⟩) l.length cap) := by
    have : w.drew.heap[b]? = some (.cells cs T (0, 0)) := hb
    rw [Lib.cell_of_heap this]; exact hc
  have hSD : (Builtin.unsafeSliceData_ #[57] 118 #[.slice (some ⟨g, 0, none⟩) l.length cap]).run Try.prog w.drew = .ok (.pointer (some ⟨g, 0, none⟩)) w.drew :=
    Lib.run_unsafeSliceData_row _ _ _ _ _ _ hcap
  have hUS : (Builtin.unsafeString_ #[118, 3] 9 #[.pointer (some ⟨g, 0, none⟩), .int .i64 l.length]).run Try.prog w.drew = .ok (.string ⟨l.toArray⟩) (w.drew.freeze ⟨g, 0, none⟩ l.length) := by
    have hg' : w.drew.heap[g]? = some (.cells cur 5 fz) := hg
    refine Lib.run_unsafeString_row w.drew 118 3 9 5 Try.underlying118 (by kernel_rfl) g cur.size (by simp [World.shape?, hg']) l h0 hl h63 ?_
    intro j x hx
    rw [Addr.add_lit, Lib.cell_of_heap hg', Nat.zero_add]
    exact hcell j x hx
  have mixed : Try.prog.follows Departure.mixedOrders = true := by kernel_rfl
  go_enter Try.func63, Try.ntmps63
  go_wp2
  go_region_o
  all_goals (go_wp2; go_ret; exact ⟨rfl, rfl⟩)
end Go.Proofs.Yteebnpkoephjnaa.RxB
namespace Go.Rx
open Go.RowKit
section
variable {C : Ctx} {G : Gh} {bk : List Blk} {w w' : World}
/-- Rows of the call's own are given up; their block may turn. -/
theorem Mem.lose (h : Mem C G bk w) {b e sz : Nat} {rows : List (List PV)} (hb : bk[b]? = some (.arr e sz rows)) (hoth : ∀ g, G.M b ≠ some g → w'.heap[g]? = w.heap[g]?) (hsz : w'.heap.size = w.heap.size) (hos : w'.os = w.os) (htp : w'.tape = w.tape) (hou : w'.output = w.output) :
    ∃ G', Trn G bk w G' (bk.set b (.lost sz (rows ++ [[]]))) w' ∧ Mem C G' (bk.set b (.lost sz (rows ++ [[]]))) w' := by
  have hbl : b < bk.length := (List.getElem?_eq_some_iff.1 hb).1
  have hrb : rowsOf bk b = some (sz, rows) := by unfold rowsOf; rw [hb]
  let G' : Gh := { M := fun i => if i = b then none else G.M i, S := G.S, cp := G.cp }
  have hlen : (bk.set b (.lost sz (rows ++ [[]]))).length = bk.length := by simp
  have g0 : ∀ i, i ≠ b → (bk.set b (.lost sz (rows ++ [[]])))[i]? = bk[i]? := fun i hn => List.getElem?_set_ne (Ne.symm hn)
  have gb : (bk.set b (.lost sz (rows ++ [[]])))[b]? = some (.lost sz (rows ++ [[]])) := List.getElem?_set_self hbl
  have hM : ∀ i, i ≠ b → G'.M i = G.M i := fun i hn => if_neg hn
  have hMb : G'.M b = none := if_pos rfl
  have hro : ∀ i, i ≠ b → rowsOf (bk.set b (.lost sz (rows ++ [[]]))) i = rowsOf bk i := fun i hn => by unfold rowsOf; rw [g0 i hn]
  have hrlost : rowsOf (bk.set b (.lost sz (rows ++ [[]]))) b = some (sz, rows ++ [[]]) := by unfold rowsOf; rw [gb]
  have ab : Alive bk b := by unfold Alive; rw [hb]; trivial
  have hne : ∀ g o, G.S g o → G.M b ≠ some g := fun g o hs => h.sdis g o b hs ab
  have t : Trn G bk w G' (bk.set b (.lost sz (rows ++ [[]]))) w' := by
    refine ⟨fun _ _ h => h, fun g o hs => World.cell?_of_block (a := ⟨g, o, none⟩) (hoth g (hne g o hs)), by rw [hlen]; exact Nat.le_refl _, fun i hi hr => ?_, fun i s r hr => ?_⟩
    · have hn : i ≠ b := fun e => by subst e; rw [hrb] at hr; cases hr
      exact ⟨by rw [hro i hn]; exact hr, hM i hn⟩
    · by_cases hn : i = b
      · subst hn
        rw [hrb] at hr
        cases hr
        refine ⟨_, hrlost, by simp, fun h => ?_⟩
        simp at h
      · exact ⟨r, by rw [hro i hn]; exact hr, Nat.le_refl _, fun _ => ⟨hM i hn, rfl⟩⟩
  have oth : ∀ i g, i < bk.length → i ≠ b → G.M i = some g → w'.heap[g]? = w.heap[g]? := fun i g hi hn hg => hoth g fun e => hn (h.inj i b g hi hbl hg e)
  refine ⟨G', t, ⟨fun i B hB => ?_, fun i j g hi hj e1 e2 => ?_, fun g o i hs ha e1 => ?_, fun g o hs => by rw [hsz]; exact h.slt g o hs, fun i g hi e1 => ?_, fun i g hi e1 => ?_, h.s0, h.snew, hos.trans h.os, htp.trans h.tape, hou.trans h.output, by rw [hsz]; exact h.size, fun g hg hn => ?_, by rw [hlen]; exact h.mle, h.t0.trans t⟩⟩
  · by_cases hn : i = b
    · subst hn
      rw [gb] at hB
      cases hB
      exact hMb
    · rw [g0 i hn] at hB
      exact RepB.step t (hM i hn) rfl (fun g hg => oth i g (List.getElem?_eq_some_iff.1 hB).1 hn hg) (h.blk i B hB)
  · rw [hlen] at hi hj
    by_cases hn : i = b
    · subst hn; rw [hMb] at e1; cases e1
    · by_cases hn2 : j = b
      · subst hn2; rw [hMb] at e2; cases e2
      · rw [hM i hn] at e1; rw [hM j hn2] at e2; exact h.inj i j g hi hj e1 e2
  · by_cases hn : i = b
    · subst hn; rw [hMb] at e1; cases e1
    · rw [hM i hn] at e1
      exact h.sdis g o i hs (by unfold Alive at ha ⊢; rw [g0 i hn] at ha; exact ha) e1
  · rw [hlen] at hi
    by_cases hn : i = b
    · subst hn; rw [hMb] at e1; cases e1
    · rw [hM i hn] at e1; rw [hsz]; exact h.mlt i g hi e1
  · rw [hlen] at hi
    by_cases hn : i = b
    · subst hn; rw [hMb] at e1; cases e1
    · rw [hM i hn] at e1; exact h.new i g hi e1
  · rw [hoth g fun e => ?_]
    · exact h.block g hg hn
    · rcases h.new b g hbl e with h1 | ⟨b', h1, h2⟩
      · omega
      · exact hn b' h1 h2
end
end Go.Rx
namespace Go.Proofs.Yteebnpkoephjnaa.Rx
open Go.Rx Go.Proofs Go.RowKit Go.Proofs.Yteebnpkoephjnaa.RxB

theorem copyCheck_con (t : TypeId) (ht : Lies t) (x : Lf) (rest : List Blk) : ConG P 87 (.var [.bad 0 t, x] :: rest) [.lf (.ptr 0 0)] (.tup []) (.var [.bad 0 t, x] :: rest) := by
  refine ⟨by kernel_rfl, fun w G0 us hm hargs => ?_⟩
  cases us with
  | nil => exact hargs.elim
  | cons v us =>
    cases us with
    | cons _ _ => exact hargs.2.elim
    | nil =>
      obtain ⟨⟨⟨g, hg, rfl⟩, _, hro⟩, _⟩ := hargs
      obtain ⟨g', cur, ty, hg', ⟨hb, hbad⟩, hf⟩ := hm.blk 0 (.var [.bad 0 t, x]) rfl
      rw [hg] at hg'
      cases hg'
      have hty : ty = t := hbad t (by simp)
      subst hty
      cases cur with
      | nil => exact hf.elim
      | cons a cur =>
        cases cur with
        | nil => exact hf.2.elim
        | cons xv cur =>
          cases cur with
          | cons _ _ => exact hf.2.2.elim
          | nil =>
            obtain ⟨⟨ha, _⟩, hx, _⟩ := hf
            rcases ha with rfl | ⟨g2, hg2, rfl⟩
            · refine (copyCheck_fresh g ty ht w (by rw [Lib.cell_of_heap hb]; rfl) (by simp [World.shape?, hb]) (Lib.frozen_of_heap hb 0)).mono ?_
              rintro e w' ⟨rfl, rfl⟩
              have hb2 : (w.setCell ⟨g, 0, none⟩ (.pointer (some ⟨g, 0, none⟩))).heap[g]? = some (.cells #[.pointer (some ⟨g, 0, none⟩), xv] ty (0, 0)) := by
                simp [World.setCell, Array.getElem?_modify, hb]
              have hal : Alive (.var [.bad 0 ty, x] :: rest) 0 := trivial
              obtain ⟨t1, m1⟩ := hm.setb (w' := w.setCell ⟨g, 0, none⟩ (.pointer (some ⟨g, 0, none⟩))) 0 hal (.var [.bad 0 ty, x]) hal (.inl ⟨rfl, rfl⟩)
                (fun k hk => by
                  have : k ≠ g := fun e => hk (by rw [hg, e])
                  simp only [World.setCell, Array.getElem?_modify]
                  rw [if_neg (by simpa using (Ne.symm this))])
                (by simp [World.setCell]) rfl rfl rfl
                (fun t1 => ⟨g, [.pointer (some ⟨g, 0, none⟩), xv], ty, hg, ⟨hb2, hbad⟩, ⟨.inr ⟨g, hg, rfl⟩, by simp, rfl⟩, t1.repL hx, trivial⟩)
              exact ⟨_, G0, rfl, ⟨[], rfl, trivial⟩, m1⟩
            · rw [hg] at hg2
              cases hg2
              refine (copyCheck_used g w (by rw [Lib.cell_of_heap hb]; rfl)).mono ?_
              rintro e w' ⟨rfl, rfl⟩
              exact ⟨_, G0, rfl, ⟨[], rfl, trivial⟩, hm⟩
theorem bldString_con (t : TypeId) (z : ByteArray) (h0 : 1 ≤ z.size) (h63 : z.size ≤ 9223372036854775807) :
    ConG P 63 [.var [.bad 0 t, .own 1 z.size], .arr 5 1 (byteRows z)] [.lf (.ptr 0 0)] (Sx z) [.var [.bad 0 t, .own 1 z.size], .lost 1 (byteRows z ++ [[]])] := by
  refine ⟨by kernel_rfl, fun w G0 us hm hargs => ?_⟩
  cases us with
  | nil => exact hargs.elim
  | cons v us =>
    cases us with
    | cons _ _ => exact hargs.2.elim
    | nil =>
      obtain ⟨⟨⟨g, hg, rfl⟩, _, hro⟩, _⟩ := hargs
      obtain ⟨g', cur, ty, hg', ⟨hb, hbad⟩, hf⟩ := hm.blk 0 _ rfl
      rw [hg] at hg'
      cases hg'
      have hrl : (byteRows z).length = z.size := by simp [byteRows]
      have hll : z.data.toList.length = z.size := by simp
      cases cur with
      | nil => exact hf.elim
      | cons a cur =>
        cases cur with
        | nil => exact hf.2.elim
        | cons xv cur =>
          cases cur with
          | cons _ _ => exact hf.2.2.elim
          | nil =>
            obtain ⟨_, hx, _⟩ := hf
            obtain ⟨_, sz, rows, hrows, _, hx4⟩ := hx
            have hr1 : rowsOf [Blk.var [.bad 0 t, .own 1 z.size], .arr 5 1 (byteRows z)] 1 = some (1, byteRows z) := rfl
            rw [hr1] at hrows
            cases hrows
            rcases hx4 hrl with ⟨g2, hg2, rfl⟩ | ⟨_, hz, _⟩
            · rcases hm.blk 1 _ rfl with ⟨hq, _⟩ | ⟨g3, c2, hg3, ⟨fz, h1, _⟩, h2, h3, h4, h5⟩
              · rw [hg2] at hq; cases hq
              rw [hg2] at hg3
              cases hg3
              have hcs : z.data.toList.length ≤ c2.size := by rw [hll, h3, Nat.mul_one, ← hrl]; exact h4
              refine (string_some g g2 (G0.cp 1) #[a, .slice (some ⟨g2, 0, none⟩) z.size (G0.cp 1)] c2 ty z.data.toList w (by intro e; rw [e] at hll; simp at hll; omega) (by omega) hb (by rw [hll]; rfl) h1 hcs (by rw [hll]; exact h63) (fun j x hj => ?_)).mono ?_
              · obtain ⟨_, hc⟩ := h5 j [.sc (.int .u8 x.toNat)] (by unfold byteRows; rw [List.getElem?_map, hj]; rfl)
                obtain ⟨u, hu, hru⟩ := hc 0 _ rfl
                rw [Nat.mul_one, Nat.add_zero] at hu
                have : u = .int .u8 x.toNat := by cases hru; rfl
                rw [hu, this]
              · rintro e w' ⟨rfl, rfl⟩
                have hfz : ∀ k, k ≠ g2 → (w.drew.freeze ⟨g2, 0, none⟩ z.data.toList.length).heap[k]? = w.heap[k]? := fun k hk => by
                  unfold World.freeze
                  split
                  · rfl
                  · simp only [Array.getElem?_modify]
                    rw [if_neg (by simpa using Ne.symm hk)]
                    rfl
                have hfs : (w.drew.freeze ⟨g2, 0, none⟩ z.data.toList.length).heap.size = w.heap.size := by
                  unfold World.freeze
                  split
                  · rfl
                  · show (w.drew.heap.modify _ _).size = _
                    rw [Array.size_modify]; rfl
                have hfo : (w.drew.freeze ⟨g2, 0, none⟩ z.data.toList.length).os = w.os ∧ (w.drew.freeze ⟨g2, 0, none⟩ z.data.toList.length).tape = w.tape ∧ (w.drew.freeze ⟨g2, 0, none⟩ z.data.toList.length).output = w.output := by
                  unfold World.freeze
                  split <;> exact ⟨rfl, rfl, rfl⟩
                obtain ⟨G', t1, m1⟩ := hm.lose (w' := w.drew.freeze ⟨g2, 0, none⟩ z.data.toList.length) (b := 1) rfl (fun k hk => hfz k fun e => hk (by rw [hg2, e])) hfs hfo.1 hfo.2.1 hfo.2.2
                exact ⟨_, G', rfl, RepP.sc _ rfl, m1⟩
            · omega
theorem write_con (t : TypeId) (ht : Lies t) (n k : Nat) (rows prow : List (List PV)) (hn : rows.length = n) (hk : prow.length = k) (hb : n + k ≤ 140737488355328) :
    ConG P 75 [.var [.bad 0 t, .own 1 n], .arr 5 1 rows, .arr 5 1 prow] [.lf (.ptr 0 0), .lf (.own 2 k)] (.tup [.lf (.pv (pI k)), .lf (.pv (.sc .nilIface))]) [.var [.bad 0 t, .own 1 (n + k)], .arr 5 1 (rows ++ prow), .frz 1 prow] := by
  refine ConG.of T_ok Try.func75 rfl (by kernel_rfl) (by kernel_rfl) (aw_of T_ok (by kernel_rfl) ?_)
  conv => whnf
  refine ⟨[0, 1], _, _, _, _, _, nodupB_ok rfl, rfl, rfl, wk_refl _, copyCheck_con t ht _ _, ?_⟩
  conv => whnf
  refine ⟨hk, prow, .inl rfl, ?_⟩
  conv => whnf
  refine ⟨hn, by show (n + prow.length) * 1 ≤ _; omega, ?_⟩
  conv => whnf
  refine ⟨hk, ?_⟩
  conv => whnf
  subst hk
  exact ⟨[], [0, 1, 2], _, _, rfl, rfl, rfl, wk_refl _, rfl⟩
theorem writeString_con (t : TypeId) (ht : Lies t) (n : Nat) (rows : List (List PV)) (s : ByteArray) (hn : rows.length = n) (hb : n + s.size ≤ 140737488355328) :
    ConG P 76 [.var [.bad 0 t, .own 1 n], .arr 5 1 rows] [.lf (.ptr 0 0), Sx s] (.tup [.lf (.pv (pI s.size)), .lf (.pv (.sc .nilIface))]) [.var [.bad 0 t, .own 1 (n + s.size)], .arr 5 1 (rows ++ byteRows s)] := by
  refine ConG.of T_ok Try.func76 rfl (by kernel_rfl) (by kernel_rfl) (aw_of T_ok (by kernel_rfl) ?_)
  conv => whnf
  refine ⟨[0, 1], _, _, _, _, _, nodupB_ok rfl, rfl, rfl, wk_refl _, copyCheck_con t ht _ _, ?_⟩
  conv => whnf
  refine ⟨hn, by show (n + s.size) * 1 ≤ _; omega, ?_⟩
  conv => whnf
  exact ⟨[], [0, 1], _, _, rfl, rfl, rfl, wk_refl _, rfl⟩
theorem writeByte_con (t : TypeId) (ht : Lies t) (n : Nat) (rows : List (List PV)) (c : Int) (hn : rows.length = n) (hb : n + 1 ≤ 140737488355328) :
    ConG P 101 [.var [.bad 0 t, .own 1 n], .arr 5 1 rows] [.lf (.ptr 0 0), sc (.int .u8 c)] (.lf (.pv (.sc .nilIface))) [.var [.bad 0 t, .own 1 (n + 1)], .arr 5 1 (rows ++ [[.sc (.int .u8 c)]])] := by
  refine ConG.of T_ok Try.func101 rfl (by kernel_rfl) (by kernel_rfl) (aw_of T_ok (by kernel_rfl) ?_)
  conv => whnf
  refine ⟨[0, 1], _, _, _, _, _, nodupB_ok rfl, rfl, rfl, wk_refl _, copyCheck_con t ht _ _, ?_⟩
  conv => whnf
  refine ⟨rfl, _, .inl rfl, ?_⟩
  conv => whnf
  refine ⟨hn, by show (n + 1) * 1 ≤ _; omega, ?_⟩
  conv => whnf
  exact ⟨[], [0, 1], _, _, rfl, rfl, rfl, wk_refl _, rfl⟩
end Go.Proofs.Yteebnpkoephjnaa.Rx

/- What the small functions return. -/
set_option linter.unusedVariables false
set_option linter.unusedSimpArgs false
namespace Go.Proofs.Yteebnpkoephjnaa.Rx
open Go.Rx Go.Proofs

theorem num_con (n : Int) (h : -9223372036854775808 ≤ n ∧ n ≤ 9223372036854775807) : Con P 8 [I n] (I n) [] := by
  refine Con.of T_ok Try.func8 rfl (by kernel_rfl) (by kernel_rfl) (aw_of T_ok (by kernel_rfl) ?_)
  conv => whnf
  exact retI rfl
theorem numB_con (n m : Int) : Con P 28 [I n, I m] (Bl (decide (0 ≤ n) && decide (n ≤ m))) [] := by
  refine Con.of T_ok Try.func28 rfl (by kernel_rfl) (by kernel_rfl) (aw_of T_ok (by kernel_rfl) ?_)
  conv => whnf
  split <;> rename_i h <;> conv => whnf
  · refine retB ?_; rw [show decide (0 ≤ n) = true from h]; rfl
  · refine retB ?_; rw [show decide (0 ≤ n) = false from h]; rfl
theorem between_con (n lo hi : Int) : Con P 25 [I n, I lo, I hi] (Bl (decide (lo ≤ n) && decide (n ≤ hi))) [] := by
  refine Con.of T_ok Try.func25 rfl (by kernel_rfl) (by kernel_rfl) (aw_of T_ok (by kernel_rfl) ?_)
  conv => whnf
  split <;> rename_i h <;> conv => whnf
  · refine retB ?_; rw [show decide (lo ≤ n) = true from h]; rfl
  · refine retB ?_; rw [show decide (lo ≤ n) = false from h]; rfl

theorem eqSteps_con (a b : List Step) (ha : a.length * 80 ≤ 140737488351232) : Con P 34 [.lf (.pv (encSteps a)), .lf (.pv (encSteps b))] (Bl (decide (a = b))) [] := by
  refine Con.of T_ok Try.func34 rfl (by kernel_rfl) (by kernel_rfl) (aw_of T_ok (by kernel_rfl) ?_)
  conv => whnf
  split <;> rename_i h <;> conv => whnf
  · refine retB ?_
    symm
    rw [decide_eq_false_iff_not]
    rintro rfl
    simp at h
  · have hl : a.length = b.length := by simp at h; omega
    refine AW.loop (fun k : Nat => k ≤ a.length ∧ ∀ j, j < k → a[j]? = b[j]?) (fun k => [(0, .lf (.pv (encSteps a))), (1, .lf (.pv (encSteps b))), (5, Go.Rx.I k)]) (fun _ => []) (fun k => a.length - k) [] ?_ ?_
    · exact ⟨0, ⟨Nat.zero_le _, fun j hj => absurd hj (Nat.not_lt_zero _)⟩, ⟨rfl, rfl, rfl, trivial⟩, ⟨[], rfl⟩, rfl, rfl⟩
    · rintro k ⟨hk, hpre⟩
      refine aw_of T_ok (by kernel_rfl) ?_
      conv => whnf
      split <;> rename_i hlt <;> conv => whnf
      · have hka : k < a.length := by simp at hlt; omega
        have hkb : k < b.length := by omega
        refine AW.draw T_ok rfl (seqPl 0 9) (by kernel_rfl) (by kernel_rfl) ?_
        conv => whnf
        refine ⟨by omega, (a[k]).enc, by simp [hka], ?_⟩
        conv => whnf
        refine ⟨by omega, (b[k]).enc, by simp [hkb], ?_⟩
        conv => whnf
        split <;> rename_i hne <;> conv => whnf
        · refine retB ?_
          symm
          rw [decide_eq_false_iff_not]
          rintro rfl
          have h2 : (!(decide (a[k] = a[k]))) = true := by rw [← stepEq]; exact hne
          simp at h2
        · have he : a[k] = b[k] := by
            have h2 : (!(decide (a[k] = b[k]))) = false := by rw [← stepEq]; exact hne
            simpa using h2
          refine ⟨k + 1, ⟨⟨by omega, fun j hj => ?_⟩, by omega⟩, ⟨rfl, rfl, ?_, trivial⟩, ⟨[], rfl⟩, rfl, rfl⟩
          · by_cases e : j = k
            · subst e; rw [List.getElem?_eq_getElem hka, List.getElem?_eq_getElem hkb, he]
            · exact hpre j (by omega)
          · exact congrArg Go.Rx.I (wrapI (by omega))
      · refine retB ?_
        symm
        rw [decide_eq_true_eq]
        have hka : k = a.length := by simp at hlt; omega
        apply List.ext_getElem?
        intro j
        rcases Nat.lt_or_ge j k with hj | hj
        · exact hpre j hj
        · rw [List.getElem?_eq_none (by omega), List.getElem?_eq_none (by omega)]

end Go.Proofs.Yteebnpkoephjnaa.Rx

/- Sagas and records: the same, copied, begun, ended. -/
set_option linter.unusedVariables false
set_option linter.unusedSimpArgs false
namespace Go.Proofs.Yteebnpkoephjnaa.Rx
open Go.Rx Go.Proofs

theorem eqSlices_con (a b : List Step) (ha : a.length * 80 ≤ 140737488351232) : Con P 65 [.lf (.pv (encSteps a)), .lf (.pv (encSteps b))] (Bl (decide (a = b))) [] := by
  refine Con.of T_ok Try.func65 rfl (by kernel_rfl) (by kernel_rfl) (aw_of T_ok (by kernel_rfl) ?_)
  conv => whnf
  split <;> rename_i h <;> conv => whnf
  · refine retB ?_
    symm
    rw [decide_eq_false_iff_not]
    rintro rfl
    simp at h
  · have hl : a.length = b.length := by simp at h; omega
    refine AW.loop (fun k : Nat => k ≤ a.length ∧ ∀ j, j < k → a[j]? = b[j]?) (fun k => [(0, .lf (.pv (encSteps a))), (1, .lf (.pv (encSteps b))), (12, Go.Rx.I a.length), (13, Go.Rx.I k)]) (fun _ => []) (fun k => a.length - k) [] ?_ ?_
    · exact ⟨0, ⟨Nat.zero_le _, fun j hj => absurd hj (Nat.not_lt_zero _)⟩, ⟨rfl, rfl, congrArg (fun n : Nat => Go.Rx.I (n : Int)) (List.length_map ..), rfl, trivial⟩, ⟨[], rfl⟩, rfl, rfl⟩
    · rintro k ⟨hk, hpre⟩
      refine aw_of T_ok (by kernel_rfl) ?_
      conv => whnf
      split <;> rename_i hlt <;> conv => whnf
      · have hka : k < a.length := by simp at hlt; omega
        have hkb : k < b.length := by omega
        refine AW.draw T_ok rfl (seqPl 0 9) (by kernel_rfl) (by kernel_rfl) ?_
        conv => whnf
        refine ⟨by omega, (a[k]).enc, by simp [hka], ?_⟩
        conv => whnf
        refine ⟨by omega, (b[k]).enc, by simp [hkb], ?_⟩
        conv => whnf
        split <;> rename_i hne <;> conv => whnf
        · refine retB ?_
          symm
          rw [decide_eq_false_iff_not]
          rintro rfl
          have h2 : (!(decide (a[k] = a[k]))) = true := by rw [← stepEq]; exact hne
          simp at h2
        · have he : a[k] = b[k] := by
            have h2 : (!(decide (a[k] = b[k]))) = false := by rw [← stepEq]; exact hne
            simpa using h2
          refine ⟨k + 1, ⟨⟨by omega, fun j hj => ?_⟩, by omega⟩, ⟨rfl, rfl, rfl, congrArg Go.Rx.I (wrapI (by omega)), trivial⟩, ⟨[], rfl⟩, rfl, rfl⟩
          by_cases e : j = k
          · subst e; rw [List.getElem?_eq_getElem hka, List.getElem?_eq_getElem hkb, he]
          · exact hpre j (by omega)
      · refine retB ?_
        symm
        rw [decide_eq_true_eq]
        have hka : k = a.length := by simp at hlt; omega
        apply List.ext_getElem?
        intro j
        rcases Nat.lt_or_ge j k with hj | hj
        · exact hpre j hj
        · rw [List.getElem?_eq_none (by omega), List.getElem?_eq_none (by omega)]

theorem eqRec_con (a b : Rec) (ha : a.steps.length * 80 ≤ 140737488351232) : Con P 19 [encRec a, encRec b] (Bl (decide (a = b))) [] := by
  refine Con.of T_ok Try.func19 rfl (by kernel_rfl) (by kernel_rfl) (aw_of T_ok (by kernel_rfl) ?_)
  conv => whnf
  repeat' first | refine finB ?_ | (refine callS (eqSteps_con _ _ ha) rfl ?_; conv => whnf) | (split <;> conv => whnf)
  all_goals (refine ⟨?_⟩; rw [recEq]; simp [*])
theorem same_con (a b : Rec) (ha : a.steps.length * 80 ≤ 140737488351232) : Con P 50 [encRec a, encRec b] (Bl (decide (a = b))) [] := by
  refine Con.of T_ok Try.func50 rfl (by kernel_rfl) (by kernel_rfl) (aw_of T_ok (by kernel_rfl) ?_)
  conv => whnf
  repeat' first | refine finB ?_ | (refine callS (eqSlices_con _ _ ha) rfl ?_; conv => whnf) | (split <;> conv => whnf)
  all_goals (refine ⟨?_⟩; rw [recEq]; simp [*])
theorem bare_con (r : Rec) : Con P 51 [encRec r] (encRec ⟨r.kind, r.id, r.n, ⟨#[]⟩, ⟨#[]⟩, []⟩) [] := by
  refine Con.of T_ok Try.func51 rfl (by kernel_rfl) (by kernel_rfl) (aw_of T_ok (by kernel_rfl) ?_)
  conv => whnf
  refine ⟨[encRec ⟨r.kind, r.id, r.n, ⟨#[]⟩, ⟨#[]⟩, []⟩], ⟨.inr (.inr ⟨_, _, rfl, rfl, wkE _, wkE _, wkE _, wkE _, wkE _, wkN 6, trivial⟩), trivial⟩, rfl⟩
end Go.Proofs.Yteebnpkoephjnaa.Rx

/- How much the input is: a number, whatever it is. -/
set_option linter.unusedVariables false
set_option linter.unusedSimpArgs false
namespace Go.Rx
/-- A sum that stops where it is great. -/
def capSum : List Int → Int → Int
  | [], n => n
  | x :: l, n => if n < 1048576 then capSum l (IntKind.i64.wrap (n + x)) else n
theorem capSum_go {l : List Int} {k : Nat} {n : Int} (h : k < l.length) (hn : n < 1048576) : capSum (l.drop k) n = capSum (l.drop (k + 1)) (IntKind.i64.wrap (n + l[k])) := by
  rw [List.drop_eq_getElem_cons h, capSum, if_pos hn]
theorem capSum_stop {l : List Int} {n : Int} (hn : ¬ n < 1048576) : capSum l n = n := by
  cases l with
  | nil => rfl
  | cons x l => rw [capSum, if_neg hn]
abbrev okS (s : ByteArray) : Prop := s.size ≤ 140737488351232
structure Step.Ok (s : Step) : Prop where
  nm : okS s.nm
  op : okS s.op
  undo : okS s.undo
  who : okS s.who
def Step.w (s : Step) : Int := IntKind.i64.wrap (IntKind.i64.wrap (IntKind.i64.wrap ((s.nm.size : Int) + s.op.size) + s.undo.size) + s.who.size) / 8
def stepsW (l : List Step) : Int := capSum (l.map Step.w) l.length
def sumW (a b : ByteArray) : Int := IntKind.i64.wrap ((a.size : Int) + b.size) / 64
theorem Step.sum_eq {s : Step} (h : s.Ok) : IntKind.i64.wrap (IntKind.i64.wrap (IntKind.i64.wrap ((s.nm.size : Int) + s.op.size) + s.undo.size) + s.who.size) = s.nm.size + s.op.size + s.undo.size + s.who.size := by
  have := h.nm; have := h.op; have := h.undo; have := h.who
  simp only [okS] at *
  rw [wrapI (n := (s.nm.size : Int) + s.op.size) (by omega), wrapI (n := (s.nm.size : Int) + s.op.size + s.undo.size) (by omega), wrapI (by omega)]
abbrev encStrs (l : List ByteArray) : PV := .sl 1 (l.map fun s => [pS s])
abbrev encInts (l : List Int) : PV := .sl 1 (l.map fun n => [pI n])
abbrev encSagas (l : List Saga) : PV := .sl 9 (l.map Saga.enc)
abbrev encRecs (l : List Rec) : PV := .sl 6 (l.map Rec.enc)
def textsW (l : List ByteArray) : Int := capSum (l.map fun s => (s.size : Int)) l.length
def recW (r : Rec) : Int := IntKind.i64.wrap (IntKind.i64.wrap (1 + sumW r.key r.body) + stepsW r.steps)
def sagaW (s : Saga) : Int := IntKind.i64.wrap (IntKind.i64.wrap (1 + sumW s.key s.body) + stepsW s.steps)
structure StepsOk (l : List Step) : Prop where
  len : l.length * 80 ≤ 140737488351232
  each : ∀ x ∈ l, x.Ok
structure Rec.Ok (r : Rec) : Prop where
  key : okS r.key
  body : okS r.body
  steps : StepsOk r.steps
structure Saga.Ok (s : Saga) : Prop where
  key : okS s.key
  body : okS s.body
  steps : StepsOk s.steps
def heavy2B (S : List ByteArray) (N : List Int) : Bool := decide (7000 < IntKind.i64.wrap (textsW S + (N.map fun n => [pI n]).length))
def heavy11B (R : List Rec) (S : List ByteArray) (N : List Int) : Bool := decide (400 < capSum (R.map recW) R.length) || heavy2B S N
end Go.Rx
namespace Go.Proofs.Yteebnpkoephjnaa.Rx
open Go.Rx Go.Proofs

theorem texts_con (l : List ByteArray) (hl : l.length * 16 ≤ 140737488351232) : Con P 49 [.lf (.pv (encStrs l))] (I (textsW l)) [] := by
  refine Con.of T_ok Try.func49 rfl (by kernel_rfl) (by kernel_rfl) (aw_of T_ok (by kernel_rfl) ?_)
  conv => whnf
  refine AW.loop (fun p : Nat × Int => p.1 ≤ l.length ∧ capSum ((l.map fun s => (s.size : Int)).drop p.1) p.2 = textsW l) (fun p => [(0, .lf (.pv (encStrs l))), (3, Go.Rx.I p.2), (4, Go.Rx.I p.1)]) (fun _ => []) (fun p => l.length - p.1) [] ?_ ?_
  · exact ⟨(0, l.length), ⟨Nat.zero_le _, rfl⟩, ⟨rfl, congrArg (fun n : Nat => Go.Rx.I (n : Int)) (List.length_map ..), rfl, trivial⟩, ⟨[], rfl⟩, rfl, rfl⟩
  · rintro ⟨k, n⟩ ⟨hk, hsum⟩
    refine aw_of T_ok (by kernel_rfl) ?_
    conv => whnf
    split <;> rename_i hlt <;> conv => whnf
    · have hkl : k < l.length := by simp at hlt; omega
      split <;> rename_i hn <;> conv => whnf
      · refine ⟨by omega, [pS l[k]], by simp [hkl], ?_⟩
        conv => whnf
        have hn' : n < 1048576 := of_decide_eq_true hn
        refine ⟨(k + 1, IntKind.i64.wrap (n + l[k].size)), ⟨⟨by show k + 1 ≤ _; omega, ?_⟩, by show _ - (k + 1) < _; omega⟩, ⟨rfl, rfl, congrArg Go.Rx.I (wrapI (by omega)), trivial⟩, ⟨[], rfl⟩, rfl, rfl⟩
        rw [← hsum]
        have h3 := capSum_go (l := l.map fun s => (s.size : Int)) (k := k) (by simpa using hkl) hn'
        rw [List.getElem_map] at h3
        exact h3.symm
      · refine finI ⟨?_⟩
        rw [← hsum, capSum_stop (of_decide_eq_false hn)]
    · refine finI ⟨?_⟩
      have hkl : k = l.length := by simp at hlt; omega
      rw [← hsum, hkl, List.drop_of_length_le (by simp)]
      rfl

theorem stepsWeight_con (l : List Step) (hl : StepsOk l) : Con P 48 [.lf (.pv (encSteps l))] (I (stepsW l)) [] := by
  refine Con.of T_ok Try.func48 rfl (by kernel_rfl) (by kernel_rfl) (aw_of T_ok (by kernel_rfl) ?_)
  conv => whnf
  have hlen := hl.len
  refine AW.loop (fun p : Nat × Int => p.1 ≤ l.length ∧ capSum ((l.map Step.w).drop p.1) p.2 = stepsW l) (fun p => [(0, .lf (.pv (encSteps l))), (3, Go.Rx.I p.2), (4, Go.Rx.I p.1)]) (fun _ => []) (fun p => l.length - p.1) [] ?_ ?_
  · exact ⟨(0, l.length), ⟨Nat.zero_le _, rfl⟩, ⟨rfl, congrArg (fun n : Nat => Go.Rx.I (n : Int)) (List.length_map ..), rfl, trivial⟩, ⟨[], rfl⟩, rfl, rfl⟩
  · rintro ⟨k, n⟩ ⟨hk, hsum⟩
    refine aw_of T_ok (by kernel_rfl) ?_
    conv => whnf
    split <;> rename_i hlt <;> conv => whnf
    · have hkl : k < l.length := by simp at hlt; omega
      have hok := hl.each _ (List.getElem_mem hkl)
      split <;> rename_i hn <;> conv => whnf
      · have hn' : n < 1048576 := of_decide_eq_true hn
        refine AW.draw T_ok rfl (seqPl 0 31) (by kernel_rfl) (by kernel_rfl) ?_
        conv => whnf
        refine ⟨by omega, (l[k]).enc, by simp [hkl], ?_⟩
        conv => whnf
        refine ⟨by omega, (l[k]).enc, by simp [hkl], ?_⟩
        conv => whnf
        refine ⟨by omega, (l[k]).enc, by simp [hkl], ?_⟩
        conv => whnf
        refine ⟨by omega, (l[k]).enc, by simp [hkl], ?_⟩
        conv => whnf
        have h4 := Step.sum_eq hok
        have h5 : (l[k].nm.size : Int) + l[k].op.size + l[k].undo.size + l[k].who.size ≤ 9223372036854775807 := by
          have := hok.nm; have := hok.op; have := hok.undo; have := hok.who
          simp only [okS] at *
          omega
        refine ⟨by show 0 ≤ IntKind.i64.wrap (IntKind.i64.wrap (IntKind.i64.wrap ((l[k].nm.size : Int) + l[k].op.size) + l[k].undo.size) + l[k].who.size); rw [h4]; omega, by decide, by show IntKind.i64.wrap (IntKind.i64.wrap (IntKind.i64.wrap ((l[k].nm.size : Int) + l[k].op.size) + l[k].undo.size) + l[k].who.size) ≤ _; rw [h4]; exact h5, ?_⟩
        conv => whnf
        refine ⟨(k + 1, IntKind.i64.wrap (n + l[k].w)), ⟨⟨by show k + 1 ≤ _; omega, ?_⟩, by show _ - (k + 1) < _; omega⟩, ⟨rfl, rfl, congrArg Go.Rx.I (wrapI (by omega)), trivial⟩, ⟨[], rfl⟩, rfl, rfl⟩
        rw [← hsum]
        have h3 := capSum_go (l := l.map Step.w) (k := k) (by simpa using hkl) hn'
        rw [List.getElem_map] at h3
        exact h3.symm
      · refine finI ⟨?_⟩
        rw [← hsum, capSum_stop (of_decide_eq_false hn)]
    · refine finI ⟨?_⟩
      have hkl : k = l.length := by simp at hlt; omega
      rw [← hsum, hkl, List.drop_of_length_le (by simp)]
      rfl
theorem recW_con (r : Rec) (h : r.Ok) : Con P 32 [encRec r] (I (recW r)) [] := by
  refine Con.of T_ok Try.func32 rfl (by kernel_rfl) (by kernel_rfl) (aw_of T_ok (by kernel_rfl) ?_)
  conv => whnf
  refine AW.draw T_ok rfl (seqPl 0 14) (by kernel_rfl) (by kernel_rfl) ?_
  conv => whnf
  have h1 := h.key
  have h2 := h.body
  have h3 : IntKind.i64.wrap ((r.key.size : Int) + r.body.size) = r.key.size + r.body.size := wrapI (by simp only [okS] at *; omega)
  refine ⟨by show 0 ≤ IntKind.i64.wrap ((r.key.size : Int) + r.body.size); rw [h3]; omega, by decide, by show IntKind.i64.wrap ((r.key.size : Int) + r.body.size) ≤ _; rw [h3]; simp only [okS] at *; omega, ?_⟩
  conv => whnf
  refine callS (stepsWeight_con _ h.steps) rfl ?_
  conv => whnf
  exact finI ⟨rfl⟩
theorem heavy2V_con (S : List ByteArray) (N : List Int) (hS : S.length * 16 ≤ 140737488351232) : Con P 33 [.agg [.pv (encStrs S), .pv (encInts N)]] (Bl (heavy2B S N)) [] := by
  refine Con.of T_ok Try.func33 rfl (by kernel_rfl) (by kernel_rfl) (aw_of T_ok (by kernel_rfl) ?_)
  conv => whnf
  refine AW.draw T_ok rfl (listPl [0, 1, 3, 4, 5, 2, 6, 7, 8]) (by kernel_rfl) (by kernel_rfl) ?_
  conv => whnf
  refine callS (texts_con _ hS) rfl ?_
  conv => whnf
  exact finB ⟨rfl⟩
theorem heavy2_con (S : List ByteArray) (N : List Int) (hS : S.length * 16 ≤ 140737488351232) : ∃ b, Con P 33 [.agg [.pv (encStrs S), .pv (encInts N)]] (Bl b) [] := ⟨_, heavy2V_con S N hS⟩
theorem heavy11V_con (R : List Rec) (S : List ByteArray) (N : List Int) (hR : R.length * 80 ≤ 140737488351232) (hRs : ∀ r ∈ R, r.Ok) (hS : S.length * 16 ≤ 140737488351232) : Con P 18 [.agg [.pv (encRecs R), .pv (encStrs S), .pv (encInts N)]] (Bl (heavy11B R S N)) [] := by
  have hb2 := heavy2V_con S N hS
  have hB : heavy11B R S N = (decide (400 < capSum (R.map recW) R.length) || heavy2B S N) := rfl
  rw [hB]
  generalize heavy2B S N = b2 at hb2
  refine Con.of T_ok Try.func18 rfl (by kernel_rfl) (by kernel_rfl) (aw_of T_ok (by kernel_rfl) ?_)
  conv => whnf
  refine AW.loop (fun p : Nat × Int => p.1 ≤ R.length ∧ capSum ((R.map recW).drop p.1) p.2 = capSum (R.map recW) R.length) (fun p => [(1, .lf (.ptr 0 0)), (3, Go.Rx.I p.2), (4, Go.Rx.I p.1)]) (fun _ => [.var [.pv (encRecs R), .pv (encStrs S), .pv (encInts N)]]) (fun p => R.length - p.1) [] ?_ ?_
  · exact ⟨(0, R.length), ⟨Nat.zero_le _, rfl⟩, ⟨rfl, congrArg (fun n : Nat => Go.Rx.I (n : Int)) (List.length_map ..), rfl, trivial⟩, ⟨[], rfl⟩, rfl, rfl⟩
  · rintro ⟨k, n⟩ ⟨hk, hsum⟩
    refine aw_of T_ok (by kernel_rfl) ?_
    conv => whnf
    have fin : ∀ m, m = capSum (R.map recW) R.length → (decide (400 < m) || b2) = (decide (400 < capSum (R.map recW) R.length) || b2) := fun m h => by rw [h]
    split <;> rename_i hlt <;> conv => whnf
    · have hkl : k < R.length := by simp at hlt; omega
      split <;> rename_i hn <;> conv => whnf
      · refine ⟨by omega, (R[k]).enc, by simp [hkl], ?_⟩
        conv => whnf
        refine callS (recW_con _ (hRs _ (List.getElem_mem hkl))) rfl ?_
        conv => whnf
        have hn' : n < 1048576 := of_decide_eq_true hn
        refine ⟨(k + 1, IntKind.i64.wrap (n + recW R[k])), ⟨⟨by show k + 1 ≤ _; omega, ?_⟩, by show _ - (k + 1) < _; omega⟩, ⟨rfl, rfl, congrArg Go.Rx.I (wrapI (by omega)), trivial⟩, ⟨[], rfl⟩, rfl, rfl⟩
        rw [← hsum]
        have h3 := capSum_go (l := R.map recW) (k := k) (by simpa using hkl) hn'
        rw [List.getElem_map] at h3
        exact h3.symm
      · have hm : n = capSum (R.map recW) R.length := by rw [← hsum, capSum_stop (of_decide_eq_false hn)]
        split <;> rename_i h4 <;> conv => whnf
        · refine finB ⟨?_⟩
          rw [← fin n hm, show decide (400 < n) = true from h4]; rfl
        · refine callS hb2 rfl ?_
          conv => whnf
          refine finB ⟨?_⟩
          rw [← fin n hm, show decide (400 < n) = false from h4]; rfl
    · have hkl : k = R.length := by simp at hlt; omega
      have hm : n = capSum (R.map recW) R.length := by rw [← hsum, hkl, List.drop_of_length_le (by simp)]; rfl
      split <;> rename_i h4 <;> conv => whnf
      · refine finB ⟨?_⟩
        rw [← fin n hm, show decide (400 < n) = true from h4]; rfl
      · refine callS hb2 rfl ?_
        conv => whnf
        refine finB ⟨?_⟩
        rw [← fin n hm, show decide (400 < n) = false from h4]; rfl
theorem heavy11_con (R : List Rec) (S : List ByteArray) (N : List Int) (hR : R.length * 80 ≤ 140737488351232) (hRs : ∀ r ∈ R, r.Ok) (hS : S.length * 16 ≤ 140737488351232) : ∃ b, Con P 18 [.agg [.pv (encRecs R), .pv (encStrs S), .pv (encInts N)]] (Bl b) [] := ⟨_, heavy11V_con R S N hR hRs hS⟩
structure AskOk (R : List Rec) (S : List ByteArray) (N : List Int) (G : List Saga) : Prop where
  hR : R.length * 80 ≤ 140737488351232
  hRs : ∀ r ∈ R, r.Ok
  hS : S.length * 16 ≤ 140737488351232
  hG : G.length * 96 ≤ 140737488351232
  hGs : ∀ s ∈ G, s.Ok
end Go.Proofs.Yteebnpkoephjnaa.Rx

/- Bytes, short texts, numbers, services and their ops. -/
set_option linter.unusedVariables false
set_option linter.unusedSimpArgs false
namespace Go.Rx
abbrev U8 (n : Int) : AV := sc (.int .u8 n)
abbrev pU8 (n : Int) : PV := .sc (.int .u8 n)
def letN (n : Int) : Bool := (decide (97 ≤ n) && decide (n ≤ 122)) || (decide (65 ≤ n) && decide (n ≤ 90)) || (n == 95)
def digN (n : Int) : Bool := decide (48 ≤ n) && decide (n ≤ 57)
/-- Is a byte one that a text may have? Are all? -/
def okB (c : UInt8) : Bool := !(decide ((c.toNat : Int) < 32) || decide (126 < (c.toNat : Int)))
def plainB (s : ByteArray) : Bool := s.data.toList.all okB
def shortB (s : ByteArray) : Bool := plainB s && decide (s.size ≤ 40)
theorem atB {s : ByteArray} {k : Nat} (h : k < s.size) : s[k]? = some s[k] := by simp [h]
theorem plain_go {s : ByteArray} {k : Nat} (h : k < s.size) : (s.data.toList.drop k).all okB = (okB s[k] && (s.data.toList.drop (k + 1)).all okB) := by
  rw [List.drop_eq_getElem_cons (by simpa using h), List.all_cons]
  rfl
theorem plain_end {s : ByteArray} {k : Nat} (h : s.size ≤ k) : (s.data.toList.drop k).all okB = true := by
  rw [List.drop_of_length_le (by simpa using h)]; rfl
end Go.Rx
namespace Go.Proofs.Yteebnpkoephjnaa.Rx
open Go.Rx Go.Proofs

theorem letter2_con (n : Int) : Con P 56 [U8 n] (Bl (letN n)) [] := by
  refine Con.of T_ok Try.func56 rfl (by kernel_rfl) (by kernel_rfl) (aw_of T_ok (by kernel_rfl) ?_)
  conv => whnf
  repeat' first | refine finB ?_ | (split <;> conv => whnf)
  all_goals (refine ⟨?_⟩; simp_all [letN] <;> omega)
theorem digit2_con (n : Int) : Con P 84 [U8 n] (Bl (digN n)) [] := by
  refine Con.of T_ok Try.func84 rfl (by kernel_rfl) (by kernel_rfl) (aw_of T_ok (by kernel_rfl) ?_)
  conv => whnf
  repeat' first | refine finB ?_ | (split <;> conv => whnf)
  all_goals (refine ⟨?_⟩; simp_all [digN] <;> omega)
theorem letter_con (n : Int) : Con P 80 [U8 n] (Bl (letN n)) [] := by
  refine Con.of T_ok Try.func80 rfl (by kernel_rfl) (by kernel_rfl) (aw_of T_ok (by kernel_rfl) ?_)
  conv => whnf
  repeat' first | refine finB ?_ | (split <;> conv => whnf)
  all_goals (refine ⟨?_⟩; simp_all [letN] <;> omega)
theorem digit_con (n : Int) : Con P 95 [U8 n] (Bl (digN n)) [] := by
  refine Con.of T_ok Try.func95 rfl (by kernel_rfl) (by kernel_rfl) (aw_of T_ok (by kernel_rfl) ?_)
  conv => whnf
  repeat' first | refine finB ?_ | (split <;> conv => whnf)
  all_goals (refine ⟨?_⟩; simp_all [digN] <;> omega)
theorem digit1_con (n : Int) : Con P 100 [U8 n] (Bl (digN n)) [] := by
  refine Con.of T_ok Try.func100 rfl (by kernel_rfl) (by kernel_rfl) (aw_of T_ok (by kernel_rfl) ?_)
  conv => whnf
  repeat' first | refine finB ?_ | (split <;> conv => whnf)
  all_goals (refine ⟨?_⟩; simp_all [digN] <;> omega)
theorem isNum_con (n : Int) : Con P 72 [I n] (Bl (decide (-1073741824 ≤ n) && decide (n ≤ 1073741824))) [] := by
  refine Con.of T_ok Try.func72 rfl (by kernel_rfl) (by kernel_rfl) (aw_of T_ok (by kernel_rfl) ?_)
  conv => whnf
  repeat' first | refine finB ?_ | (split <;> conv => whnf)
  all_goals (refine ⟨?_⟩; simp_all <;> omega)
theorem isService_con (n : Int) : Con P 70 [I n] (Bl (decide (1 ≤ n) && decide (n ≤ 4))) [] := by
  refine Con.of T_ok Try.func70 rfl (by kernel_rfl) (by kernel_rfl) (aw_of T_ok (by kernel_rfl) ?_)
  conv => whnf
  repeat' first | refine finB ?_ | (split <;> conv => whnf)
  all_goals (refine ⟨?_⟩; simp_all <;> omega)
theorem string_con (s : ByteArray) (hs : okS s) : Con P 38 [Sx s] (Bl (plainB s && decide (s.size ≤ 3000))) [] := by
  simp only [okS] at hs
  refine Con.of T_ok Try.func38 rfl (by kernel_rfl) (by kernel_rfl) (aw_of T_ok (by kernel_rfl) ?_)
  conv => whnf
  refine AW.loop (fun k : Nat => k ≤ s.size ∧ k ≤ 3001 ∧ plainB s = (s.data.toList.drop k).all okB) (fun k => [(0, Sx s), (3, Go.Rx.I k)]) (fun _ => []) (fun k => s.size - k) [] ?_ ?_
  · exact ⟨0, ⟨Nat.zero_le _, by omega, rfl⟩, ⟨rfl, rfl, trivial⟩, ⟨[], rfl⟩, rfl, rfl⟩
  · rintro k ⟨hk, hk2, hpre⟩
    refine aw_of T_ok (by kernel_rfl) ?_
    conv => whnf
    split <;> rename_i hlt <;> conv => whnf
    · have hks : k < s.size := by simpa using hlt
      split <;> rename_i h3 <;> conv => whnf
      · have h3' : k ≤ 3000 := by simp at h3; omega
        refine ⟨by omega, s[k], atB hks, ?_⟩
        conv => whnf
        rw [plain_go hks] at hpre
        split <;> rename_i h4 <;> conv => whnf
        · refine finB ⟨?_⟩
          rw [hpre, okB, show decide ((s[k].toNat : Int) < 32) = true from h4]; rfl
        · refine ⟨by omega, s[k], atB hks, ?_⟩
          conv => whnf
          split <;> rename_i h5 <;> conv => whnf
          · refine finB ⟨?_⟩
            rw [hpre, okB, show decide (126 < (s[k].toNat : Int)) = true from h5, Bool.or_true]; rfl
          · refine ⟨k + 1, ⟨⟨by omega, by omega, ?_⟩, by omega⟩, ⟨rfl, congrArg Go.Rx.I (wrapI (by omega)), trivial⟩, ⟨[], rfl⟩, rfl, rfl⟩
            rw [hpre, okB, show decide ((s[k].toNat : Int) < 32) = false from h4, show decide (126 < (s[k].toNat : Int)) = false from h5]; rfl
      · refine finB ⟨?_⟩
        have h3' : ¬ k ≤ 3000 := by simp at h3; omega
        rw [decide_eq_false (by omega), decide_eq_false (by omega), Bool.and_false]
    · refine finB ⟨?_⟩
      have hks : s.size ≤ k := by simpa using hlt
      rw [hpre, plain_end hks, Bool.true_and]
      exact decide_eq_decide.2 (by omega)
theorem short1_con (s : ByteArray) (hs : okS s) : Con P 26 [Sx s] (Bl (shortB s)) [] := by
  refine Con.of T_ok Try.func26 rfl (by kernel_rfl) (by kernel_rfl) (aw_of T_ok (by kernel_rfl) ?_)
  conv => whnf
  refine callS (string_con s hs) rfl ?_
  conv => whnf
  split <;> rename_i h <;> conv => whnf
  · refine finB ⟨?_⟩
    simp only [Bool.and_eq_true, decide_eq_true_eq] at h
    rw [shortB, h.1, Bool.true_and]
    exact decide_eq_decide.2 (by omega)
  · refine finB ⟨?_⟩
    rw [shortB]
    cases hp : plainB s with
    | false => rfl
    | true =>
      rw [hp, Bool.true_and] at h
      simp at h
      simp
      omega
end Go.Proofs.Yteebnpkoephjnaa.Rx

/- Ops and their pairs; is a text, or a step, among others? -/
set_option linter.unusedVariables false
set_option linter.unusedSimpArgs false
namespace Go.Rx
def idxL {α : Type} (p : α → Bool) : List α → Nat → Int
  | [], _ => -1
  | y :: l, k => if p y then k else idxL p l (k + 1)
theorem idx_go {α : Type} {p : α → Bool} {l : List α} {k : Nat} (h : k < l.length) : idxL p (l.drop k) k = if p l[k] then (k : Int) else idxL p (l.drop (k + 1)) (k + 1) := by
  rw [List.drop_eq_getElem_cons h, idxL]
theorem idx_end {α : Type} {p : α → Bool} {l : List α} {k : Nat} (h : l.length ≤ k) : idxL p (l.drop k) k = -1 := by
  rw [List.drop_of_length_le h, idxL]
theorem idx_any {α : Type} {p : α → Bool} : ∀ (l : List α) (k : Nat), decide (0 ≤ idxL p l k) = l.any p
  | [], _ => rfl
  | y :: l, k => by
    rw [idxL, List.any_cons]
    cases hp : p y with
    | true => simp
    | false => simpa using idx_any l (k + 1)
abbrev encStep (s : Step) : AV := .agg [.pv (pS s.nm), .pv (pI s.service), .pv (pS s.op), .pv (pS s.undo), .pv (pS s.who), .pv (pI s.n)]
def opsS (n : Int) : List ByteArray :=
  if n = 1 then [⟨#[99, 114, 101, 100, 105, 116]⟩, ⟨#[100, 101, 98, 105, 116]⟩] else if n = 2 then [⟨#[112, 117, 116]⟩, ⟨#[116, 97, 107, 101]⟩]
  else if n = 3 then [⟨#[98, 111, 111, 107]⟩, ⟨#[99, 97, 110, 99, 101, 108]⟩] else if n = 4 then [⟨#[115, 101, 110, 100]⟩, ⟨#[114, 101, 99, 97, 108, 108]⟩] else []
def pairB (n : Int) (d u : ByteArray) : Bool := (opsS n).any (d == ·) && (opsS n).any (u == ·) && !(d == u)
end Go.Rx
namespace Go.Proofs.Yteebnpkoephjnaa.Rx
open Go.Rx Go.Proofs

theorem index_con (l : List ByteArray) (x : ByteArray) (hl : l.length * 16 ≤ 140737488351232) : Con P 90 [.lf (.pv (encStrs l)), Sx x] (I (idxL (x == ·) l 0)) [] := by
  refine Con.of T_ok Try.func90 rfl (by kernel_rfl) (by kernel_rfl) (aw_of T_ok (by kernel_rfl) ?_)
  conv => whnf
  refine AW.loop (fun k : Nat => k ≤ l.length ∧ idxL (x == ·) (l.drop k) k = idxL (x == ·) l 0) (fun k => [(0, .lf (.pv (encStrs l))), (1, Sx x), (7, Go.Rx.I l.length), (8, Go.Rx.I k)]) (fun _ => []) (fun k => l.length - k) [] ?_ ?_
  · exact ⟨0, ⟨Nat.zero_le _, rfl⟩, ⟨rfl, rfl, congrArg (fun n : Nat => Go.Rx.I (n : Int)) (List.length_map ..), rfl, trivial⟩, ⟨[], rfl⟩, rfl, rfl⟩
  · rintro k ⟨hk, hpre⟩
    refine aw_of T_ok (by kernel_rfl) ?_
    conv => whnf
    split <;> rename_i hlt <;> conv => whnf
    · have hkl : k < l.length := by simpa using hlt
      rw [idx_go hkl] at hpre
      refine ⟨by omega, [pS l[k]], by simp [hkl], ?_⟩
      conv => whnf
      split <;> rename_i he <;> conv => whnf
      · refine finI ⟨?_⟩
        rw [← hpre, if_pos (show (x == l[k]) = true from he)]
      · refine ⟨k + 1, ⟨⟨by omega, ?_⟩, by omega⟩, ⟨rfl, rfl, rfl, congrArg Go.Rx.I (wrapI (by omega)), trivial⟩, ⟨[], rfl⟩, rfl, rfl⟩
        rw [← hpre, if_neg (by rw [show (x == l[k]) = false from he]; decide)]
    · refine finI ⟨?_⟩
      have hkl : l.length ≤ k := by simpa using hlt
      rw [← hpre, idx_end hkl]
theorem contains_con (l : List ByteArray) (x : ByteArray) (hl : l.length * 16 ≤ 140737488351232) : Con P 83 [.lf (.pv (encStrs l)), Sx x] (Bl (l.any (x == ·))) [] := by
  refine Con.of T_ok Try.func83 rfl (by kernel_rfl) (by kernel_rfl) (aw_of T_ok (by kernel_rfl) ?_)
  conv => whnf
  refine callS (index_con l x hl) rfl ?_
  conv => whnf
  exact finB ⟨idx_any l 0⟩
theorem may1_con (s x : Step) : Con P 69 [encStep s, .lf (.ro x.enc)] (Bl (s.nm == x.nm)) [] := by
  refine Con.of T_ok Try.func69 rfl (by kernel_rfl) (by kernel_rfl) (aw_of T_ok (by kernel_rfl) ?_)
  conv => whnf
  exact finB ⟨rfl⟩
theorem indexFunc_con (l : List Step) (x : Step) (hl : l.length * 80 ≤ 140737488351232) : Con P 81 [.lf (.pv (encSteps l)), .lf (.fn 69 [x.enc])] (I (idxL (fun s : Step => s.nm == x.nm) l 0)) [] := by
  refine Con.of T_ok Try.func81 rfl (by kernel_rfl) (by kernel_rfl) (aw_of T_ok (by kernel_rfl) ?_)
  conv => whnf
  refine AW.loop (fun k : Nat => k ≤ l.length ∧ idxL (fun s : Step => s.nm == x.nm) (l.drop k) k = idxL (fun s : Step => s.nm == x.nm) l 0) (fun k => [(0, .lf (.pv (encSteps l))), (1, .lf (.fn 69 [x.enc])), (7, Go.Rx.I l.length), (8, Go.Rx.I k)]) (fun _ => []) (fun k => l.length - k) [] ?_ ?_
  · exact ⟨0, ⟨Nat.zero_le _, rfl⟩, ⟨rfl, rfl, congrArg (fun n : Nat => Go.Rx.I (n : Int)) (List.length_map ..), rfl, trivial⟩, ⟨[], rfl⟩, rfl, rfl⟩
  · rintro k ⟨hk, hpre⟩
    refine aw_of T_ok (by kernel_rfl) ?_
    conv => whnf
    split <;> rename_i hlt <;> conv => whnf
    · have hkl : k < l.length := by simpa using hlt
      rw [idx_go hkl] at hpre
      refine ⟨by omega, (l[k]).enc, by simp [hkl], ?_⟩
      conv => whnf
      refine callS (may1_con l[k] x) rfl ?_
      conv => whnf
      split <;> rename_i he <;> conv => whnf
      · refine finI ⟨?_⟩
        rw [← hpre, if_pos (show (l[k].nm == x.nm) = true from he)]
      · refine ⟨k + 1, ⟨⟨by omega, ?_⟩, by omega⟩, ⟨rfl, rfl, rfl, congrArg Go.Rx.I (wrapI (by omega)), trivial⟩, ⟨[], rfl⟩, rfl, rfl⟩
        rw [← hpre, if_neg (by rw [show (l[k].nm == x.nm) = false from he]; decide)]
    · refine finI ⟨?_⟩
      have hkl : l.length ≤ k := by simpa using hlt
      rw [← hpre, idx_end hkl]
theorem containsFunc_con (l : List Step) (x : Step) (hl : l.length * 80 ≤ 140737488351232) : Con P 68 [.lf (.pv (encSteps l)), .lf (.fn 69 [x.enc])] (Bl (l.any fun s : Step => s.nm == x.nm)) [] := by
  refine Con.of T_ok Try.func68 rfl (by kernel_rfl) (by kernel_rfl) (aw_of T_ok (by kernel_rfl) ?_)
  conv => whnf
  refine callS (indexFunc_con l x hl) rfl ?_
  conv => whnf
  exact finB ⟨idx_any l 0⟩
theorem ops4_con (n : Int) : Con P 57 [I n] (.lf (.pv (encStrs (opsS n)))) [] := by
  refine Con.of T_ok Try.func57 rfl (by kernel_rfl) (by kernel_rfl) (aw_of T_ok (by kernel_rfl) ?_)
  conv => whnf
  split <;> rename_i h <;> conv => whnf
  · obtain rfl : n = 1 := by simpa using h
    exact ⟨rfl, finA ⟨rfl⟩⟩
  · split <;> rename_i h2 <;> conv => whnf
    · obtain rfl : n = 2 := by simpa using h2
      exact ⟨rfl, finA ⟨rfl⟩⟩
    · split <;> rename_i h3 <;> conv => whnf
      · obtain rfl : n = 3 := by simpa using h3
        exact ⟨rfl, finA ⟨rfl⟩⟩
      · split <;> rename_i h4 <;> conv => whnf
        · obtain rfl : n = 4 := by simpa using h4
          exact ⟨rfl, finA ⟨rfl⟩⟩
        · have h1 : ¬ n = 1 := by simpa using h
          have h2 : ¬ n = 2 := by simpa using h2
          have h3 : ¬ n = 3 := by simpa using h3
          have h4 : ¬ n = 4 := by simpa using h4
          rw [show opsS n = [] by unfold opsS; rw [if_neg h1, if_neg h2, if_neg h3, if_neg h4]]
          exact ⟨[.lf (.pv (.sl 1 []))], ⟨.inr (.inl ⟨_, _, rfl, rfl, wkN 1⟩), trivial⟩, rfl⟩
theorem ops_con (n : Int) (h : 1 ≤ n ∧ n ≤ 4) : Con P 82 [I n] (.lf (.pv (encStrs (opsS n)))) [] := by
  refine Con.of T_ok Try.func82 rfl (by kernel_rfl) (by kernel_rfl) (aw_of T_ok (by kernel_rfl) ?_)
  obtain rfl | rfl | rfl | rfl : n = 1 ∨ n = 2 ∨ n = 3 ∨ n = 4 := by omega
  all_goals conv => whnf
  all_goals (refine ⟨rfl, ?_⟩; conv => whnf)
  all_goals (refine ⟨rfl, ?_⟩; conv => whnf)
  all_goals (refine ⟨rfl, ?_⟩; conv => whnf)
  all_goals (refine ⟨rfl, ?_⟩; conv => whnf)
  all_goals (refine ⟨rfl, by decide, by decide, ?_⟩; conv => whnf)
  all_goals (refine ⟨rfl, rfl, _, rfl, ?_⟩; conv => whnf)
  all_goals exact finA ⟨rfl⟩
theorem ops_len (n : Int) : (opsS n).length * 16 ≤ 140737488351232 := by
  unfold opsS; repeat' split
  all_goals decide
theorem ops_two (n : Int) : (∃ p q, opsS n = [p, q] ∧ (p == q) = false) ∨ opsS n = [] := by
  unfold opsS; repeat' split
  all_goals first | exact .inr rfl | exact .inl ⟨_, _, rfl, by decide⟩
theorem pair_con (n : Int) (d u : ByteArray) (h : 1 ≤ n ∧ n ≤ 4) : Con P 71 [I n, Sx d, Sx u] (Bl (pairB n d u)) [] := by
  refine Con.of T_ok Try.func71 rfl (by kernel_rfl) (by kernel_rfl) (aw_of T_ok (by kernel_rfl) ?_)
  conv => whnf
  refine callU (ops_con n h) (fun _ => rfl) ?_
  conv => whnf
  refine callS (contains_con (opsS n) d (ops_len n)) rfl ?_
  conv => whnf
  split <;> rename_i h1 <;> conv => whnf
  · refine callS (contains_con (opsS n) u (ops_len n)) rfl ?_
    conv => whnf
    split <;> rename_i h2 <;> conv => whnf
    · refine finB ⟨?_⟩
      rw [pairB, h1, h2]; rfl
    · refine finB ⟨?_⟩
      rw [pairB, h1, h2]; rfl
  · refine finB ⟨?_⟩
    rw [pairB, h1]; rfl
theorem pair4_con (n : Int) (d u : ByteArray) : Con P 40 [I n, Sx d, Sx u] (Bl (pairB n d u)) [] := by
  refine Con.of T_ok Try.func40 rfl (by kernel_rfl) (by kernel_rfl) (aw_of T_ok (by kernel_rfl) ?_)
  conv => whnf
  refine callU (ops4_con n) (fun _ => rfl) ?_
  rcases ops_two n with ⟨p, q, e, hne⟩ | e
  · rw [pairB, e]
    conv => whnf
    refine ⟨by decide, _, rfl, ?_⟩
    conv => whnf
    split <;> rename_i h1 <;> conv => whnf
    · refine ⟨by decide, _, rfl, ?_⟩
      conv => whnf
      split <;> rename_i h2 <;> conv => whnf
      · refine finB ⟨?_⟩
        obtain rfl := eq_of_beq h1
        obtain rfl := eq_of_beq h2
        simp [hne]
      · refine ⟨by decide, _, rfl, ?_⟩
        conv => whnf
        split <;> rename_i h3 <;> conv => whnf
        · obtain rfl := eq_of_beq h1
          rw [show (d == q) = false from hne] at h3
          cases h3
        · refine finB ⟨?_⟩
          obtain rfl := eq_of_beq h1
          by_cases e : u = d
          · subst e; simp
          · simp [show (u == q) = false from h2, show (u == d) = false from beq_eq_false_iff_ne.2 e]
    · refine ⟨by decide, _, rfl, ?_⟩
      conv => whnf
      split <;> rename_i h3 <;> conv => whnf
      · refine ⟨by decide, _, rfl, ?_⟩
        conv => whnf
        refine finB ⟨?_⟩
        obtain rfl := eq_of_beq h3
        by_cases e1 : u = p
        · subst e1; simp [show (d == u) = false from h1]
        · by_cases e2 : u = d
          · subst e2; simp [e1]
          · simp [beq_eq_false_iff_ne.2 e1, beq_eq_false_iff_ne.2 e2]
      · refine finB ⟨?_⟩
        simp [show (d == p) = false from h1, show (d == q) = false from h3]
  · rw [pairB, e]
    conv => whnf
    exact finB ⟨rfl⟩
end Go.Proofs.Yteebnpkoephjnaa.Rx

/- Library functions that write to a strings.Builder, and those that look for a byte or a beginning. -/
set_option linter.unusedVariables false
set_option linter.unusedSimpArgs false
namespace Go.Proofs.Yteebnpkoephjnaa.RxH
open Go.RowKit Go.Proofs
/-! ### json_Plain -/
def badR (n : Nat) : Bool := decide (n < 32) || decide (126 < n)
open Go.Shelf Go.Lib in
theorem plain_bad (w : World) : PredAt Try.prog 77 #[] encR badR w := fun W r _ => by
  unfold FnGives
  by_cases h1 : r < 32
  · have HX := Lib.hid (show badR r = true by simp [badR, h1])
    have t1 : decide ((r : Int) < 32) = true := decide_eq_true (by omega)
    clear h1
    go_enter Try.func77, Try.ntmps77
    go_wp2
    go_ret
    exact ⟨by rw [HX.out]; rfl, 0, rfl⟩
  · have t1 : decide ((r : Int) < 32) = false := decide_eq_false (by omega)
    by_cases h2 : 126 < r
    · have HX := Lib.hid (show badR r = true by simp [badR, h2])
      have t2 : decide (126 < (r : Int)) = true := decide_eq_true (by omega)
      clear h1 h2
      go_enter Try.func77, Try.ntmps77
      go_wp2
      go_ret
      exact ⟨by rw [HX.out]; rfl, 0, rfl⟩
    · have HX := Lib.hid (show badR r = false by simp [badR, h1, h2])
      have t2 : decide (126 < (r : Int)) = false := decide_eq_false (by omega)
      clear h1 h2
      go_enter Try.func77, Try.ntmps77
      go_wp2
      go_ret
      exact ⟨by rw [HX.out]; rfl, 0, rfl⟩
def json_Plain.f (a0 : ByteArray) (a1 : Int) : Option Bool := some (decide ((a0.size : Int) ≤ a1) && !decide (0 ≤ Lib.idxFunc badR true a0))
set_option maxHeartbeats 1000000 in
theorem json_Plain.calls (a0 : ByteArray) (a1 : Int) (r : Bool) (w : World) (h : json_Plain.f a0 a1 = some r) :
    Calls Try.prog 66 #[.string a0, .int .i64 a1] w fun e w' => e = .returned (.bool r) ∧ Below w.heap.size w w' := by
  have HR := Lib.hid (Option.some.inj h)
  clear h
  have HC := Lib.hid (Try.strings_ContainsFunc 77 #[] (enters_of Try.func77 (by kernel_rfl) rfl) badR a0 w (plain_bad w))
  by_cases c : (a0.size : Int) ≤ a1
  · have HR2 := Lib.hid (show (!decide (0 ≤ Lib.idxFunc badR true a0)) = r by rw [← HR.out, decide_eq_true c, Bool.true_and])
    have t1 : decide ((a0.size : Int) ≤ a1) = true := decide_eq_true c
    clear c
    go_enter Try.func66, Try.ntmps66
    go_wp2_with (fail)
    refine HC.out.mono ?_
    rintro e w2 ⟨rfl, hd2⟩
    go_wp2
    go_ret
    exact ⟨by rw [HR2.out]; rfl, hd2⟩
  · have HR2 := Lib.hid (show false = r by rw [← HR.out, decide_eq_false c, Bool.false_and])
    have t1 : decide ((a0.size : Int) ≤ a1) = false := decide_eq_false c
    clear c
    go_enter Try.func66, Try.ntmps66
    go_wp2
    go_ret
    exact ⟨by rw [HR2.out]; rfl, Below.refl _ _⟩
/-! ### strings_Builder_copyCheck -/
theorem hb_size : (Try.prog.info? 102).map (·.size) = some 2 := by kernel_rfl
theorem hb_lies : liesAt Try.prog Try.prog.depth 102 (2 / Try.prog.cellsOf 102) 0 102 1 = true := by kernel_rfl
theorem hb_byte : (Try.prog.info? 5).map (fun i => (i.zero, i.size, i.bytes)) = some (some (.int .u8 0), 1, 1) := by kernel_rfl
set_option maxHeartbeats 1000000 in
set_option maxRecDepth 100000 in
theorem hb_copyCheck_used (b : Nat) (w : World) (h0 : w.cell? ⟨b, 0, none⟩ = some (.pointer (some ⟨b, 0, none⟩))) :
    Calls Try.prog 87 #[.pointer (some ⟨b, 0, none⟩)] w fun e w' => e = .returned (.tuple #[]) ∧ w' = w := by
  obtain ⟨j, hj, _⟩ := Option.map_eq_some_iff.1 hb_size
  go_enter Try.func87, Try.ntmps87
  go_wp2
  rw [Lib.run_neq_ptr_same w _ Try.underlying100 hj]
  go_wp2
  go_end0
  exact ⟨rfl, rfl⟩
set_option maxHeartbeats 1000000 in
set_option maxRecDepth 100000 in
theorem hb_copyCheck_fresh (b : Nat) (w : World) (h0 : w.cell? ⟨b, 0, none⟩ = some (.pointer none)) (hsh : w.shape? b = some (102, 2)) (hfz : w.frozen? ⟨b, 0, none⟩ = false) :
    Calls Try.prog 87 #[.pointer (some ⟨b, 0, none⟩)] w fun e w' => e = .returned (.tuple #[]) ∧ w' = w.setCell ⟨b, 0, none⟩ (.pointer (some ⟨b, 0, none⟩)) := by
  obtain ⟨j, hj, hjs⟩ := Option.map_eq_some_iff.1 hb_size
  go_enter Try.func87, Try.ntmps87
  go_wp2
  rw [Lib.run_to_unsafe w ⟨b, 0, none⟩ Try.underlying100 Try.underlying131 hj (by rw [hjs]; decide) hsh (Nat.zero_lt_succ 1)]
  simp only [Result.andThen]
  rw [Oper.upon_value]
  go_wp2
  rw [run_callFunc_extern Try.func91 (by kernel_rfl) (by kernel_rfl) (by kernel_rfl) (e := Extern.AbiNoEscape.same) (by kernel_rfl)]
  rw [Lib.run_noEscape]
  simp only [Result.andThen]
  rw [Oper.upon_value]
  go_wp2
  rw [Lib.run_from_unsafe w ⟨b, 0, none⟩ Try.underlying131 Try.underlying100 hj hsh hb_lies]
  simp only [Result.andThen]
  rw [Oper.upon_value]
  go_wp2
  go_end0
  exact ⟨rfl, rfl⟩
theorem hb_copyCheck (B b : Nat) (bs : List Value) (w : World) (h : Lib.IsBuilder 102 5 B b bs w) :
    Calls Try.prog 87 #[.pointer (some ⟨b, 0, none⟩)] w fun e w' => e = .returned (.tuple #[]) ∧ (Lib.BuilderAt 102 5 B b (.pointer (some ⟨b, 0, none⟩)) bs w' ∧ Below B w w') := by
  rcases h with h | h
  · refine (hb_copyCheck_fresh b w h.cell0 h.shape h.frozen0).mono ?_
    rintro e w' ⟨rfl, rfl⟩
    exact ⟨rfl, h.used _, (Below.refl B w).setCell (p := ⟨b, 0, none⟩) h.1 _⟩
  · refine (hb_copyCheck_used b w h.cell0).mono ?_
    rintro e w' ⟨rfl, rfl⟩
    exact ⟨rfl, h, Below.refl B _⟩
/-! ### strings_Builder_WriteByte -/
set_option maxHeartbeats 2000000 in
set_option maxRecDepth 100000 in
theorem hb_writeByte (B b : Nat) (bs : List Value) (c : Int) (w : World) (h : Lib.IsBuilder 102 5 B b bs w) (hlen : bs.length + 1 ≤ 140737488355328) (hBw : B ≤ w.heap.size) :
    Calls Try.prog 101 #[.pointer (some ⟨b, 0, none⟩), .int .u8 c] w fun e w' => e = .returned .nilIface ∧ (Lib.BuilderAt 102 5 B b (.pointer (some ⟨b, 0, none⟩)) (bs ++ [.int .u8 c]) w' ∧ Below B w w') := by
  obtain ⟨i0, hi, hz0, hz1, hz2⟩ := info_parts hb_byte
  go_enter Try.func101, Try.ntmps101
  go_wp2_with (go_at_call 87; refine (hb_copyCheck B b bs _ h).mono ?_)
  rintro e w1 ⟨rfl, h1, hb1⟩
  obtain ⟨hB, v, hbk, hown, hne⟩ := h1
  have c0 : w1.cell? ⟨b, 0, none⟩ = some (.pointer (some ⟨b, 0, none⟩)) := by rw [Lib.cell_of_heap hbk]; rfl
  have c1 : w1.cell? ⟨b, 1, none⟩ = some v := by rw [Lib.cell_of_heap hbk]; rfl
  go_wp2_with (at_builtin; refine wpList_append_own _ rfl _ _ 57 rfl B 5 i0 (.int .u8 0) 1 1 Try.underlying57 hi hz0 hz1 hz2 rfl (by decide) _ _ _ rfl (hown.alloc _) ⟨w1.heap.size, 0, none⟩ 1 1 [.int .u8 c] rfl rfl ?c1 ?c2 ?c3 ?c4 ?c5 ?_)
  case c1 =>
    intro j u hj
    match j, hj with
    | 0, hj => simp at hj; subst hj; simp [Addr.add]
  case c2 => intro u hu; simp at hu; subst hu; rfl
  case c3 => unfold maxLen; omega
  case c4 => omega
  case c5 => have := hb1.size; simp; omega
  intro v' w2 hown' hgrow _
  have hlt : b < w1.heap.size := by
    rcases Nat.lt_or_ge b w1.heap.size with h' | h'
    · exact h'
    · simp [Array.getElem?_eq_none h'] at hbk
  have hb2 : w2.heap[b]? = some (.cells #[.pointer (some ⟨b, 0, none⟩), v] 102 (0, 0)) := by
    rw [hgrow.block b (by simp; omega) (fun e => hne e.symm), Lib.alloc_old w1 _ b hlt]
    exact hbk
  have d0 : w2.cell? ⟨b, 0, none⟩ = some (.pointer (some ⟨b, 0, none⟩)) := by rw [Lib.cell_of_heap hb2]; rfl
  have d1 : w2.cell? ⟨b, 1, none⟩ = some v := by rw [Lib.cell_of_heap hb2]; rfl
  have f1 : w2.frozen? ⟨b, 1, none⟩ = false := Lib.frozen_of_heap hb2 1
  obtain ⟨g, cap, rfl⟩ : ∃ g cap, v' = .slice (some ⟨g, 0, none⟩) (bs.length + 1) cap := by
    rcases hown'.2 with ⟨_, h0⟩ | ⟨g, cap, cur, hv, _⟩
    · omega
    · exact ⟨g, cap, hv⟩
  go_wp2
  go_ret
  refine ⟨rfl, ?_, ?_⟩
  · exact Lib.BuilderAt.put (T := 102) (e := 5) hB hb2 (bs' := bs ++ [.int .u8 c]) (by simpa using hown') (by decide)
  · exact ((hb1.alloc (by have := hb1.size; omega) _).grown hgrow (by have := hb1.size; simp; omega) (fun k hk => (hown.lt k hk).1)).setCell (p := ⟨b, 1, none⟩) hB _
/-! ### json_String -/
def strGo : List UInt8 → Nat → List UInt8 → List UInt8 × Nat × Bool
  | [], _, _ => ([], 0, false)
  | [c], i, acc => if c.toNat = 34 then (acc, i + 1, true) else if c.toNat < 32 ∨ 126 < c.toNat then ([], 0, false) else ([], 0, false)
  | c :: d :: t, i, acc =>
    if c.toNat = 34 then (acc, i + 1, true)
    else if c.toNat < 32 ∨ 126 < c.toNat then ([], 0, false)
    else if c.toNat = 92 then (if d.toNat = 34 ∨ d.toNat = 92 then strGo t (i + 2) (acc ++ [d]) else ([], 0, false))
    else strGo (d :: t) (i + 1) (acc ++ [c])
def json_String.f (a0 : ByteArray) : Option (ByteArray × Int × Bool) :=
  if a0.size ≤ 140737488355328 then (let r := strGo (a0.data.toList.drop 1) 1 []; some (⟨r.1.toArray⟩, (r.2.1 : Int), r.2.2)) else none
theorem drop_at (s : ByteArray) (k : Nat) (h : k < s.size) : s.data.toList.drop k = s[k] :: s.data.toList.drop (k + 1) := by
  rw [List.drop_eq_getElem_cons (by simpa using h)]; rfl
theorem drop_end (s : ByteArray) (k : Nat) (h : s.size ≤ k) : s.data.toList.drop k = [] := List.drop_of_length_le (by rw [Array.length_toList]; exact h)
theorem strGo_q {c : UInt8} {t acc : List UInt8} {i : Nat} (h : c.toNat = 34) : strGo (c :: t) i acc = (acc, i + 1, true) := by
  cases t <;> simp [strGo, h]
theorem strGo_bad {c : UInt8} {t acc : List UInt8} {i : Nat} (h : c.toNat < 32 ∨ 126 < c.toNat) : strGo (c :: t) i acc = ([], 0, false) := by
  have h1 : ¬ c.toNat = 34 := by omega
  cases t <;> simp only [strGo, if_neg h1, if_pos h]
theorem strGo_plain {c : UInt8} {t acc : List UInt8} {i : Nat} (h1 : ¬ c.toNat = 34) (h2 : ¬ (c.toNat < 32 ∨ 126 < c.toNat)) (h3 : ¬ c.toNat = 92) : strGo (c :: t) i acc = strGo t (i + 1) (acc ++ [c]) := by
  cases t <;> simp only [strGo, if_neg h1, if_neg h2, if_neg h3]
theorem strGo_esc {c d : UInt8} {t acc : List UInt8} {i : Nat} (h : c.toNat = 92) (h3 : d.toNat = 34 ∨ d.toNat = 92) : strGo (c :: d :: t) i acc = strGo t (i + 2) (acc ++ [d]) := by
  have h1 : ¬ c.toNat = 34 := by omega
  have h2 : ¬ (c.toNat < 32 ∨ 126 < c.toNat) := by omega
  simp only [strGo, if_neg h1, if_neg h2, if_pos h, if_pos h3]
theorem strGo_esc_no {c d : UInt8} {t acc : List UInt8} {i : Nat} (h : c.toNat = 92) (h3 : ¬ (d.toNat = 34 ∨ d.toNat = 92)) : strGo (c :: d :: t) i acc = ([], 0, false) := by
  have h1 : ¬ c.toNat = 34 := by omega
  have h2 : ¬ (c.toNat < 32 ∨ 126 < c.toNat) := by omega
  simp only [strGo, if_neg h1, if_neg h2, if_pos h, if_neg h3]
theorem strGo_esc_end {c : UInt8} {acc : List UInt8} {i : Nat} (h : c.toNat = 92) : strGo [c] i acc = ([], 0, false) := by
  have h1 : ¬ c.toNat = 34 := by omega
  simp only [strGo, if_neg h1, ite_self]
theorem byteCells_snoc' (l : List UInt8) (c : UInt8) : Lib.byteCells l ++ [.int .u8 (c.toNat : Int)] = Lib.byteCells (l ++ [c]) := by simp [Lib.byteCells]
theorem ret3 {a a' : ByteArray} {b b' : Int} {c c' : Bool} (h : (a, b, c) = (a', b', c')) : Ending.returned (.tuple #[.string a, .int .i64 b, .bool c]) = .returned (.tuple #[.string a', .int .i64 b', .bool c']) := by
  injection h with h1 h2; injection h2 with h2 h3; rw [h1, h2, h3]
set_option maxHeartbeats 4000000 in
set_option maxRecDepth 100000 in
theorem json_String.calls (a0 : ByteArray) (r1 : ByteArray) (r2 : Int) (r3 : Bool) (w : World) (h : json_String.f a0 = some (r1, r2, r3)) :
    Calls Try.prog 97 #[.string a0] w fun e w' => e = .returned (.tuple #[.string r1, .int .i64 r2, .bool r3]) ∧ Below w.heap.size w w' := by
  unfold json_String.f at h
  split at h
  case isFalse => cases h
  case isTrue hsz =>
  have HR := Lib.hid (Option.some.inj h)
  clear h
  have hb0 := Lib.fresh_isBuilder 102 5 w
  have HB0 := Lib.hid hb0
  clear hb0
  have hBel := Lib.hid ((Below.refl w.heap.size w).alloc (Nat.le_refl _) (.cells #[.pointer none, .slice none 0 0] 102))
  go_enter Try.func97, Try.ntmps97
  go_wp2_with (fail)
  obtain ⟨g, hg⟩ : ∃ g, g = w.heap.size := ⟨_, rfl⟩
  go_loopw [6, 7] (fun i _ wr => ∃ (k : Nat) (acc : List UInt8), 1 ≤ k ∧ k ≤ a0.size + 1 ∧ acc.length < k ∧ i = .int .i64 k ∧ Lib.IsBuilder 102 5 w.heap.size w.heap.size (Lib.byteCells acc) wr ∧ Below w.heap.size w wr ∧ Hid (strGo (a0.data.toList.drop k) k acc = strGo (a0.data.toList.drop 1) 1 [])) (fun i _ _ => a0.size + 1 - (intOf i).toNat)
  case atStart => exact ⟨1, [], by omega, by omega, by simp, rfl, HB0.out, hBel.out, Lib.hid rfl⟩
  case round =>
    obtain ⟨k, acc, hk1, hk2, hacc, rfl, hB1, hb2, HI⟩ := hrel
    have hz : w.heap.size ≤ wr.heap.size := hb2.size
    by_cases hlt : k < a0.size
    · have HD := Lib.hid (drop_at a0 k hlt)
      have Out := fun (p1 : ByteArray) (p2 : Int) (p3 : Bool) (x : List UInt8 × Nat × Bool) (hx : strGo (a0.data.toList.drop k) k acc = x) (e1 : p1 = ⟨x.1.toArray⟩) (e2 : p2 = (x.2.1 : Int)) (e3 : p3 = x.2.2) =>
        ret3 (show (p1, p2, p3) = (r1, r2, r3) by rw [← HR.out, ← HI.out, hx, e1, e2, e3])
      have Hout := Lib.hid Out
      clear Out
      by_cases c34 : a0[k].toNat = 34
      · have t1 : (((a0[k]).toNat : Int) == 34) = true := beq_iff_eq.2 (by omega)
        have HX := Lib.hid (show strGo (a0.data.toList.drop k) k acc = (acc, k + 1, true) by rw [HD.out]; exact strGo_q c34)
        have HS := Lib.hid (Try.Builder_String_any _ _ acc wr hB1 hz)
        clear c34
        go_wp2_with (fail)
        refine HS.out.mono ?_
        rintro e w2 ⟨rfl, hbb⟩
        go_wp2
        go_ret3
        exact ⟨Hout.out _ _ _ _ HX.out rfl rfl rfl, hb2.trans hbb⟩
      · have t1 : (((a0[k]).toNat : Int) == 34) = false := beq_eq_false_iff_ne.2 (by omega)
        by_cases cb : a0[k].toNat < 32 ∨ 126 < a0[k].toNat
        · have HX := Lib.hid (show strGo (a0.data.toList.drop k) k acc = ([], 0, false) by rw [HD.out]; exact strGo_bad cb)
          clear c34
          by_cases c32 : a0[k].toNat < 32
          · have t2 : decide (((a0[k]).toNat : Int) < 32) = true := decide_eq_true (by omega)
            clear cb c32
            go_wp2
            go_ret3
            exact ⟨Hout.out _ _ _ _ HX.out rfl rfl rfl, hb2⟩
          · have t2 : decide (((a0[k]).toNat : Int) < 32) = false := decide_eq_false (by omega)
            have t3 : decide (126 < ((a0[k]).toNat : Int)) = true := decide_eq_true (by omega)
            clear cb c32
            go_wp2
            go_ret3
            exact ⟨Hout.out _ _ _ _ HX.out rfl rfl rfl, hb2⟩
        · have t2 : decide (((a0[k]).toNat : Int) < 32) = false := decide_eq_false (by omega)
          have t3 : decide (126 < ((a0[k]).toNat : Int)) = false := decide_eq_false (by omega)
          by_cases c92 : a0[k].toNat = 92
          · have t4 : (((a0[k]).toNat : Int) == 92) = true := beq_iff_eq.2 (by omega)
            by_cases hl2 : k + 1 < a0.size
            · have HD2 := Lib.hid (drop_at a0 (k + 1) hl2)
              by_cases cd : a0[k + 1].toNat = 34 ∨ a0[k + 1].toNat = 92
              · have HX := Lib.hid (show strGo (a0.data.toList.drop k) k acc = strGo (a0.data.toList.drop (k + 2)) (k + 2) (acc ++ [a0[k + 1]]) by rw [HD.out, HD2.out]; exact strGo_esc c92 cd)
                have HW := Lib.hid (hb_writeByte _ _ (Lib.byteCells acc) (a0[k + 1].toNat : Int) wr hB1 (by rw [Lib.byteCells_length]; omega) hz)
                clear c34 c92 cb
                by_cases cd34 : a0[k + 1].toNat = 34
                · have t5 : (((a0[k + 1]).toNat : Int) != 34) = false := by simp [cd34]
                  clear cd cd34
                  go_wp2_with (fail)
                  refine HW.out.mono ?_
                  rintro e w2 ⟨rfl, hB2, hbb⟩
                  rw [byteCells_snoc'] at hB2
                  go_wp2
                  go_roundw
                  case rel => exact ⟨k + 2, _, by omega, by omega, by simp only [List.length_append, List.length_singleton]; omega, by go_num, .inr hB2, hb2.trans hbb, Lib.hid (HX.out.symm.trans HI.out)⟩
                  case measure => simp [intOf]; omega
                · have t5 : (((a0[k + 1]).toNat : Int) != 34) = true := by rw [bne_iff_ne]; omega
                  have t6 : (((a0[k + 1]).toNat : Int) != 92) = false := by simp [show a0[k + 1].toNat = 92 by omega]
                  clear cd cd34
                  go_wp2_with (fail)
                  refine HW.out.mono ?_
                  rintro e w2 ⟨rfl, hB2, hbb⟩
                  rw [byteCells_snoc'] at hB2
                  go_wp2
                  go_roundw
                  case rel => exact ⟨k + 2, _, by omega, by omega, by simp only [List.length_append, List.length_singleton]; omega, by go_num, .inr hB2, hb2.trans hbb, Lib.hid (HX.out.symm.trans HI.out)⟩
                  case measure => simp [intOf]; omega
              · have HX := Lib.hid (show strGo (a0.data.toList.drop k) k acc = ([], 0, false) by rw [HD.out, HD2.out]; exact strGo_esc_no c92 cd)
                have t5 : (((a0[k + 1]).toNat : Int) != 34) = true := by rw [bne_iff_ne]; omega
                have t6 : (((a0[k + 1]).toNat : Int) != 92) = true := by rw [bne_iff_ne]; omega
                clear c34 c92 cb cd
                go_wp2
                go_ret3
                exact ⟨Hout.out _ _ _ _ HX.out rfl rfl rfl, hb2⟩
            · have HX := Lib.hid (show strGo (a0.data.toList.drop k) k acc = ([], 0, false) by rw [HD.out, drop_end a0 (k + 1) (by omega)]; exact strGo_esc_end c92)
              clear c34 c92 cb
              go_wp2
              go_ret3
              exact ⟨Hout.out _ _ _ _ HX.out rfl rfl rfl, hb2⟩
          · have t4 : (((a0[k]).toNat : Int) == 92) = false := beq_eq_false_iff_ne.2 (by omega)
            have HX := Lib.hid (show strGo (a0.data.toList.drop k) k acc = strGo (a0.data.toList.drop (k + 1)) (k + 1) (acc ++ [a0[k]]) by rw [HD.out]; exact strGo_plain c34 cb c92)
            have HW := Lib.hid (hb_writeByte _ _ (Lib.byteCells acc) (a0[k].toNat : Int) wr hB1 (by rw [Lib.byteCells_length]; omega) hz)
            clear c34 c92 cb
            go_wp2_with (fail)
            refine HW.out.mono ?_
            rintro e w2 ⟨rfl, hB2, hbb⟩
            rw [byteCells_snoc'] at hB2
            go_wp2
            go_roundw
            case rel => exact ⟨k + 1, _, by omega, by omega, by simp only [List.length_append, List.length_singleton]; omega, by go_num, .inr hB2, hb2.trans hbb, Lib.hid (HX.out.symm.trans HI.out)⟩
            case measure => simp [intOf]; omega
    · have HX := Lib.hid (show strGo (a0.data.toList.drop k) k acc = ([], 0, false) by rw [drop_end a0 k (by omega)]; rfl)
      have Hout := Lib.hid (ret3 (show ((⟨#[]⟩ : ByteArray), (0 : Int), false) = (r1, r2, r3) by rw [← HR.out, ← HI.out, HX.out]; rfl))
      go_wp2
      go_ret3
      exact ⟨Hout.out, hb2⟩
end Go.Proofs.Yteebnpkoephjnaa.RxH

/- Texts that are plain, as the program looks at them. -/
set_option linter.unusedVariables false
set_option linter.unusedSimpArgs false
namespace Go.Proofs.Yteebnpkoephjnaa.Rx
open Go.Rx Go.Proofs Go.Proofs.Yteebnpkoephjnaa.RxH

theorem plain_from (s : ByteArray) : ∀ n i, i + n = s.size → decide (0 ≤ Lib.idxFuncFrom badR true s n i) = !((s.data.toList.drop i).all okB)
  | 0, i, h => by rw [plain_end (by omega)]; rfl
  | n + 1, i, h => by
    have hi : i < s.size := by omega
    unfold Lib.idxFuncFrom
    rw [if_pos hi, plain_go hi]
    by_cases ha : (s[i]'hi).toNat < 128
    · rw [decode_ascii s i hi ha]
      have e : badR (s[i]'hi).toNat = !okB (s[i]'hi) := by
        unfold badR okB
        rw [Bool.not_not]
        congr 1
        · exact decide_eq_decide.2 (by omega)
        · exact decide_eq_decide.2 (by omega)
      cases ok : okB (s[i]'hi) with
      | true =>
        rw [if_neg (by rw [e, ok]; decide), Bool.true_and]
        exact plain_from s n (i + 1) (by omega)
      | false =>
        rw [if_pos (by rw [e, ok]; rfl)]
        exact decide_eq_true (by omega)
    · have hd := (decode_high s i hi (by omega)).1
      rw [if_pos (show badR (Utf8.decode s i).1 = true by unfold badR; rw [decide_eq_true (show 126 < (Utf8.decode s i).1 by omega), Bool.or_true])]
      have e : okB (s[i]'hi) = false := by unfold okB; rw [decide_eq_true (show 126 < ((s[i]'hi).toNat : Int) by omega), Bool.or_true]; rfl
      rw [e, decide_eq_true (by omega)]
      rfl
theorem plain_con (s : ByteArray) (n : Int) : Con P 66 [Sx s, I n] (Bl (decide ((s.size : Int) ≤ n) && plainB s)) [] := by
  refine Con.plain (vs := [.string s, .int .i64 n]) (by kernel_rfl) rfl fun w => json_Plain.calls s n _ w ?_
  unfold json_Plain.f Lib.idxFunc
  rw [plain_from s s.size 0 (by omega), Bool.not_not]
  rfl
theorem short_con (s : ByteArray) : Con P 52 [Sx s] (Bl (shortB s)) [] := by
  refine Con.of T_ok Try.func52 rfl (by kernel_rfl) (by kernel_rfl) (aw_of T_ok (by kernel_rfl) ?_)
  conv => whnf
  refine callS (plain_con s 40) rfl ?_
  conv => whnf
  refine finB ⟨?_⟩
  rw [shortB, Bool.and_comm]
  congr 1
  exact decide_eq_decide.2 (by omega)
end Go.Proofs.Yteebnpkoephjnaa.Rx

/- Names. -/
set_option linter.unusedVariables false
set_option linter.unusedSimpArgs false
namespace Go.Rx
def wordN (n : Int) : Bool := letN n || digN n
def runB (p : UInt8 → Bool) (s : ByteArray) : Nat := (s.data.toList.takeWhile p).length
theorem run_go {p : UInt8 → Bool} {s : ByteArray} {k : Nat} (h : k < s.size) (hp : p s[k] = true) : k + ((s.data.toList.drop k).takeWhile p).length = (k + 1) + ((s.data.toList.drop (k + 1)).takeWhile p).length := by
  rw [List.drop_eq_getElem_cons (by simpa using h), List.takeWhile_cons_of_pos (show p (s.data.toList[k]'(by simpa using h)) = true from hp), List.length_cons]; omega
theorem run_stop {p : UInt8 → Bool} {s : ByteArray} {k : Nat} (h : k < s.size) (hp : p s[k] = false) : k + ((s.data.toList.drop k).takeWhile p).length = k := by
  rw [List.drop_eq_getElem_cons (by simpa using h), List.takeWhile_cons_of_neg (by show ¬ p s[k] = true; rw [hp]; decide)]; rfl
theorem run_end {p : UInt8 → Bool} {s : ByteArray} {k : Nat} (h : s.size ≤ k) : k + ((s.data.toList.drop k).takeWhile p).length = k := by
  rw [List.drop_of_length_le (by simpa using h)]; rfl
def wordC (c : UInt8) : Bool := wordN c.toNat
def numV (n : Int) (c : UInt8) : Int := if n ≤ 1073741824 then IntKind.i64.wrap (IntKind.i64.wrap (n * 10) + IntKind.i64.wrap (IntKind.u8.wrap ((c.toNat : Int) - 48))) else n
def numGo : List UInt8 → Int → Nat → Int × Nat
  | [], n, k => (n, k)
  | c :: l, n, k => if digN c.toNat then numGo l (numV n c) (k + 1) else (n, k)
theorem num_go {s : ByteArray} {k : Nat} {n : Int} (h : k < s.size) : numGo (s.data.toList.drop k) n k = if digN s[k].toNat then numGo (s.data.toList.drop (k + 1)) (numV n s[k]) (k + 1) else (n, k) := by
  rw [List.drop_eq_getElem_cons (by simpa using h), numGo]; rfl
theorem num_end {s : ByteArray} {k : Nat} {n : Int} (h : s.size ≤ k) : numGo (s.data.toList.drop k) n k = (n, k) := by
  rw [List.drop_of_length_le (by simpa using h)]; rfl
abbrev num3 (p : Int × Int × Bool) : AV := .tup [.lf (.pv (pI p.1)), .lf (.pv (pI p.2.1)), .lf (.pv (pB p.2.2))]
/-- What is told of a number whose digits are read. -/
def numFin (s : ByteArray) (neg : Bool) (p : Int × Nat) : Int × Int × Bool :=
  if (if neg then IntKind.i64.wrap ((p.2 : Int) - 1) else p.2) = 0 then (0, p.2, false) else if 1073741824 < p.1 then (0, p.2, false)
  else if ((s[if neg then 1 else 0]?).getD 0).toNat = 48 ∧ (1 < (if neg then IntKind.i64.wrap ((p.2 : Int) - 1) else p.2) ∨ neg = true) then (0, p.2, false)
  else (IntKind.i64.wrap ((if neg then -1 else 1) * p.1), p.2, true)
def numR (s : ByteArray) : Int × Int × Bool :=
  let neg := Lib.hasPrefix s.data.toList [45]
  numFin s neg (numGo (s.data.toList.drop (if neg then 1 else 0)) 0 (if neg then 1 else 0))
end Go.Rx
namespace Go.Proofs.Yteebnpkoephjnaa.Rx
open Go.Rx Go.Proofs Go.Proofs.Yteebnpkoephjnaa.RxH

theorem size1_con (n : Int) : Con P 94 [U8 n] (Bl (wordN n)) [] := by
  refine Con.of T_ok Try.func94 rfl (by kernel_rfl) (by kernel_rfl) (aw_of T_ok (by kernel_rfl) ?_)
  conv => whnf
  refine callS (letter_con n) rfl ?_
  conv => whnf
  split <;> rename_i h <;> conv => whnf
  · refine finB ⟨?_⟩; rw [wordN, h]; rfl
  · refine callS (digit_con n) rfl ?_
    conv => whnf
    refine finB ⟨?_⟩; rw [wordN, h]; rfl
theorem run_con (s : ByteArray) (hs : okS s) : Con P 93 [Sx s, .lf (.fn 94 [])] (I (runB wordC s)) [] := by
  simp only [okS] at hs
  refine Con.of T_ok Try.func93 rfl (by kernel_rfl) (by kernel_rfl) (aw_of T_ok (by kernel_rfl) ?_)
  conv => whnf
  refine AW.loop (fun k : Nat => k ≤ s.size ∧ k + ((s.data.toList.drop k).takeWhile wordC).length = runB wordC s) (fun k => [(0, Sx s), (1, .lf (.fn 94 [])), (5, Go.Rx.I k)]) (fun _ => []) (fun k => s.size - k) [] ?_ ?_
  · exact ⟨0, ⟨Nat.zero_le _, by rw [runB, List.drop_zero, Nat.zero_add]⟩, ⟨rfl, rfl, rfl, trivial⟩, ⟨[], rfl⟩, rfl, rfl⟩
  · rintro k ⟨hk, hpre⟩
    refine aw_of T_ok (by kernel_rfl) ?_
    conv => whnf
    split <;> rename_i hlt <;> conv => whnf
    · have hks : k < s.size := by simpa using hlt
      refine ⟨by omega, s[k], atB hks, ?_⟩
      conv => whnf
      refine callS (size1_con s[k].toNat) rfl ?_
      conv => whnf
      split <;> rename_i he <;> conv => whnf
      · rw [run_go hks he] at hpre
        exact ⟨k + 1, ⟨⟨by omega, hpre⟩, by omega⟩, ⟨rfl, rfl, congrArg Go.Rx.I (wrapI (by omega)), trivial⟩, ⟨[], rfl⟩, rfl, rfl⟩
      · rw [run_stop hks he] at hpre
        exact finI ⟨by rw [hpre]⟩
    · have hks : s.size ≤ k := by simpa using hlt
      rw [run_end hks] at hpre
      exact finI ⟨by rw [hpre]⟩
theorem hasPrefix_con (a b : ByteArray) : Con P 98 [Sx a, Sx b] (Bl (Lib.hasPrefix a.data.toList b.data.toList)) [] :=
  Con.plain (vs := [.string a, .string b]) (by kernel_rfl) rfl fun w => (Try.strings_HasPrefix a b w).mono (by rintro e w' ⟨rfl, rfl⟩; exact ⟨rfl, RowKit.Below.refl _ _⟩)
theorem indexByte_con (a : ByteArray) (c : Int) : Con P 99 [Sx a, U8 c] (I (Lib.indexByte a.data.toList c.toNat.toUInt8)) [] :=
  Con.plain (vs := [.string a, .int .u8 c]) (by kernel_rfl) rfl fun w => (Try.strings_IndexByte a c w).mono (by rintro e w' ⟨rfl, rfl⟩; exact ⟨rfl, RowKit.Below.refl _ _⟩)
theorem jstring_con (s : ByteArray) (h : okS s) : ∃ (t : ByteArray) (n : Int) (ok : Bool), Con P 97 [Sx s] (.tup [.lf (.pv (pS t)), .lf (.pv (pI n)), .lf (.pv (pB ok))]) [] := by
  simp only [okS] at h
  have hf : json_String.f s = some (⟨(strGo (s.data.toList.drop 1) 1 []).1.toArray⟩, ((strGo (s.data.toList.drop 1) 1 []).2.1 : Int), (strGo (s.data.toList.drop 1) 1 []).2.2) := by
    unfold json_String.f
    rw [if_pos (by omega)]
  generalize json_String.f s = o at hf
  exact ⟨_, _, _, Con.plains (vs := [.string s]) (rs := [.string ⟨(strGo (s.data.toList.drop 1) 1 []).1.toArray⟩, .int .i64 ((strGo (s.data.toList.drop 1) 1 []).2.1 : Int), .bool (strGo (s.data.toList.drop 1) 1 []).2.2]) (by kernel_rfl) (by simp [Value.oneCell']) fun w => json_String.calls s _ _ _ w (by
    unfold json_String.f
    rw [if_pos (by omega)])⟩
theorem one_byte {s : ByteArray} (h : Lib.hasPrefix s.data.toList [45] = true) : 1 ≤ s.size := by
  unfold Lib.hasPrefix at h
  have h1 : s.data.toList.length = s.size := by simp
  generalize s.data.toList = l at h h1
  cases l with
  | nil => cases h
  | cons c l => simp at h1; omega
theorem fin3 {a b : Int} {c : Bool} {q : Int × Int × Bool} (h : Fin (a, b, c) q) : ∃ zs, Fa WkA [Go.Rx.I a, Go.Rx.I b, Bl c] zs ∧ pack zs = some (num3 q) := ⟨_, wk_refl _, by rw [← h.out]; rfl⟩
theorem number_con (s : ByteArray) (hs : okS s) : Con P 96 [Sx s] (num3 (numR s)) [] := by
  simp only [okS] at hs
  refine Con.of T_ok Try.func96 rfl (by kernel_rfl) (by kernel_rfl) (aw_ofC T_ok 0 (by kernel_rfl) ?_)
  conv => whnf
  refine AW.cut (fun q : Bool × Int × Nat => q.1 = Lib.hasPrefix s.data.toList [45] ∧ q.2.2 ≤ s.size ∧ (q.1 = true → 1 ≤ q.2.2) ∧ numR s = numFin s q.1 q.2) (fun q => [(0, Sx s), (2, Go.Rx.I q.2.1), (3, Go.Rx.I q.2.2), (5, Go.Rx.I (if q.1 then -1 else 1))]) (fun _ => []) [] (AW.block (aw_ofC T_ok 2 (by kernel_rfl) ?_)) ?_
  · conv => whnf
    refine AW.cut (fun neg : Bool => neg = Lib.hasPrefix s.data.toList [45]) (fun neg => [(0, Sx s), (2, Go.Rx.I 0), (3, Go.Rx.I (if neg then 1 else 0)), (5, Go.Rx.I (if neg then -1 else 1))]) (fun _ => []) [] (aw_of T_ok (by kernel_rfl) ?_) ?_
    · conv => whnf
      refine callS (hasPrefix_con s ⟨#[45]⟩) rfl ?_
      conv => whnf
      split <;> rename_i h <;> conv => whnf
      · exact ⟨true, h.symm, ⟨rfl, rfl, rfl, rfl, trivial⟩, ⟨[], rfl⟩, rfl, rfl⟩
      · exact ⟨false, h.symm, ⟨rfl, rfl, rfl, rfl, trivial⟩, ⟨[], rfl⟩, rfl, rfl⟩
    rintro neg hneg
    have hR : numR s = numFin s neg (numGo (s.data.toList.drop (if neg then 1 else 0)) 0 (if neg then 1 else 0)) := by rw [hneg]; rfl
    refine aw_of T_ok (by kernel_rfl) ?_
    conv => whnf
    refine AW.loop (fun p : Int × Nat => p.2 ≤ s.size ∧ (neg = true → 1 ≤ p.2) ∧ numGo (s.data.toList.drop p.2) p.1 p.2 = numGo (s.data.toList.drop (if neg then 1 else 0)) 0 (if neg then 1 else 0)) (fun p => [(0, Sx s), (2, Go.Rx.I p.1), (3, Go.Rx.I p.2), (5, Go.Rx.I (if neg then -1 else 1))]) (fun _ => []) (fun p => s.size - p.2) [] ?_ ?_
    · cases neg with
      | true => exact ⟨(0, 1), ⟨one_byte hneg.symm, fun _ => Nat.le_refl _, rfl⟩, ⟨rfl, rfl, rfl, rfl, trivial⟩, ⟨[], rfl⟩, rfl, rfl⟩
      | false => exact ⟨(0, 0), ⟨Nat.zero_le _, (by intro h; cases h), rfl⟩, ⟨rfl, rfl, rfl, rfl, trivial⟩, ⟨[], rfl⟩, rfl, rfl⟩
    · rintro ⟨n, k⟩ ⟨hk, hn1, hpre⟩
      simp only at hk hn1 hpre
      refine aw_of T_ok (by kernel_rfl) ?_
      conv => whnf
      split <;> rename_i hlt <;> conv => whnf
      · have hks : k < s.size := by simpa using hlt
        refine ⟨by omega, s[k], atB hks, ?_⟩
        conv => whnf
        refine callS (digit1_con s[k].toNat) rfl ?_
        conv => whnf
        rw [num_go hks] at hpre
        split <;> rename_i he <;> conv => whnf
        · rw [if_pos he] at hpre
          split <;> rename_i h1 <;> conv => whnf
          · refine ⟨by omega, s[k], atB hks, ?_⟩
            conv => whnf
            refine ⟨(numV n s[k], k + 1), ⟨⟨by show k + 1 ≤ _; omega, fun _ => by show 1 ≤ k + 1; omega, hpre⟩, by show _ - (k + 1) < _; omega⟩, ⟨rfl, ?_, congrArg Go.Rx.I (wrapI (by omega)), rfl, trivial⟩, ⟨[], rfl⟩, rfl, rfl⟩
            exact congrArg Go.Rx.I (by rw [numV, if_pos (of_decide_eq_true h1)])
          · refine ⟨(numV n s[k], k + 1), ⟨⟨by show k + 1 ≤ _; omega, fun _ => by show 1 ≤ k + 1; omega, hpre⟩, by show _ - (k + 1) < _; omega⟩, ⟨rfl, ?_, congrArg Go.Rx.I (wrapI (by omega)), rfl, trivial⟩, ⟨[], rfl⟩, rfl, rfl⟩
            exact congrArg Go.Rx.I (by rw [numV, if_neg (of_decide_eq_false h1)])
        · rw [if_neg (by rw [he]; decide)] at hpre
          exact ⟨(neg, n, k), ⟨hneg, hk, hn1, by rw [hR, ← hpre]⟩, ⟨rfl, rfl, rfl, rfl, trivial⟩, ⟨[], rfl⟩, rfl, rfl⟩
      · have hks : s.size ≤ k := by simpa using hlt
        rw [num_end hks] at hpre
        exact ⟨(neg, n, k), ⟨hneg, hk, hn1, by rw [hR, ← hpre]⟩, ⟨rfl, rfl, rfl, rfl, trivial⟩, ⟨[], rfl⟩, rfl, rfl⟩
  · rintro ⟨neg, n, k⟩ ⟨hneg, hk, hn1, hR⟩
    simp only at hk hn1 hneg hR
    rw [hR]
    refine aw_of T_ok (by kernel_rfl) ?_
    cases neg with
    | false =>
      conv => whnf
      have e : IntKind.i64.wrap ((k : Int) - k) = 0 := by rw [Int.sub_self]; rfl
      split <;> rename_i h1 <;> conv => whnf
      · refine fin3 ⟨?_⟩
        have h1' : (k : Int) = 0 := by simpa using h1
        simp [numFin, h1']
      have h1' : ¬ (k : Int) = 0 := by simpa using h1
      split <;> rename_i h2 <;> conv => whnf
      · refine fin3 ⟨?_⟩
        have h2' := of_decide_eq_true h2
        simp [numFin, h1', h2']
      have h2' := of_decide_eq_false h2
      have h0 : 0 < s.size := by omega
      refine ⟨by show 0 ≤ IntKind.i64.wrap ((k : Int) - k); rw [e]; decide, s[0], by show s[(IntKind.i64.wrap ((k : Int) - k)).toNat]? = _; rw [e]; exact atB h0, ?_⟩
      conv => whnf
      split <;> rename_i h3 <;> conv => whnf
      · have h3' : s[0].toNat = 48 := by have := eq_of_beq h3; omega
        split <;> rename_i h4 <;> conv => whnf
        · refine fin3 ⟨?_⟩
          have h4' : 1 < (k : Int) := of_decide_eq_true h4
          (simp [numFin, h1', h2', h0, h3', h4'] <;> omega)
        · refine fin3 ⟨?_⟩
          have h4' : ¬ 1 < (k : Int) := of_decide_eq_false h4
          (simp [numFin, h1', h2', h0, h3', h4'] <;> omega)
      · refine fin3 ⟨?_⟩
        have h3' : ¬ s[0].toNat = 48 := fun e => by rw [e] at h3; cases h3
        (simp [numFin, h1', h2', h0, h3'] <;> omega)
    | true =>
      have hk1 : 1 ≤ k := hn1 rfl
      conv => whnf
      have e1 : IntKind.i64.wrap ((k : Int) - 1) = (k : Int) - 1 := wrapI (by omega)
      have e : IntKind.i64.wrap ((k : Int) - IntKind.i64.wrap ((k : Int) - 1)) = 1 := by rw [e1, show (k : Int) - ((k : Int) - 1) = 1 by omega]; rfl
      split <;> rename_i h1 <;> conv => whnf
      · refine fin3 ⟨?_⟩
        have h1' : IntKind.i64.wrap ((k : Int) - 1) = 0 := by simpa using h1
        simp [numFin, h1']
      have h1' : ¬ IntKind.i64.wrap ((k : Int) - 1) = 0 := by simpa using h1
      split <;> rename_i h2 <;> conv => whnf
      · refine fin3 ⟨?_⟩
        have h2' := of_decide_eq_true h2
        simp [numFin, h1', h2']
      have h2' := of_decide_eq_false h2
      have h0 : 1 < s.size := by omega
      refine ⟨by show 0 ≤ IntKind.i64.wrap ((k : Int) - IntKind.i64.wrap ((k : Int) - 1)); rw [e]; decide, s[1], by show s[(IntKind.i64.wrap ((k : Int) - IntKind.i64.wrap ((k : Int) - 1))).toNat]? = _; rw [e]; exact atB h0, ?_⟩
      conv => whnf
      split <;> rename_i h3 <;> conv => whnf
      · have h3' : s[1].toNat = 48 := by have := eq_of_beq h3; omega
        split <;> rename_i h4 <;> conv => whnf
        · refine fin3 ⟨?_⟩
          simp [numFin, h1', h2', h0, h3']
        · refine fin3 ⟨?_⟩
          simp [numFin, h1', h2', h0, h3']
      · refine fin3 ⟨?_⟩
        have h3' : ¬ s[1].toNat = 48 := fun e => by rw [e] at h3; cases h3
        simp [numFin, h1', h2', h0, h3']
end Go.Proofs.Yteebnpkoephjnaa.Rx

/- Is a text a name? The program's answer. -/
set_option linter.unusedVariables false
set_option linter.unusedSimpArgs false
namespace Go.Rx
def wordL (s : ByteArray) : Int := if 12 < runB wordC s then 0 else runB wordC s
def nameB (s : ByteArray) : Bool := if h : 0 < s.size then letN s[0].toNat && (wordL s == s.size) else false
end Go.Rx
namespace Go.Proofs.Yteebnpkoephjnaa.Rx
open Go.Rx Go.Proofs Go.Proofs.Yteebnpkoephjnaa.RxH

theorem size_con (s : ByteArray) (hs : okS s) (h0 : 0 < s.size) : ∃ n : Int, Con P 89 [Sx s] (I n) [] ∧ (letN s[0].toNat = true → n = wordL s) := by
  obtain ⟨tx, tn, tok, hstr⟩ := jstring_con s hs
  have key : ∃ n : Int, (n = if letN s[0].toNat then wordL s else if ((s[0].toNat : Int) == 45) || digN s[0].toNat then (if (numR s).2.2 then (numR s).2.1 else 0)
      else if (s[0].toNat : Int) == 34 then (if tok && decide ((tx.size : Int) ≤ 40) then tn else 0) else if Lib.hasPrefix s.data.toList [46, 46, 46] then 3 else if decide ((0 : Int) ≤ Lib.indexByte [33, 36, 40, 41, 58, 61, 64, 91, 93, 123, 125] (s[0].toNat : Int).toNat.toUInt8) then 1 else 0) := ⟨_, rfl⟩
  obtain ⟨n, hn⟩ := key
  refine ⟨n, ?_, fun h => by rw [hn, if_pos h]⟩
  refine Con.of T_ok Try.func89 rfl (by kernel_rfl) (by kernel_rfl) (aw_of T_ok (by kernel_rfl) ?_)
  conv => whnf
  refine ⟨by omega, s[0], atB h0, ?_⟩
  conv => whnf
  refine callS (letter_con s[0].toNat) rfl ?_
  conv => whnf
  split <;> rename_i h1 <;> conv => whnf
  · rw [if_pos h1] at hn
    refine callS (run_con s hs) rfl ?_
    conv => whnf
    split <;> rename_i h2 <;> conv => whnf
    · refine finI ⟨?_⟩
      have h2' : 12 < runB wordC s := by have := of_decide_eq_true h2; omega
      rw [hn, wordL, if_pos h2']
    · refine finI ⟨?_⟩
      have h2' : ¬ 12 < runB wordC s := by have := of_decide_eq_false h2; omega
      rw [hn, wordL, if_neg h2']
  · rw [if_neg (by rw [h1]; decide)] at hn
    have num : ((s[0].toNat : Int) == 45 || digN s[0].toNat) = true → ∀ x, (if (numR s).2.2 then (numR s).2.1 else 0) = x → n = x := fun hc x hx => by rw [hn, if_pos hc, hx]
    split <;> rename_i h2 <;> conv => whnf
    · have num := num (by rw [show ((s[0].toNat : Int) == 45) = true from h2]; rfl)
      refine callS (number_con s hs) rfl ?_
      conv => whnf
      split <;> rename_i h3 <;> conv => whnf
      · exact finI ⟨(num _ (by rw [if_pos h3])).symm⟩
      · exact finI ⟨(num _ (by rw [if_neg (by rw [h3]; decide)])).symm⟩
    · refine callS (digit_con s[0].toNat) rfl ?_
      conv => whnf
      split <;> rename_i h4 <;> conv => whnf
      · have num := num (by rw [h4, Bool.or_true])
        refine callS (number_con s hs) rfl ?_
        conv => whnf
        split <;> rename_i h3 <;> conv => whnf
        · exact finI ⟨(num _ (by rw [if_pos h3])).symm⟩
        · exact finI ⟨(num _ (by rw [if_neg (by rw [h3]; decide)])).symm⟩
      · rw [if_neg (by rw [show ((s[0].toNat : Int) == 45) = false from h2, h4]; decide)] at hn
        split <;> rename_i h5 <;> conv => whnf
        · rw [if_pos (show ((s[0].toNat : Int) == 34) = true from h5)] at hn
          refine callS hstr rfl ?_
          conv => whnf
          split <;> rename_i h6 <;> conv => whnf
          · split <;> rename_i h7 <;> conv => whnf
            · refine finI ⟨?_⟩
              rw [hn, if_pos (by rw [show decide ((tx.size : Int) ≤ 40) = true from h7]; rfl)]
            · refine finI ⟨?_⟩
              rw [hn, if_neg (by rw [show decide ((tx.size : Int) ≤ 40) = false from h7]; decide)]
          · refine finI ⟨?_⟩
            rw [hn, if_neg (by rw [Bool.false_and]; decide)]
        · rw [if_neg (by rw [show ((s[0].toNat : Int) == 34) = false from h5]; decide)] at hn
          refine callS (hasPrefix_con s ⟨#[46, 46, 46]⟩) rfl ?_
          conv => whnf
          split <;> rename_i h6 <;> conv => whnf
          · exact finI ⟨by rw [hn, if_pos h6]⟩
          · rw [if_neg (by rw [h6]; decide)] at hn
            refine callS (indexByte_con ⟨#[33, 36, 40, 41, 58, 61, 64, 91, 93, 123, 125]⟩ (s[0].toNat : Int)) rfl ?_
            conv => whnf
            split <;> rename_i h7 <;> conv => whnf
            · exact finI ⟨by rw [hn, if_pos (show decide ((0 : Int) ≤ Lib.indexByte [33, 36, 40, 41, 58, 61, 64, 91, 93, 123, 125] (s[0].toNat : Int).toNat.toUInt8) = true from h7)]⟩
            · exact finI ⟨by rw [hn, if_neg (by rw [show decide ((0 : Int) ≤ Lib.indexByte [33, 36, 40, 41, 58, 61, 64, 91, 93, 123, 125] (s[0].toNat : Int).toNat.toUInt8) = false from h7]; decide)]⟩
theorem ne_empty (s : ByteArray) : (s != ⟨#[]⟩) = decide (0 < s.size) := by
  rw [Bool.eq_iff_iff, bne_iff_ne, decide_eq_true_eq]
  constructor
  · intro h
    rcases Nat.eq_zero_or_pos s.size with e | e
    · exact absurd (ByteArray.ext (Array.eq_empty_of_size_eq_zero e)) h
    · exact e
  · rintro h rfl
    exact absurd h (by decide)
theorem lexOne_con (s : ByteArray) (hs : okS s) : ∃ b, Con P 79 [Sx s] (Bl b) [] ∧ (s.size = 0 → b = false) ∧ ∀ h : 0 < s.size, letN s[0].toNat = true → b = (wordL s == s.size) := by
  by_cases h0 : 0 < s.size
  · obtain ⟨n, hc, hn⟩ := size_con s hs h0
    refine ⟨n == s.size, ?_, fun e => by omega, fun _ h => by rw [hn h]⟩
    refine Con.of T_ok Try.func79 rfl (by kernel_rfl) (by kernel_rfl) (aw_of T_ok (by kernel_rfl) ?_)
    conv => whnf
    split <;> rename_i h1 <;> conv => whnf
    · refine callS hc rfl ?_
      conv => whnf
      exact finB ⟨rfl⟩
    · have h1' : (s != ⟨#[]⟩) = false := h1
      rw [ne_empty, decide_eq_true h0] at h1'
      cases h1'
  · refine ⟨false, ?_, fun _ => rfl, fun h => absurd h h0⟩
    refine Con.of T_ok Try.func79 rfl (by kernel_rfl) (by kernel_rfl) (aw_of T_ok (by kernel_rfl) ?_)
    conv => whnf
    split <;> rename_i h1 <;> conv => whnf
    · have h1' : (s != ⟨#[]⟩) = true := h1
      rw [ne_empty, decide_eq_false h0] at h1'
      cases h1'
    · exact finB ⟨rfl⟩
theorem name_con (s : ByteArray) (hs : okS s) : Con P 67 [Sx s] (Bl (nameB s)) [] := by
  obtain ⟨b, hc, hb0, hb⟩ := lexOne_con s hs
  refine Con.of T_ok Try.func67 rfl (by kernel_rfl) (by kernel_rfl) (aw_of T_ok (by kernel_rfl) ?_)
  conv => whnf
  refine callS hc rfl ?_
  conv => whnf
  split <;> rename_i h1 <;> conv => whnf
  · have h0 : 0 < s.size := by
      rcases Nat.eq_zero_or_pos s.size with e | e
      · cases hb0 e
      · exact e
    refine ⟨by omega, s[0], atB h0, ?_⟩
    conv => whnf
    refine callS (letter_con s[0].toNat) rfl ?_
    conv => whnf
    refine finB ⟨?_⟩
    rw [nameB, dif_pos h0]
    cases hl : letN s[0].toNat with
    | false => rfl
    | true => rw [← hb h0 hl]; rfl
  · refine finB ⟨?_⟩
    rw [nameB]
    split
    · rename_i h0
      cases hl : letN s[0].toNat with
      | false => rfl
      | true => rw [← hb h0 hl]; rfl
    · rfl
end Go.Proofs.Yteebnpkoephjnaa.Rx

/- Is a text a name? The page's answer. -/
set_option linter.unusedVariables false
set_option linter.unusedSimpArgs false
namespace Go.Rx
def intGo : List UInt8 → Int → Option Int
  | [], n => some n
  | c :: l, n => if (decide ((c.toNat : Int) < 48) || decide (57 < (c.toNat : Int))) = true then none else intGo l (IntKind.i64.wrap (IntKind.i64.wrap (10 * n) + IntKind.i64.wrap (IntKind.u8.wrap ((c.toNat : Int) - 48))))
theorem int_go {s : ByteArray} {k : Nat} {n : Int} (h : k < s.size) : intGo (s.data.toList.drop k) n = if (decide ((s[k].toNat : Int) < 48) || decide (57 < (s[k].toNat : Int))) = true then none else intGo (s.data.toList.drop (k + 1)) (IntKind.i64.wrap (IntKind.i64.wrap (10 * n) + IntKind.i64.wrap (IntKind.u8.wrap ((s[k].toNat : Int) - 48)))) := by
  rw [List.drop_eq_getElem_cons (by simpa using h), intGo]; rfl
theorem int_end {s : ByteArray} {k : Nat} {n : Int} (h : s.size ≤ k) : intGo (s.data.toList.drop k) n = some n := by
  rw [List.drop_of_length_le (by simpa using h)]; rfl
def intFin (s d : ByteArray) : Int × Bool :=
  if (d.size : Int) = 0 then (0, false) else if 10 < (d.size : Int) then (0, false) else if ((d[0]?).getD 0).toNat = 48 ∧ (s != ⟨#[48]⟩) = true then (0, false)
  else match intGo d.data.toList 0 with
    | none => (0, false)
    | some n => if 1073741824 < n then (0, false) else if (d.size : Int) < s.size then (IntKind.i64.wrap (0 - n), true) else (n, true)
def intR (s : ByteArray) : Int × Bool := if 0 < s.size ∧ ((s[0]?).getD 0).toNat = 45 then intFin s (s.extract 1 s.size) else intFin s s
abbrev num2 (p : Int × Bool) : AV := .tup [.lf (.pv (pI p.1)), .lf (.pv (pB p.2))]
theorem fin2 {a : Int} {c : Bool} {q : Int × Bool} (h : Fin (a, c) q) : ∃ zs, Fa WkA [Go.Rx.I a, Bl c] zs ∧ pack zs = some (num2 q) := ⟨_, wk_refl _, by rw [← h.out]; rfl⟩
end Go.Rx
namespace Go.Proofs.Yteebnpkoephjnaa.Rx
open Go.Rx Go.Proofs Go.Proofs.Yteebnpkoephjnaa.RxH

theorem int_con (s : ByteArray) (hs : okS s) : Con P 85 [Sx s] (num2 (intR s)) [] := by
  simp only [okS] at hs
  refine Con.of T_ok Try.func85 rfl (by kernel_rfl) (by kernel_rfl) (aw_ofC T_ok 1002 (by kernel_rfl) ?_)
  conv => whnf
  refine AW.cut (fun d : ByteArray => d.size ≤ s.size ∧ intR s = intFin s d) (fun d => [(0, Sx s), (4, Sx d)]) (fun _ => []) [] (aw_of T_ok (by kernel_rfl) ?_) ?_
  · conv => whnf
    split <;> rename_i h1 <;> conv => whnf
    · have h0 : 0 < s.size := by have := of_decide_eq_true h1; omega
      refine ⟨by omega, s[0], atB h0, ?_⟩
      conv => whnf
      split <;> rename_i h2 <;> conv => whnf
      · have h2' : s[0].toNat = 45 := by have := eq_of_beq h2; omega
        refine ⟨by decide, by omega, by omega, ?_⟩
        conv => whnf
        refine ⟨s.extract 1 s.size, ⟨by rw [ByteArray.size_extract]; omega, ?_⟩, ⟨rfl, ?_, trivial⟩, ⟨[], rfl⟩, rfl, rfl⟩
        · rw [intR, if_pos ⟨h0, by simp [h0, h2']⟩]
        · exact congrArg Sx (by simp)
      · have h2' : ¬ s[0].toNat = 45 := fun e => by rw [e] at h2; cases h2
        exact ⟨s, ⟨Nat.le_refl _, by rw [intR, if_neg (by simp [h0, h2'])]⟩, ⟨rfl, rfl, trivial⟩, ⟨[], rfl⟩, rfl, rfl⟩
    · have h0 : ¬ 0 < s.size := by have := of_decide_eq_false h1; omega
      exact ⟨s, ⟨Nat.le_refl _, by rw [intR, if_neg (fun e => h0 e.1)]⟩, ⟨rfl, rfl, trivial⟩, ⟨[], rfl⟩, rfl, rfl⟩
  rintro d ⟨hd, hR⟩
  rw [hR]
  refine aw_ofC T_ok 1004 (by kernel_rfl) ?_
  conv => whnf
  refine AW.cut (fun _ : Unit => intFin s d = match intGo d.data.toList 0 with
    | none => (0, false)
    | some n => if 1073741824 < n then (0, false) else if (d.size : Int) < s.size then (IntKind.i64.wrap (0 - n), true) else (n, true)) (fun _ => [(0, Sx s), (4, Sx d)]) (fun _ => []) [] (aw_of T_ok (by kernel_rfl) ?_) ?_
  · conv => whnf
    split <;> rename_i h1 <;> conv => whnf
    · have h1' : (d.size : Int) = 0 := eq_of_beq h1
      exact fin2 ⟨by rw [intFin, if_pos h1']⟩
    · have h1' : ¬ (d.size : Int) = 0 := fun e => by rw [e] at h1; cases h1
      split <;> rename_i h2 <;> conv => whnf
      · have h2' : 10 < (d.size : Int) := of_decide_eq_true h2
        exact fin2 ⟨by rw [intFin, if_neg h1', if_pos h2']⟩
      · have h2' : ¬ 10 < (d.size : Int) := of_decide_eq_false h2
        have h0 : 0 < d.size := by omega
        refine ⟨by omega, d[0], atB h0, ?_⟩
        conv => whnf
        split <;> rename_i h3 <;> conv => whnf
        · have h3' : d[0].toNat = 48 := by have := eq_of_beq h3; omega
          split <;> rename_i h4 <;> conv => whnf
          · exact fin2 ⟨by rw [intFin, if_neg h1', if_neg h2', if_pos ⟨by simp [h0, h3'], h4⟩]⟩
          · exact ⟨(), by rw [intFin, if_neg h1', if_neg h2', if_neg (by rintro ⟨_, e⟩; rw [show (s != ⟨#[48]⟩) = false from h4] at e; cases e)], ⟨rfl, rfl, trivial⟩, ⟨[], rfl⟩, rfl, rfl⟩
        · have h3' : ¬ d[0].toNat = 48 := fun e => by rw [e] at h3; cases h3
          exact ⟨(), by rw [intFin, if_neg h1', if_neg h2', if_neg (by simp [h0, h3'])], ⟨rfl, rfl, trivial⟩, ⟨[], rfl⟩, rfl, rfl⟩
  rintro _ hI
  rw [hI]
  refine aw_of T_ok (by kernel_rfl) ?_
  conv => whnf
  refine AW.loop (fun p : Nat × Int => p.1 ≤ d.size ∧ intGo (d.data.toList.drop p.1) p.2 = intGo d.data.toList 0) (fun p => [(0, Sx s), (4, Sx d), (5, Go.Rx.I p.2), (6, Go.Rx.I p.1)]) (fun _ => []) (fun p => d.size - p.1) [] ?_ ?_
  · exact ⟨(0, 0), ⟨Nat.zero_le _, rfl⟩, ⟨rfl, rfl, rfl, rfl, trivial⟩, ⟨[], rfl⟩, rfl, rfl⟩
  rintro ⟨k, n⟩ ⟨hk, hpre⟩
  simp only at hk hpre
  rw [← hpre]
  refine aw_of T_ok (by kernel_rfl) ?_
  conv => whnf
  split <;> rename_i hlt <;> conv => whnf
  · have hks : k < d.size := by simpa using hlt
    refine ⟨by omega, d[k], atB hks, ?_⟩
    conv => whnf
    split <;> rename_i h4 <;> conv => whnf
    · refine fin2 ⟨?_⟩
      rw [int_go hks, if_pos (by rw [show decide ((d[k].toNat : Int) < 48) = true from h4]; rfl)]
    · refine ⟨by omega, d[k], atB hks, ?_⟩
      conv => whnf
      split <;> rename_i h5 <;> conv => whnf
      · refine fin2 ⟨?_⟩
        rw [int_go hks, if_pos (by rw [show decide (57 < (d[k].toNat : Int)) = true from h5, Bool.or_true])]
      · refine ⟨by omega, d[k], atB hks, ?_⟩
        conv => whnf
        have hst : intGo (d.data.toList.drop (k + 1)) (IntKind.i64.wrap (IntKind.i64.wrap (10 * n) + IntKind.i64.wrap (IntKind.u8.wrap ((d[k].toNat : Int) - 48)))) = intGo (d.data.toList.drop k) n := by
          rw [int_go (n := n) hks, if_neg (by rw [show decide ((d[k].toNat : Int) < 48) = false from h4, show decide (57 < (d[k].toNat : Int)) = false from h5]; decide)]
        exact ⟨(k + 1, IntKind.i64.wrap (IntKind.i64.wrap (10 * n) + IntKind.i64.wrap (IntKind.u8.wrap ((d[k].toNat : Int) - 48)))), ⟨⟨by show k + 1 ≤ _; omega, hst⟩, by show _ - (k + 1) < _; omega⟩, ⟨rfl, rfl, rfl, congrArg Go.Rx.I (wrapI (by omega)), trivial⟩, ⟨[], rfl⟩, rfl, rfl⟩
  · have hks : d.size ≤ k := by simpa using hlt
    rw [int_end hks]
    split <;> rename_i h4 <;> conv => whnf
    · exact fin2 ⟨by simp only; rw [if_pos (of_decide_eq_true h4)]⟩
    · have h4' := of_decide_eq_false h4
      split <;> rename_i h5 <;> conv => whnf
      · exact fin2 ⟨by simp only; rw [if_neg h4', if_pos (of_decide_eq_true h5)]⟩
      · exact fin2 ⟨by simp only; rw [if_neg h4', if_neg (of_decide_eq_false h5)]⟩
end Go.Proofs.Yteebnpkoephjnaa.Rx

/- Is a text a name? The page's answer, all of it. -/
set_option linter.unusedVariables false
set_option linter.unusedSimpArgs false
namespace Go.Rx
def badB (c : UInt8) : Bool := decide ((c.toNat : Int) < 32) || decide (126 < (c.toNat : Int))
def textGo : List UInt8 → Int → ByteArray → Int × ByteArray
  | [], _, _ => (0, ⟨#[]⟩)
  | c :: t, i, b =>
    if ((c.toNat : Int) == 34) = true then (if 40 < (b.size : Int) then (0, ⟨#[]⟩) else (i + 1, b))
    else if ((c.toNat : Int) == 92) = true then
      (match t with
       | [] => (0, ⟨#[]⟩)
       | e :: t' => if (((e.toNat : Int) != 34) && ((e.toNat : Int) != 92)) = true then (0, ⟨#[]⟩) else if badB e then (0, ⟨#[]⟩) else textGo t' (i + 2) (b.push e))
    else if badB c then (0, ⟨#[]⟩) else textGo t (i + 1) (b.push c)
theorem text_cons (c : UInt8) (t : List UInt8) (i : Int) (b : ByteArray) : textGo (c :: t) i b =
    if ((c.toNat : Int) == 34) = true then (if 40 < (b.size : Int) then (0, ⟨#[]⟩) else (i + 1, b))
    else if ((c.toNat : Int) == 92) = true then
      (match t with
       | [] => (0, ⟨#[]⟩)
       | e :: t' => if (((e.toNat : Int) != 34) && ((e.toNat : Int) != 92)) = true then (0, ⟨#[]⟩) else if badB e then (0, ⟨#[]⟩) else textGo t' (i + 2) (b.push e))
    else if badB c then (0, ⟨#[]⟩) else textGo t (i + 1) (b.push c) := by
  cases t <;> rw [textGo.eq_def]
theorem dropB (s : ByteArray) (k : Nat) (h : k < s.size) : s.data.toList.drop k = s[k] :: s.data.toList.drop (k + 1) := by
  rw [List.drop_eq_getElem_cons (by simpa using h)]; rfl
theorem dropE {s : ByteArray} {k : Nat} (h : s.size ≤ k) : s.data.toList.drop k = [] := List.drop_of_length_le (by simpa using h)
theorem push_rows (b : ByteArray) (c : UInt8) : byteRows (b.push c) = byteRows b ++ [[pU8 c.toNat]] := by
  unfold byteRows ByteArray.push
  simp
theorem rows_len (b : ByteArray) : (byteRows b).length = b.size := by simp [byteRows]
abbrev numS (p : Int × ByteArray) : AV := .tup [.lf (.pv (pI p.1)), .lf (.pv (pS p.2))]
theorem finS {a : Int} {c : ByteArray} {q : Int × ByteArray} (h : Fin (a, c) q) : ∃ zs, Fa WkA [Go.Rx.I a, Sx c] zs ∧ pack zs = some (numS q) := ⟨_, wk_refl _, by rw [← h.out]; rfl⟩
end Go.Rx
namespace Go.Proofs.Yteebnpkoephjnaa.Rx
open Go.Rx Go.Proofs Go.Proofs.Yteebnpkoephjnaa.RxH

theorem text_con (s : ByteArray) (hs : okS s) : Con P 86 [Sx s] (numS (textGo (s.data.toList.drop 1) 1 ⟨#[]⟩)) [] := by
  simp only [okS] at hs
  refine Con.of T_ok Try.func86 rfl (by kernel_rfl) (by kernel_rfl) (aw_of T_ok (by kernel_rfl) ?_)
  conv => whnf
  refine AW.loop (fun p : Nat × ByteArray => 1 ≤ p.1 ∧ p.1 ≤ s.size + 1 ∧ p.2.size < p.1 ∧ textGo (s.data.toList.drop p.1) p.1 p.2 = textGo (s.data.toList.drop 1) 1 ⟨#[]⟩) (fun p => [(0, Sx s), (4, .lf (.own 0 p.2.size)), (5, Go.Rx.I p.1)]) (fun p => [.arr 5 1 (byteRows p.2)]) (fun p => s.size + 1 - p.1) [.slot 4 5 1] ?_ ?_
  · exact ⟨rfl, (1, ⟨#[]⟩), ⟨Nat.le_refl _, by omega, by decide, rfl⟩, ⟨rfl, rfl, rfl, trivial⟩, ⟨[], rfl⟩, rfl, rfl⟩
  rintro ⟨k, b⟩ ⟨hk1, hk, hb, hpre⟩
  simp only at hk1 hk hb hpre
  rw [← hpre]
  refine aw_of T_ok (by kernel_rfl) ?_
  conv => whnf
  split <;> rename_i hlt <;> conv => whnf
  · have hks : k < s.size := by simpa using hlt
    rw [dropB s k hks]
    refine ⟨by omega, s[k], atB hks, ?_⟩
    conv => whnf
    split <;> rename_i h1 <;> conv => whnf
    · refine ⟨by simp [byteRows], ?_⟩
      conv => whnf
      split <;> rename_i h2 <;> conv => whnf
      · refine finS ⟨?_⟩
        rw [text_cons, if_pos h1, if_pos (of_decide_eq_true h2)]
      · refine AW.draw T_ok rfl (seqPl 0 6) (by kernel_rfl) (by kernel_rfl) ?_
        conv => whnf
        refine ⟨by simp [byteRows], b, rfl, ?_⟩
        conv => whnf
        refine finS ⟨?_⟩
        rw [text_cons, if_pos h1, if_neg (of_decide_eq_false h2)]
        exact congrArg (·, b) (wrapI (by omega))
    · have h1' : ¬ ((s[k].toNat : Int) == 34) = true := by rw [h1]; decide
      split <;> rename_i h2 <;> conv => whnf
      · have e1 : IntKind.i64.wrap ((k : Int) + 1) = (k : Int) + 1 := wrapI (by omega)
        split <;> rename_i h3 <;> conv => whnf
        · refine finS ⟨?_⟩
          have h3' : s.size ≤ k + 1 := by have : ((s.size : Int) ≤ IntKind.i64.wrap ((k : Int) + 1)) := of_decide_eq_true h3; rw [e1] at this; omega
          rw [dropE h3', text_cons, if_neg h1', if_pos h2]
        · have hks2 : k + 1 < s.size := by have : ¬ ((s.size : Int) ≤ IntKind.i64.wrap ((k : Int) + 1)) := of_decide_eq_false h3; rw [e1] at this; omega
          rw [dropB s (k + 1) hks2]
          have ix : s[(IntKind.i64.wrap ((k : Int) + 1)).toNat]? = some s[k + 1] := by rw [e1]; exact atB hks2
          refine ⟨by show 0 ≤ IntKind.i64.wrap ((k : Int) + 1); rw [e1]; omega, s[k + 1], ix, ?_⟩
          conv => whnf
          split <;> rename_i h4 <;> conv => whnf
          · refine ⟨by show 0 ≤ IntKind.i64.wrap ((k : Int) + 1); rw [e1]; omega, s[k + 1], ix, ?_⟩
            conv => whnf
            split <;> rename_i h5 <;> conv => whnf
            · refine finS ⟨?_⟩
              rw [text_cons, if_neg h1', if_pos h2]
              simp only
              rw [if_pos (by rw [show ((s[k + 1].toNat : Int) != 34) = true from h4, show ((s[k + 1].toNat : Int) != 92) = true from h5]; rfl)]
            · have hne : (((s[k + 1].toNat : Int) != 34) && ((s[k + 1].toNat : Int) != 92)) = false := by rw [show ((s[k + 1].toNat : Int) != 92) = false from h5, Bool.and_false]
              refine ⟨by show 0 ≤ IntKind.i64.wrap ((k : Int) + 1); rw [e1]; omega, s[k + 1], ix, ?_⟩
              conv => whnf
              split <;> rename_i h7 <;> conv => whnf
              · refine finS ⟨?_⟩
                have hbad : badB s[k + 1] = true := by rw [badB, show decide ((s[k + 1].toNat : Int) < 32) = true from h7]; rfl
                rw [text_cons, if_neg h1', if_pos h2]; simp only; rw [if_neg (by rw [hne]; decide), if_pos hbad]
              · split <;> rename_i h8 <;> conv => whnf
                · refine finS ⟨?_⟩
                  have hbad : badB s[k + 1] = true := by rw [badB, show decide (126 < (s[k + 1].toNat : Int)) = true from h8, Bool.or_true]
                  rw [text_cons, if_neg h1', if_pos h2]; simp only; rw [if_neg (by rw [hne]; decide), if_pos hbad]
                · have hbad : badB s[k + 1] = false := by rw [badB, show decide ((s[k + 1].toNat : Int) < 32) = false from h7, show decide (126 < (s[k + 1].toNat : Int)) = false from h8]; rfl
                  refine ⟨rfl, _, .inl rfl, ?_⟩
                  conv => whnf
                  refine ⟨by simp [byteRows], by show (b.size + 1) * 1 ≤ _; omega, ?_⟩
                  conv => whnf
                  refine ⟨(k + 2, b.push s[k + 1]), ⟨⟨by show 1 ≤ k + 2; omega, by show k + 2 ≤ _; omega, by show (b.push s[k + 1]).size < k + 2; rw [ByteArray.size_push]; omega, ?_⟩, by show _ - (k + 2) < _; omega⟩, ⟨rfl, congrArg (fun n => AV.lf (.own 0 n)) (ByteArray.size_push ..).symm, congrArg Go.Rx.I ?_, trivial⟩, ⟨[?r1], ?e1⟩, rfl, rfl⟩
                  case e1 => show _ = [Blk.arr _ _ (byteRows (b.push s[k + 1]))] ++ [_]; rw [push_rows]; rfl
                  · show textGo (s.data.toList.drop (k + 2)) ((k + 2 : Nat) : Int) _ = _
                    rw [text_cons, if_neg h1', if_pos h2]; simp only; rw [if_neg (by rw [hne]; decide), if_neg (by rw [hbad]; decide)]; rfl
                  · show IntKind.i64.wrap (IntKind.i64.wrap ((k : Int) + 1) + 1) = _
                    rw [e1]; rw [wrapI (by omega)]; show _ = ((k + 2 : Nat) : Int); omega
          · have hne : (((s[k + 1].toNat : Int) != 34) && ((s[k + 1].toNat : Int) != 92)) = false := by rw [show ((s[k + 1].toNat : Int) != 34) = false from h4]; rfl
            refine ⟨by show 0 ≤ IntKind.i64.wrap ((k : Int) + 1); rw [e1]; omega, s[k + 1], ix, ?_⟩
            conv => whnf
            split <;> rename_i h7 <;> conv => whnf
            · refine finS ⟨?_⟩
              have hbad : badB s[k + 1] = true := by rw [badB, show decide ((s[k + 1].toNat : Int) < 32) = true from h7]; rfl
              rw [text_cons, if_neg h1', if_pos h2]; simp only; rw [if_neg (by rw [hne]; decide), if_pos hbad]
            · split <;> rename_i h8 <;> conv => whnf
              · refine finS ⟨?_⟩
                have hbad : badB s[k + 1] = true := by rw [badB, show decide (126 < (s[k + 1].toNat : Int)) = true from h8, Bool.or_true]
                rw [text_cons, if_neg h1', if_pos h2]; simp only; rw [if_neg (by rw [hne]; decide), if_pos hbad]
              · have hbad : badB s[k + 1] = false := by rw [badB, show decide ((s[k + 1].toNat : Int) < 32) = false from h7, show decide (126 < (s[k + 1].toNat : Int)) = false from h8]; rfl
                refine ⟨rfl, _, .inl rfl, ?_⟩
                conv => whnf
                refine ⟨by simp [byteRows], by show (b.size + 1) * 1 ≤ _; omega, ?_⟩
                conv => whnf
                refine ⟨(k + 2, b.push s[k + 1]), ⟨⟨by show 1 ≤ k + 2; omega, by show k + 2 ≤ _; omega, by show (b.push s[k + 1]).size < k + 2; rw [ByteArray.size_push]; omega, ?_⟩, by show _ - (k + 2) < _; omega⟩, ⟨rfl, congrArg (fun n => AV.lf (.own 0 n)) (ByteArray.size_push ..).symm, congrArg Go.Rx.I ?_, trivial⟩, ⟨[?r2], ?e2⟩, rfl, rfl⟩
                case e2 => show _ = [Blk.arr _ _ (byteRows (b.push s[k + 1]))] ++ [_]; rw [push_rows]; rfl
                · show textGo (s.data.toList.drop (k + 2)) ((k + 2 : Nat) : Int) _ = _
                  rw [text_cons, if_neg h1', if_pos h2]; simp only; rw [if_neg (by rw [hne]; decide), if_neg (by rw [hbad]; decide)]; rfl
                · show IntKind.i64.wrap (IntKind.i64.wrap ((k : Int) + 1) + 1) = _
                  rw [e1]; rw [wrapI (by omega)]; show _ = ((k + 2 : Nat) : Int); omega
      · have h2' : ¬ ((s[k].toNat : Int) == 92) = true := by rw [h2]; decide
        split <;> rename_i h7 <;> conv => whnf
        · refine finS ⟨?_⟩
          have hbad : badB s[k] = true := by rw [badB, show decide ((s[k].toNat : Int) < 32) = true from h7]; rfl
          rw [text_cons, if_neg h1', if_neg h2', if_pos hbad]
        · split <;> rename_i h8 <;> conv => whnf
          · refine finS ⟨?_⟩
            have hbad : badB s[k] = true := by rw [badB, show decide (126 < (s[k].toNat : Int)) = true from h8, Bool.or_true]
            rw [text_cons, if_neg h1', if_neg h2', if_pos hbad]
          · have hbad : badB s[k] = false := by rw [badB, show decide ((s[k].toNat : Int) < 32) = false from h7, show decide (126 < (s[k].toNat : Int)) = false from h8]; rfl
            refine ⟨rfl, _, .inl rfl, ?_⟩
            conv => whnf
            refine ⟨by simp [byteRows], by show (b.size + 1) * 1 ≤ _; omega, ?_⟩
            conv => whnf
            refine ⟨(k + 1, b.push s[k]), ⟨⟨by show 1 ≤ k + 1; omega, by show k + 1 ≤ _; omega, by show (b.push s[k]).size < k + 1; rw [ByteArray.size_push]; omega, ?_⟩, by show _ - (k + 1) < _; omega⟩, ⟨rfl, congrArg (fun n => AV.lf (.own 0 n)) (ByteArray.size_push ..).symm, congrArg Go.Rx.I ?_, trivial⟩, ⟨[?r3], ?e3⟩, rfl, rfl⟩
            case e3 => show _ = [Blk.arr _ _ (byteRows (b.push s[k]))] ++ [_]; rw [push_rows]; rfl
            · show textGo (s.data.toList.drop (k + 1)) ((k + 1 : Nat) : Int) _ = _
              rw [text_cons, if_neg h1', if_neg h2', if_neg (by rw [hbad]; decide)]; rfl
            · show IntKind.i64.wrap ((k : Int) + 1) = _
              rw [wrapI (by omega)]; show _ = ((k + 1 : Nat) : Int); omega
  · have hks : s.size ≤ k := by simpa using hlt
    rw [dropE hks]
    exact finS ⟨rfl⟩
end Go.Proofs.Yteebnpkoephjnaa.Rx

/- One word, and names, as the page has them. -/
set_option linter.unusedVariables false
set_option linter.unusedSimpArgs false
namespace Go.Rx
def digC (c : UInt8) : Bool := digN c.toNat
def signB : List UInt8 := [33, 36, 40, 41, 58, 61, 64, 91, 93, 123, 125]
def numL (s : ByteArray) : Nat := 1 + ((s.data.toList.drop 1).takeWhile digC).length
def oneI (s : ByteArray) (c : UInt8) : Int :=
  if letN c.toNat then wordL s else if ((c.toNat : Int) == 45) || digN c.toNat then (if (intR (s.extract 0 (numL s))).2 then (numL s : Int) else 0)
  else if (c.toNat : Int) == 34 then (textGo (s.data.toList.drop 1) 1 ⟨#[]⟩).1
  else if decide (2 < (s.size : Int)) && (s.extract 0 3 == ⟨#[46, 46, 46]⟩) then 3 else if signB.any (fun x => ((x.toNat : Int) == c.toNat)) then 1 else 0
theorem any_go {α : Type} {p : α → Bool} {l : List α} {k : Nat} (h : k < l.length) : (l.drop k).any p = (p l[k] || (l.drop (k + 1)).any p) := by
  rw [List.drop_eq_getElem_cons h, List.any_cons]
theorem any_end {α : Type} {p : α → Bool} {l : List α} {k : Nat} (h : l.length ≤ k) : (l.drop k).any p = false := by
  rw [List.drop_of_length_le h]; rfl
end Go.Rx
namespace Go.Proofs.Yteebnpkoephjnaa.Rx
open Go.Rx Go.Proofs Go.Proofs.Yteebnpkoephjnaa.RxH

theorem one_con (s : ByteArray) (hs : okS s) (h0 : 0 < s.size) : Con P 74 [Sx s] (I (oneI s s[0])) [] := by
  have hs' := hs
  simp only [okS] at hs
  refine Con.of T_ok Try.func74 rfl (by kernel_rfl) (by kernel_rfl) (aw_ofC T_ok 0 (by kernel_rfl) ?_)
  conv => whnf
  refine ⟨by omega, s[0], atB h0, ?_⟩
  conv => whnf
  refine AW.cut (fun _ : Unit => oneI s s[0] = if signB.any (fun x => ((x.toNat : Int) == s[0].toNat)) then 1 else 0) (fun _ => [(4, U8 s[0].toNat)]) (fun _ => []) [] (AW.block (aw_ofC T_ok 2009 (by kernel_rfl) ?_)) ?_
  rotate_left
  · rintro _ hI
    rw [hI]
    refine aw_of T_ok (by kernel_rfl) ?_
    conv => whnf
    refine ⟨rfl, ?_⟩
    conv => whnf
    refine AW.loop (fun k : Nat => k ≤ 11 ∧ (signB.drop k).any (fun x => ((x.toNat : Int) == s[0].toNat)) = signB.any (fun x => ((x.toNat : Int) == s[0].toNat))) (fun k => [(4, U8 s[0].toNat), (83, .lf (.pv (.sl 1 (signB.map fun c => [pU8 c.toNat])))), (84, Go.Rx.I 11), (85, Go.Rx.I k)]) (fun _ => []) (fun k => 11 - k) [] ?_ ?_
    · exact ⟨0, ⟨Nat.zero_le _, rfl⟩, ⟨rfl, rfl, rfl, rfl, trivial⟩, ⟨_, rfl⟩, rfl, rfl⟩
    rintro k ⟨hk, hpre⟩
    rw [← hpre]
    refine aw_of T_ok (by kernel_rfl) ?_
    conv => whnf
    split <;> rename_i hlt <;> conv => whnf
    · have hk11 : k < 11 := by have := of_decide_eq_true hlt; omega
      have hks : k < signB.length := hk11
      rw [any_go hks]
      refine ⟨by omega, [pU8 signB[k].toNat], by rw [Int.toNat_natCast, List.getElem?_map, List.getElem?_eq_getElem hks]; rfl, ?_⟩
      conv => whnf
      split <;> rename_i he <;> conv => whnf
      · exact finI ⟨by rw [if_pos (by rw [show ((signB[k].toNat : Int) == s[0].toNat) = true from he]; rfl)]⟩
      · refine ⟨k + 1, ⟨⟨by omega, ?_⟩, by omega⟩, ⟨rfl, rfl, rfl, congrArg Go.Rx.I (wrapI (by omega)), trivial⟩, ⟨[], rfl⟩, rfl, rfl⟩
        rw [show ((signB[k].toNat : Int) == s[0].toNat) = false from he, Bool.false_or]
    · have hks : signB.length ≤ k := by have := of_decide_eq_false hlt; show 11 ≤ k; omega
      exact finI ⟨by rw [any_end hks]; rfl⟩
  conv => whnf
  refine callS (letter2_con s[0].toNat) rfl ?_
  conv => whnf
  split <;> rename_i h1 <;> conv => whnf
  · rw [oneI, if_pos h1]
    refine AW.loop (fun k : Nat => k ≤ s.size ∧ k + ((s.data.toList.drop k).takeWhile wordC).length = runB wordC s) (fun k => [(0, Sx s), (3, Go.Rx.I k)]) (fun _ => []) (fun k => s.size - k) [] ?_ ?_
    · exact ⟨0, ⟨Nat.zero_le _, by rw [runB, List.drop_zero, Nat.zero_add]⟩, ⟨rfl, rfl, trivial⟩, ⟨[], rfl⟩, rfl, rfl⟩
    rintro k ⟨hk, hpre⟩
    have fin : k = runB wordC s → ∀ b, decide (12 < (k : Int)) = b → (if b then (0 : Int) else k) = wordL s := fun h b hb => by
      subst hb
      rw [wordL, ← h]
      by_cases c : 12 < k
      · rw [if_pos c, if_pos (decide_eq_true (by omega))]
      · rw [if_neg c, if_neg (by rw [decide_eq_false (by omega)]; decide)]
    refine aw_of T_ok (by kernel_rfl) ?_
    conv => whnf
    split <;> rename_i hlt <;> conv => whnf
    · have hks : k < s.size := by simpa using hlt
      refine ⟨by omega, s[k], atB hks, ?_⟩
      conv => whnf
      refine callS (letter2_con s[k].toNat) rfl ?_
      conv => whnf
      split <;> rename_i h2 <;> conv => whnf
      · have hw : wordC s[k] = true := by rw [wordC, wordN, h2]; rfl
        rw [run_go hks hw] at hpre
        exact ⟨k + 1, ⟨⟨by omega, hpre⟩, by omega⟩, ⟨rfl, congrArg Go.Rx.I (wrapI (by omega)), trivial⟩, ⟨[], rfl⟩, rfl, rfl⟩
      · refine ⟨by omega, s[k], atB hks, ?_⟩
        conv => whnf
        refine callS (digit2_con s[k].toNat) rfl ?_
        conv => whnf
        split <;> rename_i h3 <;> conv => whnf
        · have hw : wordC s[k] = true := by rw [wordC, wordN, h3, Bool.or_true]
          rw [run_go hks hw] at hpre
          exact ⟨k + 1, ⟨⟨by omega, hpre⟩, by omega⟩, ⟨rfl, congrArg Go.Rx.I (wrapI (by omega)), trivial⟩, ⟨[], rfl⟩, rfl, rfl⟩
        · have hw : wordC s[k] = false := by rw [wordC, wordN, h2, h3]; rfl
          rw [run_stop hks hw] at hpre
          split <;> rename_i h4 <;> conv => whnf
          · exact finI ⟨fin hpre _ h4⟩
          · exact finI ⟨fin hpre _ h4⟩
    · have hks : s.size ≤ k := by simpa using hlt
      rw [run_end hks] at hpre
      split <;> rename_i h4 <;> conv => whnf
      · exact finI ⟨fin hpre _ h4⟩
      · exact finI ⟨fin hpre _ h4⟩
  rw [oneI, if_neg (by rw [h1]; decide)]
  refine AW.cut (fun _ : Unit => True) (fun _ => [(0, Sx s), (4, U8 s[0].toNat), (35, Bl (((s[0].toNat : Int) == 45) || digN s[0].toNat))]) (fun _ => []) [] (aw_of T_ok (by kernel_rfl) ?_) ?_
  · conv => whnf
    split <;> rename_i h2 <;> conv => whnf
    · exact ⟨(), trivial, ⟨rfl, rfl, congrArg Bl (by rw [show ((s[0].toNat : Int) == 45) = true from h2]; rfl), trivial⟩, ⟨[], rfl⟩, rfl, rfl⟩
    · refine callS (digit2_con s[0].toNat) rfl ?_
      conv => whnf
      exact ⟨(), trivial, ⟨rfl, rfl, congrArg Bl (by rw [show ((s[0].toNat : Int) == 45) = false from h2]; rfl), trivial⟩, ⟨[], rfl⟩, rfl, rfl⟩
  rintro _ _
  refine aw_of T_ok (by kernel_rfl) ?_
  conv => whnf
  split <;> rename_i h2 <;> conv => whnf
  · rw [if_pos h2]
    refine AW.loop (fun k : Nat => 1 ≤ k ∧ k ≤ s.size ∧ k + ((s.data.toList.drop k).takeWhile digC).length = numL s) (fun k => [(0, Sx s), (3, Go.Rx.I k)]) (fun _ => []) (fun k => s.size - k) [] ?_ ?_
    · exact ⟨1, ⟨Nat.le_refl _, h0, rfl⟩, ⟨rfl, rfl, trivial⟩, ⟨[], rfl⟩, rfl, rfl⟩
    rintro k ⟨hk1, hk, hpre⟩
    have okx : okS (s.extract 0 k) := by simp only [okS, ByteArray.size_extract]; omega
    refine aw_of T_ok (by kernel_rfl) ?_
    conv => whnf
    split <;> rename_i hlt <;> conv => whnf
    · have hks : k < s.size := by simpa using hlt
      refine ⟨by omega, s[k], atB hks, ?_⟩
      conv => whnf
      refine callS (digit2_con s[k].toNat) rfl ?_
      conv => whnf
      split <;> rename_i h3 <;> conv => whnf
      · have hw : digC s[k] = true := h3
        rw [run_go hks hw] at hpre
        exact ⟨k + 1, ⟨⟨by omega, by omega, hpre⟩, by omega⟩, ⟨rfl, congrArg Go.Rx.I (wrapI (by omega)), trivial⟩, ⟨[], rfl⟩, rfl, rfl⟩
      · have hw : digC s[k] = false := h3
        rw [run_stop hks hw] at hpre
        refine ⟨by decide, by omega, by omega, ?_⟩
        conv => whnf
        refine callS (int_con (s.extract 0 k) okx) rfl ?_
        conv => whnf
        rw [← hpre]
        split <;> rename_i h4 <;> conv => whnf
        · exact finI ⟨by rw [if_neg (by rw [show (intR (s.extract 0 k)).2 = false by simpa using h4]; decide)]⟩
        · exact finI ⟨by rw [if_pos (by simpa using h4)]⟩
    · have hks : s.size ≤ k := by simpa using hlt
      rw [run_end hks] at hpre
      refine ⟨by decide, by omega, by omega, ?_⟩
      conv => whnf
      refine callS (int_con (s.extract 0 k) okx) rfl ?_
      conv => whnf
      rw [← hpre]
      split <;> rename_i h4 <;> conv => whnf
      · exact finI ⟨by rw [if_neg (by rw [show (intR (s.extract 0 k)).2 = false by simpa using h4]; decide)]⟩
      · exact finI ⟨by rw [if_pos (by simpa using h4)]⟩
  rw [if_neg (by rw [h2]; decide)]
  split <;> rename_i h3 <;> conv => whnf
  · rw [if_pos h3]
    refine callS (text_con s hs') rfl ?_
    conv => whnf
    exact finI ⟨rfl⟩
  rw [if_neg (by rw [h3]; decide)]
  split <;> rename_i h4 <;> conv => whnf
  · have h4' : 2 < (s.size : Int) := of_decide_eq_true h4
    refine ⟨by decide, by decide, by omega, ?_⟩
    conv => whnf
    split <;> rename_i h5 <;> conv => whnf
    · exact finI ⟨by rw [if_pos (by rw [show decide (2 < (s.size : Int)) = true from h4]; simpa using h5)]⟩
    · rw [if_neg (by rw [show (s.extract 0 3 == ⟨#[46, 46, 46]⟩) = false by simpa using h5, Bool.and_false]; decide)]
      exact ⟨(), rfl, ⟨rfl, trivial⟩, ⟨[], rfl⟩, rfl, rfl⟩
  · rw [if_neg (by rw [show decide (2 < (s.size : Int)) = false from h4, Bool.false_and]; decide)]
    exact ⟨(), rfl, ⟨rfl, trivial⟩, ⟨[], rfl⟩, rfl, rfl⟩
end Go.Proofs.Yteebnpkoephjnaa.Rx

/- Names, and steps. -/
set_option linter.unusedVariables false
set_option linter.unusedSimpArgs false
namespace Go.Rx
def numB (n : Int) : Bool := decide (-1073741824 ≤ n) && decide (n ≤ 1073741824)
def okStep (x : Step) : Bool := nameB x.nm && pairB x.service x.op x.undo && shortB x.who && numB x.n
def okAt (l : List Step) (k : Nat) : Bool := match l[k]? with | some x => okStep x && !((l.take k).any fun s => s.nm == x.nm) | none => true
def stepsAll (l : List Step) : Bool := (List.range l.length).all (okAt l)
def stepsB (l : List Step) : Bool := stepsAll l && (decide (1 ≤ l.length) && decide (l.length ≤ 5))
theorem okAt_eq {l : List Step} {k : Nat} (h : k < l.length) : okAt l k = (okStep l[k] && !((l.take k).any fun s => s.nm == l[k].nm)) := by
  rw [okAt, List.getElem?_eq_getElem h]
theorem all_yes {l : List Step} (h : ∀ j, j < l.length → okAt l j = true) : stepsAll l = true := by
  rw [stepsAll, List.all_eq_true]
  intro j hj
  exact h j (List.mem_range.1 hj)
theorem all_no {l : List Step} {k : Nat} (hk : k < l.length) (h : okAt l k = false) : stepsAll l = false := by
  rw [stepsAll, List.all_eq_false]
  exact ⟨k, List.mem_range.2 hk, by rw [h]; decide⟩
theorem pair_no {n : Int} (h : ¬ (1 ≤ n ∧ n ≤ 4)) (d u : ByteArray) : pairB n d u = false := by
  have e : opsS n = [] := by unfold opsS; rw [if_neg (by omega), if_neg (by omega), if_neg (by omega), if_neg (by omega)]
  rw [pairB, e]; rfl
end Go.Rx
namespace Go.Proofs.Yteebnpkoephjnaa.Rx
open Go.Rx Go.Proofs Go.Proofs.Yteebnpkoephjnaa.RxH

theorem word2_con (s : ByteArray) (hs : okS s) : ∃ b, Con P 55 [Sx s] (Bl b) [] ∧ (s.size = 0 → b = false) ∧ ∀ h : 0 < s.size, letN s[0].toNat = true → b = (wordL s == s.size) := by
  by_cases h0 : 0 < s.size
  · refine ⟨oneI s s[0] == s.size, ?_, fun e => by omega, fun _ h => by rw [oneI, if_pos h]⟩
    refine Con.of T_ok Try.func55 rfl (by kernel_rfl) (by kernel_rfl) (aw_of T_ok (by kernel_rfl) ?_)
    conv => whnf
    split <;> rename_i h1 <;> conv => whnf
    · refine callS (one_con s hs h0) rfl ?_
      conv => whnf
      exact finB ⟨rfl⟩
    · have := of_decide_eq_false h1
      omega
  · refine ⟨false, ?_, fun _ => rfl, fun h => absurd h h0⟩
    refine Con.of T_ok Try.func55 rfl (by kernel_rfl) (by kernel_rfl) (aw_of T_ok (by kernel_rfl) ?_)
    conv => whnf
    split <;> rename_i h1 <;> conv => whnf
    · have := of_decide_eq_true h1
      omega
    · exact finB ⟨rfl⟩
theorem name2_con (s : ByteArray) (hs : okS s) : Con P 39 [Sx s] (Bl (nameB s)) [] := by
  obtain ⟨b, hc, hb0, hb⟩ := word2_con s hs
  refine Con.of T_ok Try.func39 rfl (by kernel_rfl) (by kernel_rfl) (aw_of T_ok (by kernel_rfl) ?_)
  conv => whnf
  refine callS hc rfl ?_
  conv => whnf
  split <;> rename_i h1 <;> conv => whnf
  · have h0 : 0 < s.size := by
      rcases Nat.eq_zero_or_pos s.size with e | e
      · cases hb0 e
      · exact e
    refine ⟨by omega, s[0], atB h0, ?_⟩
    conv => whnf
    refine callS (letter2_con s[0].toNat) rfl ?_
    conv => whnf
    refine finB ⟨?_⟩
    rw [nameB, dif_pos h0]
    cases hl : letN s[0].toNat with
    | false => rfl
    | true => rw [← hb h0 hl]; rfl
  · refine finB ⟨?_⟩
    rw [nameB]
    split
    · rename_i h0
      cases hl : letN s[0].toNat with
      | false => rfl
      | true => rw [← hb h0 hl]; rfl
    · rfl
theorem planMay_con (l : List Step) (hl : StepsOk l) : Con P 53 [.lf (.pv (encSteps l))] (Bl (stepsB l)) [] := by
  have hlen := hl.len
  refine Con.of T_ok Try.func53 rfl (by kernel_rfl) (by kernel_rfl) (aw_of T_ok (by kernel_rfl) ?_)
  conv => whnf
  refine AW.loop (fun k : Nat => k ≤ l.length ∧ ∀ j, j < k → okAt l j = true) (fun k => [(0, .lf (.pv (encSteps l))), (5, .lf (.pv (encSteps l))), (6, Go.Rx.I l.length), (7, Go.Rx.I k)]) (fun _ => []) (fun k => l.length - k) [] ?_ ?_
  · exact ⟨0, ⟨Nat.zero_le _, fun j hj => absurd hj (Nat.not_lt_zero _)⟩, ⟨rfl, rfl, congrArg (fun n : Nat => Go.Rx.I (n : Int)) (List.length_map ..), rfl, trivial⟩, ⟨[], rfl⟩, rfl, rfl⟩
  rintro k ⟨hk, hpre⟩
  refine aw_of T_ok (by kernel_rfl) ?_
  conv => whnf
  split <;> rename_i hlt <;> conv => whnf
  · have hkl : k < l.length := by simpa using hlt
    have hok := hl.each _ (List.getElem_mem hkl)
    have hat := okAt_eq hkl
    have no : okAt l k = false → false = stepsB l := fun h => by rw [stepsB, all_no hkl h]; rfl
    refine ⟨by omega, (l[k]).enc, by simp [hkl], ?_⟩
    conv => whnf
    refine callS (name_con l[k].nm hok.nm) rfl ?_
    conv => whnf
    split <;> rename_i h1 <;> conv => whnf
    · refine finB ⟨no ?_⟩
      rw [hat, okStep, show nameB l[k].nm = false by simpa using h1]; rfl
    have h1' : nameB l[k].nm = true := by simpa using h1
    refine ⟨by decide, by omega, by simp; omega, ?_⟩
    conv => whnf
    have hc : Con P 68 [.lf (.pv (.sl 6 (((l.map Step.enc).take k).drop 0))), .lf (.fn 69 [(l[k]).enc])] (Bl ((l.take k).any fun s : Step => s.nm == l[k].nm)) [] := by
      rw [List.drop_zero, ← List.map_take]
      exact containsFunc_con (l.take k) l[k] (by rw [List.length_take]; omega)
    refine callS hc rfl ?_
    conv => whnf
    split <;> rename_i h2 <;> conv => whnf
    · refine finB ⟨no ?_⟩
      rw [hat, show ((l.take k).any fun s : Step => s.nm == l[k].nm) = true from h2, Bool.not_true, Bool.and_false]
    refine callS (isService_con l[k].service) rfl ?_
    conv => whnf
    split <;> rename_i h3 <;> conv => whnf
    · refine finB ⟨no ?_⟩
      have h3' : ¬ (1 ≤ l[k].service ∧ l[k].service ≤ 4) := by simp at h3; omega
      rw [hat, okStep, pair_no h3', h1']; rfl
    have h3' : 1 ≤ l[k].service ∧ l[k].service ≤ 4 := by simpa using h3
    refine callS (pair_con l[k].service l[k].op l[k].undo h3') rfl ?_
    conv => whnf
    split <;> rename_i h4 <;> conv => whnf
    · refine finB ⟨no ?_⟩
      rw [hat, okStep, show pairB l[k].service l[k].op l[k].undo = false by simpa using h4, h1']; rfl
    have h4' : pairB l[k].service l[k].op l[k].undo = true := by simpa using h4
    refine callS (short_con l[k].who) rfl ?_
    conv => whnf
    split <;> rename_i h5 <;> conv => whnf
    · refine finB ⟨no ?_⟩
      rw [hat, okStep, show shortB l[k].who = false by simpa using h5, h1', h4']; rfl
    have h5' : shortB l[k].who = true := by simpa using h5
    refine callS (isNum_con l[k].n) rfl ?_
    conv => whnf
    split <;> rename_i h6 <;> conv => whnf
    · refine finB ⟨no ?_⟩
      rw [hat, okStep, show numB l[k].n = false by simp at h6; rw [numB]; simp; omega, h1', h4', h5']; rfl
    have h6' : numB l[k].n = true := by simpa [numB] using h6
    refine ⟨k + 1, ⟨⟨by omega, fun j hj => ?_⟩, by omega⟩, ⟨rfl, rfl, rfl, congrArg Go.Rx.I (wrapI (by omega)), trivial⟩, ⟨_, rfl⟩, rfl, rfl⟩
    by_cases e : j = k
    · subst e; rw [hat, okStep, h1', h4', h5', h6', show ((l.take j).any fun s : Step => s.nm == l[j].nm) = false from h2]; rfl
    · exact hpre j (by omega)
  · have hkl : k = l.length := by simp at hlt; omega
    have hall : stepsAll l = true := all_yes fun j hj => hpre j (by omega)
    have hm : (l.map Step.enc).length = l.length := List.length_map ..
    split <;> rename_i h1 <;> conv => whnf
    · refine finB ⟨?_⟩
      have h1' := of_decide_eq_true h1
      rw [stepsB, hall, Bool.true_and, decide_eq_true (show 1 ≤ l.length by omega), Bool.true_and]
      exact decide_eq_decide.2 (by omega)
    · refine finB ⟨?_⟩
      have h1' := of_decide_eq_false h1
      rw [stepsB, hall, Bool.true_and, decide_eq_false (show ¬ 1 ≤ l.length by omega)]; rfl
end Go.Proofs.Yteebnpkoephjnaa.Rx

/- Steps, as the page has them. -/
set_option linter.unusedVariables false
set_option linter.unusedSimpArgs false
namespace Go.Proofs.Yteebnpkoephjnaa.Rx
open Go.Rx Go.Proofs Go.Proofs.Yteebnpkoephjnaa.RxH

theorem steps4_con (l : List Step) (hl : StepsOk l) : Con P 27 [.lf (.pv (encSteps l))] (Bl (stepsB l)) [] := by
  have hlen := hl.len
  have hm : (l.map Step.enc).length = l.length := List.length_map ..
  refine Con.of T_ok Try.func27 rfl (by kernel_rfl) (by kernel_rfl) (aw_of T_ok (by kernel_rfl) ?_)
  conv => whnf
  refine callS (between_con ((l.map Step.enc).length : Int) 1 5) rfl ?_
  conv => whnf
  split <;> rename_i h0 <;> conv => whnf
  · refine finB ⟨?_⟩
    simp at h0
    rw [stepsB]
    symm
    rw [Bool.and_eq_false_iff]
    right
    rw [Bool.and_eq_false_iff]
    by_cases c : 1 ≤ l.length
    · exact .inr (decide_eq_false (by omega))
    · exact .inl (decide_eq_false c)
  have h0' : 1 ≤ l.length ∧ l.length ≤ 5 := by simp at h0; omega
  refine AW.loop (fun k : Nat => k ≤ l.length ∧ ∀ j, j < k → okAt l j = true) (fun k => [(0, .lf (.pv (encSteps l))), (3, Go.Rx.I k)]) (fun _ => []) (fun k => l.length - k) [] ?_ ?_
  · exact ⟨0, ⟨Nat.zero_le _, fun j hj => absurd hj (Nat.not_lt_zero _)⟩, ⟨rfl, rfl, trivial⟩, ⟨[], rfl⟩, rfl, rfl⟩
  rintro k ⟨hk, hpre⟩
  refine aw_of T_ok (by kernel_rfl) ?_
  conv => whnf
  split <;> rename_i hlt <;> conv => whnf
  · have hkl : k < l.length := by simpa using hlt
    have hok := hl.each _ (List.getElem_mem hkl)
    have hat := okAt_eq hkl
    have no : okAt l k = false → false = stepsB l := fun h => by rw [stepsB, all_no hkl h]; rfl
    refine ⟨by omega, (l[k]).enc, by simp [hkl], ?_⟩
    conv => whnf
    refine callS (name2_con l[k].nm hok.nm) rfl ?_
    conv => whnf
    split <;> rename_i h1 <;> conv => whnf
    · refine finB ⟨no ?_⟩
      rw [hat, okStep, show nameB l[k].nm = false by simpa using h1]; rfl
    have h1' : nameB l[k].nm = true := by simpa using h1
    refine callS (pair4_con l[k].service l[k].op l[k].undo) rfl ?_
    conv => whnf
    split <;> rename_i h4 <;> conv => whnf
    · refine finB ⟨no ?_⟩
      rw [hat, okStep, show pairB l[k].service l[k].op l[k].undo = false by simpa using h4, h1']; rfl
    have h4' : pairB l[k].service l[k].op l[k].undo = true := by simpa using h4
    refine callS (short1_con l[k].who hok.who) rfl ?_
    conv => whnf
    split <;> rename_i h5 <;> conv => whnf
    · refine finB ⟨no ?_⟩
      rw [hat, okStep, show shortB l[k].who = false by simpa using h5, h1', h4']; rfl
    have h5' : shortB l[k].who = true := by simpa using h5
    refine callS (between_con l[k].n (-1073741824) 1073741824) rfl ?_
    conv => whnf
    split <;> rename_i h6 <;> conv => whnf
    · refine finB ⟨no ?_⟩
      rw [hat, okStep, show numB l[k].n = false by simp at h6; rw [numB]; simp; omega, h1', h4', h5']; rfl
    have h6' : numB l[k].n = true := by simpa [numB] using h6
    refine AW.loop (fun j : Nat => j ≤ k ∧ ((l.take k).drop j).any (fun s : Step => s.nm == l[k].nm) = (l.take k).any fun s : Step => s.nm == l[k].nm) (fun j => [(0, .lf (.pv (encSteps l))), (3, Go.Rx.I k), (4, .lf (.ptr 0 0)), (5, Go.Rx.I j)]) (fun _ => [.var ((l[k]).enc.map .pv)]) (fun j => k - j) [] ?_ ?_
    · exact ⟨0, ⟨Nat.zero_le _, rfl⟩, ⟨rfl, rfl, rfl, rfl, trivial⟩, ⟨[], rfl⟩, rfl, rfl⟩
    rintro j ⟨hj, hp2⟩
    refine aw_of T_ok (by kernel_rfl) ?_
    conv => whnf
    split <;> rename_i hlt2 <;> conv => whnf
    · have hjk : j < k := by have := of_decide_eq_true hlt2; omega
      have hjl : j < l.length := by omega
      have hjt : j < (l.take k).length := by rw [List.length_take]; omega
      rw [any_go hjt, List.getElem_take] at hp2
      refine AW.draw T_ok rfl (seqPl 0 8) (by kernel_rfl) (by kernel_rfl) ?_
      conv => whnf
      refine ⟨by omega, (l[j]).enc, by simp [hjl], ?_⟩
      conv => whnf
      split <;> rename_i h7 <;> conv => whnf
      · refine finB ⟨no ?_⟩
        rw [hat, ← hp2, show (l[j].nm == l[k].nm) = true from h7, Bool.true_or, Bool.not_true, Bool.and_false]
      · rw [show (l[j].nm == l[k].nm) = false from h7, Bool.false_or] at hp2
        exact ⟨j + 1, ⟨⟨by omega, hp2⟩, by omega⟩, ⟨rfl, rfl, rfl, congrArg Go.Rx.I (wrapI (by omega)), trivial⟩, ⟨[], rfl⟩, rfl, rfl⟩
    · have hjk : k ≤ j := by have := of_decide_eq_false hlt2; omega
      rw [any_end (by rw [List.length_take]; omega)] at hp2
      refine ⟨k + 1, ⟨⟨by omega, fun i hi => ?_⟩, by omega⟩, ⟨rfl, congrArg Go.Rx.I (wrapI (by omega)), trivial⟩, ⟨_, rfl⟩, rfl, rfl⟩
      by_cases e : i = k
      · subst e; rw [hat, okStep, h1', h4', h5', h6', ← hp2]; rfl
      · exact hpre i (by omega)
  · have hkl : k = l.length := by simp at hlt; omega
    have hall : stepsAll l = true := all_yes fun j hj => hpre j (by omega)
    refine finB ⟨?_⟩
    rw [stepsB, hall, decide_eq_true h0'.1, decide_eq_true h0'.2]; rfl
end Go.Proofs.Yteebnpkoephjnaa.Rx

/- May a record be? A saga? -/
set_option linter.unusedVariables false
set_option linter.unusedSimpArgs false
namespace Go.Rx
def bareB (r : Rec) : Bool := r.key == ⟨#[]⟩ && r.body == ⟨#[]⟩ && decide (r.steps.length = 0)
def kindB (k n : Int) : Bool := if k = 2 ∨ k = 3 ∨ k = 5 then decide (0 ≤ n) && decide (n < 5) else if k = 4 then n == 0 else if k = 6 then decide (1 ≤ n) && decide (n ≤ 3) else false
def begB (r : Rec) : Bool := r.n == 0 && (r.key != ⟨#[]⟩ && (shortB r.key && (decide (1 ≤ (r.body.size : Int)) && (decide ((r.body.size : Int) ≤ 3000) && stepsB r.steps))))
def recB (r : Rec) : Bool := (decide (1 ≤ r.id) && decide (r.id ≤ 20)) && if r.kind = 1 then begB r else bareB r && kindB r.kind r.n
theorem bare_eq (r : Rec) : decide (r = ⟨r.kind, r.id, r.n, ⟨#[]⟩, ⟨#[]⟩, []⟩) = bareB r := by
  rw [recEq, bareB]
  simp
end Go.Rx
namespace Go.Proofs.Yteebnpkoephjnaa.Rx
open Go.Rx Go.Proofs Go.Proofs.Yteebnpkoephjnaa.RxH

theorem recMay_con (r : Rec) (h : r.Ok) : Con P 35 [encRec r] (Bl (recB r)) [] := by
  have hlen := h.steps.len
  have fail : (decide (1 ≤ r.id) && decide (r.id ≤ 20)) = false → false = recB r := fun h => by rw [recB, h]; rfl
  have go : (decide (1 ≤ r.id) && decide (r.id ≤ 20)) = true → (¬ r.kind = 1 → bareB r = true) → recB r = if r.kind = 1 then begB r else kindB r.kind r.n := fun h1 h2 => by
    rw [recB, h1, Bool.true_and]
    split
    · rfl
    · rename_i hk; rw [h2 hk]; rfl
  refine Con.of T_ok Try.func35 rfl (by kernel_rfl) (by kernel_rfl) (aw_ofC T_ok 1001 (by kernel_rfl) ?_)
  conv => whnf
  refine AW.cut (fun _ : Unit => recB r = if r.kind = 1 then begB r else kindB r.kind r.n) (fun _ => [(1, .lf (.ptr 0 0))]) (fun _ => [.var [.pv (pI r.kind), .pv (pI r.id), .pv (pI r.n), .pv (pS r.key), .pv (pS r.body), .pv (encSteps r.steps)]]) [] (aw_of T_ok (by kernel_rfl) ?_) ?_
  · refine AW.draw T_ok rfl (seqPl 0 20) (by kernel_rfl) (by kernel_rfl) ?_
    conv => whnf
    split <;> rename_i h1 <;> conv => whnf
    · exact finB ⟨fail (by simp at h1; simp; omega)⟩
    split <;> rename_i h2 <;> conv => whnf
    · exact finB ⟨fail (by simp at h2; simp; omega)⟩
    have hid : (decide (1 ≤ r.id) && decide (r.id ≤ 20)) = true := by simp at h1 h2; simp; omega
    split <;> rename_i h3 <;> conv => whnf
    · refine callU (bare_con r) (fun _ => rfl) ?_
      conv => whnf
      refine callS (same_con r _ hlen) rfl ?_
      conv => whnf
      rw [bare_eq]
      split <;> rename_i h4 <;> conv => whnf
      · refine finB ⟨?_⟩
        have hk : ¬ r.kind = 1 := by simpa using h3
        rw [recB, hid, if_neg hk, show bareB r = false by simpa using h4]; rfl
      · exact ⟨(), go hid fun _ => by simpa using h4, ⟨rfl, trivial⟩, ⟨[], rfl⟩, rfl, rfl⟩
    · exact ⟨(), go hid fun hk => absurd (by simpa using h3) hk, ⟨rfl, trivial⟩, ⟨[], rfl⟩, rfl, rfl⟩
  rintro _ hI
  rw [hI]
  clear hI go fail
  refine aw_of T_ok (by kernel_rfl) ?_
  conv => whnf
  split <;> rename_i k1 <;> conv => whnf
  · rw [if_pos (show r.kind = 1 by simpa using k1)]
    split <;> rename_i h1 <;> conv => whnf
    · split <;> rename_i h2 <;> conv => whnf
      · refine callS (short_con r.key) rfl ?_
        conv => whnf
        split <;> rename_i h3 <;> conv => whnf
        · split <;> rename_i h4 <;> conv => whnf
          · split <;> rename_i h5 <;> conv => whnf
            · refine callS (planMay_con r.steps h.steps) rfl ?_
              conv => whnf
              refine finB ⟨?_⟩
              rw [begB, show (r.n == 0) = true from h1, show (r.key != ⟨#[]⟩) = true from h2, show shortB r.key = true from h3, show decide (1 ≤ (r.body.size : Int)) = true from h4, show decide ((r.body.size : Int) ≤ 3000) = true from h5]; rfl
            · refine finB ⟨?_⟩
              rw [begB, show (r.n == 0) = true from h1, show (r.key != ⟨#[]⟩) = true from h2, show shortB r.key = true from h3, show decide (1 ≤ (r.body.size : Int)) = true from h4, show decide ((r.body.size : Int) ≤ 3000) = false from h5]; rfl
          · refine finB ⟨?_⟩
            rw [begB, show (r.n == 0) = true from h1, show (r.key != ⟨#[]⟩) = true from h2, show shortB r.key = true from h3, show decide (1 ≤ (r.body.size : Int)) = false from h4]; rfl
        · refine finB ⟨?_⟩
          rw [begB, show (r.n == 0) = true from h1, show (r.key != ⟨#[]⟩) = true from h2, show shortB r.key = false from h3]; rfl
      · refine finB ⟨?_⟩
        rw [begB, show (r.n == 0) = true from h1, show (r.key != ⟨#[]⟩) = false from h2]; rfl
    · refine finB ⟨?_⟩
      rw [begB, show (r.n == 0) = false from h1]; rfl
  rw [if_neg (show ¬ r.kind = 1 by simpa using k1)]
  clear k1
  repeat' first | refine finB ?_ | (split <;> conv => whnf)
  all_goals (refine ⟨?_⟩; simp_all [kindB] <;> omega)
theorem rec9_con (r : Rec) (h : r.Ok) : Con P 15 [encRec r] (Bl (recB r)) [] := by
  refine Con.of T_ok Try.func15 rfl (by kernel_rfl) (by kernel_rfl) (aw_of T_ok (by kernel_rfl) ?_)
  conv => whnf
  refine callS (between_con r.id 1 20) rfl ?_
  conv => whnf
  split <;> rename_i h1 <;> conv => whnf
  · refine finB ⟨?_⟩
    rw [recB, show (decide (1 ≤ r.id) && decide (r.id ≤ 20)) = false by simp at h1; simp; omega]; rfl
  have hid : (decide (1 ≤ r.id) && decide (r.id ≤ 20)) = true := by simpa using h1
  clear h1
  rw [recB, hid, Bool.true_and]
  split <;> rename_i k1 <;> conv => whnf
  · rw [if_pos (show r.kind = 1 by simpa using k1), begB]
    split <;> rename_i h1 <;> conv => whnf
    · rw [show (r.n == 0) = true from h1, Bool.true_and]
      refine callS (short1_con r.key h.key) rfl ?_
      conv => whnf
      split <;> rename_i h3 <;> conv => whnf
      · rw [show shortB r.key = true from h3, Bool.true_and]
        split <;> rename_i h2 <;> conv => whnf
        · rw [show (r.key != ⟨#[]⟩) = true from h2, Bool.true_and]
          refine callS (between_con (r.body.size : Int) 1 3000) rfl ?_
          conv => whnf
          split <;> rename_i h4 <;> conv => whnf
          · refine callS (steps4_con r.steps h.steps) rfl ?_
            conv => whnf
            refine finB ⟨?_⟩
            rw [← Bool.and_assoc, show (decide (1 ≤ (r.body.size : Int)) && decide ((r.body.size : Int) ≤ 3000)) = true from h4]; rfl
          · refine finB ⟨?_⟩
            rw [← Bool.and_assoc, show (decide (1 ≤ (r.body.size : Int)) && decide ((r.body.size : Int) ≤ 3000)) = false from h4]; rfl
        · refine finB ⟨?_⟩
          rw [show (r.key != ⟨#[]⟩) = false from h2]; rfl
      · refine finB ⟨?_⟩
        rw [show shortB r.key = false from h3, Bool.false_and, Bool.and_false]
    · refine finB ⟨?_⟩
      rw [show (r.n == 0) = false from h1]; rfl
  rw [if_neg (show ¬ r.kind = 1 by simpa using k1)]
  clear k1
  split <;> rename_i h1 <;> conv => whnf
  · refine finB ⟨?_⟩
    rw [bareB, show (r.key == ⟨#[]⟩) = false by simpa using h1]; rfl
  have h1' : (r.key == ⟨#[]⟩) = true := by simpa using h1
  split <;> rename_i h2 <;> conv => whnf
  · refine finB ⟨?_⟩
    rw [bareB, h1', show (r.body == ⟨#[]⟩) = false by simpa using h2]; rfl
  have h2' : (r.body == ⟨#[]⟩) = true := by simpa using h2
  split <;> rename_i h3 <;> conv => whnf
  · refine finB ⟨?_⟩
    rw [bareB, h1', h2', show decide (r.steps.length = 0) = false by simp at h3; simp; intro e; rw [e] at h3; simp at h3]; rfl
  rw [bareB, h1', h2', show decide (r.steps.length = 0) = true by simp at h3; simp; exact h3]
  simp only [Bool.true_and]
  clear h1 h2 h3 h1' h2' hid
  split <;> rename_i k2 <;> conv => whnf
  · have k2' : r.kind = 2 := by simpa using k2
    refine callS (numB_con r.n 4) rfl ?_
    conv => whnf
    refine finB ⟨?_⟩
    rw [kindB, if_pos (show r.kind = 2 ∨ r.kind = 3 ∨ r.kind = 5 by simp [k2'])]
    congr 1
    exact decide_eq_decide.2 (by omega)
  have k2' : ¬ r.kind = 2 := by simpa using k2
  split <;> rename_i k3 <;> conv => whnf
  · have k3' : r.kind = 3 := by simpa using k3
    refine callS (numB_con r.n 4) rfl ?_
    conv => whnf
    refine finB ⟨?_⟩
    rw [kindB, if_pos (show r.kind = 2 ∨ r.kind = 3 ∨ r.kind = 5 by simp [k3'])]
    congr 1
    exact decide_eq_decide.2 (by omega)
  have k3' : ¬ r.kind = 3 := by simpa using k3
  split <;> rename_i k5 <;> conv => whnf
  · have k5' : r.kind = 5 := by simpa using k5
    refine callS (numB_con r.n 4) rfl ?_
    conv => whnf
    refine finB ⟨?_⟩
    rw [kindB, if_pos (show r.kind = 2 ∨ r.kind = 3 ∨ r.kind = 5 by simp [k5'])]
    congr 1
    exact decide_eq_decide.2 (by omega)
  have k5' : ¬ r.kind = 5 := by simpa using k5
  rw [kindB, if_neg (show ¬ (r.kind = 2 ∨ r.kind = 3 ∨ r.kind = 5) by omega)]
  split <;> rename_i k4 <;> conv => whnf
  · refine finB ⟨?_⟩
    rw [if_pos (show r.kind = 4 by simpa using k4)]
  have k4' : ¬ r.kind = 4 := by simpa using k4
  rw [if_neg k4']
  split <;> rename_i k6 <;> conv => whnf
  · refine callS (between_con r.n 1 3) rfl ?_
    conv => whnf
    refine finB ⟨?_⟩
    rw [if_pos (show r.kind = 6 by simpa using k6)]
  · refine finB ⟨?_⟩
    rw [if_neg (show ¬ r.kind = 6 by simpa using k6)]
end Go.Proofs.Yteebnpkoephjnaa.Rx

/- A record's bytes: numbers and texts that are added to a builder. -/
set_option linter.unusedVariables false
set_option linter.unusedSimpArgs false
namespace Go.Rx
/-- A number's lowest byte. -/
def byteZ (x : Int) : UInt8 := UInt8.ofNat (x % 256).toNat
theorem u8_wrap (x : Int) : IntKind.u8.wrap x = x % 256 := by
  have h : ∀ y : Int, IntKind.u8.wrap y = y % 256 := fun y => by
    simp [IntKind.wrap, IntKind.bits, IntKind.signed]
  exact h x
theorem byteZ_nat (x : Int) : ((byteZ x).toNat : Int) = x % 256 := by
  unfold byteZ
  have h0 : 0 ≤ x % 256 := Int.emod_nonneg _ (by decide)
  have h1 : x % 256 < 256 := Int.emod_lt_of_pos _ (by decide)
  have : (UInt8.ofNat (x % 256).toNat).toNat = (x % 256).toNat := by
    rw [UInt8.toNat_ofNat']
    omega
  rw [this]; omega
theorem byteZ_wrap (x : Int) : IntKind.u8.wrap x = ((byteZ x).toNat : Int) := by rw [u8_wrap, byteZ_nat]
/-- Four bytes of a number, the highest first. -/
def be4 (x : Int) : List UInt8 := [byteZ (x.fdiv 16777216), byteZ (x.fdiv 65536), byteZ (x.fdiv 256), byteZ x]
def bytesOf (l : List UInt8) : ByteArray := ⟨l.toArray⟩
def numsL (l : List Int) : List UInt8 := l.flatMap be4
theorem nums_snoc (l : List Int) (x : Int) : numsL (l ++ [x]) = numsL l ++ be4 x := by rw [numsL, List.flatMap_append]; simp [numsL]
theorem nums_len (l : List Int) : (numsL l).length = 4 * l.length := by
  induction l with
  | nil => rfl
  | cons x l ih => rw [numsL, List.flatMap_cons, List.length_append]; show (be4 x).length + (numsL l).length = _; rw [ih]; simp [be4]; omega
def rowsB (l : List UInt8) : List (List PV) := l.map fun c => [.sc (.int .u8 c.toNat)]
theorem rowsB_append (a b : List UInt8) : rowsB (a ++ b) = rowsB a ++ rowsB b := List.map_append
theorem rowsB_len (a : List UInt8) : (rowsB a).length = a.length := List.length_map ..
theorem rowsB_of (s : ByteArray) : byteRows s = rowsB s.data.toList := rfl
theorem rowsB_back (l : List UInt8) : rowsB l = byteRows (bytesOf l) := rfl
end Go.Rx
namespace Go.Proofs.Yteebnpkoephjnaa.Rx
open Go.Rx Go.Proofs Go.Proofs.Yteebnpkoephjnaa.RxB

theorem writer_lies : Lies 104 := by unfold Lies; kernel_rfl
abbrev intB (l : List Int) : Blk := .arr 3 1 (l.map fun n => [pI n])
abbrev bldB (l : List UInt8) : List Blk := [.var [.bad 0 104, .own 1 l.length], .arr 5 1 (rowsB l)]
theorem numbers_con (b : List UInt8) (l : List Int) (hb : b.length + 4 * l.length ≤ 140737488355328) (hl : l.length ≤ 140737488355328) :
    ConG P 62 (bldB b ++ [intB l]) [.lf (.ptr 0 0), .lf (.own 2 l.length)] (.tup []) (bldB (b ++ numsL l) ++ [intB l]) := by
  have hm : (l.map fun n => [pI n]).length = l.length := List.length_map ..
  refine ConG.of T_ok Try.func62 rfl (by kernel_rfl) (by kernel_rfl) (aw_of T_ok (by kernel_rfl) ?_)
  conv => whnf
  refine ⟨hm, ?_⟩
  conv => whnf
  refine AW.loop (fun k : Nat => k ≤ l.length) (fun k => [(0, .lf (.ptr 0 0)), (6, .lf (.own 2 l.length)), (7, Go.Rx.I l.length), (8, Go.Rx.I k)]) (fun k => bldB (b ++ numsL (l.take k)) ++ [intB l]) (fun k => l.length - k) [] ?_ ?_
  · exact ⟨0, Nat.zero_le _, ⟨rfl, rfl, rfl, rfl, trivial⟩, ⟨[], congrArg (fun c => bldB c ++ [intB l]) (List.append_nil b).symm⟩, rfl, rfl⟩
  intro k hk
  have wk : IntKind.i64.wrap ((k : Int) + 1) = ((k + 1 : Nat) : Int) := wrapI (by omega)
  have hbl : (rowsB (b ++ numsL (l.take k))).length = (b ++ numsL (l.take k)).length := rowsB_len _
  have hln : (b ++ numsL (l.take k)).length = b.length + 4 * k := by rw [List.length_append, nums_len, List.length_take]; omega
  refine aw_of T_ok (by kernel_rfl) ?_
  conv => whnf
  split <;> rename_i hlt <;> conv => whnf
  · have hkl : k < l.length := by have : (k : Int) < (l.length : Int) := of_decide_eq_true hlt
                                  omega
    have hrow : (l.map fun n => [pI n])[k]? = some [pI l[k]] := by simp [hkl]
    have hnx : numsL (l.take (k + 1)) = numsL (l.take k) ++ be4 l[k] := by rw [take_succ' hkl, nums_snoc]
    generalize l[k] = x at hrow hnx
    refine ⟨hm, by omega, by omega, ?_⟩
    conv => whnf
    refine ⟨rfl, hm, _, hrow, ?_⟩
    conv => whnf
    refine ⟨by decide, ?_⟩
    conv => whnf
    refine ⟨by decide, ?_⟩
    conv => whnf
    refine ⟨by decide, ?_⟩
    conv => whnf
    refine ⟨[0, 1, 3], _, _, _, _, _, nodupB_ok rfl, rfl, rfl, wk_refl _, write_con 104 writer_lies (b ++ numsL (l.take k)).length 4 _ _ hbl rfl (by omega), ?_⟩
    conv => whnf
    have er : rowsB (b ++ numsL (l.take k)) ++ [[PV.sc (.int .u8 (IntKind.u8.wrap (x.fdiv 16777216)))], [PV.sc (.int .u8 (IntKind.u8.wrap (x.fdiv 65536)))], [PV.sc (.int .u8 (IntKind.u8.wrap (x.fdiv 256)))], [PV.sc (.int .u8 (IntKind.u8.wrap x))]] = rowsB (b ++ numsL (l.take (k + 1))) := by
      rw [byteZ_wrap, byteZ_wrap, byteZ_wrap, byteZ_wrap, hnx, ← List.append_assoc, rowsB_append (b ++ numsL (l.take k))]
      rfl
    have el : (b ++ numsL (l.take k)).length + 4 = (b ++ numsL (l.take (k + 1))).length := by rw [hnx, ← List.append_assoc, List.length_append (bs := be4 x)]; rfl
    refine ⟨k + 1, ⟨hkl, by omega⟩, ⟨rfl, rfl, rfl, congrArg Go.Rx.I wk, trivial⟩, ⟨[?r1], ?e1⟩, rfl, rfl⟩
    case e1 =>
      show _ = [Blk.var [.bad 0 104, .own 1 (b ++ numsL (l.take (k + 1))).length], .arr 5 1 (rowsB (b ++ numsL (l.take (k + 1)))), intB l] ++ [_]
      rw [← er, ← el]
      rfl
  · have hkl : k = l.length := by have : ¬ ((k : Int) < (l.length : Int)) := of_decide_eq_false hlt
                                  omega
    refine ⟨[], [0, 1, 2], [], [], rfl, ?_, rfl, wk_refl _, rfl⟩
    rw [hkl, List.take_length]
    rfl
end Go.Proofs.Yteebnpkoephjnaa.Rx

/- A record's bytes, without their frame. -/
set_option linter.unusedVariables false
set_option linter.unusedSimpArgs false
namespace Go.Rx
def txtL (s : ByteArray) : List UInt8 := be4 s.size ++ s.data.toList
def stepL1 (x : Step) : List UInt8 := txtL x.nm ++ be4 x.service ++ txtL x.op ++ txtL x.undo ++ txtL x.who ++ be4 x.n
def headL (r : Rec) : List UInt8 := numsL [r.kind, r.id, r.n, 0]
def moreL (r : Rec) : List UInt8 := txtL r.key ++ txtL r.body ++ be4 r.steps.length
def plainL (r : Rec) : List UInt8 := if r.kind = 1 then headL r ++ moreL r ++ r.steps.flatMap stepL1 else headL r
theorem be4_len (x : Int) : (be4 x).length = 4 := rfl
theorem txt_len (s : ByteArray) : (txtL s).length = 4 + s.size := by rw [txtL, List.length_append, be4_len]; rfl
theorem head_len (r : Rec) : (headL r).length = 16 := rfl
structure SmallR (r : Rec) : Prop where
  key : r.key.size ≤ 100
  body : r.body.size ≤ 4000
  len : r.steps.length ≤ 5
  st : ∀ x ∈ r.steps, x.nm.size ≤ 100 ∧ x.op.size ≤ 100 ∧ x.undo.size ≤ 100 ∧ x.who.size ≤ 100
theorem step_len {x : Step} (h : x.nm.size ≤ 100 ∧ x.op.size ≤ 100 ∧ x.undo.size ≤ 100 ∧ x.who.size ≤ 100) : (stepL1 x).length ≤ 424 := by
  simp only [stepL1, List.length_append, txt_len, be4_len]; omega
theorem steps_len {l : List Step} (h : ∀ x ∈ l, x.nm.size ≤ 100 ∧ x.op.size ≤ 100 ∧ x.undo.size ≤ 100 ∧ x.who.size ≤ 100) : (l.flatMap stepL1).length ≤ 424 * l.length := by
  induction l with
  | nil => exact Nat.le_refl _
  | cons x l ih =>
    rw [List.flatMap_cons, List.length_append]
    have := ih fun y hy => h y (by simp [hy])
    have := step_len (h x (by simp))
    simp only [List.length_cons]
    omega
theorem more_len {r : Rec} (h : SmallR r) : (moreL r).length ≤ 4112 := by
  have := h.key; have := h.body
  simp only [moreL, List.length_append, txt_len, be4_len]; omega
theorem name_small {s : ByteArray} (h : nameB s = true) : s.size ≤ 12 := by
  unfold nameB at h
  split at h
  · rw [Bool.and_eq_true] at h
    have h2 := eq_of_beq h.2
    unfold wordL at h2
    split at h2 <;> omega
  · cases h
theorem ops_small {n : Int} {s : ByteArray} (h : (opsS n).any (s == ·) = true) : s.size ≤ 6 := by
  obtain ⟨y, hy, e⟩ := List.any_eq_true.1 h
  have := eq_of_beq e
  subst this
  unfold opsS at hy
  repeat' split at hy
  all_goals
    simp only [List.mem_cons, List.not_mem_nil, or_false] at hy
  all_goals (rcases hy with rfl | rfl <;> decide)
theorem small_of {r : Rec} (h : recB r = true) : SmallR r := by
  unfold recB at h
  rw [Bool.and_eq_true] at h
  by_cases k : r.kind = 1
  · have h2 := h.2
    rw [if_pos k] at h2
    unfold begB at h2
    simp only [Bool.and_eq_true, decide_eq_true_eq, shortB, stepsB] at h2
    refine ⟨by have := h2.2.2.1.2; omega, by have := h2.2.2.2.2.1; omega, h2.2.2.2.2.2.2.2, fun x hx => ?_⟩
    obtain ⟨j, hj, rfl⟩ := List.mem_iff_getElem.1 hx
    have h3 := List.all_eq_true.1 h2.2.2.2.2.2.1 j (List.mem_range.2 hj)
    rw [okAt_eq hj] at h3
    simp only [Bool.and_eq_true, okStep, pairB, shortB, decide_eq_true_eq] at h3
    have a1 := name_small h3.1.1.1.1
    have a2 := ops_small h3.1.1.1.2.1.1
    have a3 := ops_small h3.1.1.1.2.1.2
    have a4 := h3.1.1.2.2
    exact ⟨by omega, by omega, by omega, by omega⟩
  · have h2 := h.2
    rw [if_neg k] at h2
    simp only [Bool.and_eq_true, bareB, beq_iff_eq, decide_eq_true_eq] at h2
    have e := List.eq_nil_of_length_eq_zero h2.1.2
    exact ⟨by rw [h2.1.1.1]; decide, by rw [h2.1.1.2]; decide, by rw [e]; decide, by rw [e]; intro x hx; cases hx⟩
end Go.Rx
namespace Go.Proofs.Yteebnpkoephjnaa.Rx
open Go.Rx Go.Proofs Go.Proofs.Yteebnpkoephjnaa.RxB

theorem text_con' (b : List UInt8) (s : ByteArray) (hb : b.length + 4 + s.size ≤ 140737488355328) :
    ConG P 64 (bldB b) [.lf (.ptr 0 0), Sx s] (.tup []) (bldB (b ++ txtL s)) := by
  refine ConG.of T_ok Try.func64 rfl (by kernel_rfl) (by kernel_rfl) (aw_of T_ok (by kernel_rfl) ?_)
  conv => whnf
  refine ⟨[0, 1, 2], _, _, _, _, _, nodupB_ok rfl, rfl, rfl, wk_refl _, numbers_con b [(s.size : Int)] (by show b.length + 4 * 1 ≤ _; omega) (by show (1 : Nat) ≤ _; omega), ?_⟩
  conv => whnf
  have hl : (b ++ numsL [(s.size : Int)]).length = b.length + 4 := by rw [List.length_append, nums_len]; rfl
  refine ⟨[0, 1], _, _, _, _, _, nodupB_ok rfl, rfl, rfl, wk_refl _, writeString_con 104 writer_lies (b ++ numsL [(s.size : Int)]).length (rowsB (b ++ numsL [(s.size : Int)])) s (rowsB_len _) (by omega), ?_⟩
  conv => whnf
  refine ⟨[], [0, 1], [], [], rfl, ?_, rfl, wk_refl _, rfl⟩
  have e1 : rowsB (b ++ numsL [(s.size : Int)]) ++ byteRows s = rowsB (b ++ txtL s) := by
    rw [rowsB_of, ← rowsB_append, List.append_assoc]; rfl
  have e2 : (b ++ numsL [(s.size : Int)]).length + s.size = (b ++ txtL s).length := by
    rw [hl, List.length_append, txt_len]; omega
  show some [Blk.var [.bad 0 104, .own 1 ((b ++ numsL [(s.size : Int)]).length + s.size)], .arr 5 1 (rowsB (b ++ numsL [(s.size : Int)]) ++ byteRows s)] = some (bldB (b ++ txtL s))
  rw [e1, e2]
abbrev recBlk (r : Rec) : Blk := .var [.pv (pI r.kind), .pv (pI r.id), .pv (pI r.n), .pv (pS r.key), .pv (pS r.body), .pv (encSteps r.steps)]
abbrev stepBlk (x : Step) : Blk := .var [.pv (pS x.nm), .pv (pI x.service), .pv (pS x.op), .pv (pS x.undo), .pv (pS x.who), .pv (pI x.n)]
abbrev bldAt (l : List UInt8) : List Blk := [.var [.bad 1 104, .own 2 l.length], .arr 5 1 (rowsB l)]
theorem numbers_to {b c : List UInt8} {l : List Int} (e : b ++ numsL l = c) (hb : b.length + 4 * l.length ≤ 140737488355328) (hl : l.length ≤ 140737488355328) :
    ConG P 62 (bldB b ++ [intB l]) [.lf (.ptr 0 0), .lf (.own 2 l.length)] (.tup []) (bldB c ++ [intB l]) := e ▸ numbers_con b l hb hl
theorem text_to {b c : List UInt8} {s : ByteArray} (e : b ++ txtL s = c) (hb : b.length + 4 + s.size ≤ 140737488355328) :
    ConG P 64 (bldB b) [.lf (.ptr 0 0), Sx s] (.tup []) (bldB c) := e ▸ text_con' b s hb
theorem bldStr_to {c : List UInt8} {s : ByteArray} (e : bytesOf c = s) (h1 : 1 ≤ c.length) (h2 : c.length ≤ 9223372036854775807) :
    ConG P 63 (bldB c) [.lf (.ptr 0 0)] (Sx s) [.var [.bad 0 104, .own 1 c.length], .lost 1 (rowsB c ++ [[]])] := by subst e; exact bldString_con 104 (bytesOf c) h1 h2
set_option maxHeartbeats 1000000 in
theorem spell_con (r : Rec) (h : SmallR r) : Con P 47 [encRec r] (Sx (bytesOf (plainL r))) [] := by
  have hl := h.len
  have hkey := h.key
  have hbody := h.body
  have hm : (r.steps.map Step.enc).length = r.steps.length := List.length_map ..
  have hml := more_len h
  obtain ⟨c0, hc0⟩ : ∃ c, [] ++ numsL [r.kind, r.id, r.n, 0] = c := ⟨_, rfl⟩
  obtain ⟨c1, hc1⟩ : ∃ c, c0 ++ txtL r.key = c := ⟨_, rfl⟩
  obtain ⟨c2, hc2⟩ : ∃ c, c1 ++ txtL r.body = c := ⟨_, rfl⟩
  obtain ⟨W, hW⟩ : ∃ W : Nat → List UInt8, ∀ k, W k = headL r ++ moreL r ++ (r.steps.take k).flatMap stepL1 := ⟨_, fun _ => rfl⟩
  have e00 : c0 = headL r := hc0.symm
  have hc3 : c2 ++ numsL [((r.steps.map Step.enc).length : Int)] = W 0 := by
    rw [hW, hm, ← hc2, ← hc1, e00, moreL]; simp [numsL]
  have l0 : c0.length = 16 := e00 ▸ rfl
  have l1 : c1.length = 20 + r.key.size := by rw [← hc1, List.length_append, txt_len]; omega
  have l2 : c2.length = 24 + r.key.size + r.body.size := by rw [← hc2, List.length_append, txt_len]; omega
  obtain ⟨p, hp⟩ : ∃ p, bytesOf (plainL r) = p := ⟨_, rfl⟩
  rw [hp]
  refine Con.of T_ok Try.func47 rfl (by kernel_rfl) (by kernel_rfl) (aw_ofC T_ok 2002 (by kernel_rfl) ?_)
  conv => whnf
  refine AW.meet (fun _ : Unit => True) (fun _ => [(1, .lf (.ptr 0 0)), (3, .lf (.ptr 1 0))]) (fun _ => [recBlk r, .var [.bad 1 104, .own 2 0], .arr 5 1 []]) [.cell 1 1 5 1] ?_ ?_
  · exact ⟨rfl, (), trivial, ⟨rfl, rfl, trivial⟩, ⟨[], rfl⟩, rfl, rfl⟩
  rintro _ _
  refine aw_of T_ok (by kernel_rfl) ?_
  conv => whnf
  refine ⟨[1, 2, 3], _, _, _, _, _, nodupB_ok rfl, rfl, rfl, wk_refl _, numbers_to (b := []) (l := [r.kind, r.id, r.n, 0]) hc0 (by show 0 + 4 * 4 ≤ _; omega) (by show (4 : Nat) ≤ _; omega), ?_⟩
  conv => whnf
  split <;> rename_i hk <;> conv => whnf
  · have hk1 : ¬ r.kind = 1 := by simpa using hk
    have hp2 : bytesOf c0 = p := by rw [← hp, plainL, if_neg hk1, e00]
    refine ⟨[1, 2], _, _, _, _, _, nodupB_ok rfl, rfl, rfl, wk_refl _, bldStr_to hp2 (by omega) (by omega), ?_⟩
    conv => whnf
    exact finA ⟨rfl⟩
  have hk1 : r.kind = 1 := by simpa using hk
  have hp2 : bytesOf (W r.steps.length) = p := by rw [← hp, plainL, if_pos hk1, hW, List.take_length]
  refine ⟨[1, 2], _, _, _, _, _, nodupB_ok rfl, rfl, rfl, wk_refl _, text_to hc1 (by omega), ?_⟩
  conv => whnf
  refine ⟨[1, 2], _, _, _, _, _, nodupB_ok rfl, rfl, rfl, wk_refl _, text_to hc2 (by omega), ?_⟩
  conv => whnf
  refine ⟨[1, 2, 4], _, _, _, _, _, nodupB_ok rfl, rfl, rfl, wk_refl _, numbers_to (l := [((r.steps.map Step.enc).length : Int)]) hc3 (by show _ + 4 * 1 ≤ _; omega) (by show (1 : Nat) ≤ _; omega), ?_⟩
  conv => whnf
  refine AW.loop (fun k : Nat => k ≤ r.steps.length) (fun k => [(1, .lf (.ptr 0 0)), (3, .lf (.ptr 1 0)), (31, .lf (.pv (encSteps r.steps))), (32, Go.Rx.I (r.steps.map Step.enc).length), (33, Go.Rx.I k)]) (fun k => recBlk r :: bldAt (W k)) (fun k => r.steps.length - k) [] ?_ ?_
  · exact ⟨0, Nat.zero_le _, ⟨rfl, rfl, rfl, rfl, rfl, trivial⟩, ⟨[_, _], rfl⟩, rfl, rfl⟩
  intro k hk
  have wk : IntKind.i64.wrap ((k : Int) + 1) = ((k + 1 : Nat) : Int) := wrapI (by omega)
  have hbl : (W k).length ≤ 4128 + 424 * k := by
    have := steps_len (l := r.steps.take k) fun x hx => h.st x (List.mem_of_mem_take hx)
    rw [hW]
    simp only [List.length_append] at this ⊢
    rw [List.length_take] at this
    have : 424 * min k r.steps.length = 424 * k := by omega
    have := head_len r
    omega
  have hbl2 : 16 ≤ (W k).length := by
    rw [hW, List.length_append, List.length_append]; have := head_len r; omega
  have hx0 := h.st
  refine aw_ofC T_ok 2012 (by kernel_rfl) ?_
  conv => whnf
  split <;> rename_i hlt <;> conv => whnf
  · have hkl : k < r.steps.length := by have : (k : Int) < ((r.steps.map Step.enc).length : Int) := of_decide_eq_true hlt
                                        omega
    have hrow : (r.steps.map Step.enc)[k]? = some r.steps[k].enc := by simp [hkl]
    have hnx : W (k + 1) = W k ++ stepL1 r.steps[k] := by
      rw [hW, hW, take_succ' hkl, List.flatMap_append]; simp
    have hx := h.st r.steps[k] (List.getElem_mem _)
    generalize r.steps[k] = x at hrow hnx hx
    obtain ⟨d1, hd1⟩ : ∃ c, W k ++ txtL x.nm = c := ⟨_, rfl⟩
    obtain ⟨d2, hd2⟩ : ∃ c, d1 ++ numsL [x.service] = c := ⟨_, rfl⟩
    obtain ⟨d3, hd3⟩ : ∃ c, d2 ++ txtL x.op = c := ⟨_, rfl⟩
    obtain ⟨d4, hd4⟩ : ∃ c, d3 ++ txtL x.undo = c := ⟨_, rfl⟩
    obtain ⟨d5, hd5⟩ : ∃ c, d4 ++ txtL x.who = c := ⟨_, rfl⟩
    have hd6 : d5 ++ numsL [x.n] = W (k + 1) := by
      rw [hnx, ← hd5, ← hd4, ← hd3, ← hd2, ← hd1]; simp [numsL, stepL1]
    have m1 : d1.length = (W k).length + 4 + x.nm.size := by rw [← hd1, List.length_append, txt_len]; omega
    have m2 : d2.length = d1.length + 4 := by rw [← hd2, List.length_append, nums_len]; rfl
    have m3 : d3.length = d2.length + 4 + x.op.size := by rw [← hd3, List.length_append, txt_len]; omega
    have m4 : d4.length = d3.length + 4 + x.undo.size := by rw [← hd4, List.length_append, txt_len]; omega
    have m5 : d5.length = d4.length + 4 + x.who.size := by rw [← hd5, List.length_append, txt_len]; omega
    refine ⟨by omega, _, hrow, ?_⟩
    conv => whnf
    refine ⟨[1, 2], _, _, _, _, _, nodupB_ok rfl, rfl, rfl, wk_refl _, text_to hd1 (by omega), ?_⟩
    conv => whnf
    refine AW.meet (fun _ : Unit => True) (fun _ => [(1, .lf (.ptr 0 0)), (3, .lf (.ptr 1 0)), (31, .lf (.pv (encSteps r.steps))), (32, Go.Rx.I (r.steps.map Step.enc).length), (33, Go.Rx.I k), (5, .lf (.ptr 3 0))]) (fun _ => recBlk r :: bldAt d1 ++ [stepBlk x]) [] ⟨(), trivial, ⟨rfl, rfl, rfl, rfl, rfl, rfl, trivial⟩, ⟨[], rfl⟩, rfl, rfl⟩ ?_
    rintro _ _
    refine aw_ofC T_ok 2013 (by kernel_rfl) ?_
    conv => whnf
    refine ⟨[1, 2, 4], _, _, _, _, _, nodupB_ok rfl, rfl, rfl, wk_refl _, numbers_to (l := [x.service]) hd2 (by show _ + 4 * 1 ≤ _; omega) (by show (1 : Nat) ≤ _; omega), ?_⟩
    conv => whnf
    refine AW.meet (fun _ : Unit => True) (fun _ => [(1, .lf (.ptr 0 0)), (3, .lf (.ptr 1 0)), (31, .lf (.pv (encSteps r.steps))), (32, Go.Rx.I (r.steps.map Step.enc).length), (33, Go.Rx.I k), (5, .lf (.ptr 3 0))]) (fun _ => recBlk r :: bldAt d2 ++ [stepBlk x]) [] ⟨(), trivial, ⟨rfl, rfl, rfl, rfl, rfl, rfl, trivial⟩, ⟨[_], rfl⟩, rfl, rfl⟩ ?_
    rintro _ _
    refine aw_ofC T_ok 2014 (by kernel_rfl) ?_
    conv => whnf
    refine ⟨[1, 2], _, _, _, _, _, nodupB_ok rfl, rfl, rfl, wk_refl _, text_to hd3 (by omega), ?_⟩
    conv => whnf
    refine AW.meet (fun _ : Unit => True) (fun _ => [(1, .lf (.ptr 0 0)), (3, .lf (.ptr 1 0)), (31, .lf (.pv (encSteps r.steps))), (32, Go.Rx.I (r.steps.map Step.enc).length), (33, Go.Rx.I k), (5, .lf (.ptr 3 0))]) (fun _ => recBlk r :: bldAt d3 ++ [stepBlk x]) [] ⟨(), trivial, ⟨rfl, rfl, rfl, rfl, rfl, rfl, trivial⟩, ⟨[], rfl⟩, rfl, rfl⟩ ?_
    rintro _ _
    refine aw_ofC T_ok 2015 (by kernel_rfl) ?_
    conv => whnf
    refine ⟨[1, 2], _, _, _, _, _, nodupB_ok rfl, rfl, rfl, wk_refl _, text_to hd4 (by omega), ?_⟩
    conv => whnf
    refine AW.meet (fun _ : Unit => True) (fun _ => [(1, .lf (.ptr 0 0)), (3, .lf (.ptr 1 0)), (31, .lf (.pv (encSteps r.steps))), (32, Go.Rx.I (r.steps.map Step.enc).length), (33, Go.Rx.I k), (5, .lf (.ptr 3 0))]) (fun _ => recBlk r :: bldAt d4 ++ [stepBlk x]) [] ⟨(), trivial, ⟨rfl, rfl, rfl, rfl, rfl, rfl, trivial⟩, ⟨[], rfl⟩, rfl, rfl⟩ ?_
    rintro _ _
    refine aw_of T_ok (by kernel_rfl) ?_
    conv => whnf
    refine ⟨[1, 2], _, _, _, _, _, nodupB_ok rfl, rfl, rfl, wk_refl _, text_to hd5 (by omega), ?_⟩
    conv => whnf
    refine ⟨[1, 2, 4], _, _, _, _, _, nodupB_ok rfl, rfl, rfl, wk_refl _, numbers_to (l := [x.n]) hd6 (by show _ + 4 * 1 ≤ _; omega) (by show (1 : Nat) ≤ _; omega), ?_⟩
    conv => whnf
    exact ⟨k + 1, ⟨hkl, by omega⟩, ⟨rfl, rfl, rfl, rfl, congrArg Go.Rx.I wk, trivial⟩, ⟨[_, _], rfl⟩, rfl, rfl⟩
  · have hkl : k = r.steps.length := by have : ¬ ((k : Int) < ((r.steps.map Step.enc).length : Int)) := of_decide_eq_false hlt
                                        omega
    have hp3 : bytesOf (W k) = p := hkl ▸ hp2
    refine ⟨[1, 2], _, _, _, _, _, nodupB_ok rfl, rfl, rfl, wk_refl _, bldStr_to hp3 (by omega) (by omega), ?_⟩
    conv => whnf
    exact finA ⟨rfl⟩
end Go.Proofs.Yteebnpkoephjnaa.Rx
