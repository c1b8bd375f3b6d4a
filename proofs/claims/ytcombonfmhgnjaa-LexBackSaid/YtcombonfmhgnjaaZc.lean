/- The texts of the proof, part 3, in order. -/
import Derived.Test.YtcombonfmhgnjaaZb
import Derived.SizedLaws
import Derived.ChangeArms
import Derived.ChangeSlices
import Derived.Test.YtcombonfmhgnjaaProg
import Derived.KernelRfl
import Derived.Test.YtcombonfmhgnjaaShelf
import Derived.Tactics
import Derived.WalkKit
import Derived.Lib.Strings
import Derived.Lib.Walk
import Derived.Lib.Builder
import Derived.Lib.UnsafeStr
import Derived.Laws.Externs
import Derived.Lib.Hide
import Derived.WalkSpells
import Derived.Below
import Derived.Laws.RangeString
import Derived.Laws.RangeAny
import Derived.Shelf.Strings.BuilderF
/- The program's own data as plain Lean, and what may be, in plain Lean: no program here. -/
namespace Go.Rx

/-! ### Words for calls and ends -/
theorem callS {P : Program} {f : FuncId} {cargs : List AV} {r : AV} {bk bk' : List Blk} {K : AV → List Blk → Prop} (hc : Con P f cargs r []) (hs : scalA r = true) (k : K r bk) :
    ∃ cargs' r nb, Fa WkA cargs cargs' ∧ Con P f cargs' r nb ∧ ((scalA r = true ∧ nb = [] ∧ K r bk) ∨ K (shA bk'.length r) (bk' ++ nb)) := ⟨cargs, r, [], wk_refl _, hc, .inl ⟨hs, rfl, k⟩⟩
theorem callW {P : Program} {f : FuncId} {cargs cs : List AV} {r : AV} {bk bk' : List Blk} {K : AV → List Blk → Prop} (hc : Con P f cs r []) (hw : Fa WkA cargs cs) (hs : scalA r = true) (k : K r bk) :
    ∃ cargs' r nb, Fa WkA cargs cargs' ∧ Con P f cargs' r nb ∧ ((scalA r = true ∧ nb = [] ∧ K r bk) ∨ K (shA bk'.length r) (bk' ++ nb)) := ⟨cs, r, [], hw, hc, .inl ⟨hs, rfl, k⟩⟩
/-- A result that holds slices: what was handed over stays as it is. -/
theorem callP {P : Program} {f : FuncId} {cargs cs : List AV} {r : AV} {bk bk' : List Blk} {K : AV → List Blk → Prop} (hc : Con P f cs r []) (hw : Fa WkA cargs cs) (hr : ∀ n, shA n r = r) (k : K r bk') :
    ∃ cargs' r nb, Fa WkA cargs cargs' ∧ Con P f cargs' r nb ∧ ((scalA r = true ∧ nb = [] ∧ K r bk) ∨ K (shA bk'.length r) (bk' ++ nb)) := ⟨cs, r, [], hw, hc, .inr (by rw [hr, List.append_nil]; exact k)⟩
theorem callU {P : Program} {f : FuncId} {cargs : List AV} {r : AV} {bk bk' : List Blk} {K : AV → List Blk → Prop} (hc : Con P f cargs r []) (hr : ∀ n, shA n r = r) (k : K r bk') :
    ∃ cargs' r nb, Fa WkA cargs cargs' ∧ Con P f cargs' r nb ∧ ((scalA r = true ∧ nb = [] ∧ K r bk) ∨ K (shA bk'.length r) (bk' ++ nb)) := callP hc (wk_refl _) hr k
/-- A call to which blocks are lent: idx says which of the caller's. -/
theorem callG {P : Program} {f : FuncId} {args cargs cargs' : List AV} {r : AV} {bk B0 B1 : List Blk} {K : AV → List Blk → Prop} (idx : List Nat) (hc : ConG P f B0 cargs' r B1) (hn : nodupB idx = true) (hB : pickB idx bk idx = some B0) (hr : renAs idx args = some cargs) (hw : Fa WkA cargs cargs')
    (k : K (bkA idx bk.length r) (bkBs idx bk B1)) :
    ∃ idx B0 cargs cargs' r B1, idx.Nodup ∧ pickB idx bk idx = some B0 ∧ renAs idx args = some cargs ∧ Fa WkA cargs cargs' ∧ ConG P f B0 cargs' r B1 ∧ K (bkA idx bk.length r) (bkBs idx bk B1) :=
  ⟨idx, B0, cargs, cargs', r, B1, nodupB_ok hn, hB, hr, hw, hc, k⟩
/-- What is left where a walk ends. -/
structure Fin {α : Type} (x y : α) : Prop where
  out : x = y
theorem finB {x y : Bool} (h : Fin x y) : ∃ zs, Fa WkA [Bl x] zs ∧ pack zs = some (Bl y) := retB h.out
theorem finI {x y : Int} (h : Fin x y) : ∃ zs, Fa WkA [Go.Rx.I x] zs ∧ pack zs = some (Go.Rx.I y) := retI h.out
theorem finA {xs : List AV} {y : AV} (h : Fin (pack xs) (some y)) : ∃ zs, Fa WkA xs zs ∧ pack zs = some y := ⟨xs, wk_refl _, h.out⟩
theorem retA {xs : List AV} {y : AV} (h : pack xs = some y) : ∃ zs, Fa WkA xs zs ∧ pack zs = some y := ⟨xs, wk_refl _, h⟩
theorem wkPN (sz : Nat) : WkP (.sc (.slice none 0 0)) (.sl sz []) := fun S w v h => by cases h; exact .nil sz
theorem wkPE (p : PV) : WkP p p := fun _ _ _ h => h
/-- Rows, one by one. -/
theorem wkPR {sz : Nat} {rows rows' : List (List PV)} (h : Fa (Fa WkP) rows rows') : WkP (.sl sz rows) (.sl sz rows') := fun S w v hv => by
  have hl := h.length
  have back : ∀ {j r' c q}, rows'[j]? = some r' → r'[c]? = some q → ∃ r p, rows[j]? = some r ∧ r[c]? = some p ∧ WkP p q := fun {j r' c q} hj hc => by
    have hjl : j < rows.length := by rw [hl]; exact (List.getElem?_eq_some_iff.1 hj).1
    obtain ⟨r2, h1, h2⟩ := h.get (List.getElem?_eq_getElem hjl)
    rw [hj] at h1
    cases h1
    have hcl : c < rows[j].length := by rw [h2.length]; exact (List.getElem?_eq_some_iff.1 hc).1
    obtain ⟨q2, h3, h4⟩ := h2.get (List.getElem?_eq_getElem hcl)
    rw [hc] at h3
    cases h3
    exact ⟨_, _, List.getElem?_eq_getElem hjl, List.getElem?_eq_getElem hcl, h4⟩
  have none : rows = [] → rows' = [] := fun e => List.eq_nil_of_length_eq_zero (by rw [← hl, e]; rfl)
  generalize hr : rows = rw at hv
  cases hv with
  | nil => rw [none hr]; exact .nil sz
  | emp _ a cap => rw [none hr]; exact .emp sz a cap
  | sl _ g o cap _ vs hc hu hm hrp =>
    subst hr
    rw [hl]
    refine .sl sz g o cap rows' vs (by omega) (fun r' hr' => ?_) (fun j r' c q hj hcq => ?_) (fun j r' c q hj hcq => ?_)
    · obtain ⟨j, hj⟩ := List.getElem?_of_mem hr'
      have hjl : j < rows.length := by rw [hl]; exact (List.getElem?_eq_some_iff.1 hj).1
      obtain ⟨r2, h1, h2⟩ := h.get (List.getElem?_eq_getElem hjl)
      rw [hj] at h1
      cases h1
      rw [← h2.length]
      exact hu _ (List.getElem_mem hjl)
    · obtain ⟨r, p, h1, h2, _⟩ := back hj hcq
      exact hm j r c p h1 h2
    · obtain ⟨r, p, h1, h2, h3⟩ := back hj hcq
      exact h3 _ _ _ (hrp j r c p h1 h2)
theorem fa_refl {α : Type} {R : α → α → Prop} (h : ∀ a, R a a) : ∀ l : List α, Fa R l l
  | [] => trivial
  | a :: l => ⟨h a, fa_refl h l⟩
theorem fa_maps {α β : Type} {R : β → β → Prop} {f g : α → β} (h : ∀ a, R (f a) (g a)) : ∀ l : List α, Fa R (l.map f) (l.map g)
  | [] => trivial
  | a :: l => ⟨h a, fa_maps h l⟩
theorem wkR {sz : Nat} {rows rows' : List (List PV)} (h : Fa (Fa WkP) rows rows') : WkL (.pv (.sl sz rows)) (.pv (.sl sz rows')) := .inr ⟨_, _, rfl, rfl, wkPR h⟩
theorem wkN (sz : Nat) : WkL (.pv (.sc (.slice none 0 0))) (.pv (.sl sz [])) := .inr ⟨_, _, rfl, rfl, wkPN sz⟩
theorem wkE (l : Lf) : WkL l l := .inl rfl

/-- A callee's contract in the kit's own form, for plain values. -/
theorem Con.plain {P : Program} {f : FuncId} {vs : List Value} {v : Value} (hn : fnOK P f = true) (hv : v.oneCell' = true) (h : ∀ w, Calls P f vs.toArray w fun e w' => e = .returned v ∧ Go.RowKit.Below w.heap.size w w') : Con P f (vs.map sc) (sc v) [] := by
  refine ⟨hn, rfl, fun w S us hS hargs => ?_⟩
  have hus : us = vs := by
    have : ∀ {vs us : List Value}, Fa (RepA (Gh.base S) [] w) (vs.map sc) us → us = vs := fun {vs} => by
      induction vs with
      | nil => intro us h; cases us with
        | nil => rfl
        | cons u us => exact h.elim
      | cons v vs ih => intro us h; cases us with
        | nil => exact h.elim
        | cons u us => rw [(sc_rep h.1).1, ih h.2]
    exact this hargs
  subst hus
  refine (h w).mono ?_
  rintro e w' ⟨rfl, hb⟩
  exact ⟨v, Gh.base S, rfl, RepP.sc v hv, ⟨fun b B hb => by simp at hb, fun b b' g hb => by simp at hb, fun g o b hs ha => absurd (alive_lt ha) (by simp), fun g o hs => Nat.lt_of_lt_of_le (hS g o hs) hb.size, fun b g hb => by simp at hb, fun b g hb => by simp at hb,
    fun g o hs => hs, fun g o hs => .inl hs, hb.os, hb.tape, hb.output, hb.size, fun g hg _ => hb.block g hg, Nat.le_refl _, ⟨fun g o hs => hs, fun g o hs => World.cell?_of_block (a := ⟨g, o, none⟩) (hb.block g (hS g o hs)), Nat.le_refl _, fun b hb => absurd hb (Nat.not_lt_zero _), fun b sz rows h => (by unfold rowsOf at h; simp [Ctx.base] at h)⟩⟩⟩
theorem Con.plains {P : Program} {f : FuncId} {vs rs : List Value} (hn : fnOK P f = true) (hv : ∀ v ∈ rs, v.oneCell' = true) (h : ∀ w, Calls P f vs.toArray w fun e w' => e = .returned (.tuple rs.toArray) ∧ Go.RowKit.Below w.heap.size w w') :
    Con P f (vs.map sc) (.tup (rs.map fun v => .lf (lsc v))) [] := by
  refine ⟨hn, rfl, fun w S us hS hargs => ?_⟩
  have hus : us = vs := by
    have : ∀ {vs us : List Value}, Fa (RepA (Gh.base S) [] w) (vs.map sc) us → us = vs := fun {vs} => by
      induction vs with
      | nil => intro us h; cases us with
        | nil => rfl
        | cons u us => exact h.elim
      | cons v vs ih => intro us h; cases us with
        | nil => exact h.elim
        | cons u us => rw [(sc_rep h.1).1, ih h.2]
    exact this hargs
  subst hus
  refine (h w).mono ?_
  rintro e w' ⟨rfl, hb⟩
  have hf : ∀ {rs : List Value}, (∀ v ∈ rs, v.oneCell' = true) → Fa (RepT (Gh.base S) [] w') (rs.map fun v => .lf (lsc v)) rs := fun {rs} => by
    induction rs with
    | nil => intro _; trivial
    | cons v rs ih => intro h; exact ⟨RepP.sc v (h v (by simp)), ih fun u hu => h u (by simp [hu])⟩
  exact ⟨_, Gh.base S, rfl, ⟨rs, rfl, hf hv⟩, ⟨fun b B hb => by simp at hb, fun b b' g hb => by simp at hb, fun g o b hs ha => absurd (alive_lt ha) (by simp), fun g o hs => Nat.lt_of_lt_of_le (hS g o hs) hb.size, fun b g hb => by simp at hb, fun b g hb => by simp at hb,
    fun g o hs => hs, fun g o hs => .inl hs, hb.os, hb.tape, hb.output, hb.size, fun g hg _ => hb.block g hg, Nat.le_refl _, ⟨fun g o hs => hs, fun g o hs => World.cell?_of_block (a := ⟨g, o, none⟩) (hb.block g (hS g o hs)), Nat.le_refl _, fun b hb => absurd hb (Nat.not_lt_zero _), fun b sz rows h => (by unfold rowsOf at h; simp [Ctx.base] at h)⟩⟩⟩

theorem baEq (x y : ByteArray) : (x == y) = decide (x = y) := by
  rw [beq_toListBytes, Bool.eq_iff_iff, beq_iff_eq, decide_eq_true_eq, ByteArray.toList_eq, ByteArray.toList_eq]
  exact ⟨fun h => ByteArray.ext (Array.toList_inj.mp h), fun h => by rw [h]⟩
instance : ReflBEq ByteArray := ⟨by intro a; rw [baEq]; exact decide_eq_true rfl⟩
instance : LawfulBEq ByteArray := ⟨fun h => by rw [baEq] at h; exact of_decide_eq_true h⟩
/-! ### Data -/
structure Step where
  nm : ByteArray
  service : Int
  op : ByteArray
  undo : ByteArray
  who : ByteArray
  n : Int
theorem Step.eq_of {a b : Step} (h : a.nm = b.nm ∧ a.service = b.service ∧ a.op = b.op ∧ a.undo = b.undo ∧ a.who = b.who ∧ a.n = b.n) : a = b := by cases a; cases b; simp_all
instance : DecidableEq Step := fun a b => decidable_of_iff (a.nm = b.nm ∧ a.service = b.service ∧ a.op = b.op ∧ a.undo = b.undo ∧ a.who = b.who ∧ a.n = b.n) ⟨Step.eq_of, fun h => by subst h; simp⟩
def Step.enc (s : Step) : List PV := [pS s.nm, pI s.service, pS s.op, pS s.undo, pS s.who, pI s.n]
abbrev encSteps (l : List Step) : PV := .sl 6 (l.map Step.enc)
structure Rec where
  kind : Int
  id : Int
  n : Int
  key : ByteArray
  body : ByteArray
  steps : List Step
abbrev Rec.enc (r : Rec) : List PV := [pI r.kind, pI r.id, pI r.n, pS r.key, pS r.body, encSteps r.steps]
abbrev encRec (r : Rec) : AV := .agg [.pv (pI r.kind), .pv (pI r.id), .pv (pI r.n), .pv (pS r.key), .pv (pS r.body), .pv (encSteps r.steps)]
structure Saga where
  id : Int
  key : ByteArray
  body : ByteArray
  steps : List Step
  done : Int
  out : Bool
  back : Bool
  left : Int
  status : Int
abbrev Saga.enc (s : Saga) : List PV := [pI s.id, pS s.key, pS s.body, encSteps s.steps, pI s.done, pB s.out, pB s.back, pI s.left, pI s.status]
abbrev encSaga (s : Saga) : AV := .agg [.pv (pI s.id), .pv (pS s.key), .pv (pS s.body), .pv (encSteps s.steps), .pv (pI s.done), .pv (pB s.out), .pv (pB s.back), .pv (pI s.left), .pv (pI s.status)]
theorem Rec.eq_of {a b : Rec} (h : a.kind = b.kind ∧ a.id = b.id ∧ a.n = b.n ∧ a.key = b.key ∧ a.body = b.body ∧ a.steps = b.steps) : a = b := by cases a; cases b; simp_all
instance : DecidableEq Rec := fun a b => decidable_of_iff (a.kind = b.kind ∧ a.id = b.id ∧ a.n = b.n ∧ a.key = b.key ∧ a.body = b.body ∧ a.steps = b.steps) ⟨Rec.eq_of, fun h => by subst h; simp⟩
theorem Saga.eq_of {a b : Saga} (h : a.id = b.id ∧ a.key = b.key ∧ a.body = b.body ∧ a.steps = b.steps ∧ a.done = b.done ∧ a.out = b.out ∧ a.back = b.back ∧ a.left = b.left ∧ a.status = b.status) : a = b := by cases a; cases b; simp_all
instance : DecidableEq Saga := fun a b => decidable_of_iff (a.id = b.id ∧ a.key = b.key ∧ a.body = b.body ∧ a.steps = b.steps ∧ a.done = b.done ∧ a.out = b.out ∧ a.back = b.back ∧ a.left = b.left ∧ a.status = b.status) ⟨Saga.eq_of, fun h => by subst h; simp⟩
theorem stepEq (x y : Step) : ((x.nm == y.nm) && ((x.service == y.service) && ((x.op == y.op) && ((x.undo == y.undo) && ((x.who == y.who) && ((x.n == y.n) && true)))))) = decide (x = y) := by
  rw [Bool.eq_iff_iff]
  simp only [Bool.and_eq_true, beq_iff_eq, decide_eq_true_eq, and_true]
  exact ⟨Step.eq_of, fun h => by subst h; simp⟩
theorem recEq (a b : Rec) : decide (a = b) = (a.kind == b.kind && a.id == b.id && a.n == b.n && a.key == b.key && a.body == b.body && decide (a.steps = b.steps)) := by
  rw [Bool.eq_iff_iff]
  simp only [Bool.and_eq_true, beq_iff_eq, decide_eq_true_eq]
  exact ⟨fun h => by subst h; simp, fun h => Rec.eq_of ⟨h.1.1.1.1.1, h.1.1.1.1.2, h.1.1.1.2, h.1.1.2, h.1.2, h.2⟩⟩
theorem sagaEq (a b : Saga) : decide (a = b) = (a.id == b.id && a.key == b.key && a.body == b.body && decide (a.steps = b.steps) && a.done == b.done && a.out == b.out && a.back == b.back && a.left == b.left && a.status == b.status) := by
  rw [Bool.eq_iff_iff]
  simp only [Bool.and_eq_true, beq_iff_eq, decide_eq_true_eq]
  exact ⟨fun h => by subst h; simp, fun h => Saga.eq_of ⟨h.1.1.1.1.1.1.1.1, h.1.1.1.1.1.1.1.2, h.1.1.1.1.1.1.2, h.1.1.1.1.1.2, h.1.1.1.1.2, h.1.1.1.2, h.1.1.2, h.1.2, h.2⟩⟩
/-- May a saga end so? -/
def endsB (s : Saga) (st : Int) : Bool :=
  if st = 0 then true else if st = 1 then !s.back && s.done == s.steps.length && !s.out else if st = 2 then s.back && s.left == 0 else if st = 3 then s.back && decide (0 < s.left) else false
def mostI (s : Saga) : Int := if s.out then s.done + 1 else s.done
theorem wrapI {n : Int} (h : -9223372036854775808 ≤ n ∧ n ≤ 9223372036854775807) : IntKind.i64.wrap n = n := Go.IntWalk.i64_in n h
theorem take_succ' {α : Type} {l : List α} {k : Nat} (h : k < l.length) : l.take (k + 1) = l.take k ++ [l[k]] := List.take_succ_eq_append_getElem h
end Go.Rx

/- What a reading of an argument tells: the plain values that it holds. -/
set_option linter.unusedVariables false
set_option linter.unusedSimpArgs false
namespace Go.Rx.Lift
open Go.RowKit Go.WideShapes Go.ChangeShapes Go.Rx
/-- What was there. -/
def Was (w : World) (g _o : Nat) : Prop := g < w.heap.size
/-- A value of type t that reads as data is, cell by cell, what e says of some a, and ok holds of it. -/
def Opens (P : Program) (t : TypeId) {α : Type} (e : α → List PV) (ok : α → Prop) : Prop :=
  ∀ (H : Type) (enc : TypeId × Value → H) (w : World) (base : Nat) (spare : Nat → Bool) (held : Bool) (fuel : Nat) (cs : List Value) (x : DataW H × List MemPlace),
    DataW.trod enc P w base spare held fuel t cs = some x → (∀ n ∈ x.1.weights P t, n ≤ reachBytes) → ∃ a, Fa (fun p v => RepP (Was w) w p v) (e a) cs ∧ ok a

variable {P : Program}

theorem opens_int {t : TypeId} {k : IntKind} (ht : P.underlying t = some (.int k)) : Opens P t (fun n : Int => [.sc (.int k n)]) (fun n => (Lit.int k n).wf = true) := by
  intro H enc w base spare held fuel cs x h _
  obtain ⟨n, rfl, _, hw⟩ := DataW.trod_int ht h
  exact ⟨n, ⟨.sc _ rfl, trivial⟩, hw⟩
theorem opens_bool {t : TypeId} (ht : P.underlying t = some .bool) : Opens P t (fun b : Bool => [.sc (.bool b)]) (fun _ => True) := by
  intro H enc w base spare held fuel cs x h _
  obtain ⟨b, rfl, _⟩ := DataW.trod_bool ht h
  exact ⟨b, ⟨.sc _ rfl, trivial⟩, trivial⟩
theorem opens_string {t : TypeId} (ht : P.underlying t = some .string) : Opens P t (fun s : ByteArray => [.sc (.string s)]) (fun s => s.size ≤ 140737488351232) := by
  intro H enc w base spare held fuel cs x h hw
  obtain ⟨s, rfl, rfl, _⟩ := DataW.trod_string ht h
  refine ⟨s, ⟨.sc _ rfl, trivial⟩, ?_⟩
  have := hw s.data.toList.length (by simp [DataW.weights])
  rw [Array.length_toList] at this
  exact this
theorem cells_get {w : World} {base : Nat} {a : Addr} {n : Nat} {cs : List Value} (h : w.cells? base a n = some cs) : cs.length = n ∧ ∀ i u, cs[i]? = some u → w.cell? (a.add i) = some u := by
  obtain ⟨_, hl, hc⟩ := World.cells?_some h
  refine ⟨hl, fun i u hu => ?_⟩
  have hi : i < n := by rw [← hl]; exact (List.getElem?_eq_some_iff.1 hu).1
  rw [hc i hi, hu]
theorem weightsAll_mem {H : Type} {e : TypeId} : ∀ {l : List (DataW H)} {d : DataW H}, d ∈ l → ∀ n ∈ d.weights P e, n ∈ DataW.weightsAll P e l
  | d0 :: l, d, hd, n, hn => by
    simp only [DataW.weightsAll, List.mem_append]
    rcases List.mem_cons.1 hd with rfl | hd
    · exact .inl hn
    · exact .inr (weightsAll_mem hd n hn)
theorem list_of {α : Type} {Q : Nat → α → Prop} : ∀ {len : Nat}, (∀ i, i < len → ∃ p, Q i p) → ∃ l : List α, l.length = len ∧ ∀ i p, l[i]? = some p → Q i p
  | 0, _ => ⟨[], rfl, by simp⟩
  | m + 1, each => by
    obtain ⟨l, h1, h2⟩ := list_of (len := m) (fun i hi => each i (by omega))
    obtain ⟨p, hp⟩ := each m (by omega)
    refine ⟨l ++ [p], by simp [h1], fun i q hq => ?_⟩
    rcases Nat.lt_trichotomy i m with hi | hi | hi
    · rw [List.getElem?_append_left (by omega)] at hq
      exact h2 i q hq
    · subst hi
      rw [List.getElem?_append_right (by omega), h1] at hq
      simp at hq
      subst hq
      exact hp
    · rw [List.getElem?_eq_none (by simp; omega)] at hq
      cases hq
theorem cell_spot {w : World} {a : Addr} {u : Value} (h : w.cell? a = some u) : a.spot = none ∧ a.block < w.heap.size := by
  unfold World.cell? at h
  cases hb : w.heap[a.block]? with
  | none => rw [hb] at h; cases h
  | some o =>
    rw [hb] at h
    have hlt : a.block < w.heap.size := by
      rcases Nat.lt_or_ge a.block w.heap.size with h' | h'
      · exact h'
      · rw [Array.getElem?_eq_none h'] at hb; cases hb
    cases o with
    | cells c e fz =>
      refine ⟨?_, hlt⟩
      simp only at h
      split at h
      · cases h
      · rename_i hs; simpa using hs
    | _ => cases h
theorem opens_slice {t el : TypeId} {α : Type} {e : α → List PV} {ok : α → Prop} {sz B : Nat} (ht : P.underlying t = some (.slice el)) (hc : P.cellsOf el = sz) (hpos : 0 < sz) (hB : P.bytesOf el = B) (he : Opens P el e ok) :
    Opens P t (fun l : List α => [.sl sz (l.map e)]) (fun l => l.length * B ≤ 140737488351232 ∧ ∀ a ∈ l, ok a) := by
  intro H enc w base spare held fuel cs x h hw
  rcases DataW.trod_slice ht h with ⟨rfl, rfl⟩ | ⟨a, len, cap, elems, rest, n, _, rfl, rfl, _, hl, hm, hlen, hel, _, _⟩
  · exact ⟨[], ⟨.nil sz, trivial⟩, by simp, by simp⟩
  · have each : ∀ i, i < len → ∃ p : α, ok p ∧ ∃ c, c.length = sz ∧ Fa (fun p v => RepP (Was w) w p v) (e p) c ∧ ∀ j u, c[j]? = some u → w.cell? (a.add (i * sz + j)) = some u := by
      intro i hi
      have h1 := hel i hi
      rw [hc] at h1
      have hil : i < elems.length := by omega
      rw [List.getElem?_eq_getElem hil, Option.bind_eq_some_iff] at h1
      obtain ⟨c, hcs, hr⟩ := h1
      obtain ⟨hlc, hcell⟩ := cells_get hcs
      obtain ⟨p, hK, hok⟩ := he H enc w base spare held n c _ hr (fun m hm => hw m (by
        simp only [DataW.weights, ht, List.mem_cons, List.mem_append]
        refine .inr (.inl ?_)
        exact weightsAll_mem (List.mem_map_of_mem (List.getElem_mem hil)) m hm))
      refine ⟨p, hok, c, hlc, hK, fun j u hu => ?_⟩
      have := hcell j u hu
      rw [Addr.add_add] at this
      exact this
    obtain ⟨l, h1, h2⟩ := list_of each
    have hbytes : (elems.length + rest.length) * B ≤ 140737488351232 := by
      have := hw ((elems.length + rest.length) * B) (by simp [DataW.weights, ht, hB])
      exact this
    refine ⟨l, ⟨?_, trivial⟩, ?_, fun p hp => ?_⟩
    · by_cases h0 : len = 0
      · subst h0
        have : l = [] := List.eq_nil_of_length_eq_zero h1
        subst this
        exact RepP.emp sz a cap
      · -- there is a row: the address has no spot
        have sp : a.spot = none ∧ a.block < w.heap.size := by
          obtain ⟨p, hp⟩ : ∃ p, l[0]? = some p := ⟨l[0]'(by omega), List.getElem?_eq_getElem (by omega)⟩
          obtain ⟨_, c, hcl, _, hcc⟩ := h2 0 p hp
          obtain ⟨u, hu⟩ : ∃ u, c[0]? = some u := ⟨c[0]'(by omega), List.getElem?_eq_getElem (by omega)⟩
          have := hcc 0 u hu
          rw [Nat.zero_mul, Nat.add_zero] at this
          have e0 : a.add 0 = a := by unfold Addr.add; rw [if_pos rfl]
          rw [e0] at this
          exact cell_spot this
        obtain ⟨g, o, s⟩ := a
        obtain ⟨hs1, hs2⟩ := sp
        simp only at hs1 hs2
        subst hs1
        have hcl : ∀ (i : Nat) (p : α) (k : Nat) (q : PV), l[i]? = some p → (e p)[k]? = some q → ∃ u, w.cell? ⟨g, o + (i * sz + k), none⟩ = some u ∧ RepP (Was w) w q u := fun i p k q hi hk => by
          obtain ⟨_, c, hcl, hK, hcc⟩ := h2 i p hi
          obtain ⟨u, hu, hr⟩ := hK.get hk
          have := hcc k u hu
          rw [Addr.add_lit] at this
          exact ⟨u, this, hr⟩
        rw [show len = (l.map e).length by rw [List.length_map, h1]]
        refine RepP.sl sz g o cap (l.map e) (fun i k => (w.cell? ⟨g, o + (i * sz + k), none⟩).getD undef) (by rw [List.length_map]; omega) (fun r hr => ?_) (fun j r c p hj hp => ?_) (fun j r c p hj hp => ?_)
        · obtain ⟨p, hp, rfl⟩ := List.mem_map.1 hr
          obtain ⟨i, hi⟩ := List.getElem?_of_mem hp
          obtain ⟨_, c, hcl', hK, _⟩ := h2 i p hi
          rw [hK.length, hcl']
        · rw [List.getElem?_map, Option.map_eq_some_iff] at hj
          obtain ⟨q, hq, rfl⟩ := hj
          obtain ⟨u, hu, _⟩ := hcl j q c p hq hp
          rw [hu]
          exact ⟨hs2, rfl⟩
        · rw [List.getElem?_map, Option.map_eq_some_iff] at hj
          obtain ⟨q, hq, rfl⟩ := hj
          obtain ⟨u, hu, hr⟩ := hcl j q c p hq hp
          rw [hu]
          exact hr
    · rw [h1]
      exact Nat.le_trans (Nat.mul_le_mul_right _ (by omega)) hbytes
    · obtain ⟨i, hi⟩ := List.getElem?_of_mem hp
      exact (h2 i p hi).1
/-- The same of values of another make. -/
theorem opens_iso {t : TypeId} {α β : Type} {e : α → List PV} {ok : α → Prop} {e' : β → List PV} {ok' : β → Prop} (f : α → β) (he : ∀ a, e' (f a) = e a) (hok : ∀ a, ok a → ok' (f a)) (h : Opens P t e ok) : Opens P t e' ok' := by
  intro H enc w base spare held fuel cs x hx hw
  obtain ⟨a, hK, hk⟩ := h H enc w base spare held fuel cs x hx hw
  exact ⟨f a, by rw [he]; exact hK, hok a hk⟩

/-- A struct's fields from field i on, whose cells begin at off. -/
def From (P : Program) (fs : Array Field) (i off total : Nat) {α : Type} (e : α → List PV) (ok : α → Prop) : Prop :=
  ∀ (H : Type) (enc : TypeId × Value → H) (w : World) (base : Nat) (spare : Nat → Bool) (held : Bool) (n : Nat) (cs : List Value) (xs : List (DataW H × List MemPlace)),
    cs.length = total → xs.length = fs.size →
    (∀ (j : Nat) (f : Field), fs[j]? = some f → DataW.trod enc P w base spare held n f.type ((cs.drop f.offset).take (P.cellsOf f.type)) = xs[j]?) →
    (∀ (j : Nat) (f : Field) (d : DataW H × List MemPlace), fs[j]? = some f → xs[j]? = some d → ∀ m ∈ d.1.weights P f.type, m ≤ reachBytes) →
    ∃ a, Fa (fun p v => RepP (Was w) w p v) (e a) (cs.drop off) ∧ ok a
theorem from_last {fs : Array Field} {i off total : Nat} {f : Field} {α : Type} {e : α → List PV} {ok : α → Prop} (sz : Nat) (hf : fs[i]? = some f) (ho : f.offset = off) (hs : P.cellsOf f.type = sz) (htot : off + sz = total) (h : Opens P f.type e ok) : From P fs i off total e ok := by
  intro H enc w base spare held n cs xs hcs hxs hr hw
  have hi : i < fs.size := by
    rcases Nat.lt_or_ge i fs.size with h | h
    · exact h
    · rw [Array.getElem?_eq_none h] at hf; cases hf
  have h1 := hr i f hf
  have hx : i < xs.length := by omega
  rw [List.getElem?_eq_getElem hx, ho, hs, List.take_of_length_le (by rw [List.length_drop]; omega)] at h1
  exact h H enc w base spare held n _ _ h1 (hw i f _ hf (List.getElem?_eq_getElem hx))
theorem from_cons {fs : Array Field} {i off total : Nat} {f : Field} {α β : Type} {e : α → List PV} {ok : α → Prop} {e2 : β → List PV} {ok2 : β → Prop} (sz : Nat) (hf : fs[i]? = some f) (ho : f.offset = off) (hs : P.cellsOf f.type = sz) (h : Opens P f.type e ok) (hr2 : From P fs (i + 1) (off + sz) total e2 ok2) :
    From P fs i off total (fun p : α × β => e p.1 ++ e2 p.2) (fun p => ok p.1 ∧ ok2 p.2) := by
  intro H enc w base spare held n cs xs hcs hxs hr hw
  have hi : i < fs.size := by
    rcases Nat.lt_or_ge i fs.size with h | h
    · exact h
    · rw [Array.getElem?_eq_none h] at hf; cases hf
  have h1 := hr i f hf
  have hx : i < xs.length := by omega
  rw [List.getElem?_eq_getElem hx, ho, hs] at h1
  obtain ⟨a, hK, hok⟩ := h H enc w base spare held n _ _ h1 (hw i f _ hf (List.getElem?_eq_getElem hx))
  obtain ⟨b, hK2, hok2⟩ := hr2 H enc w base spare held n cs xs hcs hxs hr hw
  refine ⟨(a, b), ?_, hok, hok2⟩
  have e0 : cs.drop off = (cs.drop off).take sz ++ cs.drop (off + sz) := by rw [← List.drop_drop, List.take_append_drop]
  rw [e0]
  exact hK.append hK2
theorem opens_struct {t : TypeId} {fs : Array Field} {total : Nat} {α : Type} {e : α → List PV} {ok : α → Prop} (ht : P.underlying t = some (.struct fs)) (htot : P.cellsOf t = total) (h : From P fs 0 0 total e ok) : Opens P t e ok := by
  intro H enc w base spare held fuel cs x hx hw
  obtain ⟨xs, n, _, rfl, hl, hlen, hr⟩ := DataW.trod_struct ht hx
  obtain ⟨a, hK, hok⟩ := h H enc w base spare held n cs xs (hl.trans htot) hlen hr (fun j f d hf hd m hm => hw m (by
    simp only [DataW.weights, ht]
    exact DataW.weights_mem_each (j := j) (t := f.type) (d := d.1) (by rw [List.getElem?_map]; simp [hf]) (by rw [List.getElem?_map, hd]; rfl) m hm))
  exact ⟨a, by simpa using hK, hok⟩
/-- A parameter, opened. -/
theorem opened {H : Type} {enc : TypeId × Value → H} {w : World} {base : Nat} {spare : Nat → Bool} {held : Bool} {t : TypeId} {v : Value} {d : DataW H} {ps : List MemPlace} {ts : List TypeId} {ds : List (DataW H)} {j : Nat} {α : Type} {e : α → List PV} {ok : α → Prop}
    (ho : Opens P t e ok) (hsz : (DataW.weightsEach P ts ds).all (· ≤ reachBytes) = true) (ht : ts[j]? = some t) (hd : ds[j]? = some d) (h : DataW.Trod enc P w base spare held t v d ps) : ∃ a, Fa (fun p v => RepP (Was w) w p v) (e a) v.cells.toList ∧ ok a := by
  obtain ⟨fuel, hf⟩ := h
  exact ho H enc w base spare held fuel _ _ hf (fun n hn => by
    have := List.all_eq_true.1 hsz _ (DataW.weights_mem_each ht hd n hn)
    simpa using this)
/-- Cells that stand for values, as leaves of an argument. -/
theorem leaves_of {w : World} : ∀ {ps : List PV} {cs : List Value}, Fa (fun p v => RepP (Was w) w p v) ps cs → Fa (RepL (Gh.base (Was w)) [] w) (ps.map .pv) cs
  | [], [], _ => trivial
  | _ :: _, _ :: _, h => ⟨h.1, leaves_of h.2⟩
  | [], _ :: _, h => h.elim
  | _ :: _, [], h => h.elim
/-- A call by contract, from a world as a law has it. -/
theorem Con.law {f : FuncId} {args : List AV} {r : AV} (h : Con P f args r []) (hs : scalA r = true) {w : World} {us : List Value} (hu : Fa (RepA (Gh.base (Was w)) [] w) args us) {v : Value} (hv : ∀ (G : Gh) (w' : World) (u : Value), RepA G [] w' r u → u = v) :
    Calls P f us.toArray w fun e w' => e = .returned v ∧ Below w.heap.size w w' := by
  refine (h.2.2 w (Was w) us (fun g o h => h) hu).mono ?_
  rintro e w' ⟨u, G, rfl, hr, hm⟩
  rw [hv G w' u hr]
  exact ⟨rfl, hm.os, hm.tape, hm.output, hm.size, fun g hg => hm.block g hg (fun b hb => absurd hb (Nat.not_lt_zero _))⟩
end Go.Rx.Lift

/- The types of the translation that the functions use, in short, against the program's own. -/
namespace Go.Proofs.Ytcombonfmhgnjaa.Rx
open Go.Rx Go.Proofs
noncomputable abbrev P := Try.prog
def T : Tab := ⟨[
  (2, ⟨.int .i64, 1, 8, [.int .i64 0]⟩),
  (3, ⟨.int .i64, 1, 8, [.int .i64 0]⟩),
  (4, ⟨.bool, 1, 1, [.bool false]⟩),
  (5, ⟨.int .u8, 1, 1, [.int .u8 0]⟩),
  (6, ⟨.int .u8, 1, 1, [.int .u8 0]⟩),
  (7, ⟨.strct [(0, 2), (1, 3), (2, 4), (3, 6)], 4, 24, [.int .i64 0, .int .i64 0, .bool false, .int .u8 0]⟩),
  (8, ⟨.strct [(0, 2), (1, 3), (2, 4), (3, 6)], 4, 24, [.int .i64 0, .int .i64 0, .bool false, .int .u8 0]⟩),
  (9, ⟨.str, 1, 16, [.string ⟨#[]⟩]⟩),
  (10, ⟨.str, 1, 16, [.string ⟨#[]⟩]⟩),
  (11, ⟨.str, 1, 16, [.string ⟨#[]⟩]⟩),
  (12, ⟨.int .u64, 1, 8, [.int .u64 0]⟩),
  (21, ⟨.int .i32, 1, 4, [.int .i32 0]⟩),
  (22, ⟨.slice 9, 1, 24, [.slice none 0 0]⟩),
  (23, ⟨.slice 3, 1, 24, [.slice none 0 0]⟩),
  (24, ⟨.strct [(0, 22), (1, 23)], 2, 48, [.slice none 0 0, .slice none 0 0]⟩),
  (25, ⟨.strct [(0, 22), (1, 23)], 2, 48, [.slice none 0 0, .slice none 0 0]⟩),
  (27, ⟨.int .i64, 1, 8, [.int .i64 0]⟩),
  (31, ⟨.slice 35, 1, 24, [.slice none 0 0]⟩),
  (34, ⟨.strct [(0, 9), (1, 3)], 2, 24, [.string ⟨#[]⟩, .int .i64 0]⟩),
  (35, ⟨.strct [(0, 9), (1, 3)], 2, 24, [.string ⟨#[]⟩, .int .i64 0]⟩),
  (37, ⟨.slice 50, 1, 24, [.slice none 0 0]⟩),
  (38, ⟨.strct [(0, 22), (1, 37), (2, 22)], 3, 72, [.slice none 0 0, .slice none 0 0, .slice none 0 0]⟩),
  (39, ⟨.strct [(0, 22), (1, 37), (2, 22)], 3, 72, [.slice none 0 0, .slice none 0 0, .slice none 0 0]⟩),
  (50, ⟨.slice 73, 1, 24, [.slice none 0 0]⟩),
  (58, ⟨.slice 5, 1, 24, [.slice none 0 0]⟩),
  (59, ⟨.strct [(0, 57), (1, 58)], 2, 32, [.pointer none, .slice none 0 0]⟩),
  (60, ⟨.strct [(0, 57), (1, 58)], 2, 32, [.pointer none, .slice none 0 0]⟩),
  (72, ⟨.strct [(0, 3), (1, 3), (2, 9), (3, 22), (4, 23)], 5, 80, [.int .i64 0, .int .i64 0, .string ⟨#[]⟩, .slice none 0 0, .slice none 0 0]⟩),
  (73, ⟨.strct [(0, 3), (1, 3), (2, 9), (3, 22), (4, 23)], 5, 80, [.int .i64 0, .int .i64 0, .string ⟨#[]⟩, .slice none 0 0, .slice none 0 0]⟩),
  (93, ⟨.int .u32, 1, 4, [.int .u32 0]⟩),
  (94, ⟨.int .u8, 1, 1, [.int .u8 0]⟩),
  (95, ⟨.int .u8, 1, 1, [.int .u8 0]⟩),
  (97, ⟨.int .i32, 1, 4, [.int .i32 0]⟩),
  (98, ⟨.int .i32, 1, 4, [.int .i32 0]⟩)
], [0, 1, 2, 28, 29, 31, 51, 66, 68, 70, 72, 73, 74, 75, 76, 77, 79, 80], [60]⟩
theorem T_ok : TabOK P T := tabOK_of (by kernel_rfl)
end Go.Proofs.Ytcombonfmhgnjaa.Rx

/- What the small functions return. -/
set_option linter.unusedVariables false
set_option linter.unusedSimpArgs false
namespace Go.Proofs.Ytcombonfmhgnjaa.Rx
open Go.Rx Go.Proofs

theorem num_con (n : Int) (h : -9223372036854775808 ≤ n ∧ n ≤ 9223372036854775807) : Con P 8 [I n] (I n) [] := by
  refine Con.of T_ok Try.func8 rfl (by kernel_rfl) (by kernel_rfl) (aw_of T_ok (by kernel_rfl) ?_)
  conv => whnf
  exact retI rfl
end Go.Proofs.Ytcombonfmhgnjaa.Rx

/- Sagas and records: the same, copied, begun, ended. -/
set_option linter.unusedVariables false
set_option linter.unusedSimpArgs false
namespace Go.Proofs.Ytcombonfmhgnjaa.Rx
open Go.Rx Go.Proofs

end Go.Proofs.Ytcombonfmhgnjaa.Rx

/- How much the input is: a number, whatever it is. -/
set_option linter.unusedVariables false
set_option linter.unusedSimpArgs false
namespace Go.Rx
/-- A sum that stops where it is great. -/
def capSum : List Int → Int → Int
  | [], n => n
  | x :: l, n => if n < 1048576 then capSum l (IntKind.i64.wrap (n + x)) else n
theorem capSum_go {l : List Int} {k : Nat} {n : Int} (h : k < l.length) (hn : n < 1048576) : capSum (l.drop k) n = capSum (l.drop (k + 1)) (IntKind.i64.wrap (n + l[k])) := by
  rw [List.drop_eq_getElem_cons h, capSum, if_pos hn]
theorem capSum_stop {l : List Int} {n : Int} (hn : ¬ n < 1048576) : capSum l n = n := by
  cases l with
  | nil => rfl
  | cons x l => rw [capSum, if_neg hn]
abbrev okS (s : ByteArray) : Prop := s.size ≤ 140737488351232
structure Step.Ok (s : Step) : Prop where
  nm : okS s.nm
  op : okS s.op
  undo : okS s.undo
  who : okS s.who
def Step.w (s : Step) : Int := IntKind.i64.wrap (IntKind.i64.wrap (IntKind.i64.wrap ((s.nm.size : Int) + s.op.size) + s.undo.size) + s.who.size) / 8
def stepsW (l : List Step) : Int := capSum (l.map Step.w) l.length
def sumW (a b : ByteArray) : Int := IntKind.i64.wrap ((a.size : Int) + b.size) / 64
theorem Step.sum_eq {s : Step} (h : s.Ok) : IntKind.i64.wrap (IntKind.i64.wrap (IntKind.i64.wrap ((s.nm.size : Int) + s.op.size) + s.undo.size) + s.who.size) = s.nm.size + s.op.size + s.undo.size + s.who.size := by
  have := h.nm; have := h.op; have := h.undo; have := h.who
  simp only [okS] at *
  rw [wrapI (n := (s.nm.size : Int) + s.op.size) (by omega), wrapI (n := (s.nm.size : Int) + s.op.size + s.undo.size) (by omega), wrapI (by omega)]
abbrev encStrs (l : List ByteArray) : PV := .sl 1 (l.map fun s => [pS s])
abbrev encInts (l : List Int) : PV := .sl 1 (l.map fun n => [pI n])
abbrev encSagas (l : List Saga) : PV := .sl 9 (l.map Saga.enc)
abbrev encRecs (l : List Rec) : PV := .sl 6 (l.map Rec.enc)
def textsW (l : List ByteArray) : Int := capSum (l.map fun s => (s.size : Int)) l.length
def recW (r : Rec) : Int := IntKind.i64.wrap (IntKind.i64.wrap (1 + sumW r.key r.body) + stepsW r.steps)
def sagaW (s : Saga) : Int := IntKind.i64.wrap (IntKind.i64.wrap (1 + sumW s.key s.body) + stepsW s.steps)
structure StepsOk (l : List Step) : Prop where
  len : l.length * 80 ≤ 140737488351232
  each : ∀ x ∈ l, x.Ok
structure Rec.Ok (r : Rec) : Prop where
  key : okS r.key
  body : okS r.body
  steps : StepsOk r.steps
structure Saga.Ok (s : Saga) : Prop where
  key : okS s.key
  body : okS s.body
  steps : StepsOk s.steps
def heavy2B (S : List ByteArray) (N : List Int) : Bool := decide (7000 < IntKind.i64.wrap (textsW S + (N.map fun n => [pI n]).length))
def heavy11B (R : List Rec) (S : List ByteArray) (N : List Int) : Bool := decide (400 < capSum (R.map recW) R.length) || heavy2B S N
end Go.Rx
namespace Go.Proofs.Ytcombonfmhgnjaa.Rx
open Go.Rx Go.Proofs

theorem texts_con (l : List ByteArray) (hl : l.length * 16 ≤ 140737488351232) : Con P 14 [.lf (.pv (encStrs l))] (I (textsW l)) [] := by
  refine Con.of T_ok Try.func14 rfl (by kernel_rfl) (by kernel_rfl) (aw_of T_ok (by kernel_rfl) ?_)
  conv => whnf
  refine AW.loop (fun p : Nat × Int => p.1 ≤ l.length ∧ capSum ((l.map fun s => (s.size : Int)).drop p.1) p.2 = textsW l) (fun p => [(0, .lf (.pv (encStrs l))), (3, Go.Rx.I p.2), (4, Go.Rx.I p.1)]) (fun _ => []) (fun p => l.length - p.1) [] ?_ ?_
  · exact ⟨(0, l.length), ⟨Nat.zero_le _, rfl⟩, ⟨rfl, congrArg (fun n : Nat => Go.Rx.I (n : Int)) (List.length_map ..), rfl, trivial⟩, ⟨[], rfl⟩, rfl, rfl⟩
  · rintro ⟨k, n⟩ ⟨hk, hsum⟩
    refine aw_of T_ok (by kernel_rfl) ?_
    conv => whnf
    split <;> rename_i hlt <;> conv => whnf
    · have hkl : k < l.length := by simp at hlt; omega
      split <;> rename_i hn <;> conv => whnf
      · refine ⟨by omega, [pS l[k]], by simp [hkl], ?_⟩
        conv => whnf
        have hn' : n < 1048576 := of_decide_eq_true hn
        refine ⟨(k + 1, IntKind.i64.wrap (n + l[k].size)), ⟨⟨by show k + 1 ≤ _; omega, ?_⟩, by show _ - (k + 1) < _; omega⟩, ⟨rfl, rfl, congrArg Go.Rx.I (wrapI (by omega)), trivial⟩, ⟨[], rfl⟩, rfl, rfl⟩
        rw [← hsum]
        have h3 := capSum_go (l := l.map fun s => (s.size : Int)) (k := k) (by simpa using hkl) hn'
        rw [List.getElem_map] at h3
        exact h3.symm
      · refine finI ⟨?_⟩
        rw [← hsum, capSum_stop (of_decide_eq_false hn)]
    · refine finI ⟨?_⟩
      have hkl : k = l.length := by simp at hlt; omega
      rw [← hsum, hkl, List.drop_of_length_le (by simp)]
      rfl

theorem heavy2V_con (S : List ByteArray) (N : List Int) (hS : S.length * 16 ≤ 140737488351232) : Con P 6 [.agg [.pv (encStrs S), .pv (encInts N)]] (Bl (heavy2B S N)) [] := by
  refine Con.of T_ok Try.func6 rfl (by kernel_rfl) (by kernel_rfl) (aw_of T_ok (by kernel_rfl) ?_)
  conv => whnf
  refine AW.draw T_ok rfl (listPl [0, 1, 3, 4, 5, 2, 6, 7, 8]) (by kernel_rfl) (by kernel_rfl) ?_
  conv => whnf
  refine callS (texts_con _ hS) rfl ?_
  conv => whnf
  exact finB ⟨rfl⟩
theorem heavy2_con (S : List ByteArray) (N : List Int) (hS : S.length * 16 ≤ 140737488351232) : ∃ b, Con P 6 [.agg [.pv (encStrs S), .pv (encInts N)]] (Bl b) [] := ⟨_, heavy2V_con S N hS⟩
structure AskOk (R : List Rec) (S : List ByteArray) (N : List Int) (G : List Saga) : Prop where
  hR : R.length * 80 ≤ 140737488351232
  hRs : ∀ r ∈ R, r.Ok
  hS : S.length * 16 ≤ 140737488351232
  hG : G.length * 96 ≤ 140737488351232
  hGs : ∀ s ∈ G, s.Ok
end Go.Proofs.Ytcombonfmhgnjaa.Rx

/- The arguments of the words' laws, opened. -/
namespace Go.Proofs.Ytcombonfmhgnjaa.Rx
open Go.Rx Go.Rx.Lift Go.Proofs

theorem opStr : Opens P 9 (fun s : ByteArray => [pS s]) (fun s => s.size ≤ 140737488351232) := opens_string Try.underlying9
theorem opInt : Opens P 3 (fun n : Int => [pI n]) (fun n => (Lit.int .i64 n).wf = true) := opens_int Try.underlying3
theorem opAsk2 : Opens P 25 (fun q : List ByteArray × List Int => [encStrs q.1, encInts q.2]) (fun q => (q.1.length * 16 ≤ 140737488351232 ∧ ∀ s ∈ q.1, okS s) ∧ q.2.length * 8 ≤ 140737488351232) := by
  have h := opens_struct (total := 2) Try.underlying25 (by kernel_rfl) (from_cons 1 rfl rfl (by kernel_rfl) (opens_slice (sz := 1) (B := 16) Try.underlying22 (by kernel_rfl) (by decide) (by kernel_rfl) opStr) (from_last 1 rfl rfl (by kernel_rfl) rfl (opens_slice (sz := 1) (B := 8) Try.underlying23 (by kernel_rfl) (by decide) (by kernel_rfl) opInt)))
  exact opens_iso id (fun _ => rfl) (fun _ h => ⟨h.1, h.2.1⟩) h
end Go.Proofs.Ytcombonfmhgnjaa.Rx

/- Bytes, short texts, numbers, services and their ops. -/
set_option linter.unusedVariables false
set_option linter.unusedSimpArgs false
namespace Go.Rx
abbrev U8 (n : Int) : AV := sc (.int .u8 n)
abbrev pU8 (n : Int) : PV := .sc (.int .u8 n)
def letN (n : Int) : Bool := (decide (97 ≤ n) && decide (n ≤ 122)) || (decide (65 ≤ n) && decide (n ≤ 90)) || (n == 95)
def digN (n : Int) : Bool := decide (48 ≤ n) && decide (n ≤ 57)
/-- Is a byte one that a text may have? Are all? -/
def okB (c : UInt8) : Bool := !(decide ((c.toNat : Int) < 32) || decide (126 < (c.toNat : Int)))
def plainB (s : ByteArray) : Bool := s.data.toList.all okB
def shortB (s : ByteArray) : Bool := plainB s && decide (s.size ≤ 40)
theorem atB {s : ByteArray} {k : Nat} (h : k < s.size) : s[k]? = some s[k] := by simp [h]
theorem plain_go {s : ByteArray} {k : Nat} (h : k < s.size) : (s.data.toList.drop k).all okB = (okB s[k] && (s.data.toList.drop (k + 1)).all okB) := by
  rw [List.drop_eq_getElem_cons (by simpa using h), List.all_cons]
  rfl
theorem plain_end {s : ByteArray} {k : Nat} (h : s.size ≤ k) : (s.data.toList.drop k).all okB = true := by
  rw [List.drop_of_length_le (by simpa using h)]; rfl
end Go.Rx
namespace Go.Proofs.Ytcombonfmhgnjaa.Rx
open Go.Rx Go.Proofs

theorem letter2_con (n : Int) : Con P 55 [U8 n] (Bl (letN n)) [] := by
  refine Con.of T_ok Try.func55 rfl (by kernel_rfl) (by kernel_rfl) (aw_of T_ok (by kernel_rfl) ?_)
  conv => whnf
  repeat' first | refine finB ?_ | (split <;> conv => whnf)
  all_goals (refine ⟨?_⟩; simp_all [letN] <;> omega)
theorem digit2_con (n : Int) : Con P 56 [U8 n] (Bl (digN n)) [] := by
  refine Con.of T_ok Try.func56 rfl (by kernel_rfl) (by kernel_rfl) (aw_of T_ok (by kernel_rfl) ?_)
  conv => whnf
  repeat' first | refine finB ?_ | (split <;> conv => whnf)
  all_goals (refine ⟨?_⟩; simp_all [digN] <;> omega)
theorem letter_con (n : Int) : Con P 35 [U8 n] (Bl (letN n)) [] := by
  refine Con.of T_ok Try.func35 rfl (by kernel_rfl) (by kernel_rfl) (aw_of T_ok (by kernel_rfl) ?_)
  conv => whnf
  repeat' first | refine finB ?_ | (split <;> conv => whnf)
  all_goals (refine ⟨?_⟩; simp_all [letN] <;> omega)
theorem digit_con (n : Int) : Con P 37 [U8 n] (Bl (digN n)) [] := by
  refine Con.of T_ok Try.func37 rfl (by kernel_rfl) (by kernel_rfl) (aw_of T_ok (by kernel_rfl) ?_)
  conv => whnf
  repeat' first | refine finB ?_ | (split <;> conv => whnf)
  all_goals (refine ⟨?_⟩; simp_all [digN] <;> omega)
theorem digit1_con (n : Int) : Con P 52 [U8 n] (Bl (digN n)) [] := by
  refine Con.of T_ok Try.func52 rfl (by kernel_rfl) (by kernel_rfl) (aw_of T_ok (by kernel_rfl) ?_)
  conv => whnf
  repeat' first | refine finB ?_ | (split <;> conv => whnf)
  all_goals (refine ⟨?_⟩; simp_all [digN] <;> omega)
theorem string_con (s : ByteArray) (hs : okS s) : Con P 60 [Sx s] (Bl (plainB s && decide (s.size ≤ 3000))) [] := by
  simp only [okS] at hs
  refine Con.of T_ok Try.func60 rfl (by kernel_rfl) (by kernel_rfl) (aw_of T_ok (by kernel_rfl) ?_)
  conv => whnf
  refine AW.loop (fun k : Nat => k ≤ s.size ∧ k ≤ 3001 ∧ plainB s = (s.data.toList.drop k).all okB) (fun k => [(0, Sx s), (3, Go.Rx.I k)]) (fun _ => []) (fun k => s.size - k) [] ?_ ?_
  · exact ⟨0, ⟨Nat.zero_le _, by omega, rfl⟩, ⟨rfl, rfl, trivial⟩, ⟨[], rfl⟩, rfl, rfl⟩
  · rintro k ⟨hk, hk2, hpre⟩
    refine aw_of T_ok (by kernel_rfl) ?_
    conv => whnf
    split <;> rename_i hlt <;> conv => whnf
    · have hks : k < s.size := by simpa using hlt
      split <;> rename_i h3 <;> conv => whnf
      · have h3' : k ≤ 3000 := by simp at h3; omega
        refine ⟨by omega, s[k], atB hks, ?_⟩
        conv => whnf
        rw [plain_go hks] at hpre
        split <;> rename_i h4 <;> conv => whnf
        · refine finB ⟨?_⟩
          rw [hpre, okB, show decide ((s[k].toNat : Int) < 32) = true from h4]; rfl
        · refine ⟨by omega, s[k], atB hks, ?_⟩
          conv => whnf
          split <;> rename_i h5 <;> conv => whnf
          · refine finB ⟨?_⟩
            rw [hpre, okB, show decide (126 < (s[k].toNat : Int)) = true from h5, Bool.or_true]; rfl
          · refine ⟨k + 1, ⟨⟨by omega, by omega, ?_⟩, by omega⟩, ⟨rfl, congrArg Go.Rx.I (wrapI (by omega)), trivial⟩, ⟨[], rfl⟩, rfl, rfl⟩
            rw [hpre, okB, show decide ((s[k].toNat : Int) < 32) = false from h4, show decide (126 < (s[k].toNat : Int)) = false from h5]; rfl
      · refine finB ⟨?_⟩
        have h3' : ¬ k ≤ 3000 := by simp at h3; omega
        rw [decide_eq_false (by omega), decide_eq_false (by omega), Bool.and_false]
    · refine finB ⟨?_⟩
      have hks : s.size ≤ k := by simpa using hlt
      rw [hpre, plain_end hks, Bool.true_and]
      exact decide_eq_decide.2 (by omega)
theorem short1_con (s : ByteArray) (hs : okS s) : Con P 47 [Sx s] (Bl (shortB s)) [] := by
  refine Con.of T_ok Try.func47 rfl (by kernel_rfl) (by kernel_rfl) (aw_of T_ok (by kernel_rfl) ?_)
  conv => whnf
  refine callS (string_con s hs) rfl ?_
  conv => whnf
  split <;> rename_i h <;> conv => whnf
  · refine finB ⟨?_⟩
    simp only [Bool.and_eq_true, decide_eq_true_eq] at h
    rw [shortB, h.1, Bool.true_and]
    exact decide_eq_decide.2 (by omega)
  · refine finB ⟨?_⟩
    rw [shortB]
    cases hp : plainB s with
    | false => rfl
    | true =>
      rw [hp, Bool.true_and] at h
      simp at h
      simp
      omega
end Go.Proofs.Ytcombonfmhgnjaa.Rx

/- Ops and their pairs; is a text, or a step, among others? -/
set_option linter.unusedVariables false
set_option linter.unusedSimpArgs false
namespace Go.Rx
def idxL {α : Type} (p : α → Bool) : List α → Nat → Int
  | [], _ => -1
  | y :: l, k => if p y then k else idxL p l (k + 1)
theorem idx_go {α : Type} {p : α → Bool} {l : List α} {k : Nat} (h : k < l.length) : idxL p (l.drop k) k = if p l[k] then (k : Int) else idxL p (l.drop (k + 1)) (k + 1) := by
  rw [List.drop_eq_getElem_cons h, idxL]
theorem idx_end {α : Type} {p : α → Bool} {l : List α} {k : Nat} (h : l.length ≤ k) : idxL p (l.drop k) k = -1 := by
  rw [List.drop_of_length_le h, idxL]
theorem idx_any {α : Type} {p : α → Bool} : ∀ (l : List α) (k : Nat), decide (0 ≤ idxL p l k) = l.any p
  | [], _ => rfl
  | y :: l, k => by
    rw [idxL, List.any_cons]
    cases hp : p y with
    | true => simp
    | false => simpa using idx_any l (k + 1)
abbrev encStep (s : Step) : AV := .agg [.pv (pS s.nm), .pv (pI s.service), .pv (pS s.op), .pv (pS s.undo), .pv (pS s.who), .pv (pI s.n)]
def opsS (n : Int) : List ByteArray :=
  if n = 1 then [⟨#[99, 114, 101, 100, 105, 116]⟩, ⟨#[100, 101, 98, 105, 116]⟩] else if n = 2 then [⟨#[112, 117, 116]⟩, ⟨#[116, 97, 107, 101]⟩]
  else if n = 3 then [⟨#[98, 111, 111, 107]⟩, ⟨#[99, 97, 110, 99, 101, 108]⟩] else if n = 4 then [⟨#[115, 101, 110, 100]⟩, ⟨#[114, 101, 99, 97, 108, 108]⟩] else []
def pairB (n : Int) (d u : ByteArray) : Bool := (opsS n).any (d == ·) && (opsS n).any (u == ·) && !(d == u)
end Go.Rx
namespace Go.Proofs.Ytcombonfmhgnjaa.Rx
open Go.Rx Go.Proofs

theorem ops_len (n : Int) : (opsS n).length * 16 ≤ 140737488351232 := by
  unfold opsS; repeat' split
  all_goals decide
theorem ops_two (n : Int) : (∃ p q, opsS n = [p, q] ∧ (p == q) = false) ∨ opsS n = [] := by
  unfold opsS; repeat' split
  all_goals first | exact .inr rfl | exact .inl ⟨_, _, rfl, by decide⟩
end Go.Proofs.Ytcombonfmhgnjaa.Rx

/- Library functions that write to a strings.Builder, and those that look for a byte or a beginning. -/
set_option linter.unusedVariables false
set_option linter.unusedSimpArgs false
namespace Go.Proofs.Ytcombonfmhgnjaa.RxH
open Go.RowKit Go.Proofs
/-! ### json_Plain -/
def badR (n : Nat) : Bool := decide (n < 32) || decide (126 < n)
open Go.Shelf Go.Lib in
theorem plain_bad (w : World) : PredAt Try.prog 49 #[] encR badR w := fun W r _ => by
  unfold FnGives
  by_cases h1 : r < 32
  · have HX := Lib.hid (show badR r = true by simp [badR, h1])
    have t1 : decide ((r : Int) < 32) = true := decide_eq_true (by omega)
    clear h1
    go_enter Try.func49, Try.ntmps49
    go_wp2
    go_ret
    exact ⟨by rw [HX.out]; rfl, 0, rfl⟩
  · have t1 : decide ((r : Int) < 32) = false := decide_eq_false (by omega)
    by_cases h2 : 126 < r
    · have HX := Lib.hid (show badR r = true by simp [badR, h2])
      have t2 : decide (126 < (r : Int)) = true := decide_eq_true (by omega)
      clear h1 h2
      go_enter Try.func49, Try.ntmps49
      go_wp2
      go_ret
      exact ⟨by rw [HX.out]; rfl, 0, rfl⟩
    · have HX := Lib.hid (show badR r = false by simp [badR, h1, h2])
      have t2 : decide (126 < (r : Int)) = false := decide_eq_false (by omega)
      clear h1 h2
      go_enter Try.func49, Try.ntmps49
      go_wp2
      go_ret
      exact ⟨by rw [HX.out]; rfl, 0, rfl⟩
def json_Plain.f (a0 : ByteArray) (a1 : Int) : Option Bool := some (decide ((a0.size : Int) ≤ a1) && !decide (0 ≤ Lib.idxFunc badR true a0))
set_option maxHeartbeats 1000000 in
theorem json_Plain.calls (a0 : ByteArray) (a1 : Int) (r : Bool) (w : World) (h : json_Plain.f a0 a1 = some r) :
    Calls Try.prog 27 #[.string a0, .int .i64 a1] w fun e w' => e = .returned (.bool r) ∧ Below w.heap.size w w' := by
  have HR := Lib.hid (Option.some.inj h)
  clear h
  have HC := Lib.hid (Try.strings_ContainsFunc 49 #[] (enters_of Try.func49 (by kernel_rfl) rfl) badR a0 w (plain_bad w))
  by_cases c : (a0.size : Int) ≤ a1
  · have HR2 := Lib.hid (show (!decide (0 ≤ Lib.idxFunc badR true a0)) = r by rw [← HR.out, decide_eq_true c, Bool.true_and])
    have t1 : decide ((a0.size : Int) ≤ a1) = true := decide_eq_true c
    clear c
    go_enter Try.func27, Try.ntmps27
    go_wp2_with (fail)
    refine HC.out.mono ?_
    rintro e w2 ⟨rfl, hd2⟩
    go_wp2
    go_ret
    exact ⟨by rw [HR2.out]; rfl, hd2⟩
  · have HR2 := Lib.hid (show false = r by rw [← HR.out, decide_eq_false c, Bool.false_and])
    have t1 : decide ((a0.size : Int) ≤ a1) = false := decide_eq_false c
    clear c
    go_enter Try.func27, Try.ntmps27
    go_wp2
    go_ret
    exact ⟨by rw [HR2.out]; rfl, Below.refl _ _⟩
/-! ### strings_Builder_copyCheck -/
theorem hb_size : (Try.prog.info? 60).map (·.size) = some 2 := by kernel_rfl
theorem hb_lies : liesAt Try.prog Try.prog.depth 60 (2 / Try.prog.cellsOf 60) 0 60 1 = true := by kernel_rfl
theorem hb_byte : (Try.prog.info? 5).map (fun i => (i.zero, i.size, i.bytes)) = some (some (.int .u8 0), 1, 1) := by kernel_rfl
set_option maxHeartbeats 1000000 in
set_option maxRecDepth 100000 in
theorem hb_copyCheck_used (b : Nat) (w : World) (h0 : w.cell? ⟨b, 0, none⟩ = some (.pointer (some ⟨b, 0, none⟩))) :
    Calls Try.prog 51 #[.pointer (some ⟨b, 0, none⟩)] w fun e w' => e = .returned (.tuple #[]) ∧ w' = w := by
  obtain ⟨j, hj, _⟩ := Option.map_eq_some_iff.1 hb_size
  go_enter Try.func51, Try.ntmps51
  go_wp2
  rw [Lib.run_neq_ptr_same w _ Try.underlying57 hj]
  go_wp2
  go_end0
  exact ⟨rfl, rfl⟩
set_option maxHeartbeats 1000000 in
set_option maxRecDepth 100000 in
theorem hb_copyCheck_fresh (b : Nat) (w : World) (h0 : w.cell? ⟨b, 0, none⟩ = some (.pointer none)) (hsh : w.shape? b = some (60, 2)) (hfz : w.frozen? ⟨b, 0, none⟩ = false) :
    Calls Try.prog 51 #[.pointer (some ⟨b, 0, none⟩)] w fun e w' => e = .returned (.tuple #[]) ∧ w' = w.setCell ⟨b, 0, none⟩ (.pointer (some ⟨b, 0, none⟩)) := by
  obtain ⟨j, hj, hjs⟩ := Option.map_eq_some_iff.1 hb_size
  go_enter Try.func51, Try.ntmps51
  go_wp2
  rw [Lib.run_to_unsafe w ⟨b, 0, none⟩ Try.underlying57 Try.underlying84 hj (by rw [hjs]; decide) hsh (Nat.zero_lt_succ 1)]
  simp only [Result.andThen]
  rw [Oper.upon_value]
  go_wp2
  rw [run_callFunc_extern Try.func62 (by kernel_rfl) (by kernel_rfl) (by kernel_rfl) (e := Extern.AbiNoEscape.same) (by kernel_rfl)]
  rw [Lib.run_noEscape]
  simp only [Result.andThen]
  rw [Oper.upon_value]
  go_wp2
  rw [Lib.run_from_unsafe w ⟨b, 0, none⟩ Try.underlying84 Try.underlying57 hj hsh hb_lies]
  simp only [Result.andThen]
  rw [Oper.upon_value]
  go_wp2
  go_end0
  exact ⟨rfl, rfl⟩
theorem hb_copyCheck (B b : Nat) (bs : List Value) (w : World) (h : Lib.IsBuilder 60 5 B b bs w) :
    Calls Try.prog 51 #[.pointer (some ⟨b, 0, none⟩)] w fun e w' => e = .returned (.tuple #[]) ∧ (Lib.BuilderAt 60 5 B b (.pointer (some ⟨b, 0, none⟩)) bs w' ∧ Below B w w') := by
  rcases h with h | h
  · refine (hb_copyCheck_fresh b w h.cell0 h.shape h.frozen0).mono ?_
    rintro e w' ⟨rfl, rfl⟩
    exact ⟨rfl, h.used _, (Below.refl B w).setCell (p := ⟨b, 0, none⟩) h.1 _⟩
  · refine (hb_copyCheck_used b w h.cell0).mono ?_
    rintro e w' ⟨rfl, rfl⟩
    exact ⟨rfl, h, Below.refl B _⟩
/-! ### strings_Builder_WriteByte -/
set_option maxHeartbeats 2000000 in
set_option maxRecDepth 100000 in
theorem hb_writeByte (B b : Nat) (bs : List Value) (c : Int) (w : World) (h : Lib.IsBuilder 60 5 B b bs w) (hlen : bs.length + 1 ≤ 140737488355328) (hBw : B ≤ w.heap.size) :
    Calls Try.prog 31 #[.pointer (some ⟨b, 0, none⟩), .int .u8 c] w fun e w' => e = .returned .nilIface ∧ (Lib.BuilderAt 60 5 B b (.pointer (some ⟨b, 0, none⟩)) (bs ++ [.int .u8 c]) w' ∧ Below B w w') := by
  obtain ⟨i0, hi, hz0, hz1, hz2⟩ := info_parts hb_byte
  go_enter Try.func31, Try.ntmps31
  go_wp2_with (go_at_call 51; refine (hb_copyCheck B b bs _ h).mono ?_)
  rintro e w1 ⟨rfl, h1, hb1⟩
  obtain ⟨hB, v, hbk, hown, hne⟩ := h1
  have c0 : w1.cell? ⟨b, 0, none⟩ = some (.pointer (some ⟨b, 0, none⟩)) := by rw [Lib.cell_of_heap hbk]; rfl
  have c1 : w1.cell? ⟨b, 1, none⟩ = some v := by rw [Lib.cell_of_heap hbk]; rfl
  go_wp2_with (at_builtin; refine wpList_append_own _ rfl _ _ 58 rfl B 5 i0 (.int .u8 0) 1 1 Try.underlying58 hi hz0 hz1 hz2 rfl (by decide) _ _ _ rfl (hown.alloc _) ⟨w1.heap.size, 0, none⟩ 1 1 [.int .u8 c] rfl rfl ?c1 ?c2 ?c3 ?c4 ?c5 ?_)
  case c1 =>
    intro j u hj
    match j, hj with
    | 0, hj => simp at hj; subst hj; simp [Addr.add]
  case c2 => intro u hu; simp at hu; subst hu; rfl
  case c3 => unfold maxLen; omega
  case c4 => omega
  case c5 => have := hb1.size; simp; omega
  intro v' w2 hown' hgrow _
  have hlt : b < w1.heap.size := by
    rcases Nat.lt_or_ge b w1.heap.size with h' | h'
    · exact h'
    · simp [Array.getElem?_eq_none h'] at hbk
  have hb2 : w2.heap[b]? = some (.cells #[.pointer (some ⟨b, 0, none⟩), v] 60 (0, 0)) := by
    rw [hgrow.block b (by simp; omega) (fun e => hne e.symm), Lib.alloc_old w1 _ b hlt]
    exact hbk
  have d0 : w2.cell? ⟨b, 0, none⟩ = some (.pointer (some ⟨b, 0, none⟩)) := by rw [Lib.cell_of_heap hb2]; rfl
  have d1 : w2.cell? ⟨b, 1, none⟩ = some v := by rw [Lib.cell_of_heap hb2]; rfl
  have f1 : w2.frozen? ⟨b, 1, none⟩ = false := Lib.frozen_of_heap hb2 1
  obtain ⟨g, cap, rfl⟩ : ∃ g cap, v' = .slice (some ⟨g, 0, none⟩) (bs.length + 1) cap := by
    rcases hown'.2 with ⟨_, h0⟩ | ⟨g, cap, cur, hv, _⟩
    · omega
    · exact ⟨g, cap, hv⟩
  go_wp2
  go_ret
  refine ⟨rfl, ?_, ?_⟩
  · exact Lib.BuilderAt.put (T := 60) (e := 5) hB hb2 (bs' := bs ++ [.int .u8 c]) (by simpa using hown') (by decide)
  · exact ((hb1.alloc (by have := hb1.size; omega) _).grown hgrow (by have := hb1.size; simp; omega) (fun k hk => (hown.lt k hk).1)).setCell (p := ⟨b, 1, none⟩) hB _
/-! ### json_String -/
def strGo : List UInt8 → Nat → List UInt8 → List UInt8 × Nat × Bool
  | [], _, _ => ([], 0, false)
  | [c], i, acc => if c.toNat = 34 then (acc, i + 1, true) else if c.toNat < 32 ∨ 126 < c.toNat then ([], 0, false) else ([], 0, false)
  | c :: d :: t, i, acc =>
    if c.toNat = 34 then (acc, i + 1, true)
    else if c.toNat < 32 ∨ 126 < c.toNat then ([], 0, false)
    else if c.toNat = 92 then (if d.toNat = 34 ∨ d.toNat = 92 then strGo t (i + 2) (acc ++ [d]) else ([], 0, false))
    else strGo (d :: t) (i + 1) (acc ++ [c])
def json_String.f (a0 : ByteArray) : Option (ByteArray × Int × Bool) :=
  if a0.size ≤ 140737488355328 then (let r := strGo (a0.data.toList.drop 1) 1 []; some (⟨r.1.toArray⟩, (r.2.1 : Int), r.2.2)) else none
theorem drop_at (s : ByteArray) (k : Nat) (h : k < s.size) : s.data.toList.drop k = s[k] :: s.data.toList.drop (k + 1) := by
  rw [List.drop_eq_getElem_cons (by simpa using h)]; rfl
theorem drop_end (s : ByteArray) (k : Nat) (h : s.size ≤ k) : s.data.toList.drop k = [] := List.drop_of_length_le (by rw [Array.length_toList]; exact h)
theorem strGo_q {c : UInt8} {t acc : List UInt8} {i : Nat} (h : c.toNat = 34) : strGo (c :: t) i acc = (acc, i + 1, true) := by
  cases t <;> simp [strGo, h]
theorem strGo_bad {c : UInt8} {t acc : List UInt8} {i : Nat} (h : c.toNat < 32 ∨ 126 < c.toNat) : strGo (c :: t) i acc = ([], 0, false) := by
  have h1 : ¬ c.toNat = 34 := by omega
  cases t <;> simp only [strGo, if_neg h1, if_pos h]
theorem strGo_plain {c : UInt8} {t acc : List UInt8} {i : Nat} (h1 : ¬ c.toNat = 34) (h2 : ¬ (c.toNat < 32 ∨ 126 < c.toNat)) (h3 : ¬ c.toNat = 92) : strGo (c :: t) i acc = strGo t (i + 1) (acc ++ [c]) := by
  cases t <;> simp only [strGo, if_neg h1, if_neg h2, if_neg h3]
theorem strGo_esc {c d : UInt8} {t acc : List UInt8} {i : Nat} (h : c.toNat = 92) (h3 : d.toNat = 34 ∨ d.toNat = 92) : strGo (c :: d :: t) i acc = strGo t (i + 2) (acc ++ [d]) := by
  have h1 : ¬ c.toNat = 34 := by omega
  have h2 : ¬ (c.toNat < 32 ∨ 126 < c.toNat) := by omega
  simp only [strGo, if_neg h1, if_neg h2, if_pos h, if_pos h3]
theorem strGo_esc_no {c d : UInt8} {t acc : List UInt8} {i : Nat} (h : c.toNat = 92) (h3 : ¬ (d.toNat = 34 ∨ d.toNat = 92)) : strGo (c :: d :: t) i acc = ([], 0, false) := by
  have h1 : ¬ c.toNat = 34 := by omega
  have h2 : ¬ (c.toNat < 32 ∨ 126 < c.toNat) := by omega
  simp only [strGo, if_neg h1, if_neg h2, if_pos h, if_neg h3]
theorem strGo_esc_end {c : UInt8} {acc : List UInt8} {i : Nat} (h : c.toNat = 92) : strGo [c] i acc = ([], 0, false) := by
  have h1 : ¬ c.toNat = 34 := by omega
  simp only [strGo, if_neg h1, ite_self]
theorem byteCells_snoc' (l : List UInt8) (c : UInt8) : Lib.byteCells l ++ [.int .u8 (c.toNat : Int)] = Lib.byteCells (l ++ [c]) := by simp [Lib.byteCells]
theorem ret3 {a a' : ByteArray} {b b' : Int} {c c' : Bool} (h : (a, b, c) = (a', b', c')) : Ending.returned (.tuple #[.string a, .int .i64 b, .bool c]) = .returned (.tuple #[.string a', .int .i64 b', .bool c']) := by
  injection h with h1 h2; injection h2 with h2 h3; rw [h1, h2, h3]
set_option maxHeartbeats 4000000 in
set_option maxRecDepth 100000 in
theorem json_String.calls (a0 : ByteArray) (r1 : ByteArray) (r2 : Int) (r3 : Bool) (w : World) (h : json_String.f a0 = some (r1, r2, r3)) :
    Calls Try.prog 18 #[.string a0] w fun e w' => e = .returned (.tuple #[.string r1, .int .i64 r2, .bool r3]) ∧ Below w.heap.size w w' := by
  unfold json_String.f at h
  split at h
  case isFalse => cases h
  case isTrue hsz =>
  have HR := Lib.hid (Option.some.inj h)
  clear h
  have hb0 := Lib.fresh_isBuilder 60 5 w
  have HB0 := Lib.hid hb0
  clear hb0
  have hBel := Lib.hid ((Below.refl w.heap.size w).alloc (Nat.le_refl _) (.cells #[.pointer none, .slice none 0 0] 60))
  go_enter Try.func18, Try.ntmps18
  go_wp2_with (fail)
  obtain ⟨g, hg⟩ : ∃ g, g = w.heap.size := ⟨_, rfl⟩
  go_loopw [6, 7] (fun i _ wr => ∃ (k : Nat) (acc : List UInt8), 1 ≤ k ∧ k ≤ a0.size + 1 ∧ acc.length < k ∧ i = .int .i64 k ∧ Lib.IsBuilder 60 5 w.heap.size w.heap.size (Lib.byteCells acc) wr ∧ Below w.heap.size w wr ∧ Hid (strGo (a0.data.toList.drop k) k acc = strGo (a0.data.toList.drop 1) 1 [])) (fun i _ _ => a0.size + 1 - (intOf i).toNat)
  case atStart => exact ⟨1, [], by omega, by omega, by simp, rfl, HB0.out, hBel.out, Lib.hid rfl⟩
  case round =>
    obtain ⟨k, acc, hk1, hk2, hacc, rfl, hB1, hb2, HI⟩ := hrel
    have hz : w.heap.size ≤ wr.heap.size := hb2.size
    by_cases hlt : k < a0.size
    · have HD := Lib.hid (drop_at a0 k hlt)
      have Out := fun (p1 : ByteArray) (p2 : Int) (p3 : Bool) (x : List UInt8 × Nat × Bool) (hx : strGo (a0.data.toList.drop k) k acc = x) (e1 : p1 = ⟨x.1.toArray⟩) (e2 : p2 = (x.2.1 : Int)) (e3 : p3 = x.2.2) =>
        ret3 (show (p1, p2, p3) = (r1, r2, r3) by rw [← HR.out, ← HI.out, hx, e1, e2, e3])
      have Hout := Lib.hid Out
      clear Out
      by_cases c34 : a0[k].toNat = 34
      · have t1 : (((a0[k]).toNat : Int) == 34) = true := beq_iff_eq.2 (by omega)
        have HX := Lib.hid (show strGo (a0.data.toList.drop k) k acc = (acc, k + 1, true) by rw [HD.out]; exact strGo_q c34)
        have HS := Lib.hid (Try.Builder_String_any _ _ acc wr hB1 hz)
        clear c34
        go_wp2_with (fail)
        refine HS.out.mono ?_
        rintro e w2 ⟨rfl, hbb⟩
        go_wp2
        go_ret3
        exact ⟨Hout.out _ _ _ _ HX.out rfl rfl rfl, hb2.trans hbb⟩
      · have t1 : (((a0[k]).toNat : Int) == 34) = false := beq_eq_false_iff_ne.2 (by omega)
        by_cases cb : a0[k].toNat < 32 ∨ 126 < a0[k].toNat
        · have HX := Lib.hid (show strGo (a0.data.toList.drop k) k acc = ([], 0, false) by rw [HD.out]; exact strGo_bad cb)
          clear c34
          by_cases c32 : a0[k].toNat < 32
          · have t2 : decide (((a0[k]).toNat : Int) < 32) = true := decide_eq_true (by omega)
            clear cb c32
            go_wp2
            go_ret3
            exact ⟨Hout.out _ _ _ _ HX.out rfl rfl rfl, hb2⟩
          · have t2 : decide (((a0[k]).toNat : Int) < 32) = false := decide_eq_false (by omega)
            have t3 : decide (126 < ((a0[k]).toNat : Int)) = true := decide_eq_true (by omega)
            clear cb c32
            go_wp2
            go_ret3
            exact ⟨Hout.out _ _ _ _ HX.out rfl rfl rfl, hb2⟩
        · have t2 : decide (((a0[k]).toNat : Int) < 32) = false := decide_eq_false (by omega)
          have t3 : decide (126 < ((a0[k]).toNat : Int)) = false := decide_eq_false (by omega)
          by_cases c92 : a0[k].toNat = 92
          · have t4 : (((a0[k]).toNat : Int) == 92) = true := beq_iff_eq.2 (by omega)
            by_cases hl2 : k + 1 < a0.size
            · have HD2 := Lib.hid (drop_at a0 (k + 1) hl2)
              by_cases cd : a0[k + 1].toNat = 34 ∨ a0[k + 1].toNat = 92
              · have HX := Lib.hid (show strGo (a0.data.toList.drop k) k acc = strGo (a0.data.toList.drop (k + 2)) (k + 2) (acc ++ [a0[k + 1]]) by rw [HD.out, HD2.out]; exact strGo_esc c92 cd)
                have HW := Lib.hid (hb_writeByte _ _ (Lib.byteCells acc) (a0[k + 1].toNat : Int) wr hB1 (by rw [Lib.byteCells_length]; omega) hz)
                clear c34 c92 cb
                by_cases cd34 : a0[k + 1].toNat = 34
                · have t5 : (((a0[k + 1]).toNat : Int) != 34) = false := by simp [cd34]
                  clear cd cd34
                  go_wp2_with (fail)
                  refine HW.out.mono ?_
                  rintro e w2 ⟨rfl, hB2, hbb⟩
                  rw [byteCells_snoc'] at hB2
                  go_wp2
                  go_roundw
                  case rel => exact ⟨k + 2, _, by omega, by omega, by simp only [List.length_append, List.length_singleton]; omega, by go_num, .inr hB2, hb2.trans hbb, Lib.hid (HX.out.symm.trans HI.out)⟩
                  case measure => simp [intOf]; omega
                · have t5 : (((a0[k + 1]).toNat : Int) != 34) = true := by rw [bne_iff_ne]; omega
                  have t6 : (((a0[k + 1]).toNat : Int) != 92) = false := by simp [show a0[k + 1].toNat = 92 by omega]
                  clear cd cd34
                  go_wp2_with (fail)
                  refine HW.out.mono ?_
                  rintro e w2 ⟨rfl, hB2, hbb⟩
                  rw [byteCells_snoc'] at hB2
                  go_wp2
                  go_roundw
                  case rel => exact ⟨k + 2, _, by omega, by omega, by simp only [List.length_append, List.length_singleton]; omega, by go_num, .inr hB2, hb2.trans hbb, Lib.hid (HX.out.symm.trans HI.out)⟩
                  case measure => simp [intOf]; omega
              · have HX := Lib.hid (show strGo (a0.data.toList.drop k) k acc = ([], 0, false) by rw [HD.out, HD2.out]; exact strGo_esc_no c92 cd)
                have t5 : (((a0[k + 1]).toNat : Int) != 34) = true := by rw [bne_iff_ne]; omega
                have t6 : (((a0[k + 1]).toNat : Int) != 92) = true := by rw [bne_iff_ne]; omega
                clear c34 c92 cb cd
                go_wp2
                go_ret3
                exact ⟨Hout.out _ _ _ _ HX.out rfl rfl rfl, hb2⟩
            · have HX := Lib.hid (show strGo (a0.data.toList.drop k) k acc = ([], 0, false) by rw [HD.out, drop_end a0 (k + 1) (by omega)]; exact strGo_esc_end c92)
              clear c34 c92 cb
              go_wp2
              go_ret3
              exact ⟨Hout.out _ _ _ _ HX.out rfl rfl rfl, hb2⟩
          · have t4 : (((a0[k]).toNat : Int) == 92) = false := beq_eq_false_iff_ne.2 (by omega)
            have HX := Lib.hid (show strGo (a0.data.toList.drop k) k acc = strGo (a0.data.toList.drop (k + 1)) (k + 1) (acc ++ [a0[k]]) by rw [HD.out]; exact strGo_plain c34 cb c92)
            have HW := Lib.hid (hb_writeByte _ _ (Lib.byteCells acc) (a0[k].toNat : Int) wr hB1 (by rw [Lib.byteCells_length]; omega) hz)
            clear c34 c92 cb
            go_wp2_with (fail)
            refine HW.out.mono ?_
            rintro e w2 ⟨rfl, hB2, hbb⟩
            rw [byteCells_snoc'] at hB2
            go_wp2
            go_roundw
            case rel => exact ⟨k + 1, _, by omega, by omega, by simp only [List.length_append, List.length_singleton]; omega, by go_num, .inr hB2, hb2.trans hbb, Lib.hid (HX.out.symm.trans HI.out)⟩
            case measure => simp [intOf]; omega
    · have HX := Lib.hid (show strGo (a0.data.toList.drop k) k acc = ([], 0, false) by rw [drop_end a0 k (by omega)]; rfl)
      have Hout := Lib.hid (ret3 (show ((⟨#[]⟩ : ByteArray), (0 : Int), false) = (r1, r2, r3) by rw [← HR.out, ← HI.out, HX.out]; rfl))
      go_wp2
      go_ret3
      exact ⟨Hout.out, hb2⟩
end Go.Proofs.Ytcombonfmhgnjaa.RxH

/- Texts that are plain, as the program looks at them. -/
set_option linter.unusedVariables false
set_option linter.unusedSimpArgs false
namespace Go.Proofs.Ytcombonfmhgnjaa.Rx
open Go.Rx Go.Proofs Go.Proofs.Ytcombonfmhgnjaa.RxH

theorem plain_from (s : ByteArray) : ∀ n i, i + n = s.size → decide (0 ≤ Lib.idxFuncFrom badR true s n i) = !((s.data.toList.drop i).all okB)
  | 0, i, h => by rw [plain_end (by omega)]; rfl
  | n + 1, i, h => by
    have hi : i < s.size := by omega
    unfold Lib.idxFuncFrom
    rw [if_pos hi, plain_go hi]
    by_cases ha : (s[i]'hi).toNat < 128
    · rw [decode_ascii s i hi ha]
      have e : badR (s[i]'hi).toNat = !okB (s[i]'hi) := by
        unfold badR okB
        rw [Bool.not_not]
        congr 1
        · exact decide_eq_decide.2 (by omega)
        · exact decide_eq_decide.2 (by omega)
      cases ok : okB (s[i]'hi) with
      | true =>
        rw [if_neg (by rw [e, ok]; decide), Bool.true_and]
        exact plain_from s n (i + 1) (by omega)
      | false =>
        rw [if_pos (by rw [e, ok]; rfl)]
        exact decide_eq_true (by omega)
    · have hd := (decode_high s i hi (by omega)).1
      rw [if_pos (show badR (Utf8.decode s i).1 = true by unfold badR; rw [decide_eq_true (show 126 < (Utf8.decode s i).1 by omega), Bool.or_true])]
      have e : okB (s[i]'hi) = false := by unfold okB; rw [decide_eq_true (show 126 < ((s[i]'hi).toNat : Int) by omega), Bool.or_true]; rfl
      rw [e, decide_eq_true (by omega)]
      rfl
theorem plain_con (s : ByteArray) (n : Int) : Con P 27 [Sx s, I n] (Bl (decide ((s.size : Int) ≤ n) && plainB s)) [] := by
  refine Con.plain (vs := [.string s, .int .i64 n]) (by kernel_rfl) rfl fun w => json_Plain.calls s n _ w ?_
  unfold json_Plain.f Lib.idxFunc
  rw [plain_from s s.size 0 (by omega), Bool.not_not]
  rfl
theorem short_con (s : ByteArray) : Con P 15 [Sx s] (Bl (shortB s)) [] := by
  refine Con.of T_ok Try.func15 rfl (by kernel_rfl) (by kernel_rfl) (aw_of T_ok (by kernel_rfl) ?_)
  conv => whnf
  refine callS (plain_con s 40) rfl ?_
  conv => whnf
  refine finB ⟨?_⟩
  rw [shortB, Bool.and_comm]
  congr 1
  exact decide_eq_decide.2 (by omega)
end Go.Proofs.Ytcombonfmhgnjaa.Rx

/- Names. -/
set_option linter.unusedVariables false
set_option linter.unusedSimpArgs false
namespace Go.Rx
def wordN (n : Int) : Bool := letN n || digN n
def runB (p : UInt8 → Bool) (s : ByteArray) : Nat := (s.data.toList.takeWhile p).length
theorem run_go {p : UInt8 → Bool} {s : ByteArray} {k : Nat} (h : k < s.size) (hp : p s[k] = true) : k + ((s.data.toList.drop k).takeWhile p).length = (k + 1) + ((s.data.toList.drop (k + 1)).takeWhile p).length := by
  rw [List.drop_eq_getElem_cons (by simpa using h), List.takeWhile_cons_of_pos (show p (s.data.toList[k]'(by simpa using h)) = true from hp), List.length_cons]; omega
theorem run_stop {p : UInt8 → Bool} {s : ByteArray} {k : Nat} (h : k < s.size) (hp : p s[k] = false) : k + ((s.data.toList.drop k).takeWhile p).length = k := by
  rw [List.drop_eq_getElem_cons (by simpa using h), List.takeWhile_cons_of_neg (by show ¬ p s[k] = true; rw [hp]; decide)]; rfl
theorem run_end {p : UInt8 → Bool} {s : ByteArray} {k : Nat} (h : s.size ≤ k) : k + ((s.data.toList.drop k).takeWhile p).length = k := by
  rw [List.drop_of_length_le (by simpa using h)]; rfl
def wordC (c : UInt8) : Bool := wordN c.toNat
def numV (n : Int) (c : UInt8) : Int := if n ≤ 1073741824 then IntKind.i64.wrap (IntKind.i64.wrap (n * 10) + IntKind.i64.wrap (IntKind.u8.wrap ((c.toNat : Int) - 48))) else n
def numGo : List UInt8 → Int → Nat → Int × Nat
  | [], n, k => (n, k)
  | c :: l, n, k => if digN c.toNat then numGo l (numV n c) (k + 1) else (n, k)
theorem num_go {s : ByteArray} {k : Nat} {n : Int} (h : k < s.size) : numGo (s.data.toList.drop k) n k = if digN s[k].toNat then numGo (s.data.toList.drop (k + 1)) (numV n s[k]) (k + 1) else (n, k) := by
  rw [List.drop_eq_getElem_cons (by simpa using h), numGo]; rfl
theorem num_end {s : ByteArray} {k : Nat} {n : Int} (h : s.size ≤ k) : numGo (s.data.toList.drop k) n k = (n, k) := by
  rw [List.drop_of_length_le (by simpa using h)]; rfl
abbrev num3 (p : Int × Int × Bool) : AV := .tup [.lf (.pv (pI p.1)), .lf (.pv (pI p.2.1)), .lf (.pv (pB p.2.2))]
/-- What is told of a number whose digits are read. -/
def numFin (s : ByteArray) (neg : Bool) (p : Int × Nat) : Int × Int × Bool :=
  if (if neg then IntKind.i64.wrap ((p.2 : Int) - 1) else p.2) = 0 then (0, p.2, false) else if 1073741824 < p.1 then (0, p.2, false)
  else if ((s[if neg then 1 else 0]?).getD 0).toNat = 48 ∧ (1 < (if neg then IntKind.i64.wrap ((p.2 : Int) - 1) else p.2) ∨ neg = true) then (0, p.2, false)
  else (IntKind.i64.wrap ((if neg then -1 else 1) * p.1), p.2, true)
def numR (s : ByteArray) : Int × Int × Bool :=
  let neg := Lib.hasPrefix s.data.toList [45]
  numFin s neg (numGo (s.data.toList.drop (if neg then 1 else 0)) 0 (if neg then 1 else 0))
end Go.Rx
namespace Go.Proofs.Ytcombonfmhgnjaa.Rx
open Go.Rx Go.Proofs Go.Proofs.Ytcombonfmhgnjaa.RxH

theorem size1_con (n : Int) : Con P 36 [U8 n] (Bl (wordN n)) [] := by
  refine Con.of T_ok Try.func36 rfl (by kernel_rfl) (by kernel_rfl) (aw_of T_ok (by kernel_rfl) ?_)
  conv => whnf
  refine callS (letter_con n) rfl ?_
  conv => whnf
  split <;> rename_i h <;> conv => whnf
  · refine finB ⟨?_⟩; rw [wordN, h]; rfl
  · refine callS (digit_con n) rfl ?_
    conv => whnf
    refine finB ⟨?_⟩; rw [wordN, h]; rfl
theorem run_con (s : ByteArray) (hs : okS s) : Con P 32 [Sx s, .lf (.fn 36 [])] (I (runB wordC s)) [] := by
  simp only [okS] at hs
  refine Con.of T_ok Try.func32 rfl (by kernel_rfl) (by kernel_rfl) (aw_of T_ok (by kernel_rfl) ?_)
  conv => whnf
  refine AW.loop (fun k : Nat => k ≤ s.size ∧ k + ((s.data.toList.drop k).takeWhile wordC).length = runB wordC s) (fun k => [(0, Sx s), (1, .lf (.fn 36 [])), (5, Go.Rx.I k)]) (fun _ => []) (fun k => s.size - k) [] ?_ ?_
  · exact ⟨0, ⟨Nat.zero_le _, by rw [runB, List.drop_zero, Nat.zero_add]⟩, ⟨rfl, rfl, rfl, trivial⟩, ⟨[], rfl⟩, rfl, rfl⟩
  · rintro k ⟨hk, hpre⟩
    refine aw_of T_ok (by kernel_rfl) ?_
    conv => whnf
    split <;> rename_i hlt <;> conv => whnf
    · have hks : k < s.size := by simpa using hlt
      refine ⟨by omega, s[k], atB hks, ?_⟩
      conv => whnf
      refine callS (size1_con s[k].toNat) rfl ?_
      conv => whnf
      split <;> rename_i he <;> conv => whnf
      · rw [run_go hks he] at hpre
        exact ⟨k + 1, ⟨⟨by omega, hpre⟩, by omega⟩, ⟨rfl, rfl, congrArg Go.Rx.I (wrapI (by omega)), trivial⟩, ⟨[], rfl⟩, rfl, rfl⟩
      · rw [run_stop hks he] at hpre
        exact finI ⟨by rw [hpre]⟩
    · have hks : s.size ≤ k := by simpa using hlt
      rw [run_end hks] at hpre
      exact finI ⟨by rw [hpre]⟩
theorem hasPrefix_con (a b : ByteArray) : Con P 39 [Sx a, Sx b] (Bl (Lib.hasPrefix a.data.toList b.data.toList)) [] :=
  Con.plain (vs := [.string a, .string b]) (by kernel_rfl) rfl fun w => (Try.strings_HasPrefix a b w).mono (by rintro e w' ⟨rfl, rfl⟩; exact ⟨rfl, RowKit.Below.refl _ _⟩)
theorem indexByte_con (a : ByteArray) (c : Int) : Con P 40 [Sx a, U8 c] (I (Lib.indexByte a.data.toList c.toNat.toUInt8)) [] :=
  Con.plain (vs := [.string a, .int .u8 c]) (by kernel_rfl) rfl fun w => (Try.strings_IndexByte a c w).mono (by rintro e w' ⟨rfl, rfl⟩; exact ⟨rfl, RowKit.Below.refl _ _⟩)
theorem jstring_con (s : ByteArray) (h : okS s) : ∃ (t : ByteArray) (n : Int) (ok : Bool), Con P 18 [Sx s] (.tup [.lf (.pv (pS t)), .lf (.pv (pI n)), .lf (.pv (pB ok))]) [] := by
  simp only [okS] at h
  have hf : json_String.f s = some (⟨(strGo (s.data.toList.drop 1) 1 []).1.toArray⟩, ((strGo (s.data.toList.drop 1) 1 []).2.1 : Int), (strGo (s.data.toList.drop 1) 1 []).2.2) := by
    unfold json_String.f
    rw [if_pos (by omega)]
  generalize json_String.f s = o at hf
  exact ⟨_, _, _, Con.plains (vs := [.string s]) (rs := [.string ⟨(strGo (s.data.toList.drop 1) 1 []).1.toArray⟩, .int .i64 ((strGo (s.data.toList.drop 1) 1 []).2.1 : Int), .bool (strGo (s.data.toList.drop 1) 1 []).2.2]) (by kernel_rfl) (by simp [Value.oneCell']) fun w => json_String.calls s _ _ _ w (by
    unfold json_String.f
    rw [if_pos (by omega)])⟩
theorem one_byte {s : ByteArray} (h : Lib.hasPrefix s.data.toList [45] = true) : 1 ≤ s.size := by
  unfold Lib.hasPrefix at h
  have h1 : s.data.toList.length = s.size := by simp
  generalize s.data.toList = l at h h1
  cases l with
  | nil => cases h
  | cons c l => simp at h1; omega
theorem fin3 {a b : Int} {c : Bool} {q : Int × Int × Bool} (h : Fin (a, b, c) q) : ∃ zs, Fa WkA [Go.Rx.I a, Go.Rx.I b, Bl c] zs ∧ pack zs = some (num3 q) := ⟨_, wk_refl _, by rw [← h.out]; rfl⟩
theorem number_con (s : ByteArray) (hs : okS s) : Con P 38 [Sx s] (num3 (numR s)) [] := by
  simp only [okS] at hs
  refine Con.of T_ok Try.func38 rfl (by kernel_rfl) (by kernel_rfl) (aw_ofC T_ok 0 (by kernel_rfl) ?_)
  conv => whnf
  refine AW.cut (fun q : Bool × Int × Nat => q.1 = Lib.hasPrefix s.data.toList [45] ∧ q.2.2 ≤ s.size ∧ (q.1 = true → 1 ≤ q.2.2) ∧ numR s = numFin s q.1 q.2) (fun q => [(0, Sx s), (2, Go.Rx.I q.2.1), (3, Go.Rx.I q.2.2), (5, Go.Rx.I (if q.1 then -1 else 1))]) (fun _ => []) [] (AW.block (aw_ofC T_ok 2 (by kernel_rfl) ?_)) ?_
  · conv => whnf
    refine AW.cut (fun neg : Bool => neg = Lib.hasPrefix s.data.toList [45]) (fun neg => [(0, Sx s), (2, Go.Rx.I 0), (3, Go.Rx.I (if neg then 1 else 0)), (5, Go.Rx.I (if neg then -1 else 1))]) (fun _ => []) [] (aw_of T_ok (by kernel_rfl) ?_) ?_
    · conv => whnf
      refine callS (hasPrefix_con s ⟨#[45]⟩) rfl ?_
      conv => whnf
      split <;> rename_i h <;> conv => whnf
      · exact ⟨true, h.symm, ⟨rfl, rfl, rfl, rfl, trivial⟩, ⟨[], rfl⟩, rfl, rfl⟩
      · exact ⟨false, h.symm, ⟨rfl, rfl, rfl, rfl, trivial⟩, ⟨[], rfl⟩, rfl, rfl⟩
    rintro neg hneg
    have hR : numR s = numFin s neg (numGo (s.data.toList.drop (if neg then 1 else 0)) 0 (if neg then 1 else 0)) := by rw [hneg]; rfl
    refine aw_of T_ok (by kernel_rfl) ?_
    conv => whnf
    refine AW.loop (fun p : Int × Nat => p.2 ≤ s.size ∧ (neg = true → 1 ≤ p.2) ∧ numGo (s.data.toList.drop p.2) p.1 p.2 = numGo (s.data.toList.drop (if neg then 1 else 0)) 0 (if neg then 1 else 0)) (fun p => [(0, Sx s), (2, Go.Rx.I p.1), (3, Go.Rx.I p.2), (5, Go.Rx.I (if neg then -1 else 1))]) (fun _ => []) (fun p => s.size - p.2) [] ?_ ?_
    · cases neg with
      | true => exact ⟨(0, 1), ⟨one_byte hneg.symm, fun _ => Nat.le_refl _, rfl⟩, ⟨rfl, rfl, rfl, rfl, trivial⟩, ⟨[], rfl⟩, rfl, rfl⟩
      | false => exact ⟨(0, 0), ⟨Nat.zero_le _, (by intro h; cases h), rfl⟩, ⟨rfl, rfl, rfl, rfl, trivial⟩, ⟨[], rfl⟩, rfl, rfl⟩
    · rintro ⟨n, k⟩ ⟨hk, hn1, hpre⟩
      simp only at hk hn1 hpre
      refine aw_of T_ok (by kernel_rfl) ?_
      conv => whnf
      split <;> rename_i hlt <;> conv => whnf
      · have hks : k < s.size := by simpa using hlt
        refine ⟨by omega, s[k], atB hks, ?_⟩
        conv => whnf
        refine callS (digit1_con s[k].toNat) rfl ?_
        conv => whnf
        rw [num_go hks] at hpre
        split <;> rename_i he <;> conv => whnf
        · rw [if_pos he] at hpre
          split <;> rename_i h1 <;> conv => whnf
          · refine ⟨by omega, s[k], atB hks, ?_⟩
            conv => whnf
            refine ⟨(numV n s[k], k + 1), ⟨⟨by show k + 1 ≤ _; omega, fun _ => by show 1 ≤ k + 1; omega, hpre⟩, by show _ - (k + 1) < _; omega⟩, ⟨rfl, ?_, congrArg Go.Rx.I (wrapI (by omega)), rfl, trivial⟩, ⟨[], rfl⟩, rfl, rfl⟩
            exact congrArg Go.Rx.I (by rw [numV, if_pos (of_decide_eq_true h1)])
          · refine ⟨(numV n s[k], k + 1), ⟨⟨by show k + 1 ≤ _; omega, fun _ => by show 1 ≤ k + 1; omega, hpre⟩, by show _ - (k + 1) < _; omega⟩, ⟨rfl, ?_, congrArg Go.Rx.I (wrapI (by omega)), rfl, trivial⟩, ⟨[], rfl⟩, rfl, rfl⟩
            exact congrArg Go.Rx.I (by rw [numV, if_neg (of_decide_eq_false h1)])
        · rw [if_neg (by rw [he]; decide)] at hpre
          exact ⟨(neg, n, k), ⟨hneg, hk, hn1, by rw [hR, ← hpre]⟩, ⟨rfl, rfl, rfl, rfl, trivial⟩, ⟨[], rfl⟩, rfl, rfl⟩
      · have hks : s.size ≤ k := by simpa using hlt
        rw [num_end hks] at hpre
        exact ⟨(neg, n, k), ⟨hneg, hk, hn1, by rw [hR, ← hpre]⟩, ⟨rfl, rfl, rfl, rfl, trivial⟩, ⟨[], rfl⟩, rfl, rfl⟩
  · rintro ⟨neg, n, k⟩ ⟨hneg, hk, hn1, hR⟩
    simp only at hk hn1 hneg hR
    rw [hR]
    refine aw_of T_ok (by kernel_rfl) ?_
    cases neg with
    | false =>
      conv => whnf
      have e : IntKind.i64.wrap ((k : Int) - k) = 0 := by rw [Int.sub_self]; rfl
      split <;> rename_i h1 <;> conv => whnf
      · refine fin3 ⟨?_⟩
        have h1' : (k : Int) = 0 := by simpa using h1
        simp [numFin, h1']
      have h1' : ¬ (k : Int) = 0 := by simpa using h1
      split <;> rename_i h2 <;> conv => whnf
      · refine fin3 ⟨?_⟩
        have h2' := of_decide_eq_true h2
        simp [numFin, h1', h2']
      have h2' := of_decide_eq_false h2
      have h0 : 0 < s.size := by omega
      refine ⟨by show 0 ≤ IntKind.i64.wrap ((k : Int) - k); rw [e]; decide, s[0], by show s[(IntKind.i64.wrap ((k : Int) - k)).toNat]? = _; rw [e]; exact atB h0, ?_⟩
      conv => whnf
      split <;> rename_i h3 <;> conv => whnf
      · have h3' : s[0].toNat = 48 := by have := eq_of_beq h3; omega
        split <;> rename_i h4 <;> conv => whnf
        · refine fin3 ⟨?_⟩
          have h4' : 1 < (k : Int) := of_decide_eq_true h4
          (simp [numFin, h1', h2', h0, h3', h4'] <;> omega)
        · refine fin3 ⟨?_⟩
          have h4' : ¬ 1 < (k : Int) := of_decide_eq_false h4
          (simp [numFin, h1', h2', h0, h3', h4'] <;> omega)
      · refine fin3 ⟨?_⟩
        have h3' : ¬ s[0].toNat = 48 := fun e => by rw [e] at h3; cases h3
        (simp [numFin, h1', h2', h0, h3'] <;> omega)
    | true =>
      have hk1 : 1 ≤ k := hn1 rfl
      conv => whnf
      have e1 : IntKind.i64.wrap ((k : Int) - 1) = (k : Int) - 1 := wrapI (by omega)
      have e : IntKind.i64.wrap ((k : Int) - IntKind.i64.wrap ((k : Int) - 1)) = 1 := by rw [e1, show (k : Int) - ((k : Int) - 1) = 1 by omega]; rfl
      split <;> rename_i h1 <;> conv => whnf
      · refine fin3 ⟨?_⟩
        have h1' : IntKind.i64.wrap ((k : Int) - 1) = 0 := by simpa using h1
        simp [numFin, h1']
      have h1' : ¬ IntKind.i64.wrap ((k : Int) - 1) = 0 := by simpa using h1
      split <;> rename_i h2 <;> conv => whnf
      · refine fin3 ⟨?_⟩
        have h2' := of_decide_eq_true h2
        simp [numFin, h1', h2']
      have h2' := of_decide_eq_false h2
      have h0 : 1 < s.size := by omega
      refine ⟨by show 0 ≤ IntKind.i64.wrap ((k : Int) - IntKind.i64.wrap ((k : Int) - 1)); rw [e]; decide, s[1], by show s[(IntKind.i64.wrap ((k : Int) - IntKind.i64.wrap ((k : Int) - 1))).toNat]? = _; rw [e]; exact atB h0, ?_⟩
      conv => whnf
      split <;> rename_i h3 <;> conv => whnf
      · have h3' : s[1].toNat = 48 := by have := eq_of_beq h3; omega
        split <;> rename_i h4 <;> conv => whnf
        · refine fin3 ⟨?_⟩
          simp [numFin, h1', h2', h0, h3']
        · refine fin3 ⟨?_⟩
          simp [numFin, h1', h2', h0, h3']
      · refine fin3 ⟨?_⟩
        have h3' : ¬ s[1].toNat = 48 := fun e => by rw [e] at h3; cases h3
        simp [numFin, h1', h2', h0, h3']
end Go.Proofs.Ytcombonfmhgnjaa.Rx

/- Is a text a name? The program's answer. -/
set_option linter.unusedVariables false
set_option linter.unusedSimpArgs false
namespace Go.Rx
def wordL (s : ByteArray) : Int := if 12 < runB wordC s then 0 else runB wordC s
def nameB (s : ByteArray) : Bool := if h : 0 < s.size then letN s[0].toNat && (wordL s == s.size) else false
end Go.Rx
namespace Go.Proofs.Ytcombonfmhgnjaa.Rx
open Go.Rx Go.Proofs Go.Proofs.Ytcombonfmhgnjaa.RxH

theorem size_con (s : ByteArray) (hs : okS s) (h0 : 0 < s.size) : ∃ n : Int, Con P 20 [Sx s] (I n) [] ∧ (letN s[0].toNat = true → n = wordL s) := by
  obtain ⟨tx, tn, tok, hstr⟩ := jstring_con s hs
  have key : ∃ n : Int, (n = if letN s[0].toNat then wordL s else if ((s[0].toNat : Int) == 45) || digN s[0].toNat then (if (numR s).2.2 then (numR s).2.1 else 0)
      else if (s[0].toNat : Int) == 34 then (if tok && decide ((tx.size : Int) ≤ 40) then tn else 0) else if Lib.hasPrefix s.data.toList [46, 46, 46] then 3 else if decide ((0 : Int) ≤ Lib.indexByte [33, 36, 40, 41, 58, 61, 64, 91, 93, 123, 125] (s[0].toNat : Int).toNat.toUInt8) then 1 else 0) := ⟨_, rfl⟩
  obtain ⟨n, hn⟩ := key
  refine ⟨n, ?_, fun h => by rw [hn, if_pos h]⟩
  refine Con.of T_ok Try.func20 rfl (by kernel_rfl) (by kernel_rfl) (aw_of T_ok (by kernel_rfl) ?_)
  conv => whnf
  refine ⟨by omega, s[0], atB h0, ?_⟩
  conv => whnf
  refine callS (letter_con s[0].toNat) rfl ?_
  conv => whnf
  split <;> rename_i h1 <;> conv => whnf
  · rw [if_pos h1] at hn
    refine callS (run_con s hs) rfl ?_
    conv => whnf
    split <;> rename_i h2 <;> conv => whnf
    · refine finI ⟨?_⟩
      have h2' : 12 < runB wordC s := by have := of_decide_eq_true h2; omega
      rw [hn, wordL, if_pos h2']
    · refine finI ⟨?_⟩
      have h2' : ¬ 12 < runB wordC s := by have := of_decide_eq_false h2; omega
      rw [hn, wordL, if_neg h2']
  · rw [if_neg (by rw [h1]; decide)] at hn
    have num : ((s[0].toNat : Int) == 45 || digN s[0].toNat) = true → ∀ x, (if (numR s).2.2 then (numR s).2.1 else 0) = x → n = x := fun hc x hx => by rw [hn, if_pos hc, hx]
    split <;> rename_i h2 <;> conv => whnf
    · have num := num (by rw [show ((s[0].toNat : Int) == 45) = true from h2]; rfl)
      refine callS (number_con s hs) rfl ?_
      conv => whnf
      split <;> rename_i h3 <;> conv => whnf
      · exact finI ⟨(num _ (by rw [if_pos h3])).symm⟩
      · exact finI ⟨(num _ (by rw [if_neg (by rw [h3]; decide)])).symm⟩
    · refine callS (digit_con s[0].toNat) rfl ?_
      conv => whnf
      split <;> rename_i h4 <;> conv => whnf
      · have num := num (by rw [h4, Bool.or_true])
        refine callS (number_con s hs) rfl ?_
        conv => whnf
        split <;> rename_i h3 <;> conv => whnf
        · exact finI ⟨(num _ (by rw [if_pos h3])).symm⟩
        · exact finI ⟨(num _ (by rw [if_neg (by rw [h3]; decide)])).symm⟩
      · rw [if_neg (by rw [show ((s[0].toNat : Int) == 45) = false from h2, h4]; decide)] at hn
        split <;> rename_i h5 <;> conv => whnf
        · rw [if_pos (show ((s[0].toNat : Int) == 34) = true from h5)] at hn
          refine callS hstr rfl ?_
          conv => whnf
          split <;> rename_i h6 <;> conv => whnf
          · split <;> rename_i h7 <;> conv => whnf
            · refine finI ⟨?_⟩
              rw [hn, if_pos (by rw [show decide ((tx.size : Int) ≤ 40) = true from h7]; rfl)]
            · refine finI ⟨?_⟩
              rw [hn, if_neg (by rw [show decide ((tx.size : Int) ≤ 40) = false from h7]; decide)]
          · refine finI ⟨?_⟩
            rw [hn, if_neg (by rw [Bool.false_and]; decide)]
        · rw [if_neg (by rw [show ((s[0].toNat : Int) == 34) = false from h5]; decide)] at hn
          refine callS (hasPrefix_con s ⟨#[46, 46, 46]⟩) rfl ?_
          conv => whnf
          split <;> rename_i h6 <;> conv => whnf
          · exact finI ⟨by rw [hn, if_pos h6]⟩
          · rw [if_neg (by rw [h6]; decide)] at hn
            refine callS (indexByte_con ⟨#[33, 36, 40, 41, 58, 61, 64, 91, 93, 123, 125]⟩ (s[0].toNat : Int)) rfl ?_
            conv => whnf
            split <;> rename_i h7 <;> conv => whnf
            · exact finI ⟨by rw [hn, if_pos (show decide ((0 : Int) ≤ Lib.indexByte [33, 36, 40, 41, 58, 61, 64, 91, 93, 123, 125] (s[0].toNat : Int).toNat.toUInt8) = true from h7)]⟩
            · exact finI ⟨by rw [hn, if_neg (by rw [show decide ((0 : Int) ≤ Lib.indexByte [33, 36, 40, 41, 58, 61, 64, 91, 93, 123, 125] (s[0].toNat : Int).toNat.toUInt8) = false from h7]; decide)]⟩
theorem ne_empty (s : ByteArray) : (s != ⟨#[]⟩) = decide (0 < s.size) := by
  rw [Bool.eq_iff_iff, bne_iff_ne, decide_eq_true_eq]
  constructor
  · intro h
    rcases Nat.eq_zero_or_pos s.size with e | e
    · exact absurd (ByteArray.ext (Array.eq_empty_of_size_eq_zero e)) h
    · exact e
  · rintro h rfl
    exact absurd h (by decide)
theorem lexOne_con (s : ByteArray) (hs : okS s) : ∃ b, Con P 30 [Sx s] (Bl b) [] ∧ (s.size = 0 → b = false) ∧ ∀ h : 0 < s.size, letN s[0].toNat = true → b = (wordL s == s.size) := by
  by_cases h0 : 0 < s.size
  · obtain ⟨n, hc, hn⟩ := size_con s hs h0
    refine ⟨n == s.size, ?_, fun e => by omega, fun _ h => by rw [hn h]⟩
    refine Con.of T_ok Try.func30 rfl (by kernel_rfl) (by kernel_rfl) (aw_of T_ok (by kernel_rfl) ?_)
    conv => whnf
    split <;> rename_i h1 <;> conv => whnf
    · refine callS hc rfl ?_
      conv => whnf
      exact finB ⟨rfl⟩
    · have h1' : (s != ⟨#[]⟩) = false := h1
      rw [ne_empty, decide_eq_true h0] at h1'
      cases h1'
  · refine ⟨false, ?_, fun _ => rfl, fun h => absurd h h0⟩
    refine Con.of T_ok Try.func30 rfl (by kernel_rfl) (by kernel_rfl) (aw_of T_ok (by kernel_rfl) ?_)
    conv => whnf
    split <;> rename_i h1 <;> conv => whnf
    · have h1' : (s != ⟨#[]⟩) = true := h1
      rw [ne_empty, decide_eq_false h0] at h1'
      cases h1'
    · exact finB ⟨rfl⟩
theorem name_con (s : ByteArray) (hs : okS s) : Con P 45 [Sx s] (Bl (nameB s)) [] := by
  obtain ⟨b, hc, hb0, hb⟩ := lexOne_con s hs
  refine Con.of T_ok Try.func45 rfl (by kernel_rfl) (by kernel_rfl) (aw_of T_ok (by kernel_rfl) ?_)
  conv => whnf
  refine callS hc rfl ?_
  conv => whnf
  split <;> rename_i h1 <;> conv => whnf
  · have h0 : 0 < s.size := by
      rcases Nat.eq_zero_or_pos s.size with e | e
      · cases hb0 e
      · exact e
    refine ⟨by omega, s[0], atB h0, ?_⟩
    conv => whnf
    refine callS (letter_con s[0].toNat) rfl ?_
    conv => whnf
    refine finB ⟨?_⟩
    rw [nameB, dif_pos h0]
    cases hl : letN s[0].toNat with
    | false => rfl
    | true => rw [← hb h0 hl]; rfl
  · refine finB ⟨?_⟩
    rw [nameB]
    split
    · rename_i h0
      cases hl : letN s[0].toNat with
      | false => rfl
      | true => rw [← hb h0 hl]; rfl
    · rfl
end Go.Proofs.Ytcombonfmhgnjaa.Rx

/- Words of bytes, plain; what stands between them does not turn them. -/
set_option linter.unusedVariables false
set_option linter.unusedSimpArgs false
namespace Go.Rx
open Go.Proofs.Ytcombonfmhgnjaa.RxH
abbrev bytesW (l : List UInt8) : ByteArray := ⟨l.toArray⟩
theorem bytesW_list (l : List UInt8) : (bytesW l).data.toList = l := by simp
theorem bytesW_of (s : ByteArray) : bytesW s.data.toList = s := by simp [bytesW]
def sepC (c : UInt8) : Bool := c == 32 || (c == 44 || c == 35)
def blankC (c : UInt8) : Bool := c == 32 || (c == 9 || (c == 44 || (c == 10 || c == 13)))
def lineC (c : UInt8) : Bool := !(c == 10) && !(c == 13)
def digC (c : UInt8) : Bool := digN c.toNat
def passC (c : UInt8) (l : List UInt8) : Nat := if c = 35 then ((c :: l).takeWhile lineC).length else ((c :: l).takeWhile blankC).length
def passB : List UInt8 → Nat
  | [] => 0
  | c :: l => passC c l
def puncL : List UInt8 := [33, 36, 40, 41, 58, 61, 64, 91, 93, 123, 125]
def sizeC (c : UInt8) (l : List UInt8) : Int :=
    if letN c.toNat then wordL (bytesW (c :: l)) else if ((c.toNat : Int) == 45) || digN c.toNat then (if (numR (bytesW (c :: l))).2.2 then (numR (bytesW (c :: l))).2.1 else 0)
    else if (c.toNat : Int) == 34 then (if (strGo l 1 []).2.2 && decide (((strGo l 1 []).1.length : Int) ≤ 40) then ((strGo l 1 []).2.1 : Int) else 0)
    else if Lib.hasPrefix (c :: l) [46, 46, 46] then 3 else if decide ((0 : Int) ≤ Lib.indexByte puncL c) then 1 else 0
def sizeB : List UInt8 → Int
  | [] => 0
  | c :: l => sizeC c l
/-- Behind a word: nothing, or what stands between words. -/
def Ends (u : List UInt8) : Prop := u = [] ∨ ∃ c l, u = c :: l ∧ sepC c = true
theorem tw_len {p : UInt8 → Bool} : ∀ {t u : List UInt8}, ((t ++ u).takeWhile p).length = t.length → ∀ x ∈ t, p x = true
  | [], _, _ => fun x hx => (List.not_mem_nil hx).elim
  | c :: t, u, h => by
    rw [List.cons_append, List.takeWhile_cons] at h
    split at h
    · rename_i hc
      intro x hx
      rcases List.mem_cons.1 hx with rfl | hx
      · exact hc
      · exact tw_len (by simpa using h) x hx
    · simp at h
theorem tw_stop {p : UInt8 → Bool} {t u : List UInt8} (h : ∀ x ∈ t, p x = true) (hu : u = [] ∨ ∃ c l, u = c :: l ∧ p c = false) : (t ++ u).takeWhile p = t := by
  induction t with
  | nil =>
    rcases hu with rfl | ⟨c, l, rfl, hc⟩
    · rfl
    · rw [List.nil_append, List.takeWhile_cons_of_neg (by rw [hc]; decide)]
  | cons c t ih => rw [List.cons_append, List.takeWhile_cons_of_pos (h c (by simp)), ih fun x hx => h x (by simp [hx])]
theorem sep_word {c : UInt8} (h : sepC c = true) : wordC c = false ∧ digC c = false := by
  unfold sepC at h
  simp only [Bool.or_eq_true, beq_iff_eq] at h
  rcases h with rfl | rfl | rfl <;> exact ⟨by decide, by decide⟩
theorem Ends.no {u : List UInt8} (h : Ends u) {p : UInt8 → Bool} (hp : ∀ c, sepC c = true → p c = false) : u = [] ∨ ∃ c l, u = c :: l ∧ p c = false := by
  rcases h with h | ⟨c, l, h, hc⟩
  · exact .inl h
  · exact .inr ⟨c, l, h, hp c hc⟩
theorem runB_w (p : UInt8 → Bool) (l : List UInt8) : runB p (bytesW l) = (l.takeWhile p).length := by rw [runB, bytesW_list]
/-! ### Numbers -/
theorem numGo_snd : ∀ (l : List UInt8) (n : Int) (k : Nat), (numGo l n k).2 = k + (l.takeWhile digC).length
  | [], n, k => rfl
  | c :: l, n, k => by
    rw [numGo, List.takeWhile_cons]
    have e : digC c = digN c.toNat := rfl
    rw [e]
    split
    · rw [numGo_snd l _ _, List.length_cons]; omega
    · rfl
theorem numGo_app : ∀ (t u : List UInt8) (n : Int) (k : Nat), (∀ x ∈ t, digC x = true) → (u = [] ∨ ∃ c l, u = c :: l ∧ digC c = false) → numGo (t ++ u) n k = numGo t n k
  | [], u, n, k, _, hu => by
    rcases hu with rfl | ⟨c, l, rfl, hc⟩
    · rfl
    · have e : numGo ([] ++ c :: l) n k = if digC c = true then numGo l (numV n c) (k + 1) else (n, k) := rfl
      rw [e, hc]; rfl
  | c :: t, u, n, k, h, hu => by
    have hc : digN c.toNat = true := h c (by simp)
    rw [List.cons_append, numGo, if_pos hc, numGo, if_pos hc]
    exact numGo_app t u _ _ (fun x hx => h x (by simp [hx])) hu
theorem pre45 (c : UInt8) (l : List UInt8) : Lib.hasPrefix (c :: l) [45] = (c == 45) := by
  unfold Lib.hasPrefix
  rw [List.isPrefixOf_cons_cons, List.isPrefixOf_nil_left, Bool.and_true, BEq.comm]
theorem numR_w (c : UInt8) (l : List UInt8) : numR (bytesW (c :: l)) = numFin (bytesW (c :: l)) (c == 45) (numGo ((c :: l).drop (if (c == 45) = true then 1 else 0)) 0 (if (c == 45) = true then 1 else 0)) := by
  unfold numR
  rw [bytesW_list, pre45]
theorem numFin_size {s : ByteArray} {neg : Bool} {p : Int × Nat} (h : (numFin s neg p).2.2 = true) : (numFin s neg p).2.1 = (p.2 : Int) ∧ ¬ (if neg then IntKind.i64.wrap ((p.2 : Int) - 1) else p.2) = 0 := by
  unfold numFin at h ⊢
  generalize (if neg then IntKind.i64.wrap ((p.2 : Int) - 1) else (p.2 : Int)) = dg at h ⊢
  by_cases h0 : dg = 0
  · rw [if_pos h0] at h; cases h
  rw [if_neg h0] at h ⊢
  by_cases h1 : 1073741824 < p.1
  · rw [if_pos h1] at h; cases h
  rw [if_neg h1] at h ⊢
  by_cases h2 : ((s[if neg then 1 else 0]?).getD 0).toNat = 48 ∧ (1 < dg ∨ neg = true)
  · rw [if_pos h2] at h; cases h
  rw [if_neg h2]
  exact ⟨rfl, h0⟩
theorem numFin_same {s s' : ByteArray} {neg : Bool} {p : Int × Nat} (h : (s[if neg then 1 else 0]?).getD 0 = (s'[if neg then 1 else 0]?).getD 0) : numFin s neg p = numFin s' neg p := by
  unfold numFin; rw [h]
theorem getW (l : List UInt8) (i : Nat) : (bytesW l)[i]? = l[i]? := by
  by_cases h : i < l.length
  · have h1 : i < (bytesW l).size := h
    rw [atB h1, List.getElem?_eq_getElem h]
    rfl
  · rw [List.getElem?_eq_none (by omega)]
    have h1 : ¬ i < (bytesW l).size := h
    exact getElem?_neg _ _ h1
/-! ### Strings -/
theorem strGo_posN : ∀ (m : Nat) (l : List UInt8) (i : Nat) (acc : List UInt8), l.length ≤ m → (strGo l i acc).2.2 = true → i < (strGo l i acc).2.1 ∧ (strGo l i acc).2.1 ≤ i + l.length := fun m => by
  induction m with
  | zero => intro l i acc hm h; rw [List.eq_nil_of_length_eq_zero (Nat.le_zero.1 hm)] at h; cases h
  | succ m ih =>
    intro l i acc hm h
    cases l with
    | nil => cases h
    | cons c l =>
      by_cases h1 : c.toNat = 34
      · rw [strGo_q h1]; exact ⟨Nat.lt_succ_self _, by rw [List.length_cons]; show i + 1 ≤ _; omega⟩
      · by_cases h2 : c.toNat < 32 ∨ 126 < c.toNat
        · rw [strGo_bad h2] at h; cases h
        · by_cases h3 : c.toNat = 92
          · cases l with
            | nil => rw [strGo_esc_end h3] at h; cases h
            | cons d l =>
              by_cases h4 : d.toNat = 34 ∨ d.toNat = 92
              · rw [strGo_esc h3 h4] at h ⊢
                have := ih l (i + 2) (acc ++ [d]) (by simp at hm; omega) h
                simp only [List.length_cons]
                omega
              · rw [strGo_esc_no h3 h4] at h; cases h
          · rw [strGo_plain h1 h2 h3] at h ⊢
            have := ih l (i + 1) (acc ++ [c]) (by simp at hm; omega) h
            simp only [List.length_cons]
            omega
theorem strGo_pos (l : List UInt8) (i : Nat) (acc : List UInt8) (h : (strGo l i acc).2.2 = true) : i < (strGo l i acc).2.1 := (strGo_posN l.length l i acc (Nat.le_refl _) h).1
theorem strGo_le (l : List UInt8) (i : Nat) (acc : List UInt8) (h : (strGo l i acc).2.2 = true) : (strGo l i acc).2.1 ≤ i + l.length := (strGo_posN l.length l i acc (Nat.le_refl _) h).2
theorem strGo_app : ∀ (n : Nat) (t u u' : List UInt8) (i : Nat) (acc : List UInt8), t.length ≤ n → (strGo (t ++ u) i acc).2.2 = true → (strGo (t ++ u) i acc).2.1 ≤ i + t.length → strGo (t ++ u') i acc = strGo (t ++ u) i acc
  | n, [], u, u', i, acc, _, h, hl => by
    exfalso
    have := strGo_pos u i acc h
    simp at hl
    omega
  | 0, c :: t, _, _, _, _, hn, _, _ => by simp at hn
  | n + 1, c :: t, u, u', i, acc, hn, h, hl => by
    rw [List.cons_append] at h hl ⊢
    rw [List.cons_append]
    by_cases h1 : c.toNat = 34
    · rw [strGo_q h1, strGo_q h1]
    · by_cases h2 : c.toNat < 32 ∨ 126 < c.toNat
      · rw [strGo_bad h2] at h; cases h
      · by_cases h3 : c.toNat = 92
        · cases t with
          | nil =>
            -- the word would end within an escape
            exfalso
            cases u with
            | nil => rw [List.nil_append, strGo_esc_end h3] at h; cases h
            | cons d u =>
              rw [List.nil_append] at h hl
              by_cases h4 : d.toNat = 34 ∨ d.toNat = 92
              · rw [strGo_esc h3 h4] at h hl
                have key := strGo_pos u (i + 2) (acc ++ [d]) h
                simp at hl
                omega
              · rw [strGo_esc_no h3 h4] at h; cases h
          | cons d t =>
            rw [List.cons_append] at h hl ⊢
            rw [List.cons_append]
            by_cases h4 : d.toNat = 34 ∨ d.toNat = 92
            · rw [strGo_esc h3 h4] at h hl ⊢
              rw [strGo_esc h3 h4]
              exact strGo_app n t u u' (i + 2) (acc ++ [d]) (by simp at hn; omega) h (by simp at hl; omega)
            · rw [strGo_esc_no h3 h4] at h; cases h
        · rw [strGo_plain h1 h2 h3] at h hl ⊢
          rw [strGo_plain h1 h2 h3]
          exact strGo_app n t u u' (i + 1) (acc ++ [c]) (by simp at hn; omega) h (by simp at hl; omega)
/-! ### A word is no longer by what stands behind it -/
theorem tw_le (p : UInt8 → Bool) (l : List UInt8) : (l.takeWhile p).length ≤ l.length := (List.takeWhile_prefix p).length_le
theorem drop_if {c : UInt8} {l : List UInt8} (b : Bool) : (c :: l).drop (if b = true then 1 else 0) = if b = true then l else c :: l := by cases b <;> rfl
theorem size_le : ∀ l : List UInt8, sizeB l ≤ l.length
  | [] => Int.le_refl _
  | c :: l => by
    show sizeC c l ≤ ((c :: l).length : Int)
    unfold sizeC
    by_cases h1 : letN c.toNat = true
    · rw [if_pos h1, wordL]
      have := tw_le wordC (c :: l)
      rw [runB_w]
      split <;> omega
    rw [if_neg h1]
    by_cases h2 : (((c.toNat : Int) == 45) || digN c.toNat) = true
    · rw [if_pos h2]
      by_cases h3 : (numR (bytesW (c :: l))).2.2 = true
      · rw [if_pos h3]
        rw [numR_w] at h3 ⊢
        have h4 := (numFin_size h3).1
        rw [h4, numGo_snd]
        have hc : (c :: l).length = l.length + 1 := rfl
        by_cases h5 : (c == 45) = true
        · rw [if_pos h5]
          have := tw_le digC ((c :: l).drop 1)
          rw [List.length_drop] at this
          omega
        · rw [if_neg h5]
          have := tw_le digC ((c :: l).drop 0)
          rw [List.length_drop] at this
          omega
      · rw [if_neg h3]; omega
    rw [if_neg h2]
    by_cases h3 : ((c.toNat : Int) == 34) = true
    · rw [if_pos h3]
      by_cases h4 : ((strGo l 1 []).2.2 && decide (((strGo l 1 []).1.length : Int) ≤ 40)) = true
      · rw [if_pos h4]
        rw [Bool.and_eq_true] at h4
        have := strGo_le l 1 [] h4.1
        rw [List.length_cons]; omega
      · rw [if_neg h4]; omega
    rw [if_neg h3]
    by_cases h4 : Lib.hasPrefix (c :: l) [46, 46, 46] = true
    · rw [if_pos h4]
      have : [46, 46, 46].isPrefixOf (c :: l) = true := h4
      have := (List.isPrefixOf_iff_prefix.1 this).length_le
      simp at this ⊢
      omega
    · rw [if_neg h4]
      rw [List.length_cons]
      split <;> omega
theorem size_robust {t u0 u : List UInt8} (ht : t ≠ []) (h : sizeB (t ++ u0) = t.length) (hu : Ends u) : sizeB (t ++ u) = t.length := by
  obtain ⟨c, t', rfl⟩ : ∃ c t', t = c :: t' := by
    cases t with
    | nil => exact absurd rfl ht
    | cons c t' => exact ⟨c, t', rfl⟩
  replace h : sizeC c (t' ++ u0) = ((c :: t').length : Int) := h
  show sizeC c (t' ++ u) = ((c :: t').length : Int)
  unfold sizeC at h ⊢
  by_cases h1 : letN c.toNat = true
  · rw [if_pos h1, wordL, runB_w] at h
    rw [if_pos h1, wordL, runB_w]
    split at h
    · simp at h; omega
    · rename_i h12
      have hl : ((c :: t' ++ u0).takeWhile wordC).length = (c :: t').length := by
        have : (((c :: (t' ++ u0)).takeWhile wordC).length : Int) = ((c :: t').length : Int) := h
        exact Int.ofNat.inj this
      have hall := tw_len hl
      have e : (c :: (t' ++ u)).takeWhile wordC = c :: t' := tw_stop (t := c :: t') hall (hu.no fun c hc => (sep_word hc).1)
      have e12 : ¬ 12 < (c :: t').length := by rw [← hl]; exact h12
      rw [e, if_neg e12]
  rw [if_neg h1] at h ⊢
  by_cases h2 : (((c.toNat : Int) == 45) || digN c.toNat) = true
  · rw [if_pos h2] at h ⊢
    by_cases h3 : (numR (bytesW (c :: (t' ++ u0)))).2.2 = true
    rotate_left
    · rw [if_neg h3] at h
      simp at h; omega
    rw [if_pos h3] at h
    rw [numR_w] at h3 h
    obtain ⟨h4, h5⟩ := numFin_size h3
    rw [h4, numGo_snd, drop_if] at h
    -- the digits are the word's own
    have key : ∀ v : List UInt8, (v = u0 ∨ Ends v) → numGo ((c :: (t' ++ v)).drop (if (c == 45) = true then 1 else 0)) 0 (if (c == 45) = true then 1 else 0) = numGo ((c :: t').drop (if (c == 45) = true then 1 else 0)) 0 (if (c == 45) = true then 1 else 0) := by
      intro v hv
      rw [drop_if, drop_if]
      by_cases hc : (c == 45) = true
      · rw [if_pos hc] at h
        rw [if_pos hc, if_pos hc, if_pos hc]
        rw [if_pos hc] at h
        have hl : ((t' ++ u0).takeWhile digC).length = t'.length := by simp at h; omega
        have hall := tw_len hl
        rcases hv with rfl | hv
        · refine numGo_app t' v 0 1 hall ?_
          cases v with
          | nil => exact .inl rfl
          | cons d v =>
            refine .inr ⟨d, v, rfl, ?_⟩
            cases hd : digC d with
            | false => rfl
            | true =>
              exfalso
              have : (t' ++ d :: v).takeWhile digC = t' ++ (d :: v).takeWhile digC := by rw [List.takeWhile_append_of_pos hall]
              rw [this, List.length_append, List.takeWhile_cons_of_pos hd] at hl
              simp only [List.length_cons] at hl
              omega
        · exact numGo_app t' v 0 1 hall (hv.no fun c hc => (sep_word hc).2)
      · have hcf : ¬ (c == 45) = true := hc
        rw [if_neg hc] at h
        rw [if_neg hc, if_neg hc, if_neg hc]
        rw [if_neg hc] at h
        have hl : ((c :: t' ++ u0).takeWhile digC).length = (c :: t').length := by simp only [List.cons_append]; simp only [List.length_cons] at h ⊢; omega
        have hall := tw_len hl
        have e : ∀ w : List UInt8, c :: (t' ++ w) = (c :: t') ++ w := fun w => rfl
        rw [e]
        rcases hv with rfl | hv
        · refine numGo_app (c :: t') v 0 0 hall ?_
          cases v with
          | nil => exact .inl rfl
          | cons d v =>
            refine .inr ⟨d, v, rfl, ?_⟩
            cases hd : digC d with
            | false => rfl
            | true =>
              exfalso
              have : ((c :: t') ++ d :: v).takeWhile digC = (c :: t') ++ (d :: v).takeWhile digC := by rw [List.takeWhile_append_of_pos hall]
              rw [this, List.length_append, List.takeWhile_cons_of_pos hd] at hl
              simp only [List.length_cons] at hl
              omega
        · exact numGo_app (c :: t') v 0 0 hall (hv.no fun c hc => (sep_word hc).2)
    have k0 := key u0 (.inl rfl)
    have k1 := key u (.inr hu)
    have hsz : (numGo ((c :: t').drop (if (c == 45) = true then 1 else 0)) 0 (if (c == 45) = true then 1 else 0)).2 = (c :: t').length := by
      rw [← k0, numGo_snd, drop_if]
      exact Int.ofNat.inj h
    rw [k0] at h3 h5
    have hidx : (if (c == 45) = true then 1 else 0) < (c :: t').length := by
      rw [hsz] at h5
      split
      · rename_i hc
        rw [if_pos hc] at h5
        have : t' ≠ [] := fun e => by
          subst e
          exact h5 rfl
        cases t' with
        | nil => exact absurd rfl this
        | cons d t' => simp
      · simp
    have hsame : numFin (bytesW (c :: (t' ++ u))) (c == 45) (numGo ((c :: t').drop (if (c == 45) = true then 1 else 0)) 0 (if (c == 45) = true then 1 else 0)) = numFin (bytesW (c :: (t' ++ u0))) (c == 45) (numGo ((c :: t').drop (if (c == 45) = true then 1 else 0)) 0 (if (c == 45) = true then 1 else 0)) := by
      refine numFin_same ?_
      rw [getW, getW, show c :: (t' ++ u) = (c :: t') ++ u from rfl, show c :: (t' ++ u0) = (c :: t') ++ u0 from rfl, List.getElem?_append_left hidx, List.getElem?_append_left hidx]
    rw [numR_w, k1, hsame, if_pos h3, (numFin_size h3).1, hsz]
  rw [if_neg h2] at h ⊢
  by_cases h3 : ((c.toNat : Int) == 34) = true
  · rw [if_pos h3] at h ⊢
    by_cases h4 : ((strGo (t' ++ u0) 1 []).2.2 && decide (((strGo (t' ++ u0) 1 []).1.length : Int) ≤ 40)) = true
    · rw [if_pos h4] at h
      have h5 := (Bool.and_eq_true _ _ ▸ h4 : _ ∧ _)
      have e := strGo_app t'.length t' u0 u 1 [] (Nat.le_refl _) h5.1 (by simp at h; omega)
      rw [e, if_pos h4, h]
    · rw [if_neg h4] at h
      simp at h; omega
  rw [if_neg h3] at h ⊢
  by_cases h4 : Lib.hasPrefix (c :: (t' ++ u0)) [46, 46, 46] = true
  · rw [if_pos h4] at h
    have hl : (c :: t').length = 3 := by omega
    have hp : [46, 46, 46] <+: (c :: t') ++ u0 := List.isPrefixOf_iff_prefix.1 h4
    have e : [46, 46, 46] = c :: t' := (List.prefix_of_prefix_length_le hp (List.prefix_append _ _) (by rw [hl]; decide)).eq_of_length (by rw [hl]; rfl)
    rw [if_pos]
    · omega
    · show [46, 46, 46].isPrefixOf ((c :: t') ++ u) = true
      rw [← e]
      exact List.isPrefixOf_iff_prefix.2 (List.prefix_append _ _)
  · rw [if_neg h4] at h
    split at h
    rotate_left
    · simp at h; omega
    rename_i h5
    have ht' : t' = [] := by
      cases t' with
      | nil => rfl
      | cons d t' => simp at h; omega
    subst ht'
    have hc : ¬ c = 46 := fun e => by subst e; exact absurd h5 (by decide)
    rw [if_neg, if_pos h5]
    · rfl
    · intro hp
      have hp' : [46, 46, 46] <+: c :: ([] ++ u) := List.isPrefixOf_iff_prefix.1 hp
      have := (List.cons_prefix_cons.1 hp').1
      exact hc this.symm
end Go.Rx

/- The words of a text, with blanks and commas between, are the same; a string's word is one word: plain. -/
set_option linter.unusedVariables false
set_option linter.unusedSimpArgs false
namespace Go.Rx
open Go.Proofs.Ytcombonfmhgnjaa.RxH
def toks : Nat → List UInt8 → Option (List (List UInt8))
  | 0, _ => none
  | f + 1, l => if l = [] then some [] else if 0 < passB l then toks f (l.drop (passB l)) else if sizeB l = 0 then none else (toks f (l.drop (sizeB l).toNat)).map (l.take (sizeB l).toNat :: ·)
theorem pass_le : ∀ l : List UInt8, passB l ≤ l.length
  | [] => Nat.le_refl _
  | c :: l => by
    show passC c l ≤ (c :: l).length
    unfold passC; split <;> exact tw_le _ _
theorem size_nn : ∀ l : List UInt8, 0 ≤ sizeB l
  | [] => Int.le_refl _
  | c :: l => by
    show 0 ≤ sizeC c l
    unfold sizeC
    split
    · rw [wordL]; split <;> omega
    · split
      · split
        · rename_i h3
          rw [numR_w] at h3 ⊢
          rw [(numFin_size h3).1]; omega
        · omega
      · split
        · split <;> omega
        · split
          · omega
          · split <;> omega
/-- More steps make no more words. -/
theorem toks_more : ∀ (f : Nat) (l : List UInt8), l.length < f → ∀ f', l.length < f' → toks f l = toks f' l
  | 0, l, h, _, _ => absurd h (Nat.not_lt_zero _)
  | f + 1, l, h, 0, h' => absurd h' (Nat.not_lt_zero _)
  | f + 1, l, h, f' + 1, h' => by
    unfold toks
    by_cases e : l = []
    · rw [if_pos e, if_pos e]
    rw [if_neg e, if_neg e]
    by_cases hp : 0 < passB l
    · rw [if_pos hp, if_pos hp]
      have := pass_le l
      exact toks_more f _ (by rw [List.length_drop]; omega) f' (by rw [List.length_drop]; omega)
    rw [if_neg hp, if_neg hp]
    by_cases hs : sizeB l = 0
    · rw [if_pos hs, if_pos hs]
    rw [if_neg hs, if_neg hs]
    have h1 := size_nn l
    have h2 := size_le l
    rw [toks_more f _ (by rw [List.length_drop]; omega) f' (by rw [List.length_drop]; omega)]
/-- A word that stays one, whatever is behind it, if it begins as what is between words. -/
structure GoodT (t : List UInt8) : Prop where
  ne : t ≠ []
  pass : ∀ u, passB (t ++ u) = 0
  size : ∀ u, Ends u → sizeB (t ++ u) = t.length
theorem pass_head {c : UInt8} {l : List UInt8} : passB (c :: l) = 0 ↔ c ≠ 35 ∧ blankC c = false := by
  show passC c l = 0 ↔ _
  unfold passC
  constructor
  · intro h
    split at h
    · rename_i e
      subst e
      rw [List.takeWhile_cons_of_pos (by decide)] at h
      simp at h
    · rename_i e
      refine ⟨e, ?_⟩
      cases hb : blankC c with
      | false => rfl
      | true => rw [List.takeWhile_cons_of_pos hb] at h; simp at h
  · rintro ⟨h1, h2⟩
    rw [if_neg h1, List.takeWhile_cons_of_neg (by rw [h2]; decide)]; rfl
theorem good_of {l : List UInt8} (h1 : passB l = 0) (h2 : ¬ sizeB l = 0) : GoodT (l.take (sizeB l).toNat) := by
  have hn := size_nn l
  have hl := size_le l
  have hne : l.take (sizeB l).toNat ≠ [] := fun e => by
    have := congrArg List.length e
    rw [List.length_take, List.length_nil] at this
    omega
  have hsp : l.take (sizeB l).toNat ++ l.drop (sizeB l).toNat = l := List.take_append_drop _ _
  have hlen : (l.take (sizeB l).toNat).length = (sizeB l).toNat := by rw [List.length_take]; omega
  refine ⟨hne, fun u => ?_, fun u hu => ?_⟩
  · generalize l.take (sizeB l).toNat = t at hne hsp
    cases t with
    | nil => exact absurd rfl hne
    | cons c t =>
      rw [← hsp] at h1
      have h1' : passB (c :: (t ++ l.drop (sizeB l).toNat)) = 0 := h1
      exact pass_head.2 (pass_head.1 h1')
  · refine size_robust (u0 := l.drop (sizeB l).toNat) hne ?_ hu
    rw [hsp, hlen]; omega
theorem toks_good : ∀ (f : Nat) (l : List UInt8) (ts : List (List UInt8)), toks f l = some ts → (∀ t ∈ ts, GoodT t) ∧ (ts.map List.length).sum ≤ l.length
  | 0, l, ts, h => by cases h
  | f + 1, l, ts, h => by
    unfold toks at h
    by_cases e : l = []
    · rw [if_pos e] at h; cases h; exact ⟨fun t ht => (List.not_mem_nil ht).elim, Nat.zero_le _⟩
    rw [if_neg e] at h
    by_cases hp : 0 < passB l
    · rw [if_pos hp] at h
      have := toks_good f _ ts h
      rw [List.length_drop] at this
      exact ⟨this.1, by omega⟩
    rw [if_neg hp] at h
    by_cases hs : sizeB l = 0
    · rw [if_pos hs] at h; cases h
    rw [if_neg hs, Option.map_eq_some_iff] at h
    obtain ⟨ts', h1, rfl⟩ := h
    have := toks_good f _ ts' h1
    have hl := size_le l
    have hn := size_nn l
    rw [List.length_drop] at this
    refine ⟨fun t ht => ?_, ?_⟩
    · rcases List.mem_cons.1 ht with rfl | ht
      · exact good_of (by omega) hs
      · exact this.1 t ht
    · simp only [List.map_cons, List.sum_cons, List.length_take]; omega
def sepL (k : Nat) : List UInt8 := if k % 4 = 0 then [32] else if k % 4 = 1 then [44] else if k % 4 = 2 then [32, 44, 9] else [35, 10]
def wideL : List (List UInt8) → Nat → List UInt8
  | [], _ => []
  | t :: ts, k => t ++ (sepL k ++ wideL ts (k + 1))
theorem sep_ends (k : Nat) (l : List UInt8) : Ends (sepL k ++ l) := by
  unfold sepL
  split
  · exact .inr ⟨32, l, rfl, by decide⟩
  · split
    · exact .inr ⟨44, l, rfl, by decide⟩
    · split
      · exact .inr ⟨32, _, rfl, by decide⟩
      · exact .inr ⟨35, _, rfl, by decide⟩
theorem wide_head (ts : List (List UInt8)) (k : Nat) (h : ∀ t ∈ ts, GoodT t) : passB (wideL ts k) = 0 := by
  cases ts with
  | nil => rfl
  | cons t ts => exact (h t (by simp)).pass _
theorem tw_one {p : UInt8 → Bool} {l : List UInt8} (h : passB l = 0) (hp : ∀ c, p c = true → blankC c = true) : l.takeWhile p = [] := by
  cases l with
  | nil => rfl
  | cons c l =>
    have := (pass_head.1 h).2
    rw [List.takeWhile_cons_of_neg]
    intro hc
    rw [hp c hc] at this
    cases this
theorem toks_pass {f : Nat} {l : List UInt8} {n : Nat} (hl : l ≠ []) (hp : passB l = n) (hn : 0 < n) : toks (f + 1) l = toks f (l.drop n) := by
  have e : toks (f + 1) l = if l = [] then some [] else if 0 < passB l then toks f (l.drop (passB l)) else if sizeB l = 0 then none else (toks f (l.drop (sizeB l).toNat)).map (l.take (sizeB l).toNat :: ·) := rfl
  rw [e, if_neg hl, if_pos (by omega), hp]
theorem toks_sep {k f : Nat} {l : List UInt8} (h : passB l = 0) (hf : (sepL k ++ l).length < f) : toks f (sepL k ++ l) = toks (l.length + 1) l := by
  have hb : l.takeWhile blankC = [] := tw_one h fun c hc => hc
  obtain ⟨f', rfl⟩ : ∃ f', f = f' + 1 := ⟨f - 1, by omega⟩
  have hl : (sepL k).length + l.length < f' + 1 := by rw [← List.length_append]; exact hf
  clear hf
  unfold sepL at hl ⊢
  by_cases h0 : k % 4 = 0
  · rw [if_pos h0] at hl ⊢
    have hp : passB ([32] ++ l) = 1 := by show ((32 :: l).takeWhile blankC).length = 1; rw [List.takeWhile_cons_of_pos (by decide), hb]; rfl
    rw [toks_pass (by simp) hp (by decide)]
    exact toks_more _ _ (by show l.length < _; simp only [List.length_cons, List.length_nil] at hl; omega) _ (Nat.lt_succ_self _)
  rw [if_neg h0] at hl ⊢
  by_cases h1 : k % 4 = 1
  · rw [if_pos h1] at hl ⊢
    have hp : passB ([44] ++ l) = 1 := by show ((44 :: l).takeWhile blankC).length = 1; rw [List.takeWhile_cons_of_pos (by decide), hb]; rfl
    rw [toks_pass (by simp) hp (by decide)]
    exact toks_more _ _ (by show l.length < _; simp only [List.length_cons, List.length_nil] at hl; omega) _ (Nat.lt_succ_self _)
  rw [if_neg h1] at hl ⊢
  by_cases h2 : k % 4 = 2
  · rw [if_pos h2] at hl ⊢
    have hp : passB ([32, 44, 9] ++ l) = 3 := by
      show ((32 :: 44 :: 9 :: l).takeWhile blankC).length = 3
      rw [List.takeWhile_cons_of_pos (by decide), List.takeWhile_cons_of_pos (by decide), List.takeWhile_cons_of_pos (by decide), hb]; rfl
    rw [toks_pass (by simp) hp (by decide)]
    exact toks_more _ _ (by show l.length < _; simp only [List.length_cons, List.length_nil] at hl; omega) _ (Nat.lt_succ_self _)
  rw [if_neg h2] at hl ⊢
  have hp : passB ([35, 10] ++ l) = 1 := by
    show ((35 :: 10 :: l).takeWhile lineC).length = 1
    rw [List.takeWhile_cons_of_pos (by decide), List.takeWhile_cons_of_neg (by decide)]; rfl
  rw [toks_pass (by simp) hp (by decide)]
  obtain ⟨f'', rfl⟩ : ∃ f'', f' = f'' + 1 := ⟨f' - 1, by simp only [List.length_cons, List.length_nil] at hl; omega⟩
  have hp2 : passB (10 :: l) = 1 := by show ((10 :: l).takeWhile blankC).length = 1; rw [List.takeWhile_cons_of_pos (by decide), hb]; rfl
  have e : ([35, 10] ++ l).drop 1 = 10 :: l := rfl
  rw [e, toks_pass (by simp) hp2 (by decide)]
  exact toks_more _ _ (by show l.length < _; simp only [List.length_cons, List.length_nil] at hl; omega) _ (Nat.lt_succ_self _)
/-- The same words. -/
theorem toks_wide : ∀ (ts : List (List UInt8)) (k : Nat), (∀ t ∈ ts, GoodT t) → toks ((wideL ts k).length + 1) (wideL ts k) = some ts
  | [], k, _ => by show toks 1 [] = _; rfl
  | t :: ts, k, h => by
    have ht := h t (by simp)
    have hts : ∀ x ∈ ts, GoodT x := fun x hx => h x (by simp [hx])
    have ih := toks_wide ts (k + 1) hts
    have e : wideL (t :: ts) k = t ++ (sepL k ++ wideL ts (k + 1)) := rfl
    rw [e]
    have hz : sizeB (t ++ (sepL k ++ wideL ts (k + 1))) = t.length := ht.size _ (sep_ends _ _)
    have hp := ht.pass (sepL k ++ wideL ts (k + 1))
    have hne := ht.ne
    have htl : 0 < t.length := List.length_pos_iff.2 hne
    unfold toks
    rw [if_neg (by simp [hne]), if_neg (by omega), hz, if_neg (by omega), Int.toNat_natCast, List.drop_left, List.take_left]
    rw [toks_sep (wide_head ts (k + 1) hts) (by simp only [List.length_append]; omega), ih]
    rfl
theorem wide_len : ∀ (ts : List (List UInt8)) (k : Nat), (wideL ts k).length ≤ (ts.map List.length).sum + 2 * ts.length + (if k % 4 = 2 then 1 else 0)
  | [], k => Nat.zero_le _
  | t :: ts, k => by
    have ih := wide_len ts (k + 1)
    simp only [wideL, List.length_append, List.map_cons, List.sum_cons, List.length_cons]
    have hm : k % 4 = 0 ∨ k % 4 = 1 ∨ k % 4 = 2 ∨ k % 4 = 3 := by omega
    rcases hm with e | e | e | e
    · have hs : (sepL k).length = 1 := by unfold sepL; rw [if_pos e]; rfl
      rw [if_neg (by omega)] at ih ⊢; omega
    · have hs : (sepL k).length = 1 := by unfold sepL; rw [if_neg (by omega), if_pos e]; rfl
      rw [if_pos (by omega)] at ih; rw [if_neg (by omega)]; omega
    · have hs : (sepL k).length = 3 := by unfold sepL; rw [if_neg (by omega), if_neg (by omega), if_pos e]; rfl
      rw [if_neg (by omega)] at ih; rw [if_pos e]; omega
    · have hs : (sepL k).length = 2 := by unfold sepL; rw [if_neg (by omega), if_neg (by omega), if_neg (by omega)]; rfl
      rw [if_neg (by omega)] at ih ⊢; omega
/-! ### A string's word -/
def quoteL (l : List UInt8) : List UInt8 := l.flatMap fun c => if c.toNat = 34 ∨ c.toNat = 92 then [92, c] else [c]
theorem quote_go : ∀ (l : List UInt8) (i : Nat) (acc : List UInt8), (∀ c ∈ l, ¬ (c.toNat < 32 ∨ 126 < c.toNat)) → strGo (quoteL l ++ [34]) i acc = (acc ++ l, i + (quoteL l).length + 1, true)
  | [], i, acc, _ => by show strGo [34] i acc = _; rw [strGo_q (by decide), List.append_nil]; rfl
  | c :: l, i, acc, h => by
    have hc := h c (by simp)
    have hl : ∀ x ∈ l, ¬ (x.toNat < 32 ∨ 126 < x.toNat) := fun x hx => h x (by simp [hx])
    have e : quoteL (c :: l) = (if c.toNat = 34 ∨ c.toNat = 92 then [92, c] else [c]) ++ quoteL l := rfl
    rw [e]
    by_cases h1 : c.toNat = 34 ∨ c.toNat = 92
    · rw [if_pos h1]
      show strGo (92 :: c :: (quoteL l ++ [34])) i acc = _
      rw [strGo_esc (by decide) h1, quote_go l (i + 2) (acc ++ [c]) hl]
      simp only [List.append_assoc, List.cons_append, List.nil_append, List.length_cons]
      congr 2
      omega
    · rw [if_neg h1]
      show strGo (c :: (quoteL l ++ [34])) i acc = _
      rw [strGo_plain (by omega) hc (by omega), quote_go l (i + 1) (acc ++ [c]) hl]
      simp only [List.append_assoc, List.cons_append, List.nil_append, List.length_cons]
      congr 2
      omega
abbrev quotedL (l : List UInt8) : List UInt8 := 34 :: (quoteL l ++ [34])
theorem quoted_size {l : List UInt8} (h : ∀ c ∈ l, ¬ (c.toNat < 32 ∨ 126 < c.toNat)) (h40 : l.length ≤ 40) : sizeB (quotedL l) = (quotedL l).length := by
  show sizeC 34 (quoteL l ++ [34]) = _
  unfold sizeC
  rw [if_neg (by decide), if_neg (by decide), if_pos (by decide), quote_go l 1 [] h]
  rw [if_pos (by simp; omega)]
  simp only [List.length_cons, List.length_append, List.length_nil]
  omega
theorem quoted_toks {l : List UInt8} (h : ∀ c ∈ l, ¬ (c.toNat < 32 ∨ 126 < c.toNat)) (h40 : l.length ≤ 40) : toks ((quotedL l).length + 1) (quotedL l) = some [quotedL l] := by
  have hs := quoted_size h h40
  have hp : passB (quotedL l) = 0 := pass_head.2 ⟨by decide, by decide⟩
  unfold toks
  rw [if_neg (by simp), if_neg (by omega), if_neg (by rw [hs]; simp; omega), hs, Int.toNat_natCast, List.drop_length, List.take_length]
  show (toks ((quoteL l ++ [34]).length + 1) []).map _ = _
  rfl
theorem quote_len : ∀ l : List UInt8, (quoteL l).length ≤ 2 * l.length
  | [] => Nat.le_refl _
  | c :: l => by
    have e : quoteL (c :: l) = (if c.toNat = 34 ∨ c.toNat = 92 then [92, c] else [c]) ++ quoteL l := rfl
    have := quote_len l
    rw [e, List.length_append, List.length_cons]
    split <;> simp only [List.length_cons, List.length_nil] <;> omega
end Go.Rx

/- A text's words, as the code tells them. -/
set_option linter.unusedVariables false
set_option linter.unusedSimpArgs false
namespace Go.Rx
open Go.Proofs.Ytcombonfmhgnjaa.RxH
abbrev Tok := ByteArray × Nat
abbrev tokRow (t : Tok) : List PV := [pS t.1, pI t.2]
abbrev tokRows (l : List Tok) : List (List PV) := l.map tokRow
def wordsG : Nat → ByteArray → Nat → List Tok → List Tok × Int × Int
  | 0, _, _, l => (l, 0, 0)
  | f + 1, s, i, l =>
    if s.size ≤ i then (l, 0, 0) else if 0 < passB (s.data.toList.drop i) then wordsG f s (i + passB (s.data.toList.drop i)) l
    else if sizeB (s.data.toList.drop i) = 0 then ([], i, 4) else wordsG f s (i + (sizeB (s.data.toList.drop i)).toNat) (l ++ [(s.extract i (i + (sizeB (s.data.toList.drop i)).toNat), i)])
def wordsR (s : ByteArray) : List Tok × Int × Int := if 3000 < s.size then ([], 0, 2) else wordsG (s.size + 1) s 0 []
theorem ext_listW (s : ByteArray) (i j : Nat) : (s.extract i j).data.toList = (s.data.toList.drop i).take (j - i) := by
  rw [ByteArray.data_extract, Array.toList_extract]; first | done | simp [List.extract]
theorem toks_succ (f : Nat) (l : List UInt8) : toks (f + 1) l = if l = [] then some [] else if 0 < passB l then toks f (l.drop (passB l)) else if sizeB l = 0 then none else (toks f (l.drop (sizeB l).toNat)).map (l.take (sizeB l).toNat :: ·) := rfl
theorem words_toks : ∀ (f : Nat) (s : ByteArray) (i : Nat) (acc : List Tok), s.size - i < f → i ≤ s.size →
    (∀ ts, toks f (s.data.toList.drop i) = some ts → ∃ l, wordsG f s i acc = (acc ++ l, 0, 0) ∧ l.map (fun p => p.1.data.toList) = ts) ∧ (toks f (s.data.toList.drop i) = none → ∃ k : Nat, wordsG f s i acc = (([], (k : Int), (4 : Int)) : List Tok × Int × Int))
  | 0, s, i, acc, h, _ => absurd h (Nat.not_lt_zero _)
  | f + 1, s, i, acc, h, hi => by
    have hL : s.data.toList.length = s.size := rfl
    have hdl : (s.data.toList.drop i).length = s.size - i := by rw [List.length_drop, hL]
    by_cases h1 : s.size ≤ i
    · have e : s.data.toList.drop i = [] := List.drop_of_length_le (by rw [hL]; exact h1)
      refine ⟨fun ts ht => ?_, fun ht => ?_⟩
      · unfold toks at ht
        rw [if_pos e] at ht
        cases ht
        exact ⟨[], by rw [wordsG, if_pos h1, List.append_nil], rfl⟩
      · unfold toks at ht
        rw [if_pos e] at ht
        cases ht
    have hne : ¬ s.data.toList.drop i = [] := fun e => by
      have := congrArg List.length e
      rw [hdl, List.length_nil] at this
      omega
    have hpl := pass_le (s.data.toList.drop i)
    have hsl := size_le (s.data.toList.drop i)
    have hsn := size_nn (s.data.toList.drop i)
    by_cases h2 : 0 < passB (s.data.toList.drop i)
    · have ih := words_toks f s (i + passB (s.data.toList.drop i)) acc (by omega) (by omega)
      have e1 : toks (f + 1) (s.data.toList.drop i) = toks f (s.data.toList.drop (i + passB (s.data.toList.drop i))) := by
        rw [toks_succ, if_neg hne, if_pos h2, List.drop_drop]
      have e2 : wordsG (f + 1) s i acc = wordsG f s (i + passB (s.data.toList.drop i)) acc := by rw [wordsG, if_neg h1, if_pos h2]
      rw [e1, e2]
      exact ih
    by_cases h3 : sizeB (s.data.toList.drop i) = 0
    · have e1 : toks (f + 1) (s.data.toList.drop i) = none := by
        unfold toks
        rw [if_neg hne, if_neg h2, if_pos h3]
      have e2 : wordsG (f + 1) s i acc = (([], (i : Int), (4 : Int)) : List Tok × Int × Int) := by rw [wordsG, if_neg h1, if_neg h2, if_pos h3]
      rw [e1, e2]
      exact ⟨fun ts ht => by (cases ht), fun _ => ⟨i, rfl⟩⟩
    obtain ⟨n, hn⟩ : ∃ n, n = (sizeB (s.data.toList.drop i)).toNat := ⟨_, rfl⟩
    have ih := words_toks f s (i + n) (acc ++ [(s.extract i (i + n), i)]) (by omega) (by omega)
    have e1 : toks (f + 1) (s.data.toList.drop i) = (toks f (s.data.toList.drop (i + n))).map ((s.data.toList.drop i).take n :: ·) := by
      rw [toks_succ, if_neg hne, if_neg h2, if_neg h3, List.drop_drop, ← hn]
    have e2 : wordsG (f + 1) s i acc = wordsG f s (i + n) (acc ++ [(s.extract i (i + n), i)]) := by rw [wordsG, if_neg h1, if_neg h2, if_neg h3, ← hn]
    rw [e1, e2]
    refine ⟨fun ts ht => ?_, fun ht => ?_⟩
    · rw [Option.map_eq_some_iff] at ht
      obtain ⟨ts', h4, rfl⟩ := ht
      obtain ⟨l, h5, h6⟩ := ih.1 ts' h4
      refine ⟨(s.extract i (i + n), i) :: l, by rw [h5, List.append_assoc]; rfl, ?_⟩
      rw [List.map_cons, h6, ext_listW, Nat.add_sub_cancel_left]
    · rw [Option.map_eq_none_iff] at ht
      exact ih.2 ht
/-- The words of a text that has some. -/
theorem wordsR_some {s : ByteArray} {ts : List (List UInt8)} (h : s.size ≤ 3000) (ht : toks (s.size + 1) s.data.toList = some ts) : ∃ l, wordsR s = (l, 0, 0) ∧ l.map (fun p => p.1.data.toList) = ts := by
  obtain ⟨l, h1, h2⟩ := (words_toks (s.size + 1) s 0 [] (by omega) (Nat.zero_le _)).1 ts (by rw [List.drop_zero]; exact ht)
  exact ⟨l, by rw [wordsR, if_neg (by omega), h1]; rfl, h2⟩
theorem wordsR_ok {s : ByteArray} (h : (wordsR s).2.2 = 0) : s.size ≤ 3000 ∧ toks (s.size + 1) s.data.toList = some ((wordsR s).1.map fun p => p.1.data.toList) := by
  by_cases h1 : 3000 < s.size
  · rw [wordsR, if_pos h1] at h; cases h
  refine ⟨by omega, ?_⟩
  have e : wordsR s = wordsG (s.size + 1) s 0 [] := by rw [wordsR, if_neg h1]
  have hw := words_toks (s.size + 1) s 0 [] (by omega) (Nat.zero_le _)
  rw [List.drop_zero] at hw
  cases ht : toks (s.size + 1) s.data.toList with
  | none =>
    obtain ⟨k, h2⟩ := hw.2 ht
    rw [e, h2] at h
    cases h
  | some ts =>
    obtain ⟨l, h2, h3⟩ := hw.1 ts ht
    rw [e, h2, ← h3]; rfl
theorem idxB (l : List UInt8) (c : UInt8) : decide ((0 : Int) ≤ Lib.indexByte l c) = l.any (c == ·) := by
  induction l with
  | nil => rfl
  | cons b l ih =>
    rw [Lib.indexByte, List.any_cons]
    by_cases h : (b == c) = true
    · rw [if_pos h, BEq.comm (a := c), h]; rfl
    · rw [if_neg h, BEq.comm (a := c), show (b == c) = false by simpa using h, Bool.false_or, ← ih]
      split
      · rename_i e
        have : Lib.indexByte l c = -1 := by simpa using e
        rw [this]
      · rename_i e
        have e' : ¬ Lib.indexByte l c = -1 := by simpa using e
        have hge : -1 ≤ Lib.indexByte l c := by
          clear ih e e' h
          induction l with
          | nil => exact Int.le_refl _
          | cons b l ih =>
            rw [Lib.indexByte]
            split
            · omega
            · split <;> omega
        rw [decide_eq_decide]
        omega
end Go.Rx

/- strings.Builder: its functions as contracts of functions that blocks are lent to. -/
set_option linter.unusedVariables false
set_option linter.unusedSimpArgs false
namespace Go.Proofs.Ytcombonfmhgnjaa.RxB
open Go.RowKit Go.Proofs
theorem hb_size : (Try.prog.info? 60).map (·.size) = some 2 := by kernel_rfl
theorem hb_byte : (Try.prog.info? 5).map (fun i => (i.zero, i.size, i.bytes)) = some (some (.int .u8 0), 1, 1) := by kernel_rfl
/-- A builder lies at the begin of a variable of this type. -/
def Lies (T : TypeId) : Prop := liesAt Try.prog Try.prog.depth T (2 / Try.prog.cellsOf T) 0 60 1 = true
set_option maxHeartbeats 1000000 in
set_option maxRecDepth 100000 in
theorem copyCheck_used (b : Nat) (w : World) (h0 : w.cell? ⟨b, 0, none⟩ = some (.pointer (some ⟨b, 0, none⟩))) :
    Calls Try.prog 51 #[.pointer (some ⟨b, 0, none⟩)] w fun e w' => e = .returned (.tuple #[]) ∧ w' = w := by
  obtain ⟨j, hj, _⟩ := Option.map_eq_some_iff.1 hb_size
  go_enter Try.func51, Try.ntmps51
  go_wp2
  rw [Lib.run_neq_ptr_same w _ Try.underlying57 hj]
  go_wp2
  go_end0
  exact ⟨rfl, rfl⟩
set_option maxHeartbeats 1000000 in
set_option maxRecDepth 100000 in
theorem copyCheck_fresh (b : Nat) (T : TypeId) (hT : Lies T) (w : World) (h0 : w.cell? ⟨b, 0, none⟩ = some (.pointer none)) (hsh : w.shape? b = some (T, 2)) (hfz : w.frozen? ⟨b, 0, none⟩ = false) :
    Calls Try.prog 51 #[.pointer (some ⟨b, 0, none⟩)] w fun e w' => e = .returned (.tuple #[]) ∧ w' = w.setCell ⟨b, 0, none⟩ (.pointer (some ⟨b, 0, none⟩)) := by
  obtain ⟨j, hj, hjs⟩ := Option.map_eq_some_iff.1 hb_size
  go_enter Try.func51, Try.ntmps51
  go_wp2
  rw [Lib.run_to_unsafe w ⟨b, 0, none⟩ Try.underlying57 Try.underlying84 hj (by rw [hjs]; decide) hsh (Nat.zero_lt_succ 1)]
  simp only [Result.andThen]
  rw [Oper.upon_value]
  go_wp2
  rw [run_callFunc_extern Try.func62 (by kernel_rfl) (by kernel_rfl) (by kernel_rfl) (e := Extern.AbiNoEscape.same) (by kernel_rfl)]
  rw [Lib.run_noEscape]
  simp only [Result.andThen]
  rw [Oper.upon_value]
  go_wp2
  rw [Lib.run_from_unsafe w ⟨b, 0, none⟩ Try.underlying84 Try.underlying57 hj hsh hT]
  simp only [Result.andThen]
  rw [Oper.upon_value]
  go_wp2
  go_end0
  exact ⟨rfl, rfl⟩
set_option maxHeartbeats 2000000 in
set_option maxRecDepth 100000 in
/-- The text of a builder that holds some bytes: they are frozen in its rows. -/
theorem string_some (b g cap : Nat) (cs cur : Array Value) (T : TypeId) (l : List UInt8) (w : World) (h0 : l ≠ []) (hcap : cap ≠ 0) (hb : w.heap[b]? = some (.cells cs T (0, 0))) (hc : cs[1]? = some (.slice (some ⟨g, 0, none⟩) l.length cap))
    {fz : Nat × Nat} (hg : w.heap[g]? = some (.cells cur 5 fz)) (hl : l.length ≤ cur.size) (h63 : l.length ≤ 9223372036854775807) (hcell : ∀ (j : Nat) (x : UInt8), l[j]? = some x → cur[j]? = some (Value.int .u8 x.toNat)) :
    Calls Try.prog 29 #[.pointer (some ⟨b, 0, none⟩)] w fun e w' => e = .returned (.string ⟨l.toArray⟩) ∧ w' = w.drew.freeze ⟨g, 0, none⟩ l.length := by
  have c1 : w.drew.cell? ⟨b, 1, none⟩ = some (.slice (some ⟨g, 0, none⟩) l.length cap) := by
    have : w.drew.heap[b]? = some (.cells cs T (0, 0)) := hb
    rw [Lib.cell_of_heap this]; exact hc
  have hSD : (Builtin.unsafeSliceData_ #[58] 80 #[.slice (some ⟨g, 0, none⟩) l.length cap]).run Try.prog w.drew = .ok (.pointer (some ⟨g, 0, none⟩)) w.drew :=
    Lib.run_unsafeSliceData_row _ _ _ _ _ _ hcap
  have hUS : (Builtin.unsafeString_ #[80, 3] 9 #[.pointer (some ⟨g, 0, none⟩), .int .i64 l.length]).run Try.prog w.drew = .ok (.string ⟨l.toArray⟩) (w.drew.freeze ⟨g, 0, none⟩ l.length) := by
    have hg' : w.drew.heap[g]? = some (.cells cur 5 fz) := hg
    refine Lib.run_unsafeString_row w.drew 80 3 9 5 Try.underlying80 (by kernel_rfl) g cur.size (by simp [World.shape?, hg']) l h0 hl h63 ?_
    intro j x hx
    rw [Addr.add_lit, Lib.cell_of_heap hg', Nat.zero_add]
    exact hcell j x hx
  have mixed : Try.prog.follows Departure.mixedOrders = true := by kernel_rfl
  go_enter Try.func29, Try.ntmps29
  go_wp2
  go_region_o
  all_goals (go_wp2; go_ret; exact ⟨rfl, rfl⟩)
end Go.Proofs.Ytcombonfmhgnjaa.RxB
namespace Go.Rx
open Go.RowKit
section
variable {C : Ctx} {G : Gh} {bk : List Blk} {w w' : World}
/-- Rows of the call's own are given up; their block may turn. -/
theorem Mem.lose (h : Mem C G bk w) {b e sz : Nat} {rows : List (List PV)} (hb : bk[b]? = some (.arr e sz rows)) (hoth : ∀ g, G.M b ≠ some g → w'.heap[g]? = w.heap[g]?) (hsz : w'.heap.size = w.heap.size) (hos : w'.os = w.os) (htp : w'.tape = w.tape) (hou : w'.output = w.output) :
    ∃ G', Trn G bk w G' (bk.set b (.lost sz (rows ++ [[]]))) w' ∧ Mem C G' (bk.set b (.lost sz (rows ++ [[]]))) w' := by
  have hbl : b < bk.length := (List.getElem?_eq_some_iff.1 hb).1
  have hrb : rowsOf bk b = some (sz, rows) := by unfold rowsOf; rw [hb]
  let G' : Gh := { M := fun i => if i = b then none else G.M i, S := G.S, cp := G.cp }
  have hlen : (bk.set b (.lost sz (rows ++ [[]]))).length = bk.length := by simp
  have g0 : ∀ i, i ≠ b → (bk.set b (.lost sz (rows ++ [[]])))[i]? = bk[i]? := fun i hn => List.getElem?_set_ne (Ne.symm hn)
  have gb : (bk.set b (.lost sz (rows ++ [[]])))[b]? = some (.lost sz (rows ++ [[]])) := List.getElem?_set_self hbl
  have hM : ∀ i, i ≠ b → G'.M i = G.M i := fun i hn => if_neg hn
  have hMb : G'.M b = none := if_pos rfl
  have hro : ∀ i, i ≠ b → rowsOf (bk.set b (.lost sz (rows ++ [[]]))) i = rowsOf bk i := fun i hn => by unfold rowsOf; rw [g0 i hn]
  have hrlost : rowsOf (bk.set b (.lost sz (rows ++ [[]]))) b = some (sz, rows ++ [[]]) := by unfold rowsOf; rw [gb]
  have ab : Alive bk b := by unfold Alive; rw [hb]; trivial
  have hne : ∀ g o, G.S g o → G.M b ≠ some g := fun g o hs => h.sdis g o b hs ab
  have t : Trn G bk w G' (bk.set b (.lost sz (rows ++ [[]]))) w' := by
    refine ⟨fun _ _ h => h, fun g o hs => World.cell?_of_block (a := ⟨g, o, none⟩) (hoth g (hne g o hs)), by rw [hlen]; exact Nat.le_refl _, fun i hi hr => ?_, fun i s r hr => ?_⟩
    · have hn : i ≠ b := fun e => by subst e; rw [hrb] at hr; cases hr
      exact ⟨by rw [hro i hn]; exact hr, hM i hn⟩
    · by_cases hn : i = b
      · subst hn
        rw [hrb] at hr
        cases hr
        refine ⟨_, hrlost, by simp, fun h => ?_⟩
        simp at h
      · exact ⟨r, by rw [hro i hn]; exact hr, Nat.le_refl _, fun _ => ⟨hM i hn, rfl⟩⟩
  have oth : ∀ i g, i < bk.length → i ≠ b → G.M i = some g → w'.heap[g]? = w.heap[g]? := fun i g hi hn hg => hoth g fun e => hn (h.inj i b g hi hbl hg e)
  refine ⟨G', t, ⟨fun i B hB => ?_, fun i j g hi hj e1 e2 => ?_, fun g o i hs ha e1 => ?_, fun g o hs => by rw [hsz]; exact h.slt g o hs, fun i g hi e1 => ?_, fun i g hi e1 => ?_, h.s0, h.snew, hos.trans h.os, htp.trans h.tape, hou.trans h.output, by rw [hsz]; exact h.size, fun g hg hn => ?_, by rw [hlen]; exact h.mle, h.t0.trans t⟩⟩
  · by_cases hn : i = b
    · subst hn
      rw [gb] at hB
      cases hB
      exact hMb
    · rw [g0 i hn] at hB
      exact RepB.step t (hM i hn) rfl (fun g hg => oth i g (List.getElem?_eq_some_iff.1 hB).1 hn hg) (h.blk i B hB)
  · rw [hlen] at hi hj
    by_cases hn : i = b
    · subst hn; rw [hMb] at e1; cases e1
    · by_cases hn2 : j = b
      · subst hn2; rw [hMb] at e2; cases e2
      · rw [hM i hn] at e1; rw [hM j hn2] at e2; exact h.inj i j g hi hj e1 e2
  · by_cases hn : i = b
    · subst hn; rw [hMb] at e1; cases e1
    · rw [hM i hn] at e1
      exact h.sdis g o i hs (by unfold Alive at ha ⊢; rw [g0 i hn] at ha; exact ha) e1
  · rw [hlen] at hi
    by_cases hn : i = b
    · subst hn; rw [hMb] at e1; cases e1
    · rw [hM i hn] at e1; rw [hsz]; exact h.mlt i g hi e1
  · rw [hlen] at hi
    by_cases hn : i = b
    · subst hn; rw [hMb] at e1; cases e1
    · rw [hM i hn] at e1; exact h.new i g hi e1
  · rw [hoth g fun e => ?_]
    · exact h.block g hg hn
    · rcases h.new b g hbl e with h1 | ⟨b', h1, h2⟩
      · omega
      · exact hn b' h1 h2
end
end Go.Rx
namespace Go.Proofs.Ytcombonfmhgnjaa.Rx
open Go.Rx Go.Proofs Go.RowKit Go.Proofs.Ytcombonfmhgnjaa.RxB

theorem copyCheck_con (t : TypeId) (ht : Lies t) (x : Lf) (rest : List Blk) : ConG P 51 (.var [.bad 0 t, x] :: rest) [.lf (.ptr 0 0)] (.tup []) (.var [.bad 0 t, x] :: rest) := by
  refine ⟨by kernel_rfl, fun w G0 us hm hargs => ?_⟩
  cases us with
  | nil => exact hargs.elim
  | cons v us =>
    cases us with
    | cons _ _ => exact hargs.2.elim
    | nil =>
      obtain ⟨⟨⟨g, hg, rfl⟩, _, hro⟩, _⟩ := hargs
      obtain ⟨g', cur, ty, hg', ⟨hb, hbad⟩, hf⟩ := hm.blk 0 (.var [.bad 0 t, x]) rfl
      rw [hg] at hg'
      cases hg'
      have hty : ty = t := hbad t (by simp)
      subst hty
      cases cur with
      | nil => exact hf.elim
      | cons a cur =>
        cases cur with
        | nil => exact hf.2.elim
        | cons xv cur =>
          cases cur with
          | cons _ _ => exact hf.2.2.elim
          | nil =>
            obtain ⟨⟨ha, _⟩, hx, _⟩ := hf
            rcases ha with rfl | ⟨g2, hg2, rfl⟩
            · refine (copyCheck_fresh g ty ht w (by rw [Lib.cell_of_heap hb]; rfl) (by simp [World.shape?, hb]) (Lib.frozen_of_heap hb 0)).mono ?_
              rintro e w' ⟨rfl, rfl⟩
              have hb2 : (w.setCell ⟨g, 0, none⟩ (.pointer (some ⟨g, 0, none⟩))).heap[g]? = some (.cells #[.pointer (some ⟨g, 0, none⟩), xv] ty (0, 0)) := by
                simp [World.setCell, Array.getElem?_modify, hb]
              have hal : Alive (.var [.bad 0 ty, x] :: rest) 0 := trivial
              obtain ⟨t1, m1⟩ := hm.setb (w' := w.setCell ⟨g, 0, none⟩ (.pointer (some ⟨g, 0, none⟩))) 0 hal (.var [.bad 0 ty, x]) hal (.inl ⟨rfl, rfl⟩)
                (fun k hk => by
                  have : k ≠ g := fun e => hk (by rw [hg, e])
                  simp only [World.setCell, Array.getElem?_modify]
                  rw [if_neg (by simpa using (Ne.symm this))])
                (by simp [World.setCell]) rfl rfl rfl
                (fun t1 => ⟨g, [.pointer (some ⟨g, 0, none⟩), xv], ty, hg, ⟨hb2, hbad⟩, ⟨.inr ⟨g, hg, rfl⟩, by simp, rfl⟩, t1.repL hx, trivial⟩)
              exact ⟨_, G0, rfl, ⟨[], rfl, trivial⟩, m1⟩
            · rw [hg] at hg2
              cases hg2
              refine (copyCheck_used g w (by rw [Lib.cell_of_heap hb]; rfl)).mono ?_
              rintro e w' ⟨rfl, rfl⟩
              exact ⟨_, G0, rfl, ⟨[], rfl, trivial⟩, hm⟩
theorem bldString_con (t : TypeId) (z : ByteArray) (h0 : 1 ≤ z.size) (h63 : z.size ≤ 9223372036854775807) :
    ConG P 29 [.var [.bad 0 t, .own 1 z.size], .arr 5 1 (byteRows z)] [.lf (.ptr 0 0)] (Sx z) [.var [.bad 0 t, .own 1 z.size], .lost 1 (byteRows z ++ [[]])] := by
  refine ⟨by kernel_rfl, fun w G0 us hm hargs => ?_⟩
  cases us with
  | nil => exact hargs.elim
  | cons v us =>
    cases us with
    | cons _ _ => exact hargs.2.elim
    | nil =>
      obtain ⟨⟨⟨g, hg, rfl⟩, _, hro⟩, _⟩ := hargs
      obtain ⟨g', cur, ty, hg', ⟨hb, hbad⟩, hf⟩ := hm.blk 0 _ rfl
      rw [hg] at hg'
      cases hg'
      have hrl : (byteRows z).length = z.size := by simp [byteRows]
      have hll : z.data.toList.length = z.size := by simp
      cases cur with
      | nil => exact hf.elim
      | cons a cur =>
        cases cur with
        | nil => exact hf.2.elim
        | cons xv cur =>
          cases cur with
          | cons _ _ => exact hf.2.2.elim
          | nil =>
            obtain ⟨_, hx, _⟩ := hf
            obtain ⟨_, sz, rows, hrows, _, hx4⟩ := hx
            have hr1 : rowsOf [Blk.var [.bad 0 t, .own 1 z.size], .arr 5 1 (byteRows z)] 1 = some (1, byteRows z) := rfl
            rw [hr1] at hrows
            cases hrows
            rcases hx4 hrl with ⟨g2, hg2, rfl⟩ | ⟨_, hz, _⟩
            · rcases hm.blk 1 _ rfl with ⟨hq, _⟩ | ⟨g3, c2, hg3, ⟨fz, h1, _⟩, h2, h3, h4, h5⟩
              · rw [hg2] at hq; cases hq
              rw [hg2] at hg3
              cases hg3
              have hcs : z.data.toList.length ≤ c2.size := by rw [hll, h3, Nat.mul_one, ← hrl]; exact h4
              refine (string_some g g2 (G0.cp 1) #[a, .slice (some ⟨g2, 0, none⟩) z.size (G0.cp 1)] c2 ty z.data.toList w (by intro e; rw [e] at hll; simp at hll; omega) (by omega) hb (by rw [hll]; rfl) h1 hcs (by rw [hll]; exact h63) (fun j x hj => ?_)).mono ?_
              · obtain ⟨_, hc⟩ := h5 j [.sc (.int .u8 x.toNat)] (by unfold byteRows; rw [List.getElem?_map, hj]; rfl)
                obtain ⟨u, hu, hru⟩ := hc 0 _ rfl
                rw [Nat.mul_one, Nat.add_zero] at hu
                have : u = .int .u8 x.toNat := by cases hru; rfl
                rw [hu, this]
              · rintro e w' ⟨rfl, rfl⟩
                have hfz : ∀ k, k ≠ g2 → (w.drew.freeze ⟨g2, 0, none⟩ z.data.toList.length).heap[k]? = w.heap[k]? := fun k hk => by
                  unfold World.freeze
                  split
                  · rfl
                  · simp only [Array.getElem?_modify]
                    rw [if_neg (by simpa using Ne.symm hk)]
                    rfl
                have hfs : (w.drew.freeze ⟨g2, 0, none⟩ z.data.toList.length).heap.size = w.heap.size := by
                  unfold World.freeze
                  split
                  · rfl
                  · show (w.drew.heap.modify _ _).size = _
                    rw [Array.size_modify]; rfl
                have hfo : (w.drew.freeze ⟨g2, 0, none⟩ z.data.toList.length).os = w.os ∧ (w.drew.freeze ⟨g2, 0, none⟩ z.data.toList.length).tape = w.tape ∧ (w.drew.freeze ⟨g2, 0, none⟩ z.data.toList.length).output = w.output := by
                  unfold World.freeze
                  split <;> exact ⟨rfl, rfl, rfl⟩
                obtain ⟨G', t1, m1⟩ := hm.lose (w' := w.drew.freeze ⟨g2, 0, none⟩ z.data.toList.length) (b := 1) rfl (fun k hk => hfz k fun e => hk (by rw [hg2, e])) hfs hfo.1 hfo.2.1 hfo.2.2
                exact ⟨_, G', rfl, RepP.sc _ rfl, m1⟩
            · omega
theorem writeByte_con (t : TypeId) (ht : Lies t) (n : Nat) (rows : List (List PV)) (c : Int) (hn : rows.length = n) (hb : n + 1 ≤ 140737488355328) :
    ConG P 31 [.var [.bad 0 t, .own 1 n], .arr 5 1 rows] [.lf (.ptr 0 0), sc (.int .u8 c)] (.lf (.pv (.sc .nilIface))) [.var [.bad 0 t, .own 1 (n + 1)], .arr 5 1 (rows ++ [[.sc (.int .u8 c)]])] := by
  refine ConG.of T_ok Try.func31 rfl (by kernel_rfl) (by kernel_rfl) (aw_of T_ok (by kernel_rfl) ?_)
  conv => whnf
  refine ⟨[0, 1], _, _, _, _, _, nodupB_ok rfl, rfl, rfl, wk_refl _, copyCheck_con t ht _ _, ?_⟩
  conv => whnf
  refine ⟨rfl, _, .inl rfl, ?_⟩
  conv => whnf
  refine ⟨hn, by show (n + 1) * 1 ≤ _; omega, ?_⟩
  conv => whnf
  exact ⟨[], [0, 1], _, _, rfl, rfl, rfl, wk_refl _, rfl⟩
end Go.Proofs.Ytcombonfmhgnjaa.Rx

/- Words walked. -/
set_option linter.unusedVariables false
set_option linter.unusedSimpArgs false
namespace Go.Rx
open Go.Proofs.Ytcombonfmhgnjaa.RxH
abbrev strP (s : ByteArray) : ByteArray × Int × Bool := (bytesW (strGo (s.data.toList.drop 1) 1 []).1, ((strGo (s.data.toList.drop 1) 1 []).2.1 : Int), (strGo (s.data.toList.drop 1) 1 []).2.2)
theorem size_s {s : ByteArray} (h0 : 0 < s.size) : sizeB s.data.toList = sizeC s[0] (s.data.toList.drop 1) ∧ s.data.toList = s[0] :: s.data.toList.drop 1 := by
  have e : s.data.toList = s[0] :: s.data.toList.drop 1 := by
    have h0' : 0 < s.data.toList.length := h0
    have := List.drop_eq_getElem_cons h0'
    rw [List.drop_zero] at this
    exact this
  exact ⟨by rw [e]; rfl, e⟩
theorem blank_eq (c : UInt8) : decide ((0 : Int) ≤ Lib.indexByte [32, 9, 44, 10, 13] c) = blankC c := by
  rw [idxB]; unfold blankC
  simp only [List.any_cons, List.any_nil, Bool.or_false]
theorem u8_eq (c : UInt8) (n : Nat) (h : n < 256) : (((c.toNat : Int)) == (n : Int)) = (c == UInt8.ofNat n) := by
  rw [Bool.eq_iff_iff, beq_iff_eq, beq_iff_eq]
  constructor
  · intro e
    apply UInt8.toNat_inj.1
    rw [UInt8.toNat_ofNat']
    omega
  · rintro rfl
    rw [UInt8.toNat_ofNat']
    omega
end Go.Rx
namespace Go.Proofs.Ytcombonfmhgnjaa.Rx
open Go.Rx Go.Proofs Go.Proofs.Ytcombonfmhgnjaa.RxH Go.Proofs.Ytcombonfmhgnjaa.RxB
theorem runG_con (f : FuncId) (p : UInt8 → Bool) (hf : ∀ c : UInt8, Con P f [U8 c.toNat] (Bl (p c)) []) (s : ByteArray) (hs : okS s) : Con P 32 [Sx s, .lf (.fn f [])] (I (runB p s)) [] := by
  simp only [okS] at hs
  refine Con.of T_ok Try.func32 rfl (by kernel_rfl) (by kernel_rfl) (aw_of T_ok (by kernel_rfl) ?_)
  conv => whnf
  refine AW.loop (fun k : Nat => k ≤ s.size ∧ k + ((s.data.toList.drop k).takeWhile p).length = runB p s) (fun k => [(0, Sx s), (1, .lf (.fn f [])), (5, Go.Rx.I k)]) (fun _ => []) (fun k => s.size - k) [] ?_ ?_
  · exact ⟨0, ⟨Nat.zero_le _, by rw [runB, List.drop_zero, Nat.zero_add]⟩, ⟨rfl, rfl, rfl, trivial⟩, ⟨[], rfl⟩, rfl, rfl⟩
  · rintro k ⟨hk, hpre⟩
    refine aw_of T_ok (by kernel_rfl) ?_
    conv => whnf
    split <;> rename_i hlt <;> conv => whnf
    · have hks : k < s.size := by simpa using hlt
      refine ⟨by omega, s[k], atB hks, ?_⟩
      conv => whnf
      refine callS (hf s[k]) rfl ?_
      conv => whnf
      split <;> rename_i he <;> conv => whnf
      · rw [run_go hks he] at hpre
        exact ⟨k + 1, ⟨⟨by omega, hpre⟩, by omega⟩, ⟨rfl, rfl, congrArg Go.Rx.I (wrapI (by omega)), trivial⟩, ⟨[], rfl⟩, rfl, rfl⟩
      · rw [run_stop hks he] at hpre
        exact finI ⟨by rw [hpre]⟩
    · have hks : s.size ≤ k := by simpa using hlt
      rw [run_end hks] at hpre
      exact finI ⟨by rw [hpre]⟩
theorem blank_con (c : UInt8) : Con P 34 [U8 c.toNat] (Bl (blankC c)) [] := by
  refine Con.of T_ok Try.func34 rfl (by kernel_rfl) (by kernel_rfl) (aw_of T_ok (by kernel_rfl) ?_)
  conv => whnf
  refine callS (indexByte_con ⟨#[32, 9, 44, 10, 13]⟩ (c.toNat : Int)) rfl ?_
  conv => whnf
  refine finB ⟨?_⟩
  have e : ((c.toNat : Int)).toNat.toUInt8 = c := by simp
  show decide (Lib.indexByte [32, 9, 44, 10, 13] ((c.toNat : Int)).toNat.toUInt8 ≥ 0) = _
  rw [e]
  exact blank_eq c
theorem pass1_con (c : UInt8) : Con P 33 [U8 c.toNat] (Bl (lineC c)) [] := by
  refine Con.of T_ok Try.func33 rfl (by kernel_rfl) (by kernel_rfl) (aw_of T_ok (by kernel_rfl) ?_)
  conv => whnf
  have e1 : (((c.toNat : Int)) == 10) = (c == 10) := u8_eq c 10 (by decide)
  have e2 : (((c.toNat : Int)) == 13) = (c == 13) := u8_eq c 13 (by decide)
  split <;> rename_i h <;> conv => whnf
  · have h' : (!(((c.toNat : Int)) == 10)) = true := h
    rw [e1] at h'
    refine finB ⟨?_⟩
    rw [lineC, h', Bool.true_and, ← e2]; rfl
  · have h' : (!(((c.toNat : Int)) == 10)) = false := h
    rw [e1] at h'
    refine finB ⟨?_⟩
    rw [lineC, h', Bool.false_and]
theorem pass_con (s : ByteArray) (hs : okS s) (h0 : 0 < s.size) : Con P 19 [Sx s] (I (passB s.data.toList)) [] := by
  obtain ⟨_, e⟩ := size_s h0
  have hp : passB s.data.toList = if s[0] = 35 then runB lineC s else runB blankC s := by
    rw [runB, runB]
    conv => lhs; rw [e]
    conv => rhs; rw [e]
    rfl
  have e1 : (((s[0].toNat : Int)) == 35) = (s[0] == 35) := u8_eq s[0] 35 (by decide)
  refine Con.of T_ok Try.func19 rfl (by kernel_rfl) (by kernel_rfl) (aw_of T_ok (by kernel_rfl) ?_)
  conv => whnf
  refine ⟨by omega, s[0], atB h0, ?_⟩
  conv => whnf
  split <;> rename_i h <;> conv => whnf
  · have h' : ((s[0].toNat : Int) == 35) = true := h
    rw [e1, beq_iff_eq] at h'
    rw [if_pos h'] at hp
    refine callS (runG_con _ lineC pass1_con s hs) rfl ?_
    conv => whnf
    exact finI ⟨by rw [hp]⟩
  · have h' : ((s[0].toNat : Int) == 35) = false := h
    rw [e1] at h'
    rw [if_neg (by simpa using h')] at hp
    refine callS (runG_con _ blankC blank_con s hs) rfl ?_
    conv => whnf
    exact finI ⟨by rw [hp]⟩
theorem jstringV_con (s : ByteArray) (h : okS s) : Con P 18 [Sx s] (.tup [.lf (.pv (pS (strP s).1)), .lf (.pv (pI (strP s).2.1)), .lf (.pv (pB (strP s).2.2))]) [] := by
  simp only [okS] at h
  exact Con.plains (vs := [.string s]) (rs := [.string ⟨(strGo (s.data.toList.drop 1) 1 []).1.toArray⟩, .int .i64 ((strGo (s.data.toList.drop 1) 1 []).2.1 : Int), .bool (strGo (s.data.toList.drop 1) 1 []).2.2]) (by kernel_rfl) (by simp [Value.oneCell']) fun w => json_String.calls s _ _ _ w (by
    unfold json_String.f
    rw [if_pos (by omega)])
theorem sizeV_con (s : ByteArray) (hs : okS s) (h0 : 0 < s.size) : Con P 20 [Sx s] (I (sizeB s.data.toList)) [] := by
  obtain ⟨e0, eL⟩ := size_s h0
  have hstr := jstringV_con s hs
  have hw : bytesW (s[0] :: s.data.toList.drop 1) = s := by rw [← eL]
  obtain ⟨n, hn⟩ : ∃ n, n = sizeB s.data.toList := ⟨_, rfl⟩
  rw [← hn]
  rw [e0] at hn
  unfold sizeC at hn
  rw [hw, ← eL] at hn
  refine Con.of T_ok Try.func20 rfl (by kernel_rfl) (by kernel_rfl) (aw_of T_ok (by kernel_rfl) ?_)
  conv => whnf
  refine ⟨by omega, s[0], atB h0, ?_⟩
  conv => whnf
  refine callS (letter_con s[0].toNat) rfl ?_
  conv => whnf
  split <;> rename_i h1 <;> conv => whnf
  · rw [if_pos h1] at hn
    refine callS (run_con s hs) rfl ?_
    conv => whnf
    split <;> rename_i h2 <;> conv => whnf
    · refine finI ⟨?_⟩
      have h2' : 12 < runB wordC s := by have := of_decide_eq_true h2; omega
      rw [hn, wordL, if_pos h2']
    · refine finI ⟨?_⟩
      have h2' : ¬ 12 < runB wordC s := by have := of_decide_eq_false h2; omega
      rw [hn, wordL, if_neg h2']
  · rw [if_neg (by rw [h1]; decide)] at hn
    have num : ((s[0].toNat : Int) == 45 || digN s[0].toNat) = true → ∀ x, (if (numR s).2.2 then (numR s).2.1 else 0) = x → n = x := fun hc x hx => by rw [hn, if_pos hc, hx]
    split <;> rename_i h2 <;> conv => whnf
    · have num := num (by rw [show ((s[0].toNat : Int) == 45) = true from h2]; rfl)
      refine callS (number_con s hs) rfl ?_
      conv => whnf
      split <;> rename_i h3 <;> conv => whnf
      · exact finI ⟨(num _ (if_pos h3)).symm⟩
      · exact finI ⟨(num _ (by rw [if_neg (by rw [h3]; decide)])).symm⟩
    · refine callS (digit_con s[0].toNat) rfl ?_
      conv => whnf
      split <;> rename_i h4 <;> conv => whnf
      · have num := num (by rw [h4, Bool.or_true])
        refine callS (number_con s hs) rfl ?_
        conv => whnf
        split <;> rename_i h3 <;> conv => whnf
        · exact finI ⟨(num _ (by rw [if_pos h3])).symm⟩
        · exact finI ⟨(num _ (by rw [if_neg (by rw [h3]; decide)])).symm⟩
      · rw [if_neg (by rw [show ((s[0].toNat : Int) == 45) = false from h2, h4]; decide)] at hn
        split <;> rename_i h5 <;> conv => whnf
        · rw [if_pos (show ((s[0].toNat : Int) == 34) = true from h5)] at hn
          refine callS hstr rfl ?_
          conv => whnf
          split <;> rename_i h6 <;> conv => whnf
          · have h6' : (strGo (s.data.toList.drop 1) 1 []).2.2 = true := h6
            rw [h6', Bool.true_and] at hn
            split <;> rename_i h7 <;> conv => whnf
            · refine finI ⟨?_⟩
              rw [hn, if_pos (show decide (((strGo (s.data.toList.drop 1) 1 []).1.length : Int) ≤ 40) = true from h7)]
            · refine finI ⟨?_⟩
              rw [hn, if_neg (by rw [show decide (((strGo (s.data.toList.drop 1) 1 []).1.length : Int) ≤ 40) = false from h7]; decide)]
          · refine finI ⟨?_⟩
            have h6' : (strGo (s.data.toList.drop 1) 1 []).2.2 = false := h6
            rw [hn, if_neg (by rw [h6', Bool.false_and]; decide)]
        · rw [if_neg (by rw [show ((s[0].toNat : Int) == 34) = false from h5]; decide)] at hn
          refine callS (hasPrefix_con s ⟨#[46, 46, 46]⟩) rfl ?_
          conv => whnf
          split <;> rename_i h6 <;> conv => whnf
          · exact finI ⟨by rw [hn, if_pos h6]⟩
          · rw [if_neg (by rw [h6]; decide)] at hn
            refine callS (indexByte_con ⟨#[33, 36, 40, 41, 58, 61, 64, 91, 93, 123, 125]⟩ (s[0].toNat : Int)) rfl ?_
            conv => whnf
            have eC : ((s[0].toNat : Int)).toNat.toUInt8 = s[0] := by simp
            split <;> rename_i h7 <;> conv => whnf
            · have h7' : decide ((0 : Int) ≤ Lib.indexByte puncL ((s[0].toNat : Int)).toNat.toUInt8) = true := h7
              rw [eC] at h7'
              exact finI ⟨by rw [hn, if_pos h7']⟩
            · have h7' : decide ((0 : Int) ≤ Lib.indexByte puncL ((s[0].toNat : Int)).toNat.toUInt8) = false := h7
              rw [eC] at h7'
              exact finI ⟨by rw [hn, if_neg (by rw [h7']; decide)]⟩
end Go.Proofs.Ytcombonfmhgnjaa.Rx

/- Words told. -/
set_option linter.unusedVariables false
set_option linter.unusedSimpArgs false
namespace Go.Rx
open Go.Proofs.Ytcombonfmhgnjaa.RxH
abbrev wordsE (r : List Tok × Int × Int) : AV := .tup [.lf (.own 0 r.1.length), .lf (.pv (pI r.2.1)), .lf (.pv (pI r.2.2))]
theorem ext_dropW (s : ByteArray) (i : Nat) : (s.extract i s.size).data.toList = s.data.toList.drop i := by
  rw [ext_listW, List.take_of_length_le (by rw [List.length_drop]; exact Nat.le_refl _)]
theorem wordsG_err : ∀ (f : Nat) (s : ByteArray) (i : Nat) (l : List Tok), (wordsG f s i l).2.2 = 0 ∨ (wordsG f s i l).2.2 = 4
  | 0, _, _, _ => .inl rfl
  | f + 1, s, i, l => by
    rw [wordsG]
    split
    · exact .inl rfl
    · split
      · exact wordsG_err f _ _ _
      · split
        · exact .inr rfl
        · exact wordsG_err f _ _ _
theorem wordsR_err (s : ByteArray) : (wordsR s).2.2 = 0 ∨ (wordsR s).2.2 = 2 ∨ (wordsR s).2.2 = 4 := by
  unfold wordsR
  split
  · exact .inr (.inl rfl)
  · rcases wordsG_err (s.size + 1) s 0 [] with h | h
    · exact .inl h
    · exact .inr (.inr h)
theorem wordsG_pos : ∀ (f : Nat) (s : ByteArray) (i : Nat) (l : List Tok), (wordsG f s i l).2.2 = 0 → (wordsG f s i l).2.1 = 0
  | 0, _, _, _ => fun _ => rfl
  | f + 1, s, i, l => by
    rw [wordsG]
    split
    · exact fun _ => rfl
    · split
      · exact wordsG_pos f _ _ _
      · split
        · intro h; cases h
        · exact wordsG_pos f _ _ _
theorem wordsR_pos (s : ByteArray) (h : (wordsR s).2.2 = 0) : (wordsR s).2.1 = 0 := by
  unfold wordsR at h ⊢
  split
  · rfl
  · rename_i h1
    rw [if_neg h1] at h
    exact wordsG_pos _ _ _ _ h
end Go.Rx
namespace Go.Proofs.Ytcombonfmhgnjaa.Rx
open Go.Rx Go.Proofs Go.Proofs.Ytcombonfmhgnjaa.RxH Go.Proofs.Ytcombonfmhgnjaa.RxB
theorem words_con (s : ByteArray) (hs : okS s) : Con P 10 [Sx s] (wordsE (wordsR s)) [.arr 35 2 (tokRows (wordsR s).1)] := by
  simp only [okS] at hs
  obtain ⟨res, hres⟩ : ∃ res, res = wordsR s := ⟨_, rfl⟩
  rw [← hres]
  refine ConG.con (ConG.of T_ok Try.func10 rfl (by kernel_rfl) (by kernel_rfl) (aw_of T_ok (by kernel_rfl) ?_)) rfl
  conv => whnf
  split <;> rename_i t1 <;> conv => whnf
  · have h1 : 3000 < s.size := by have := of_decide_eq_true t1; omega
    rw [wordsR, if_pos h1] at hres
    subst hres
    exact ⟨[.slot 2 35 2], ⟨rfl, [0], [.lf (.own 0 0), Go.Rx.I 0, Go.Rx.I 2], [.lf (.own 0 0), Go.Rx.I 0, Go.Rx.I 2], rfl, rfl, rfl, wk_refl _, rfl⟩⟩
  have h1 : ¬ 3000 < s.size := by have := of_decide_eq_false t1; omega
  rw [wordsR, if_neg h1] at hres
  refine AW.loop (fun p : Nat × Nat × List Tok => p.2.1 ≤ s.size ∧ p.2.2.length ≤ p.2.1 ∧ s.size - p.2.1 < p.1 ∧ wordsG p.1 s p.2.1 p.2.2 = res)
    (fun p => [(0, Sx s), (2, .lf (.own 0 p.2.2.length)), (5, Go.Rx.I p.2.1)]) (fun p => [.arr 35 2 (tokRows p.2.2)]) (fun p => s.size - p.2.1) [.slot 2 35 2] ?_ ?_
  · exact ⟨rfl, (s.size + 1, 0, []), ⟨Nat.zero_le _, Nat.zero_le _, by show s.size - 0 < s.size + 1; omega, hres.symm⟩, ⟨rfl, rfl, rfl, trivial⟩, ⟨[], rfl⟩, rfl, rfl⟩
  rintro ⟨f, i, l⟩ ⟨hi, hl, hf, hinv⟩
  simp only at hi hl hf hinv
  obtain ⟨f, rfl⟩ : ∃ f', f = f' + 1 := ⟨f - 1, by omega⟩
  rw [wordsG] at hinv
  refine aw_of T_ok (by kernel_rfl) ?_
  conv => whnf
  split <;> rename_i t2 <;> conv => whnf
  rotate_left
  · have h2' : ¬ (i : Int) < (s.size : Int) := of_decide_eq_false t2
    have h2 : s.size ≤ i := by omega
    rw [if_pos h2] at hinv
    subst hinv
    exact ⟨[], [0], [.lf (.own 0 l.length), Go.Rx.I 0, Go.Rx.I 0], [.lf (.own 0 l.length), Go.Rx.I 0, Go.Rx.I 0], rfl, rfl, rfl, wk_refl _, rfl⟩
  have h2' : (i : Int) < (s.size : Int) := of_decide_eq_true t2
  have h2 : ¬ s.size ≤ i := by omega
  rw [if_neg h2] at hinv
  have hez : (s.extract i s.size).size = s.size - i := by rw [ByteArray.size_extract]; omega
  have hes : okS (s.extract i s.size) := by show (s.extract i s.size).size ≤ _; omega
  have cp := pass_con (s.extract i s.size) hes (by omega)
  have cs := sizeV_con (s.extract i s.size) hes (by omega)
  have hpl := pass_le (s.data.toList.drop i)
  have hsl := size_le (s.data.toList.drop i)
  have hsn := size_nn (s.data.toList.drop i)
  have hdl : (s.data.toList.drop i).length = s.size - i := by rw [List.length_drop]; rfl
  rw [ext_dropW] at cp cs
  generalize passB (s.data.toList.drop i) = a at cp hinv hpl
  generalize sizeB (s.data.toList.drop i) = b at cs hinv hsl hsn
  refine ⟨Int.natCast_nonneg i, Int.ofNat_le.2 hi, Int.le_refl _, ?_⟩
  conv => whnf
  refine callS cp rfl ?_
  conv => whnf
  split <;> rename_i t3 <;> conv => whnf
  · have h3 : 0 < a := by have := of_decide_eq_true t3; omega
    rw [if_pos h3] at hinv
    refine ⟨(f, i + a, l), ⟨⟨?zp, ?zq, ?zw, hinv⟩, ?zx⟩, ⟨rfl, rfl, congrArg Go.Rx.I (show IntKind.i64.wrap ((i : Int) + (a : Int)) = ((i + a : Nat) : Int) from wrapI (by omega)), trivial⟩, ⟨[], rfl⟩, rfl, rfl⟩
    case zp => show i + a ≤ s.size; omega
    case zq => show l.length ≤ i + a; omega
    case zw => show s.size - (i + a) < f; omega
    case zx => show s.size - (i + a) < s.size - i; omega
  have h3 : ¬ 0 < a := by have := of_decide_eq_false t3; omega
  rw [if_neg h3] at hinv
  refine ⟨Int.natCast_nonneg i, Int.ofNat_le.2 hi, Int.le_refl _, ?_⟩
  conv => whnf
  refine callS cs rfl ?_
  conv => whnf
  split <;> rename_i t4 <;> conv => whnf
  · have h4 : b = 0 := by simpa using t4
    rw [if_pos h4] at hinv
    subst hinv
    exact ⟨[.slot 2 35 2], ⟨rfl, [1], [.lf (.own 0 0), Go.Rx.I i, Go.Rx.I 4], [.lf (.own 0 0), Go.Rx.I i, Go.Rx.I 4], rfl, rfl, rfl, wk_refl _, rfl⟩⟩
  have h4 : ¬ b = 0 := by simpa using t4
  rw [if_neg h4] at hinv
  obtain ⟨n, rfl⟩ : ∃ n : Nat, b = n := ⟨b.toNat, by omega⟩
  rw [Int.toNat_natCast] at hinv
  have hwr : IntKind.i64.wrap ((i : Int) + (n : Int)) = ((i + n : Nat) : Int) := wrapI (by omega)
  refine ⟨Int.natCast_nonneg i, ?_, ?_, ?_⟩
  · show (i : Int) ≤ IntKind.i64.wrap ((i : Int) + (n : Int))
    rw [hwr]; omega
  · show IntKind.i64.wrap ((i : Int) + (n : Int)) ≤ (s.size : Int)
    rw [hwr]; omega
  conv => whnf
  refine ⟨rfl, _, .inl rfl, ?_⟩
  conv => whnf
  refine ⟨List.length_map .., by show (l.length + 1) * 24 ≤ _; omega, ?_⟩
  conv => whnf
  refine ⟨(f, i + n, l ++ [(s.extract i (i + n), i)]), ⟨⟨?zp, ?zq, ?zw, hinv⟩, ?zx⟩, ⟨rfl, ?zu, ?zv, trivial⟩, ⟨[?zr1], ?zb⟩, rfl, rfl⟩
  case zp => show i + n ≤ s.size; omega
  case zq => show (l ++ [(s.extract i (i + n), i)]).length ≤ i + n; rw [List.length_append, List.length_singleton]; omega
  case zw => show s.size - (i + n) < f; omega
  case zx => show s.size - (i + n) < s.size - i; omega
  case zu => show AV.lf (.own 0 (l.length + 1)) = .lf (.own 0 (l ++ [(s.extract i (i + n), i)]).length); rw [List.length_append]; rfl
  case zv => exact congrArg Go.Rx.I hwr
  case zb =>
    have hn1 : (IntKind.i64.wrap ((i : Int) + (n : Int))).toNat = i + n := by rw [hwr]; rfl
    have hx : s.extract (i : Int).toNat (IntKind.i64.wrap ((i : Int) + (n : Int))).toNat = s.extract i (i + n) := by rw [hn1]; rfl
    show _ = [Blk.arr 35 2 (tokRows (l ++ [(s.extract i (i + n), i)]))] ++ [_]
    rw [← hx, show tokRows (l ++ [(s.extract (i : Int).toNat (IntKind.i64.wrap ((i : Int) + (n : Int))).toNat, i)]) = tokRows l ++ [tokRow (s.extract (i : Int).toNat (IntKind.i64.wrap ((i : Int) + (n : Int))).toNat, i)] from List.map_append]
    rfl
end Go.Proofs.Ytcombonfmhgnjaa.Rx

/- A string's word written; a word's number and text. -/
set_option linter.unusedVariables false
set_option linter.unusedSimpArgs false
namespace Go.Rx
open Go.Proofs.Ytcombonfmhgnjaa.RxH
def rowsW (l : List UInt8) : List (List PV) := l.map fun c => [.sc (.int .u8 c.toNat)]
theorem rowsW_append (a b : List UInt8) : rowsW (a ++ b) = rowsW a ++ rowsW b := List.map_append
theorem rowsW_len (a : List UInt8) : (rowsW a).length = a.length := List.length_map ..
theorem quoteL_append (a b : List UInt8) : quoteL (a ++ b) = quoteL a ++ quoteL b := List.flatMap_append
def oneB (s : ByteArray) : Bool := s != ⟨#[]⟩ && (sizeB s.data.toList == s.size)
def headB (s : ByteArray) : UInt8 := (s[0]?).getD 0
def isTextB (s : ByteArray) : Bool := oneB s && (headB s == 34)
def textR (s : ByteArray) : ByteArray × Int := if isTextB s then ((strP s).1, 0) else (⟨#[]⟩, 1)
def isIntB (s : ByteArray) : Bool := oneB s && ((headB s == 45) || digN (headB s).toNat)
def intR (s : ByteArray) : Int × Int := if isIntB s then ((numR s).1, 0) else (0, 1)
def quoteR (s : ByteArray) : ByteArray × Int := if shortB s then (bytesW (quotedL s.data.toList), 0) else (⟨#[]⟩, 1)
abbrev sI (p : ByteArray × Int) : AV := .tup [.lf (.pv (pS p.1)), .lf (.pv (pI p.2))]
abbrev nI (p : Int × Int) : AV := .tup [.lf (.pv (pI p.1)), .lf (.pv (pI p.2))]
theorem finSI {x : ByteArray × Int} {y : ByteArray × Int} (h : x = y) : ∃ zs, Fa WkA [Sx x.1, I x.2] zs ∧ pack zs = some (sI y) := ⟨_, wk_refl _, by rw [← h]; rfl⟩
theorem finNI {x y : Int × Int} (h : x = y) : ∃ zs, Fa WkA [I x.1, I x.2] zs ∧ pack zs = some (nI y) := ⟨_, wk_refl _, by rw [← h]; rfl⟩
theorem short_all {s : ByteArray} (h : shortB s = true) : (∀ c ∈ s.data.toList, ¬ (c.toNat < 32 ∨ 126 < c.toNat)) ∧ s.size ≤ 40 := by
  rw [shortB, Bool.and_eq_true] at h
  refine ⟨fun c hc => ?_, of_decide_eq_true h.2⟩
  have := List.all_eq_true.1 h.1 c hc
  unfold okB at this
  simp at this
  omega
end Go.Rx
namespace Go.Proofs.Ytcombonfmhgnjaa.Rx
open Go.Rx Go.Proofs Go.Proofs.Ytcombonfmhgnjaa.RxH Go.Proofs.Ytcombonfmhgnjaa.RxB
theorem bld_lies : Lies 60 := by unfold Lies; kernel_rfl
abbrev bldW (l : List UInt8) : List Blk := [.var [.bad 0 60, .own 1 l.length], .arr 5 1 (rowsW l)]
theorem putB_con {b c : List UInt8} {x : UInt8} {v : Int} (hv : v = (x.toNat : Int)) (e : b ++ [x] = c) (hb : b.length + 1 ≤ 140737488355328) :
    ConG P 31 (bldW b) [.lf (.ptr 0 0), U8 v] (.lf (.pv (.sc .nilIface))) (bldW c) := by
  subst hv
  have h := writeByte_con 60 bld_lies b.length (rowsW b) (x.toNat : Int) (rowsW_len b) hb
  have e1 : rowsW b ++ [[PV.sc (.int .u8 (x.toNat : Int))]] = rowsW c := by rw [← e, rowsW_append]; rfl
  have e2 : b.length + 1 = c.length := by rw [← e, List.length_append]; rfl
  rw [e1, e2] at h
  exact h
theorem quoted_con (s : ByteArray) (hs : s.size ≤ 40) : ConG P 28 (bldW []) [.lf (.ptr 0 0), Sx s] (.tup []) (bldW (quotedL s.data.toList)) := by
  refine ConG.of T_ok Try.func28 rfl (by kernel_rfl) (by kernel_rfl) (aw_of T_ok (by kernel_rfl) ?_)
  conv => whnf
  refine ⟨[0, 1], _, _, _, _, _, nodupB_ok rfl, rfl, rfl, wk_refl _, putB_con (b := []) (c := [34]) (x := 34) rfl rfl (by decide), ?_⟩
  conv => whnf
  refine AW.loop (fun k : Nat => k ≤ s.size) (fun k => [(0, .lf (.ptr 0 0)), (1, Sx s), (8, Go.Rx.I s.size), (9, Go.Rx.I k)]) (fun k => bldW (34 :: quoteL (s.data.toList.take k))) (fun k => s.size - k) [] ?_ ?_
  · exact ⟨0, Nat.zero_le _, ⟨rfl, rfl, rfl, rfl, trivial⟩, ⟨[], rfl⟩, rfl, rfl⟩
  intro k hk
  have wk : IntKind.i64.wrap ((k : Int) + 1) = ((k + 1 : Nat) : Int) := wrapI (by omega)
  have hql : (34 :: quoteL (s.data.toList.take k)).length ≤ 1 + 2 * k := by
    have := quote_len (s.data.toList.take k)
    rw [List.length_take] at this
    rw [List.length_cons]; omega
  refine aw_of T_ok (by kernel_rfl) ?_
  conv => whnf
  split <;> rename_i hlt <;> conv => whnf
  · have hks : k < s.size := by have : (k : Int) < (s.size : Int) := of_decide_eq_true hlt
                                omega
    have hnx : 34 :: quoteL (s.data.toList.take (k + 1)) = (34 :: quoteL (s.data.toList.take k)) ++ (if s[k].toNat = 34 ∨ s[k].toNat = 92 then [92, s[k]] else [s[k]]) := by
      rw [List.take_succ_eq_append_getElem (by simpa using hks), quoteL_append, List.cons_append]
      simp only [quoteL, List.flatMap_cons, List.flatMap_nil, List.append_nil]; rfl
    have hat : s[k]? = some s[k] := atB hks
    generalize s[k] = c at hnx hat
    generalize 34 :: quoteL (s.data.toList.take k) = b at hnx hql
    obtain ⟨d, hd⟩ : ∃ d, d = 34 :: quoteL (s.data.toList.take (k + 1)) := ⟨_, rfl⟩
    rw [← hd] at hnx
    have esc : (c.toNat = 34 ∨ c.toNat = 92) → (b ++ [92]) ++ [c] = d := fun e => by rw [hnx, if_pos e, List.append_assoc]; rfl
    have pl : ¬ (c.toNat = 34 ∨ c.toNat = 92) → b ++ [c] = d := fun e => by rw [hnx, if_neg e]
    have hb1 : (b ++ [92]).length + 1 ≤ 140737488355328 := by rw [List.length_append, List.length_singleton]; omega
    clear hnx
    subst hd
    refine ⟨by omega, c, hat, ?_⟩
    conv => whnf
    split <;> rename_i t1 <;> conv => whnf
    · have e1 : c.toNat = 34 := by have : ((c.toNat : Int) == 34) = true := t1
                                   rw [beq_iff_eq] at this; omega
      refine ⟨[0, 1], _, _, _, _, _, nodupB_ok rfl, rfl, rfl, wk_refl _, putB_con (b := b) (c := b ++ [92]) (x := 92) rfl rfl (by omega), ?_⟩
      conv => whnf
      refine ⟨by omega, c, hat, ?_⟩
      conv => whnf
      refine ⟨[0, 1], _, _, _, _, _, nodupB_ok rfl, rfl, rfl, wk_refl _, putB_con (b := b ++ [92]) (x := c) rfl (esc (.inl e1)) hb1, ?_⟩
      conv => whnf
      exact ⟨k + 1, ⟨hks, by omega⟩, ⟨rfl, rfl, rfl, congrArg Go.Rx.I wk, trivial⟩, ⟨[], rfl⟩, rfl, rfl⟩
    refine ⟨by omega, c, hat, ?_⟩
    conv => whnf
    split <;> rename_i t2 <;> conv => whnf
    · have e1 : c.toNat = 92 := by have : ((c.toNat : Int) == 92) = true := t2
                                   rw [beq_iff_eq] at this; omega
      refine ⟨[0, 1], _, _, _, _, _, nodupB_ok rfl, rfl, rfl, wk_refl _, putB_con (b := b) (c := b ++ [92]) (x := 92) rfl rfl (by omega), ?_⟩
      conv => whnf
      refine ⟨by omega, c, hat, ?_⟩
      conv => whnf
      refine ⟨[0, 1], _, _, _, _, _, nodupB_ok rfl, rfl, rfl, wk_refl _, putB_con (b := b ++ [92]) (x := c) rfl (esc (.inr e1)) hb1, ?_⟩
      conv => whnf
      exact ⟨k + 1, ⟨hks, by omega⟩, ⟨rfl, rfl, rfl, congrArg Go.Rx.I wk, trivial⟩, ⟨[], rfl⟩, rfl, rfl⟩
    have e2 : ¬ (c.toNat = 34 ∨ c.toNat = 92) := by
      have e3 : ((c.toNat : Int) == 34) = false := t1
      have e4 : ((c.toNat : Int) == 92) = false := t2
      rw [beq_eq_false_iff_ne] at e3 e4
      omega
    refine ⟨by omega, c, hat, ?_⟩
    conv => whnf
    refine ⟨[0, 1], _, _, _, _, _, nodupB_ok rfl, rfl, rfl, wk_refl _, putB_con (b := b) (x := c) rfl (pl e2) (by omega), ?_⟩
    conv => whnf
    exact ⟨k + 1, ⟨hks, by omega⟩, ⟨rfl, rfl, rfl, congrArg Go.Rx.I wk, trivial⟩, ⟨[], rfl⟩, rfl, rfl⟩
  · have hkl : k = s.size := by have : ¬ ((k : Int) < (s.size : Int)) := of_decide_eq_false hlt
                                omega
    have e : s.data.toList.take k = s.data.toList := List.take_of_length_le (by rw [hkl]; exact Nat.le_refl _)
    rw [e]
    refine ⟨[0, 1], _, _, _, _, _, nodupB_ok rfl, rfl, rfl, wk_refl _, putB_con (b := 34 :: quoteL s.data.toList) (c := quotedL s.data.toList) (x := 34) rfl rfl ?_, ?_⟩
    · rw [e] at hql; omega
    conv => whnf
    exact ⟨[], [0, 1], [], [], rfl, rfl, rfl, wk_refl _, rfl⟩
theorem jquote_con (s : ByteArray) (hs : s.size ≤ 40) : Con P 16 [Sx s] (Sx (bytesW (quotedL s.data.toList))) [] := by
  have hq : (quotedL s.data.toList).length ≤ 82 := by
    have := quote_len s.data.toList
    have hl : s.data.toList.length = s.size := rfl
    simp only [List.length_cons, List.length_append, List.length_nil]; omega
  have h2 : 2 ≤ (quotedL s.data.toList).length := by simp only [List.length_cons, List.length_append, List.length_nil]; omega
  obtain ⟨q, hqe⟩ : ∃ q, q = quotedL s.data.toList := ⟨_, rfl⟩
  have cq := quoted_con s hs
  rw [← hqe] at hq h2 cq ⊢
  refine Con.of T_ok Try.func16 rfl (by kernel_rfl) (by kernel_rfl) (aw_ofC T_ok 2002 (by kernel_rfl) ?_)
  conv => whnf
  refine AW.meet (fun _ : Unit => True) (fun _ => [(0, Sx s), (3, .lf (.ptr 0 0))]) (fun _ => bldW []) [.cell 0 1 5 1] ?_ ?_
  · exact ⟨rfl, (), trivial, ⟨rfl, rfl, trivial⟩, ⟨[], rfl⟩, rfl, rfl⟩
  rintro _ _
  refine aw_of T_ok (by kernel_rfl) ?_
  conv => whnf
  refine ⟨[0, 1], _, _, _, _, _, nodupB_ok rfl, rfl, rfl, wk_refl _, cq, ?_⟩
  conv => whnf
  have cb := bldString_con 60 (bytesW q) (by show 1 ≤ q.length; omega) (by show q.length ≤ _; omega)
  have e1 : byteRows (bytesW q) = rowsW q := by show (bytesW q).data.toList.map _ = _; rw [bytesW_list]; rfl
  rw [e1, show (bytesW q).size = q.length from rfl] at cb
  refine ⟨[0, 1], _, _, _, _, _, nodupB_ok rfl, rfl, rfl, wk_refl _, cb, ?_⟩
  conv => whnf
  exact finA ⟨rfl⟩
theorem quote_con (s : ByteArray) : Con P 7 [Sx s] (sI (quoteR s)) [] := by
  refine Con.of T_ok Try.func7 rfl (by kernel_rfl) (by kernel_rfl) (aw_of T_ok (by kernel_rfl) ?_)
  conv => whnf
  refine callS (short_con s) rfl ?_
  conv => whnf
  split <;> rename_i h <;> conv => whnf
  · have h' : shortB s = false := by simpa using h
    exact finSI (x := (⟨#[]⟩, 1)) (by rw [quoteR, if_neg (by rw [h']; decide)])
  · have h' : shortB s = true := by simpa using h
    refine callS (jquote_con s (short_all h').2) rfl ?_
    conv => whnf
    exact finSI (x := (bytesW (quotedL s.data.toList), 0)) (by rw [quoteR, if_pos h'])
theorem headB_at {s : ByteArray} (h : 0 < s.size) : s[0]? = some (headB s) := by
  unfold headB; rw [atB h]; rfl
theorem one_con (s : ByteArray) (hs : okS s) : Con P 30 [Sx s] (Bl (oneB s)) [] := by
  refine Con.of T_ok Try.func30 rfl (by kernel_rfl) (by kernel_rfl) (aw_of T_ok (by kernel_rfl) ?_)
  conv => whnf
  split <;> rename_i h <;> conv => whnf
  · have h' : (s != ⟨#[]⟩) = true := h
    have h0 : 0 < s.size := Nat.pos_of_ne_zero fun e => by
      have : s = ⟨#[]⟩ := ByteArray.ext (Array.eq_empty_of_size_eq_zero e)
      rw [this] at h'
      exact absurd h' (by decide)
    refine callS (sizeV_con s hs h0) rfl ?_
    conv => whnf
    refine finB ⟨?_⟩
    rw [oneB, h', Bool.true_and]
  · have h' : (s != ⟨#[]⟩) = false := h
    refine finB ⟨?_⟩
    rw [oneB, h', Bool.false_and]
theorem one_pos {s : ByteArray} (h : oneB s = true) : 0 < s.size := by
  rw [oneB, Bool.and_eq_true] at h
  exact Nat.pos_of_ne_zero fun e => by
    have : s = ⟨#[]⟩ := ByteArray.ext (Array.eq_empty_of_size_eq_zero e)
    rw [this] at h
    exact absurd h.1 (by decide)
theorem isText_con (s : ByteArray) (hs : okS s) : Con P 17 [Sx s] (Bl (isTextB s)) [] := by
  refine Con.of T_ok Try.func17 rfl (by kernel_rfl) (by kernel_rfl) (aw_of T_ok (by kernel_rfl) ?_)
  conv => whnf
  refine callS (one_con s hs) rfl ?_
  conv => whnf
  split <;> rename_i h <;> conv => whnf
  · have h' : oneB s = true := h
    refine ⟨by omega, _, headB_at (one_pos h'), ?_⟩
    conv => whnf
    refine finB ⟨?_⟩
    rw [isTextB, h', Bool.true_and]
    exact u8_eq (headB s) 34 (by decide)
  · have h' : oneB s = false := h
    refine finB ⟨?_⟩
    rw [isTextB, h', Bool.false_and]
theorem isInt_con (s : ByteArray) (hs : okS s) : Con P 41 [Sx s] (Bl (isIntB s)) [] := by
  refine Con.of T_ok Try.func41 rfl (by kernel_rfl) (by kernel_rfl) (aw_of T_ok (by kernel_rfl) ?_)
  conv => whnf
  refine callS (one_con s hs) rfl ?_
  conv => whnf
  split <;> rename_i h <;> conv => whnf
  · have h' : oneB s = true := h
    refine ⟨by omega, _, headB_at (one_pos h'), ?_⟩
    conv => whnf
    have e1 : (((headB s).toNat : Int) == 45) = (headB s == 45) := u8_eq (headB s) 45 (by decide)
    split <;> rename_i h2 <;> conv => whnf
    · have h2' : (((headB s).toNat : Int) == 45) = true := h2
      rw [e1] at h2'
      refine finB ⟨?_⟩
      rw [isIntB, h', h2']; rfl
    · have h2' : (((headB s).toNat : Int) == 45) = false := h2
      rw [e1] at h2'
      refine ⟨by omega, _, headB_at (one_pos h'), ?_⟩
      conv => whnf
      refine callS (digit_con (headB s).toNat) rfl ?_
      conv => whnf
      refine finB ⟨?_⟩
      rw [isIntB, h', h2']; rfl
  · have h' : oneB s = false := h
    refine finB ⟨?_⟩
    rw [isIntB, h', Bool.false_and]
theorem text_con (s : ByteArray) (hs : okS s) : Con P 9 [Sx s] (sI (textR s)) [] := by
  refine Con.of T_ok Try.func9 rfl (by kernel_rfl) (by kernel_rfl) (aw_of T_ok (by kernel_rfl) ?_)
  conv => whnf
  refine callS (isText_con s hs) rfl ?_
  conv => whnf
  split <;> rename_i h <;> conv => whnf
  · have h' : isTextB s = false := by simpa using h
    exact finSI (x := (⟨#[]⟩, 1)) (by rw [textR, if_neg (by rw [h']; decide)])
  · have h' : isTextB s = true := by simpa using h
    refine callS (jstringV_con s hs) rfl ?_
    conv => whnf
    exact finSI (x := ((strP s).1, 0)) (by rw [textR, if_pos h'])
theorem int_con (s : ByteArray) (hs : okS s) : Con P 23 [Sx s] (nI (intR s)) [] := by
  refine Con.of T_ok Try.func23 rfl (by kernel_rfl) (by kernel_rfl) (aw_of T_ok (by kernel_rfl) ?_)
  conv => whnf
  refine callS (isInt_con s hs) rfl ?_
  conv => whnf
  split <;> rename_i h <;> conv => whnf
  · have h' : isIntB s = false := by simpa using h
    exact finNI (x := (0, 1)) (by rw [intR, if_neg (by rw [h']; decide)])
  · have h' : isIntB s = true := by simpa using h
    refine callS (number_con s hs) rfl ?_
    conv => whnf
    exact finNI (x := ((numR s).1, 0)) (by rw [intR, if_pos h'])
end Go.Proofs.Ytcombonfmhgnjaa.Rx

/- Eight words; nothing weighs nothing. -/
set_option linter.unusedVariables false
set_option linter.unusedSimpArgs false
namespace Go.Rx
open Go.Proofs.Ytcombonfmhgnjaa.RxH
abbrev nilP : PV := .sc (.slice none 0 0)
theorem textsNil : textsW [] = 0 := by decide
end Go.Rx
namespace Go.Proofs.Ytcombonfmhgnjaa.Rx
open Go.Rx Go.Proofs Go.Proofs.Ytcombonfmhgnjaa.RxH Go.Proofs.Ytcombonfmhgnjaa.RxB
theorem cells0_con : Con P 21 [.agg [.pv nilP, .pv nilP, .pv nilP]] (Go.Rx.I 0) [] := by
  refine Con.of T_ok Try.func21 rfl (by kernel_rfl) (by kernel_rfl) (aw_of T_ok (by kernel_rfl) ?_)
  conv => whnf
  refine AW.draw T_ok rfl (listPl [0, 1, 4, 5, 2, 3, 6, 7, 8]) (by kernel_rfl) (by kernel_rfl) ?_
  conv => whnf
  have ct := texts_con [] (by decide)
  rw [textsNil] at ct
  refine ⟨[.lf (.pv (encStrs []))], _, _, ⟨.inr (.inl ⟨_, _, rfl, rfl, wkN 1⟩), trivial⟩, ct, .inl ⟨rfl, rfl, ?_⟩⟩
  conv => whnf
  refine ⟨by decide, by decide, by decide, ?_⟩
  conv => whnf
  refine ⟨[.lf (.pv (encStrs []))], _, _, ⟨.inr (.inl ⟨_, _, rfl, rfl, wkN 1⟩), trivial⟩, ct, .inl ⟨rfl, rfl, ?_⟩⟩
  conv => whnf
  exact finI ⟨rfl⟩
theorem heavy1_con : Con P 11 [.agg [.pv nilP, .pv nilP, .pv nilP]] (Bl false) [] := by
  refine Con.of T_ok Try.func11 rfl (by kernel_rfl) (by kernel_rfl) (aw_of T_ok (by kernel_rfl) ?_)
  conv => whnf
  refine AW.draw T_ok rfl (seqPl 0 7) (by kernel_rfl) (by kernel_rfl) ?_
  conv => whnf
  refine callS cells0_con rfl ?_
  conv => whnf
  refine AW.loop (fun _ : Unit => True) (fun _ => [(1, .lf (.ptr 0 0)), (3, Go.Rx.I 0), (4, Go.Rx.I 0)]) (fun _ => [.var [.pv nilP, .pv nilP, .pv nilP]]) (fun _ => 0) [] ?_ ?_
  · exact ⟨(), trivial, ⟨rfl, rfl, rfl, trivial⟩, ⟨[], rfl⟩, rfl, rfl⟩
  rintro _ _
  refine aw_of T_ok (by kernel_rfl) ?_
  conv => whnf
  exact finB ⟨rfl⟩
theorem wakes_words : (wordsR ⟨#[123, 97, 40, 98, 58, 45, 51, 41, 125]⟩).1.length = 8 ∧ (wordsR ⟨#[123, 97, 40, 98, 58, 45, 51, 41, 125]⟩).2 = (0, 0) := by decide +kernel
theorem wakes_int : intR ⟨#[45, 51]⟩ = (-3, 0) := by decide +kernel
theorem wakes_con : Con P 12 [] (Bl true) [] := by
  have hw := wakes_words
  have cw := words_con ⟨#[123, 97, 40, 98, 58, 45, 51, 41, 125]⟩ (by decide)
  have ci := int_con ⟨#[45, 51]⟩ (by decide)
  rw [wakes_int] at ci
  generalize wordsR ⟨#[123, 97, 40, 98, 58, 45, 51, 41, 125]⟩ = x at hw cw
  obtain ⟨l, p⟩ := x
  obtain ⟨hl, rfl⟩ := hw
  refine Con.of T_ok Try.func12 rfl (by kernel_rfl) (by kernel_rfl) (aw_of T_ok (by kernel_rfl) ?_)
  conv => whnf
  refine ⟨_, _, _, wk_refl _, cw, .inr ?_⟩
  conv => whnf
  refine callU ci (fun _ => rfl) ?_
  conv => whnf
  refine callS (num_con 0 (by decide)) rfl ?_
  conv => whnf
  refine callS (num_con 0 (by decide)) rfl ?_
  conv => whnf
  refine ⟨List.length_map .., ?_⟩
  conv => whnf
  have h8 : ((l.length : Int) == 8) = true := by
    have : l.length = 8 := hl
    rw [this]; rfl
  split <;> rename_i t1 <;> conv => whnf
  · exact finB ⟨rfl⟩
  · have t1' : ((l.length : Int) == 8) = false := t1
    rw [h8] at t1'; cases t1'
end Go.Proofs.Ytcombonfmhgnjaa.Rx

/- What is known of slots, said of values that stand for more. -/
set_option linter.unusedVariables false
namespace Go.Rx
open Go.RowKit
def agreeW (sl : Slots) : List (Nat × AV) → Prop
  | [] => True
  | (t, x) :: l => WkA (sl t) x ∧ agreeW sl l
theorem agreeW_get {sl : Slots} : ∀ {S : List (Nat × AV)} {t : Nat}, agreeW sl S → mkS S t = .un ∨ WkA (sl t) (mkS S t)
  | [], t, _ => .inl rfl
  | (t0, x) :: S, t, h => by
    by_cases e : t = t0
    · subst e
      right
      have : mkS ((t, x) :: S) t = x := by simp [mkS, List.lookup]
      rw [this]; exact h.1
    · have : mkS ((t0, x) :: S) t = mkS S t := by
        have hb : (t == t0) = false := by simpa using e
        simp [mkS, List.lookup, hb]
      rw [this]
      exact agreeW_get h.2
theorem AW.wk {P : Program} {n : Fr} {c : Code} {Q : Post} {sl : Slots} {bk : List Blk} (S : List (Nat × AV)) (h : agreeW sl S) (hm : AW P n c Q (mkS S) bk) : AW P n c Q sl bk := by
  refine ⟨fun C G a w hn hr => hm.out C G a w hn ⟨hr.size, hr.dfr, fun t => ?_, hr.mem⟩⟩
  rcases agreeW_get (t := t) h with h1 | h1
  · rw [h1]; trivial
  · exact wkA_rep h1 (hr.slots t)
end Go.Rx

/- Blocks renamed, at a place and where ways meet. -/
set_option linter.unusedVariables false
set_option linter.unusedSimpArgs false
namespace Go.Rx
open Go.RowKit
def renS (idx : List Nat) : List (Nat × AV) → Option (List (Nat × AV))
  | [] => some []
  | (t, x) :: l => match renA idx x, renS idx l with | some y, some ys => some ((t, y) :: ys) | _, _ => none
theorem renS_get {sl : Slots} {idx : List Nat} : ∀ {S S' : List (Nat × AV)} {t : Nat}, agree sl S → renS idx S = some S' → mkS S' t = .un ∨ renA idx (sl t) = some (mkS S' t)
  | [], S', t, _, h => by cases h; exact .inl rfl
  | (t0, x) :: S, S', t, ha, h => by
    unfold renS at h
    split at h
    · rename_i y ys hy hys
      cases h
      by_cases e : t = t0
      · subst e
        right
        have : mkS ((t, y) :: ys) t = y := by simp [mkS, List.lookup]
        rw [this, ha.1]; exact hy
      · have : mkS ((t0, y) :: ys) t = mkS ys t := by
          have hb : (t == t0) = false := by simpa using e
          simp [mkS, List.lookup, hb]
        rw [this]
        exact renS_get ha.2 hys
    · cases h
/-- What is known, told of these blocks alone, in this order. -/
def SelK (m : Nat) (idx : List Nat) (S : List (Nat × AV)) (sl : Slots) (bk : List Blk) (K : Slots → List Blk → Prop) : Prop :=
  agree sl S ∧ (nodupB idx && (Nat.ble m idx.length && heads 0 (idx.take m))) = true ∧ ∃ S' B, renS idx S = some S' ∧ pickB idx bk idx = some B ∧ K (mkS S') B
theorem Rel.sel {C : Ctx} {G : Gh} {sl : Slots} {bk : List Blk} {a : Act} {w : World} {m : Nat} (hr : Rel C G sl bk a w) (hm : C.m = m) {idx : List Nat} {S : List (Nat × AV)} {K : Slots → List Blk → Prop} (h : SelK m idx S sl bk K) :
    ∃ G' sl' bk', K sl' bk' ∧ Rel C G' sl' bk' a w := by
  obtain ⟨ha, hx, S', B, hS, hB, hk⟩ := h
  simp only [Bool.and_eq_true] at hx
  subst hm
  obtain ⟨m2, rep⟩ := hr.mem.sel (nodupB_ok hx.1) hB (Nat.le_of_ble_eq_true hx.2.1) hx.2.2
  refine ⟨G.pick idx, _, B, hk, hr.size, hr.dfr, fun t => ?_, m2⟩
  rcases renS_get (t := t) ha hS with h1 | h1
  · rw [h1]; trivial
  · have h0 := hr.slots t
    generalize mkS S' t = y at h1
    generalize sl t = x at h1 h0
    have h2 : renAs idx [x] = some [y] := by simp [renAs, h1]
    exact (renAs_rep rep h2 (us := [_]) ⟨h0, trivial⟩).1
theorem AW.sel {P : Program} {n : Fr} {c : Code} {Q : Post} {sl : Slots} {bk : List Blk} (idx : List Nat) (S : List (Nat × AV)) (h : SelK n.m idx S sl bk fun sl bk => AW P n c Q sl bk) : AW P n c Q sl bk := by
  refine ⟨fun C G a w hn hr => ?_⟩
  obtain ⟨G', sl', bk', hk, hr'⟩ := hr.sel hn.2 h
  exact hk.out C G' a w hn hr'
/-- Ways meet where their blocks are named unlike. -/
theorem AW.cutS {P : Program} {n : Fr} {sl : Slots} {bk : List Blk} {α : Type} (I : α → Prop) (S : α → List (Nat × AV)) (B : α → List Blk) {x y : Code} {Q : Post}
    (hx : AW P n x (thenQ (fun sl bk => ∃ idx S0, SelK n.m idx S0 sl bk fun sl bk => ∃ ns, nilsK ns sl bk (Meets n.m I S B)) Q) sl bk) (hm : ∀ i, I i → AW P n y Q (mkS (S i)) (B i)) : AW P n (.seq x y) Q sl bk := by
  refine ⟨fun C G a w hn hr => ?_⟩
  refine wp_seq (wp_mono (hx.out C G a w hn hr) fun e a w ⟨G', sl', bk', hk, h'⟩ => ?_)
  cases e <;> first
    | exact ⟨G', sl', bk', hk, h'⟩
    | skip
  obtain ⟨idx, S0, hs⟩ := hk
  obtain ⟨G2, sl2, bk2, ⟨ns, hk2⟩, h2⟩ := h'.sel hn.2 hs
  obtain ⟨G1, sl1, bk1, ⟨i, hi, hf⟩, h1⟩ := nilsK_sound h2 hk2
  exact (hm i hi).out C G1 a w hn (h1.fits hn.2 hf)
end Go.Rx

/- The words of a text, with blanks and commas between, are the same; a short string's word is one word: the law walked. -/
set_option linter.unusedVariables false
set_option linter.unusedSimpArgs false
namespace Go.Rx
open Go.Proofs.Ytcombonfmhgnjaa.RxH
structure Ask2 (S : List ByteArray) (N : List Int) : Prop where
  len : S.length * 16 ≤ 140737488351232
  each : ∀ s ∈ S, okS s
abbrev ask2P (S : List ByteArray) (N : List Int) : List PV := [encStrs S, encInts N]
/-- A string's word is one, and the string. -/
theorem back_quote {s : ByteArray} (h : shortB s = true) :
    textR (bytesW (quotedL s.data.toList)) = (s, 0) ∧ ∃ x : Tok, wordsR (bytesW (quotedL s.data.toList)) = ([x], 0, 0) ∧ x.1 = bytesW (quotedL s.data.toList) := by
  obtain ⟨ha, h40⟩ := short_all h
  have hl : s.data.toList.length = s.size := rfl
  have hz := quoted_size ha (by omega)
  have ht := quoted_toks ha (by omega)
  have hg := quote_go s.data.toList 1 [] ha
  have hlen : (quotedL s.data.toList).length ≤ 82 := by
    have := quote_len s.data.toList
    simp only [List.length_cons, List.length_append, List.length_nil]; omega
  have e1 : (strP (bytesW (quotedL s.data.toList))).1 = s := by
    show bytesW (strGo ((bytesW (quotedL s.data.toList)).data.toList.drop 1) 1 []).1 = s
    rw [bytesW_list]
    show bytesW (strGo (quoteL s.data.toList ++ [34]) 1 []).1 = s
    rw [hg, List.nil_append]
  have eh : headB (bytesW (quotedL s.data.toList)) = 34 := by
    unfold headB
    rw [getW]; rfl
  generalize hq : quotedL s.data.toList = q at hz ht hlen e1 eh ⊢
  have hne : (bytesW q != ⟨#[]⟩) = true := by
    rw [bne_iff_ne]
    intro e
    have := congrArg ByteArray.size e
    have h0 : q.length = 0 := this
    rw [← hq] at h0
    simp at h0
  refine ⟨?_, ?_⟩
  · have e2 : isTextB (bytesW q) = true := by
      rw [isTextB, oneB, hne, eh, bytesW_list, hz]
      show (true && (((q.length : Int)) == (q.length : Int)) && _) = true
      simp
    rw [textR, if_pos e2, e1]
  · obtain ⟨l, h1, h2⟩ := wordsR_some (s := bytesW q) (ts := [q]) (by show q.length ≤ 3000; omega) (by rw [bytesW_list]; exact ht)
    cases l with
    | nil => cases h2
    | cons x l =>
      cases l with
      | cons _ _ => cases h2
      | nil =>
        refine ⟨x, h1, ?_⟩
        have : x.1.data.toList = q := by simpa using h2
        rw [← this]
/-- Widened, its words are the same. -/
theorem back_wide {s : ByteArray} {l : List Tok} (h : wordsR s = (l, 0, 0)) (h9 : s.size ≤ 900) :
    l.length ≤ 900 ∧ ∃ m : List Tok, wordsR (bytesW (44 :: wideL (l.map fun p => p.1.data.toList) 0)) = (m, 0, 0) ∧ m.map (·.1) = l.map (·.1) := by
  obtain ⟨h1, ht⟩ := wordsR_ok (s := s) (by rw [h])
  rw [h] at ht
  generalize hts : (l.map fun p => p.1.data.toList) = ts at ht
  obtain ⟨hgood, hsum⟩ := toks_good _ _ _ ht
  have hsz : (ts.map List.length).sum ≤ 900 := Nat.le_trans hsum h9
  have hn : ∀ (ts : List (List UInt8)), (∀ t ∈ ts, GoodT t) → ts.length ≤ (ts.map List.length).sum := by
    intro ts
    induction ts with
    | nil => intro _; exact Nat.le_refl _
    | cons t ts ih =>
      intro h
      have h0 : 0 < t.length := List.length_pos_iff.2 (h t (by simp)).ne
      have := ih fun x hx => h x (by simp [hx])
      simp only [List.length_cons, List.map_cons, List.sum_cons]
      omega
  have hn := hn ts hgood
  have hw := wide_len ts 0
  rw [if_neg (by decide)] at hw
  have hsep : toks ((44 :: wideL ts 0).length + 1) (44 :: wideL ts 0) = some ts := by
    have := toks_sep (k := 1) (f := (44 :: wideL ts 0).length + 1) (wide_head ts 0 hgood) (Nat.lt_succ_self _)
    have e : sepL 1 ++ wideL ts 0 = 44 :: wideL ts 0 := rfl
    rw [e] at this
    rw [this]
    exact toks_wide ts 0 hgood
  obtain ⟨m, h2, h3⟩ := wordsR_some (s := bytesW (44 :: wideL ts 0)) (ts := ts) (by show (44 :: wideL ts 0).length ≤ 3000; rw [List.length_cons]; omega) (by rw [bytesW_list]; exact hsep)
  have hll : ts.length = l.length := by rw [← hts, List.length_map]
  refine ⟨by omega, m, h2, ?_⟩
  have h4 : (m.map (·.1)).map (·.data.toList) = (l.map (·.1)).map (·.data.toList) := by
    rw [List.map_map, List.map_map]; exact h3.trans hts.symm
  have inj : ∀ (a b : List ByteArray), a.map (·.data.toList) = b.map (·.data.toList) → a = b := by
    intro a
    induction a with
    | nil => intro b hb; cases b with
      | nil => rfl
      | cons _ _ => cases hb
    | cons x a ih =>
      intro b hb
      cases b with
      | nil => cases hb
      | cons y b =>
        simp only [List.map_cons, List.cons.injEq] at hb
        have hxy : x = y := by
          have := congrArg bytesW hb.1
          rwa [bytesW_of, bytesW_of] at this
        rw [hxy, ih b hb.2]
  exact inj _ _ h4
end Go.Rx

/- The law walked. -/
set_option linter.unusedVariables false
set_option linter.unusedSimpArgs false
namespace Go.Rx
open Go.Proofs.Ytcombonfmhgnjaa.RxH
theorem sep_row (k : Nat) : ([[pS ⟨#[32]⟩], [pS ⟨#[44]⟩], [pS ⟨#[32, 44, 9]⟩], [pS ⟨#[35, 10]⟩]] : List (List PV))[k % 4]? = some [pS (bytesW (sepL k))] := by
  have hm : k % 4 = 0 ∨ k % 4 = 1 ∨ k % 4 = 2 ∨ k % 4 = 3 := by omega
  unfold sepL
  rcases hm with e | e | e | e <;> rw [e] <;> rfl
end Go.Rx
namespace Go.Proofs.Ytcombonfmhgnjaa.Rx
open Go.Rx Go.Proofs Go.Proofs.Ytcombonfmhgnjaa.RxH Go.Proofs.Ytcombonfmhgnjaa.RxB
set_option maxHeartbeats 2000000 in
theorem lexBack_con (S : List ByteArray) (N : List Int) (h : Ask2 S N) : Con P 3 [.agg [.pv (encStrs S), .pv (encInts N)]] (Bl true) [] := by
  have hSl := h.len
  have hm : (S.map fun s => [pS s]).length = S.length := List.length_map ..
  refine Con.of T_ok Try.func3 rfl (by kernel_rfl) (by kernel_rfl) (aw_of T_ok (by kernel_rfl) ?_)
  conv => whnf
  refine callS (heavy2V_con S N hSl) rfl ?_
  conv => whnf
  split <;> rename_i t0 <;> conv => whnf
  · exact finB ⟨rfl⟩
  refine AW.loop (fun i : Nat => i ≤ S.length) (fun i => [(1, .lf (.ptr 0 0)), (3, Go.Rx.I i)]) (fun _ => [.var [.pv (encStrs S), .pv (encInts N)]]) (fun i => S.length - i) [] ?_ ?_
  · exact ⟨0, Nat.zero_le _, ⟨rfl, rfl, trivial⟩, ⟨[], rfl⟩, rfl, rfl⟩
  rintro i hi
  have end0 : Con P 11 [.agg [.pv nilP, .pv nilP, .pv nilP]] (Bl false) [] := heavy1_con
  have wi : i < S.length → IntKind.i64.wrap ((i : Int) + 1) = ((i + 1 : Nat) : Int) := fun h => wrapI (by omega)
  refine aw_ofC T_ok 1007 (by kernel_rfl) ?_
  conv => whnf
  split <;> rename_i t1 <;> conv => whnf
  rotate_left
  · refine callS heavy1_con rfl ?_
    conv => whnf
    refine callS wakes_con rfl ?_
    conv => whnf
    exact finB ⟨rfl⟩
  have hil : i < S.length := by
    have : (i : Int) < ((S.map fun s => [pS s]).length : Int) := of_decide_eq_true t1
    omega
  have wi := wi hil
  have hrow : (S.map fun s => [pS s])[i]? = some [pS S[i]] := by simp [hil]
  have hsi := h.each S[i] (List.getElem_mem hil)
  generalize S[i] = s at hrow hsi
  split <;> rename_i t2 <;> conv => whnf
  rotate_left
  · refine callS heavy1_con rfl ?_
    conv => whnf
    refine callS wakes_con rfl ?_
    conv => whnf
    exact finB ⟨rfl⟩
  have cq := quote_con s
  refine ⟨by omega, _, hrow, ?_⟩
  conv => whnf
  have hq : quoteR s = if shortB s then (bytesW (quotedL s.data.toList), 0) else (⟨#[]⟩, 1) := rfl
  generalize quoteR s = q at cq hq
  obtain ⟨q, e⟩ := q
  have he : e = 0 ∨ e = 1 := by
    by_cases hs : shortB s = true
    · rw [if_pos hs] at hq; injection hq with _ h2; exact .inl h2
    · rw [if_neg hs] at hq; injection hq with _ h2; exact .inr h2
  refine callU cq (fun _ => rfl) ?_
  conv => whnf
  refine AW.cut (fun _ : Unit => True) (fun _ => [(1, .lf (.ptr 0 0)), (3, Go.Rx.I i)]) (fun _ => [.var [.pv (encStrs S), .pv (encInts N)]]) [] ?_ ?_
  · refine aw_of T_ok (by kernel_rfl) ?_
    conv => whnf
    refine callS (num_con e (by omega)) rfl ?_
    conv => whnf
    split <;> rename_i t3 <;> conv => whnf
    rotate_left
    · exact ⟨(), trivial, ⟨rfl, rfl, trivial⟩, ⟨[], rfl⟩, rfl, rfl⟩
    have t3' : (e == 0) = true := t3
    have he0 : e = 0 := by simpa using t3'
    have hs : shortB s = true := by
      by_cases hs : shortB s = true
      · exact hs
      · rw [if_neg hs] at hq; injection hq with _ h2; omega
    rw [if_pos hs] at hq
    obtain ⟨bt, x, bw, bx⟩ := back_quote hs
    injection hq with hq1 _
    have hqz : okS q := by
      rw [hq1]
      have := quote_len s.data.toList
      have h40 := (short_all hs).2
      show (quotedL s.data.toList).length ≤ _
      have hl : s.data.toList.length = s.size := rfl
      simp only [List.length_cons, List.length_append, List.length_nil]; omega
    rw [← hq1] at bt bw bx
    have ct := text_con q hqz
    have cw := words_con q hqz
    rw [bt] at ct
    rw [bw] at cw
    clear hq1 bt bw cq
    refine callU ct (fun _ => rfl) ?_
    conv => whnf
    refine ⟨_, _, _, wk_refl _, cw, .inr ?_⟩
    conv => whnf
    refine callS (num_con 0 (by decide)) rfl ?_
    conv => whnf
    refine callS (num_con 0 (by decide)) rfl ?_
    conv => whnf
    refine ⟨by omega, _, hrow, ?_⟩
    conv => whnf
    split <;> rename_i t4 <;> conv => whnf
    · have : (!(s == s)) = true := t4
      simp at this
    refine ⟨rfl, ?_⟩
    conv => whnf
    have hrx : [tokRow x][0]? = some (tokRow x) := rfl
    refine ⟨rfl, by decide, by show (0 : Int) < 1; decide, ?_⟩
    conv => whnf
    refine ⟨rfl, rfl, rfl, _, hrx, ?_⟩
    conv => whnf
    split <;> rename_i t5 <;> conv => whnf
    · have : (!(x.1 == q)) = true := t5
      rw [bx] at this
      simp at this
    exact ⟨(), trivial, ⟨rfl, rfl, trivial⟩, ⟨[_], rfl⟩, rfl, rfl⟩
  · rintro _ _
    refine aw_of T_ok (by kernel_rfl) ?_
    conv => whnf
    have cw := words_con s hsi
    have hne : (wordsR s).2.2 = 0 ∨ (wordsR s).2.2 ≠ 0 := Decidable.em _
    have hwo := @wordsR_ok s
    have hbw := @back_wide s
    have hpos := wordsR_pos s
    have herr : (wordsR s).2.2 = 0 ∨ (wordsR s).2.2 = 2 ∨ (wordsR s).2.2 = 4 := wordsR_err s
    generalize wordsR s = x at cw hne hwo hbw herr hpos
    obtain ⟨l, at0, e2⟩ := x
    simp only at hne hwo herr hpos
    refine ⟨by omega, _, hrow, ?_⟩
    conv => whnf
    refine ⟨_, _, _, wk_refl _, cw, .inr ?_⟩
    conv => whnf
    refine callS (num_con e2 (by omega)) rfl ?_
    conv => whnf
    split <;> rename_i t6 <;> conv => whnf
    · exact ⟨i + 1, ⟨by show i + 1 ≤ _; omega, by show S.length - (i + 1) < _; omega⟩, ⟨rfl, congrArg Go.Rx.I wi, trivial⟩, ⟨[_], rfl⟩, rfl, rfl⟩
    have t6' : (e2 != 0) = false := t6
    have he2 : e2 = 0 := by simpa using t6'
    refine ⟨by omega, _, hrow, ?_⟩
    conv => whnf
    split <;> rename_i t7 <;> conv => whnf
    · exact ⟨i + 1, ⟨by show i + 1 ≤ _; omega, by show S.length - (i + 1) < _; omega⟩, ⟨rfl, congrArg Go.Rx.I wi, trivial⟩, ⟨[_], rfl⟩, rfl, rfl⟩
    have h9 : s.size ≤ 900 := by
      have : ¬ ((s.size : Int) > 900) := of_decide_eq_false t7
      omega
    obtain ⟨hl9, m, bm, hml⟩ := hbw (by rw [he2, hpos he2]) h9
    generalize hts : l.map (fun p => p.1.data.toList) = ts at bm
    have htl : ts.length = l.length := by rw [← hts, List.length_map]
    have hrl : (tokRows l).length = l.length := List.length_map ..
    have hW3 : (44 :: wideL ts 0).length ≤ 3000 := (wordsR_ok (s := bytesW (44 :: wideL ts 0)) (by rw [bm])).1
    obtain ⟨W0, hW0⟩ : ∃ W0, W0 = 44 :: wideL ts 0 := ⟨_, rfl⟩
    refine AW.loop (fun p : Nat × ByteArray => p.1 ≤ l.length ∧ p.2.data.toList ++ wideL (ts.drop p.1) p.1 = W0) (fun p => [(1, .lf (.ptr 0 0)), (3, Go.Rx.I i), (11, .lf (.own 1 l.length)), (14, Sx p.2), (15, Go.Rx.I p.1)]) (fun _ => [.var [.pv (encStrs S), .pv (encInts N)], .arr 35 2 (tokRows l)]) (fun p => l.length - p.1) [] ?_ ?_
    · exact ⟨(0, ⟨#[44]⟩), ⟨Nat.zero_le _, hW0.symm⟩, ⟨rfl, rfl, rfl, rfl, rfl, trivial⟩, ⟨[], rfl⟩, rfl, rfl⟩
    rintro ⟨k, w⟩ ⟨hk, hw⟩
    simp only at hk hw
    have wk : k < l.length → IntKind.i64.wrap ((k : Int) + 1) = ((k + 1 : Nat) : Int) := fun h => wrapI (by omega)
    refine aw_of T_ok (by kernel_rfl) ?_
    conv => whnf
    refine ⟨hrl, ?_⟩
    conv => whnf
    split <;> rename_i t8 <;> conv => whnf
    · have hkl : k < l.length := by
        have : (k : Int) < (l.length : Int) := of_decide_eq_true t8
        omega
      have wk := wk hkl
      have hrk : (tokRows l)[k]? = some (tokRow l[k]) := by simp [hkl]
      refine AW.draw T_ok rfl (listPl [0, 1, 2, 3, 4, 5, 6, 8, 9, 7, 10, 11, 12, 13]) (by kernel_rfl) (by kernel_rfl) ?_
      conv => whnf
      refine ⟨hrl, by omega, by show (k : Int) < (l.length : Int); omega, ?_⟩
      conv => whnf
      refine ⟨hrl, rfl, hrl, _, hrk, ?_⟩
      conv => whnf
      have hnx : wideL (ts.drop k) k = l[k].1.data.toList ++ (sepL k ++ wideL (ts.drop (k + 1)) (k + 1)) := by
        have hkt : k < ts.length := by omega
        rw [List.drop_eq_getElem_cons hkt]
        have : ts[k] = l[k].1.data.toList := by
          subst hts; rw [List.getElem_map]
        rw [this]; rfl
      rw [hnx] at hw
      generalize l[k].1 = tk at hw
      have hlen := congrArg List.length hw
      simp only [List.length_append] at hlen
      have hwl : w.data.toList.length = w.size := rfl
      have htl2 : tk.data.toList.length = tk.size := rfl
      rw [← hW0] at hW3
      refine ⟨by show w.size + tk.size ≤ _; omega, ?_⟩
      conv => whnf
      refine .inl ⟨by show (0 : Int) ≤ (k : Int); omega, by decide, by show (k : Int) ≤ _; omega, ?_⟩
      conv => whnf
      have hk4 : ((k : Int) % 4).toNat = k % 4 := by omega
      have hsr : ([[pS ⟨#[32]⟩], [pS ⟨#[44]⟩], [pS ⟨#[32, 44, 9]⟩], [pS ⟨#[35, 10]⟩]] : List (List PV))[((k : Int) % 4).toNat]? = some [pS (bytesW (sepL k))] := by rw [hk4]; exact sep_row k
      refine ⟨rfl, by show (0 : Int) ≤ (k : Int) % 4; omega, by show (k : Int) % 4 < 4; omega, ?_⟩
      conv => whnf
      refine ⟨rfl, rfl, _, hsr, ?_⟩
      conv => whnf
      have hz : ((w ++ tk) ++ bytesW (sepL k)).size = w.size + tk.size + (sepL k).length := by rw [ByteArray.size_append, ByteArray.size_append]; rfl
      refine ⟨by show ((w ++ tk).size + (bytesW (sepL k)).size : Nat) ≤ _; rw [← ByteArray.size_append, hz]; omega, ?_⟩
      conv => whnf
      refine ⟨(k + 1, (w ++ tk) ++ bytesW (sepL k)), ⟨⟨by show k + 1 ≤ _; omega, ?zq⟩, by show l.length - (k + 1) < l.length - k; omega⟩, ⟨rfl, rfl, rfl, rfl, congrArg Go.Rx.I wk, trivial⟩, ⟨[_], rfl⟩, rfl, rfl⟩
      case zq =>
        show ((w ++ tk) ++ bytesW (sepL k)).data.toList ++ wideL (ts.drop (k + 1)) (k + 1) = W0
        rw [← hw, ByteArray.data_append, ByteArray.data_append, Array.toList_append, Array.toList_append, bytesW_list]
        simp only [List.append_assoc]
    · have hkl : k = l.length := by
        have : ¬ ((k : Int) < (l.length : Int)) := of_decide_eq_false t8
        omega
      have hw2 : w = bytesW (44 :: wideL ts 0) := by
        rw [hkl, List.drop_of_length_le (by omega)] at hw
        rw [← hW0, ← hw, show wideL ([] : List (List UInt8)) l.length = [] from rfl, List.append_nil]
      have cm := words_con w (by rw [hw2]; show (44 :: wideL ts 0).length ≤ _; omega)
      rw [← hw2] at bm
      rw [bm] at cm
      have hml2 : m.length = l.length := by
        have := congrArg List.length hml
        rwa [List.length_map, List.length_map] at this
      have hrm : (tokRows m).length = m.length := List.length_map ..
      refine ⟨_, _, _, wk_refl _, cm, .inr ?_⟩
      conv => whnf
      refine callS (num_con 0 (by decide)) rfl ?_
      conv => whnf
      refine ⟨hrm, ?_⟩
      conv => whnf
      refine ⟨hrl, ?_⟩
      conv => whnf
      split <;> rename_i t9 <;> conv => whnf
      · have t9' : (((m.length : Nat) : Int) != ((l.length : Nat) : Int)) = true := t9
        rw [hml2] at t9'
        simp at t9'
      refine AW.loop (fun j : Nat => j ≤ m.length) (fun j => [(1, .lf (.ptr 0 0)), (3, Go.Rx.I i), (11, .lf (.own 1 l.length)), (16, .lf (.own 2 m.length)), (19, Go.Rx.I j)]) (fun _ => [.var [.pv (encStrs S), .pv (encInts N)], .arr 35 2 (tokRows l), .arr 35 2 (tokRows m)]) (fun j => m.length - j) [] ?_ ?_
      · exact ⟨0, Nat.zero_le _, ⟨rfl, rfl, rfl, rfl, rfl, trivial⟩, ⟨[], rfl⟩, rfl, rfl⟩
      rintro j hj
      refine aw_of T_ok (by kernel_rfl) ?_
      conv => whnf
      refine ⟨hrm, ?_⟩
      conv => whnf
      split <;> rename_i t10 <;> conv => whnf
      · have hjm : j < m.length := by
          have : (j : Int) < (m.length : Int) := of_decide_eq_true t10
          omega
        have hjl : j < l.length := by omega
        have r1 : (tokRows m)[j]? = some (tokRow m[j]) := by simp [hjm]
        have r2 : (tokRows l)[j]? = some (tokRow l[j]) := by simp [hjl]
        have heq : m[j].1 = l[j].1 := by
          have := congrArg (fun x : List ByteArray => x[j]?) hml
          simpa [hjm, hjl] using this
        refine AW.draw T_ok rfl (seqPl 0 11) (by kernel_rfl) (by kernel_rfl) ?_
        conv => whnf
        refine ⟨hrm, by omega, by show (j : Int) < (m.length : Int); omega, ?_⟩
        conv => whnf
        refine ⟨hrm, rfl, hrm, _, r1, ?_⟩
        conv => whnf
        refine ⟨hrl, by omega, by show (j : Int) < (l.length : Int); omega, ?_⟩
        conv => whnf
        refine ⟨hrl, rfl, hrl, _, r2, ?_⟩
        conv => whnf
        split <;> rename_i t11 <;> conv => whnf
        · have t11' : (!(m[j].1 == l[j].1)) = true := t11
          rw [heq] at t11'
          simp at t11'
        exact ⟨j + 1, ⟨by show j + 1 ≤ _; omega, by show m.length - (j + 1) < m.length - j; omega⟩, ⟨rfl, rfl, rfl, rfl, congrArg Go.Rx.I (wrapI (by omega)), trivial⟩, ⟨[], rfl⟩, rfl, rfl⟩
      · exact ⟨i + 1, ⟨by show i + 1 ≤ _; omega, by show S.length - (i + 1) < _; omega⟩, ⟨rfl, congrArg Go.Rx.I wi, trivial⟩, ⟨[_, _], rfl⟩, rfl, rfl⟩
end Go.Proofs.Ytcombonfmhgnjaa.Rx
