/- The program's own data as plain Lean, and what may be, in plain Lean: no program here. -/
import Derived.Test.YtbfjcbhpbldlcaaRx14
namespace Go.Rx

/-! ### Words for calls and ends -/
theorem callS {P : Program} {f : FuncId} {cargs : List AV} {r : AV} {bk bk' : List Blk} {K : AV → List Blk → Prop} (hc : Con P f cargs r []) (hs : scalA r = true) (k : K r bk) :
    ∃ cargs' r nb, Fa WkA cargs cargs' ∧ Con P f cargs' r nb ∧ ((scalA r = true ∧ nb = [] ∧ K r bk) ∨ K (shA bk'.length r) (bk' ++ nb)) := ⟨cargs, r, [], wk_refl _, hc, .inl ⟨hs, rfl, k⟩⟩
theorem callW {P : Program} {f : FuncId} {cargs cs : List AV} {r : AV} {bk bk' : List Blk} {K : AV → List Blk → Prop} (hc : Con P f cs r []) (hw : Fa WkA cargs cs) (hs : scalA r = true) (k : K r bk) :
    ∃ cargs' r nb, Fa WkA cargs cargs' ∧ Con P f cargs' r nb ∧ ((scalA r = true ∧ nb = [] ∧ K r bk) ∨ K (shA bk'.length r) (bk' ++ nb)) := ⟨cs, r, [], hw, hc, .inl ⟨hs, rfl, k⟩⟩
/-- A result that holds slices: what was handed over stays as it is. -/
theorem callP {P : Program} {f : FuncId} {cargs cs : List AV} {r : AV} {bk bk' : List Blk} {K : AV → List Blk → Prop} (hc : Con P f cs r []) (hw : Fa WkA cargs cs) (hr : ∀ n, shA n r = r) (k : K r bk') :
    ∃ cargs' r nb, Fa WkA cargs cargs' ∧ Con P f cargs' r nb ∧ ((scalA r = true ∧ nb = [] ∧ K r bk) ∨ K (shA bk'.length r) (bk' ++ nb)) := ⟨cs, r, [], hw, hc, .inr (by rw [hr, List.append_nil]; exact k)⟩
theorem callU {P : Program} {f : FuncId} {cargs : List AV} {r : AV} {bk bk' : List Blk} {K : AV → List Blk → Prop} (hc : Con P f cargs r []) (hr : ∀ n, shA n r = r) (k : K r bk') :
    ∃ cargs' r nb, Fa WkA cargs cargs' ∧ Con P f cargs' r nb ∧ ((scalA r = true ∧ nb = [] ∧ K r bk) ∨ K (shA bk'.length r) (bk' ++ nb)) := callP hc (wk_refl _) hr k
/-- What is left where a walk ends. -/
structure Fin {α : Type} (x y : α) : Prop where
  out : x = y
theorem finB {x y : Bool} (h : Fin x y) : ∃ zs, Fa WkA [Bl x] zs ∧ pack zs = some (Bl y) := retB h.out
theorem finI {x y : Int} (h : Fin x y) : ∃ zs, Fa WkA [Go.Rx.I x] zs ∧ pack zs = some (Go.Rx.I y) := retI h.out
theorem finA {xs : List AV} {y : AV} (h : Fin (pack xs) (some y)) : ∃ zs, Fa WkA xs zs ∧ pack zs = some y := ⟨xs, wk_refl _, h.out⟩
theorem retA {xs : List AV} {y : AV} (h : pack xs = some y) : ∃ zs, Fa WkA xs zs ∧ pack zs = some y := ⟨xs, wk_refl _, h⟩
theorem wkN (sz : Nat) : WkL (.pv (.sc (.slice none 0 0))) (.pv (.sl sz [])) := .inr ⟨rfl, sz, rfl⟩
theorem wkE (l : Lf) : WkL l l := .inl rfl

/-- A callee's contract in the kit's own form, for plain values. -/
theorem Con.plain {P : Program} {f : FuncId} {vs : List Value} {v : Value} (hn : fnOK P f = true) (hv : v.oneCell' = true) (h : ∀ w, Calls P f vs.toArray w fun e w' => e = .returned v ∧ Go.RowKit.Below w.heap.size w w') : Con P f (vs.map sc) (sc v) [] := by
  refine ⟨hn, rfl, fun w S us hS hargs => ?_⟩
  have hus : us = vs := by
    have : ∀ {vs us : List Value}, Fa (RepA (Gh.base S) [] w) (vs.map sc) us → us = vs := fun {vs} => by
      induction vs with
      | nil => intro us h; cases us with
        | nil => rfl
        | cons u us => exact h.elim
      | cons v vs ih => intro us h; cases us with
        | nil => exact h.elim
        | cons u us => rw [(sc_rep h.1).1, ih h.2]
    exact this hargs
  subst hus
  refine (h w).mono ?_
  rintro e w' ⟨rfl, hb⟩
  exact ⟨v, Gh.base S, rfl, RepP.sc v hv, ⟨fun b B hb => by simp at hb, fun b b' g hb => by simp at hb, fun g o b hs ha => absurd (alive_lt ha) (by simp), fun g o hs => Nat.lt_of_lt_of_le (hS g o hs) hb.size, fun b g hb => by simp at hb, fun b g hb => by simp at hb,
    fun g o hs => hs, fun g o hs => .inl hs, hb.os, hb.tape, hb.output, hb.size, fun g hg _ => hb.block g hg, Nat.le_refl _⟩⟩
theorem Con.plains {P : Program} {f : FuncId} {vs rs : List Value} (hn : fnOK P f = true) (hv : ∀ v ∈ rs, v.oneCell' = true) (h : ∀ w, Calls P f vs.toArray w fun e w' => e = .returned (.tuple rs.toArray) ∧ Go.RowKit.Below w.heap.size w w') :
    Con P f (vs.map sc) (.tup (rs.map fun v => .lf (lsc v))) [] := by
  refine ⟨hn, rfl, fun w S us hS hargs => ?_⟩
  have hus : us = vs := by
    have : ∀ {vs us : List Value}, Fa (RepA (Gh.base S) [] w) (vs.map sc) us → us = vs := fun {vs} => by
      induction vs with
      | nil => intro us h; cases us with
        | nil => rfl
        | cons u us => exact h.elim
      | cons v vs ih => intro us h; cases us with
        | nil => exact h.elim
        | cons u us => rw [(sc_rep h.1).1, ih h.2]
    exact this hargs
  subst hus
  refine (h w).mono ?_
  rintro e w' ⟨rfl, hb⟩
  have hf : ∀ {rs : List Value}, (∀ v ∈ rs, v.oneCell' = true) → Fa (RepT (Gh.base S) [] w') (rs.map fun v => .lf (lsc v)) rs := fun {rs} => by
    induction rs with
    | nil => intro _; trivial
    | cons v rs ih => intro h; exact ⟨RepP.sc v (h v (by simp)), ih fun u hu => h u (by simp [hu])⟩
  exact ⟨_, Gh.base S, rfl, ⟨rs, rfl, hf hv⟩, ⟨fun b B hb => by simp at hb, fun b b' g hb => by simp at hb, fun g o b hs ha => absurd (alive_lt ha) (by simp), fun g o hs => Nat.lt_of_lt_of_le (hS g o hs) hb.size, fun b g hb => by simp at hb, fun b g hb => by simp at hb,
    fun g o hs => hs, fun g o hs => .inl hs, hb.os, hb.tape, hb.output, hb.size, fun g hg _ => hb.block g hg, Nat.le_refl _⟩⟩

theorem baEq (x y : ByteArray) : (x == y) = decide (x = y) := by
  rw [beq_toListBytes, Bool.eq_iff_iff, beq_iff_eq, decide_eq_true_eq, ByteArray.toList_eq, ByteArray.toList_eq]
  exact ⟨fun h => ByteArray.ext (Array.toList_inj.mp h), fun h => by rw [h]⟩
instance : ReflBEq ByteArray := ⟨by intro a; rw [baEq]; exact decide_eq_true rfl⟩
instance : LawfulBEq ByteArray := ⟨fun h => by rw [baEq] at h; exact of_decide_eq_true h⟩
/-! ### Data -/
structure Step where
  nm : ByteArray
  service : Int
  op : ByteArray
  undo : ByteArray
  who : ByteArray
  n : Int
theorem Step.eq_of {a b : Step} (h : a.nm = b.nm ∧ a.service = b.service ∧ a.op = b.op ∧ a.undo = b.undo ∧ a.who = b.who ∧ a.n = b.n) : a = b := by cases a; cases b; simp_all
instance : DecidableEq Step := fun a b => decidable_of_iff (a.nm = b.nm ∧ a.service = b.service ∧ a.op = b.op ∧ a.undo = b.undo ∧ a.who = b.who ∧ a.n = b.n) ⟨Step.eq_of, fun h => by subst h; simp⟩
def Step.enc (s : Step) : List PV := [pS s.nm, pI s.service, pS s.op, pS s.undo, pS s.who, pI s.n]
abbrev encSteps (l : List Step) : PV := .sl 6 (l.map Step.enc)
structure Rec where
  kind : Int
  id : Int
  n : Int
  key : ByteArray
  body : ByteArray
  steps : List Step
abbrev Rec.enc (r : Rec) : List PV := [pI r.kind, pI r.id, pI r.n, pS r.key, pS r.body, encSteps r.steps]
abbrev encRec (r : Rec) : AV := .agg [.pv (pI r.kind), .pv (pI r.id), .pv (pI r.n), .pv (pS r.key), .pv (pS r.body), .pv (encSteps r.steps)]
structure Saga where
  id : Int
  key : ByteArray
  body : ByteArray
  steps : List Step
  done : Int
  out : Bool
  back : Bool
  left : Int
  status : Int
abbrev Saga.enc (s : Saga) : List PV := [pI s.id, pS s.key, pS s.body, encSteps s.steps, pI s.done, pB s.out, pB s.back, pI s.left, pI s.status]
abbrev encSaga (s : Saga) : AV := .agg [.pv (pI s.id), .pv (pS s.key), .pv (pS s.body), .pv (encSteps s.steps), .pv (pI s.done), .pv (pB s.out), .pv (pB s.back), .pv (pI s.left), .pv (pI s.status)]
theorem Rec.eq_of {a b : Rec} (h : a.kind = b.kind ∧ a.id = b.id ∧ a.n = b.n ∧ a.key = b.key ∧ a.body = b.body ∧ a.steps = b.steps) : a = b := by cases a; cases b; simp_all
instance : DecidableEq Rec := fun a b => decidable_of_iff (a.kind = b.kind ∧ a.id = b.id ∧ a.n = b.n ∧ a.key = b.key ∧ a.body = b.body ∧ a.steps = b.steps) ⟨Rec.eq_of, fun h => by subst h; simp⟩
theorem Saga.eq_of {a b : Saga} (h : a.id = b.id ∧ a.key = b.key ∧ a.body = b.body ∧ a.steps = b.steps ∧ a.done = b.done ∧ a.out = b.out ∧ a.back = b.back ∧ a.left = b.left ∧ a.status = b.status) : a = b := by cases a; cases b; simp_all
instance : DecidableEq Saga := fun a b => decidable_of_iff (a.id = b.id ∧ a.key = b.key ∧ a.body = b.body ∧ a.steps = b.steps ∧ a.done = b.done ∧ a.out = b.out ∧ a.back = b.back ∧ a.left = b.left ∧ a.status = b.status) ⟨Saga.eq_of, fun h => by subst h; simp⟩
theorem stepEq (x y : Step) : ((x.nm == y.nm) && ((x.service == y.service) && ((x.op == y.op) && ((x.undo == y.undo) && ((x.who == y.who) && ((x.n == y.n) && true)))))) = decide (x = y) := by
  rw [Bool.eq_iff_iff]
  simp only [Bool.and_eq_true, beq_iff_eq, decide_eq_true_eq, and_true]
  exact ⟨Step.eq_of, fun h => by subst h; simp⟩
theorem recEq (a b : Rec) : decide (a = b) = (a.kind == b.kind && a.id == b.id && a.n == b.n && a.key == b.key && a.body == b.body && decide (a.steps = b.steps)) := by
  rw [Bool.eq_iff_iff]
  simp only [Bool.and_eq_true, beq_iff_eq, decide_eq_true_eq]
  exact ⟨fun h => by subst h; simp, fun h => Rec.eq_of ⟨h.1.1.1.1.1, h.1.1.1.1.2, h.1.1.1.2, h.1.1.2, h.1.2, h.2⟩⟩
theorem sagaEq (a b : Saga) : decide (a = b) = (a.id == b.id && a.key == b.key && a.body == b.body && decide (a.steps = b.steps) && a.done == b.done && a.out == b.out && a.back == b.back && a.left == b.left && a.status == b.status) := by
  rw [Bool.eq_iff_iff]
  simp only [Bool.and_eq_true, beq_iff_eq, decide_eq_true_eq]
  exact ⟨fun h => by subst h; simp, fun h => Saga.eq_of ⟨h.1.1.1.1.1.1.1.1, h.1.1.1.1.1.1.1.2, h.1.1.1.1.1.1.2, h.1.1.1.1.1.2, h.1.1.1.1.2, h.1.1.1.2, h.1.1.2, h.1.2, h.2⟩⟩
/-- May a saga end so? -/
def endsB (s : Saga) (st : Int) : Bool :=
  if st = 0 then true else if st = 1 then !s.back && s.done == s.steps.length && !s.out else if st = 2 then s.back && s.left == 0 else if st = 3 then s.back && decide (0 < s.left) else false
def mostI (s : Saga) : Int := if s.out then s.done + 1 else s.done
theorem wrapI {n : Int} (h : -9223372036854775808 ≤ n ∧ n ≤ 9223372036854775807) : IntKind.i64.wrap n = n := Go.IntWalk.i64_in n h
theorem take_succ' {α : Type} {l : List α} {k : Nat} (h : k < l.length) : l.take (k + 1) = l.take k ++ [l[k]] := List.take_succ_eq_append_getElem h
end Go.Rx
