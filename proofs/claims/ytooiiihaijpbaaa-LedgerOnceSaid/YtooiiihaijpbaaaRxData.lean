/- The program's own data as plain Lean, and what may be, in plain Lean: no program here. -/
import Derived.Test.YtooiiihaijpbaaaRxR
namespace Go.Rx

/-! ### Words for calls and ends -/
theorem callS {P : Program} {f : FuncId} {cargs : List AV} {r : AV} {bk bk' : List Blk} {K : AV → List Blk → Prop} (hc : Con P f cargs r []) (hs : scalA r = true) (k : K r bk) :
    ∃ cargs' r nb, Fa WkA cargs cargs' ∧ Con P f cargs' r nb ∧ ((scalA r = true ∧ nb = [] ∧ K r bk) ∨ K (shA bk'.length r) (bk' ++ nb)) := ⟨cargs, r, [], wk_refl _, hc, .inl ⟨hs, rfl, k⟩⟩
theorem callW {P : Program} {f : FuncId} {cargs cs : List AV} {r : AV} {bk bk' : List Blk} {K : AV → List Blk → Prop} (hc : Con P f cs r []) (hw : Fa WkA cargs cs) (hs : scalA r = true) (k : K r bk) :
    ∃ cargs' r nb, Fa WkA cargs cargs' ∧ Con P f cargs' r nb ∧ ((scalA r = true ∧ nb = [] ∧ K r bk) ∨ K (shA bk'.length r) (bk' ++ nb)) := ⟨cs, r, [], hw, hc, .inl ⟨hs, rfl, k⟩⟩
/-- A result that holds slices: what was handed over stays as it is. -/
theorem callP {P : Program} {f : FuncId} {cargs cs : List AV} {r : AV} {bk bk' : List Blk} {K : AV → List Blk → Prop} (hc : Con P f cs r []) (hw : Fa WkA cargs cs) (hr : ∀ n, shA n r = r) (k : K r bk') :
    ∃ cargs' r nb, Fa WkA cargs cargs' ∧ Con P f cargs' r nb ∧ ((scalA r = true ∧ nb = [] ∧ K r bk) ∨ K (shA bk'.length r) (bk' ++ nb)) := ⟨cs, r, [], hw, hc, .inr (by rw [hr, List.append_nil]; exact k)⟩
theorem callU {P : Program} {f : FuncId} {cargs : List AV} {r : AV} {bk bk' : List Blk} {K : AV → List Blk → Prop} (hc : Con P f cargs r []) (hr : ∀ n, shA n r = r) (k : K r bk') :
    ∃ cargs' r nb, Fa WkA cargs cargs' ∧ Con P f cargs' r nb ∧ ((scalA r = true ∧ nb = [] ∧ K r bk) ∨ K (shA bk'.length r) (bk' ++ nb)) := callP hc (wk_refl _) hr k
/-- A call to which blocks are lent: idx says which of the caller's. -/
theorem callG {P : Program} {f : FuncId} {args cargs cargs' : List AV} {r : AV} {bk B0 B1 : List Blk} {K : AV → List Blk → Prop} (idx : List Nat) (hc : ConG P f B0 cargs' r B1) (hn : nodupB idx = true) (hB : pickB idx bk idx = some B0) (hr : renAs idx args = some cargs) (hw : Fa WkA cargs cargs')
    (k : K (bkA idx bk.length r) (bkBs idx bk B1)) :
    ∃ idx B0 cargs cargs' r B1, idx.Nodup ∧ pickB idx bk idx = some B0 ∧ renAs idx args = some cargs ∧ Fa WkA cargs cargs' ∧ ConG P f B0 cargs' r B1 ∧ K (bkA idx bk.length r) (bkBs idx bk B1) :=
  ⟨idx, B0, cargs, cargs', r, B1, nodupB_ok hn, hB, hr, hw, hc, k⟩
/-- What is left where a walk ends. -/
structure Fin {α : Type} (x y : α) : Prop where
  out : x = y
theorem finB {x y : Bool} (h : Fin x y) : ∃ zs, Fa WkA [Bl x] zs ∧ pack zs = some (Bl y) := retB h.out
theorem finI {x y : Int} (h : Fin x y) : ∃ zs, Fa WkA [Go.Rx.I x] zs ∧ pack zs = some (Go.Rx.I y) := retI h.out
theorem finA {xs : List AV} {y : AV} (h : Fin (pack xs) (some y)) : ∃ zs, Fa WkA xs zs ∧ pack zs = some y := ⟨xs, wk_refl _, h.out⟩
theorem retA {xs : List AV} {y : AV} (h : pack xs = some y) : ∃ zs, Fa WkA xs zs ∧ pack zs = some y := ⟨xs, wk_refl _, h⟩
theorem wkPN (sz : Nat) : WkP (.sc (.slice none 0 0)) (.sl sz []) := fun S w v h => by cases h; exact .nil sz
theorem wkPE (p : PV) : WkP p p := fun _ _ _ h => h
/-- Rows, one by one. -/
theorem wkPR {sz : Nat} {rows rows' : List (List PV)} (h : Fa (Fa WkP) rows rows') : WkP (.sl sz rows) (.sl sz rows') := fun S w v hv => by
  have hl := h.length
  have back : ∀ {j r' c q}, rows'[j]? = some r' → r'[c]? = some q → ∃ r p, rows[j]? = some r ∧ r[c]? = some p ∧ WkP p q := fun {j r' c q} hj hc => by
    have hjl : j < rows.length := by rw [hl]; exact (List.getElem?_eq_some_iff.1 hj).1
    obtain ⟨r2, h1, h2⟩ := h.get (List.getElem?_eq_getElem hjl)
    rw [hj] at h1
    cases h1
    have hcl : c < rows[j].length := by rw [h2.length]; exact (List.getElem?_eq_some_iff.1 hc).1
    obtain ⟨q2, h3, h4⟩ := h2.get (List.getElem?_eq_getElem hcl)
    rw [hc] at h3
    cases h3
    exact ⟨_, _, List.getElem?_eq_getElem hjl, List.getElem?_eq_getElem hcl, h4⟩
  have none : rows = [] → rows' = [] := fun e => List.eq_nil_of_length_eq_zero (by rw [← hl, e]; rfl)
  generalize hr : rows = rw at hv
  cases hv with
  | nil => rw [none hr]; exact .nil sz
  | emp _ a cap => rw [none hr]; exact .emp sz a cap
  | sl _ g o cap _ vs hc hu hm hrp =>
    subst hr
    rw [hl]
    refine .sl sz g o cap rows' vs (by omega) (fun r' hr' => ?_) (fun j r' c q hj hcq => ?_) (fun j r' c q hj hcq => ?_)
    · obtain ⟨j, hj⟩ := List.getElem?_of_mem hr'
      have hjl : j < rows.length := by rw [hl]; exact (List.getElem?_eq_some_iff.1 hj).1
      obtain ⟨r2, h1, h2⟩ := h.get (List.getElem?_eq_getElem hjl)
      rw [hj] at h1
      cases h1
      rw [← h2.length]
      exact hu _ (List.getElem_mem hjl)
    · obtain ⟨r, p, h1, h2, _⟩ := back hj hcq
      exact hm j r c p h1 h2
    · obtain ⟨r, p, h1, h2, h3⟩ := back hj hcq
      exact h3 _ _ _ (hrp j r c p h1 h2)
theorem fa_refl {α : Type} {R : α → α → Prop} (h : ∀ a, R a a) : ∀ l : List α, Fa R l l
  | [] => trivial
  | a :: l => ⟨h a, fa_refl h l⟩
theorem fa_maps {α β : Type} {R : β → β → Prop} {f g : α → β} (h : ∀ a, R (f a) (g a)) : ∀ l : List α, Fa R (l.map f) (l.map g)
  | [] => trivial
  | a :: l => ⟨h a, fa_maps h l⟩
theorem wkR {sz : Nat} {rows rows' : List (List PV)} (h : Fa (Fa WkP) rows rows') : WkL (.pv (.sl sz rows)) (.pv (.sl sz rows')) := .inr ⟨_, _, rfl, rfl, wkPR h⟩
theorem wkN (sz : Nat) : WkL (.pv (.sc (.slice none 0 0))) (.pv (.sl sz [])) := .inr ⟨_, _, rfl, rfl, wkPN sz⟩
theorem wkE (l : Lf) : WkL l l := .inl rfl

/-- A callee's contract in the kit's own form, for plain values. -/
theorem Con.plain {P : Program} {f : FuncId} {vs : List Value} {v : Value} (hn : fnOK P f = true) (hv : v.oneCell' = true) (h : ∀ w, Calls P f vs.toArray w fun e w' => e = .returned v ∧ Go.RowKit.Below w.heap.size w w') : Con P f (vs.map sc) (sc v) [] := by
  refine ⟨hn, rfl, fun w S us hS hargs => ?_⟩
  have hus : us = vs := by
    have : ∀ {vs us : List Value}, Fa (RepA (Gh.base S) [] w) (vs.map sc) us → us = vs := fun {vs} => by
      induction vs with
      | nil => intro us h; cases us with
        | nil => rfl
        | cons u us => exact h.elim
      | cons v vs ih => intro us h; cases us with
        | nil => exact h.elim
        | cons u us => rw [(sc_rep h.1).1, ih h.2]
    exact this hargs
  subst hus
  refine (h w).mono ?_
  rintro e w' ⟨rfl, hb⟩
  exact ⟨v, Gh.base S, rfl, RepP.sc v hv, ⟨fun b B hb => by simp at hb, fun b b' g hb => by simp at hb, fun g o b hs ha => absurd (alive_lt ha) (by simp), fun g o hs => Nat.lt_of_lt_of_le (hS g o hs) hb.size, fun b g hb => by simp at hb, fun b g hb => by simp at hb,
    fun g o hs => hs, fun g o hs => .inl hs, hb.os, hb.tape, hb.output, hb.size, fun g hg _ => hb.block g hg, Nat.le_refl _, ⟨fun g o hs => hs, fun g o hs => World.cell?_of_block (a := ⟨g, o, none⟩) (hb.block g (hS g o hs)), Nat.le_refl _, fun b hb => absurd hb (Nat.not_lt_zero _), fun b sz rows h => (by unfold rowsOf at h; simp [Ctx.base] at h)⟩⟩⟩
theorem Con.plains {P : Program} {f : FuncId} {vs rs : List Value} (hn : fnOK P f = true) (hv : ∀ v ∈ rs, v.oneCell' = true) (h : ∀ w, Calls P f vs.toArray w fun e w' => e = .returned (.tuple rs.toArray) ∧ Go.RowKit.Below w.heap.size w w') :
    Con P f (vs.map sc) (.tup (rs.map fun v => .lf (lsc v))) [] := by
  refine ⟨hn, rfl, fun w S us hS hargs => ?_⟩
  have hus : us = vs := by
    have : ∀ {vs us : List Value}, Fa (RepA (Gh.base S) [] w) (vs.map sc) us → us = vs := fun {vs} => by
      induction vs with
      | nil => intro us h; cases us with
        | nil => rfl
        | cons u us => exact h.elim
      | cons v vs ih => intro us h; cases us with
        | nil => exact h.elim
        | cons u us => rw [(sc_rep h.1).1, ih h.2]
    exact this hargs
  subst hus
  refine (h w).mono ?_
  rintro e w' ⟨rfl, hb⟩
  have hf : ∀ {rs : List Value}, (∀ v ∈ rs, v.oneCell' = true) → Fa (RepT (Gh.base S) [] w') (rs.map fun v => .lf (lsc v)) rs := fun {rs} => by
    induction rs with
    | nil => intro _; trivial
    | cons v rs ih => intro h; exact ⟨RepP.sc v (h v (by simp)), ih fun u hu => h u (by simp [hu])⟩
  exact ⟨_, Gh.base S, rfl, ⟨rs, rfl, hf hv⟩, ⟨fun b B hb => by simp at hb, fun b b' g hb => by simp at hb, fun g o b hs ha => absurd (alive_lt ha) (by simp), fun g o hs => Nat.lt_of_lt_of_le (hS g o hs) hb.size, fun b g hb => by simp at hb, fun b g hb => by simp at hb,
    fun g o hs => hs, fun g o hs => .inl hs, hb.os, hb.tape, hb.output, hb.size, fun g hg _ => hb.block g hg, Nat.le_refl _, ⟨fun g o hs => hs, fun g o hs => World.cell?_of_block (a := ⟨g, o, none⟩) (hb.block g (hS g o hs)), Nat.le_refl _, fun b hb => absurd hb (Nat.not_lt_zero _), fun b sz rows h => (by unfold rowsOf at h; simp [Ctx.base] at h)⟩⟩⟩

theorem baEq (x y : ByteArray) : (x == y) = decide (x = y) := by
  rw [beq_toListBytes, Bool.eq_iff_iff, beq_iff_eq, decide_eq_true_eq, ByteArray.toList_eq, ByteArray.toList_eq]
  exact ⟨fun h => ByteArray.ext (Array.toList_inj.mp h), fun h => by rw [h]⟩
instance : ReflBEq ByteArray := ⟨by intro a; rw [baEq]; exact decide_eq_true rfl⟩
instance : LawfulBEq ByteArray := ⟨fun h => by rw [baEq] at h; exact of_decide_eq_true h⟩
/-! ### Data -/
structure Step where
  nm : ByteArray
  service : Int
  op : ByteArray
  undo : ByteArray
  who : ByteArray
  n : Int
theorem Step.eq_of {a b : Step} (h : a.nm = b.nm ∧ a.service = b.service ∧ a.op = b.op ∧ a.undo = b.undo ∧ a.who = b.who ∧ a.n = b.n) : a = b := by cases a; cases b; simp_all
instance : DecidableEq Step := fun a b => decidable_of_iff (a.nm = b.nm ∧ a.service = b.service ∧ a.op = b.op ∧ a.undo = b.undo ∧ a.who = b.who ∧ a.n = b.n) ⟨Step.eq_of, fun h => by subst h; simp⟩
def Step.enc (s : Step) : List PV := [pS s.nm, pI s.service, pS s.op, pS s.undo, pS s.who, pI s.n]
abbrev encSteps (l : List Step) : PV := .sl 6 (l.map Step.enc)
structure Rec where
  kind : Int
  id : Int
  n : Int
  key : ByteArray
  body : ByteArray
  steps : List Step
abbrev Rec.enc (r : Rec) : List PV := [pI r.kind, pI r.id, pI r.n, pS r.key, pS r.body, encSteps r.steps]
abbrev encRec (r : Rec) : AV := .agg [.pv (pI r.kind), .pv (pI r.id), .pv (pI r.n), .pv (pS r.key), .pv (pS r.body), .pv (encSteps r.steps)]
structure Saga where
  id : Int
  key : ByteArray
  body : ByteArray
  steps : List Step
  done : Int
  out : Bool
  back : Bool
  left : Int
  status : Int
abbrev Saga.enc (s : Saga) : List PV := [pI s.id, pS s.key, pS s.body, encSteps s.steps, pI s.done, pB s.out, pB s.back, pI s.left, pI s.status]
abbrev encSaga (s : Saga) : AV := .agg [.pv (pI s.id), .pv (pS s.key), .pv (pS s.body), .pv (encSteps s.steps), .pv (pI s.done), .pv (pB s.out), .pv (pB s.back), .pv (pI s.left), .pv (pI s.status)]
theorem Rec.eq_of {a b : Rec} (h : a.kind = b.kind ∧ a.id = b.id ∧ a.n = b.n ∧ a.key = b.key ∧ a.body = b.body ∧ a.steps = b.steps) : a = b := by cases a; cases b; simp_all
instance : DecidableEq Rec := fun a b => decidable_of_iff (a.kind = b.kind ∧ a.id = b.id ∧ a.n = b.n ∧ a.key = b.key ∧ a.body = b.body ∧ a.steps = b.steps) ⟨Rec.eq_of, fun h => by subst h; simp⟩
theorem Saga.eq_of {a b : Saga} (h : a.id = b.id ∧ a.key = b.key ∧ a.body = b.body ∧ a.steps = b.steps ∧ a.done = b.done ∧ a.out = b.out ∧ a.back = b.back ∧ a.left = b.left ∧ a.status = b.status) : a = b := by cases a; cases b; simp_all
instance : DecidableEq Saga := fun a b => decidable_of_iff (a.id = b.id ∧ a.key = b.key ∧ a.body = b.body ∧ a.steps = b.steps ∧ a.done = b.done ∧ a.out = b.out ∧ a.back = b.back ∧ a.left = b.left ∧ a.status = b.status) ⟨Saga.eq_of, fun h => by subst h; simp⟩
theorem stepEq (x y : Step) : ((x.nm == y.nm) && ((x.service == y.service) && ((x.op == y.op) && ((x.undo == y.undo) && ((x.who == y.who) && ((x.n == y.n) && true)))))) = decide (x = y) := by
  rw [Bool.eq_iff_iff]
  simp only [Bool.and_eq_true, beq_iff_eq, decide_eq_true_eq, and_true]
  exact ⟨Step.eq_of, fun h => by subst h; simp⟩
theorem recEq (a b : Rec) : decide (a = b) = (a.kind == b.kind && a.id == b.id && a.n == b.n && a.key == b.key && a.body == b.body && decide (a.steps = b.steps)) := by
  rw [Bool.eq_iff_iff]
  simp only [Bool.and_eq_true, beq_iff_eq, decide_eq_true_eq]
  exact ⟨fun h => by subst h; simp, fun h => Rec.eq_of ⟨h.1.1.1.1.1, h.1.1.1.1.2, h.1.1.1.2, h.1.1.2, h.1.2, h.2⟩⟩
theorem sagaEq (a b : Saga) : decide (a = b) = (a.id == b.id && a.key == b.key && a.body == b.body && decide (a.steps = b.steps) && a.done == b.done && a.out == b.out && a.back == b.back && a.left == b.left && a.status == b.status) := by
  rw [Bool.eq_iff_iff]
  simp only [Bool.and_eq_true, beq_iff_eq, decide_eq_true_eq]
  exact ⟨fun h => by subst h; simp, fun h => Saga.eq_of ⟨h.1.1.1.1.1.1.1.1, h.1.1.1.1.1.1.1.2, h.1.1.1.1.1.1.2, h.1.1.1.1.1.2, h.1.1.1.1.2, h.1.1.1.2, h.1.1.2, h.1.2, h.2⟩⟩
/-- May a saga end so? -/
def endsB (s : Saga) (st : Int) : Bool :=
  if st = 0 then true else if st = 1 then !s.back && s.done == s.steps.length && !s.out else if st = 2 then s.back && s.left == 0 else if st = 3 then s.back && decide (0 < s.left) else false
def mostI (s : Saga) : Int := if s.out then s.done + 1 else s.done
theorem wrapI {n : Int} (h : -9223372036854775808 ≤ n ∧ n ≤ 9223372036854775807) : IntKind.i64.wrap n = n := Go.IntWalk.i64_in n h
theorem take_succ' {α : Type} {l : List α} {k : Nat} (h : k < l.length) : l.take (k + 1) = l.take k ++ [l[k]] := List.take_succ_eq_append_getElem h
end Go.Rx
