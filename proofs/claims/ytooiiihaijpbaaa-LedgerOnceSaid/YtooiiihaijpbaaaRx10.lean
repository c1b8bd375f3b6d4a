/- Code: what holds behind it. -/
import Derived.Test.YtooiiihaijpbaaaRxK
import Derived.Tactics
set_option linter.unusedVariables false
set_option linter.unusedSimpArgs false
namespace Go.Rx
open Go.RowKit

abbrev Slots := Nat → AV
/-- The slot that a guard looks at. -/
def gslot (ops : Array Oper) (j : Nat) : Option Nat := (ops[j]?).bind (·.dst)
/-- An operation that may be guarded. -/
def guardK (ops : Array Oper) (g : Option (Nat × Bool)) (sl : Slots) (run : Slots → Prop) (skip : Slots → Prop) : Prop :=
  match g with
  | none => run sl
  | some (j, want) =>
    match gslot ops j with
    | none => False
    | some d =>
      match sl d with
      | .lf (.pv (.sc (.bool b))) =>
        (match b with
         | true => (match want with | true => run (put sl d (sc (.bool true))) | false => skip (put sl d (sc (.bool true))))
         | false => (match want with | true => skip (put sl d (sc (.bool false))) | false => run (put sl d (sc (.bool false)))))
      | .tup [] => skip sl
      | _ => False
def arOp (P : Program) (T : Tab) (ops : Array Oper) (o : Oper) (sl : Slots) (bk : List Blk) (K : Slots → List Blk → Prop) : Prop :=
  guardK ops o.guard sl (fun sl => opV P T o.op (ev sl) bk fun x bk => K (putO sl o.dst x) bk) (fun sl => K (putO sl o.dst (.tup [])) bk)
/-- The same; where a slice of the call's own is cut short, it may stay the call's own. -/
def arCut (P : Program) (T : Tab) (ops : Array Oper) (o : Oper) (sl : Slots) (bk : List Blk) (K : Slots → List Blk → Prop) : Prop :=
  match o.op, o.guard with
  | .slice t x none (some hi) none, none =>
    (match ev sl x with
     | .lf (.own _ _) => cutK T t x hi (ev sl) bk (fun y bk => K (putO sl o.dst y) bk) ∨ arOp P T ops o sl bk K
     | _ => arOp P T ops o sl bk K)
  | _, _ => arOp P T ops o sl bk K
def awpOps (P : Program) (T : Tab) (ops : Array Oper) : List Oper → Slots → List Blk → (Slots → List Blk → Prop) → Prop
  | [], sl, bk, K => K sl bk
  | o :: rest, sl, bk, K => arCut P T ops o sl bk fun sl bk => awpOps P T ops rest sl bk K

abbrev Post := Exit → Slots → List Blk → Prop
/-- How many slots there are, and how many blocks were handed over. -/
structure Fr where
  n : Nat
  m : Nat
/-- Behind code c, begun where these slots and blocks are known, Q holds. -/
structure AW (P : Program) (n : Fr) (c : Code) (Q : Post) (sl : Slots) (bk : List Blk) : Prop where
  out : ∀ (C : Ctx) (G : Gh) (a : Act) (w : World), C.n = n.n ∧ C.m = n.m → Rel C G sl bk a w → c.wp P (fun e a' w' => Ok C (Q e) a' w') a w
def thenQ (Q : Slots → List Blk → Prop) (R : Post) : Post
  | .normal => Q
  | e => R e
def inBlk (id : Nat) (Q : Post) : Post
  | .exit id' => (match Nat.beq id' id with | true => Q .normal | false => Q (.exit id'))
  | e => Q e
/-- What a test has told of a slot. -/
def know (sl : Slots) (c : Operand) (b : Bool) : Slots := match c with | .tmp d => put sl d (sc (.bool b)) | _ => sl
/-- The same, by the form of the code; loops and regions that draw their order are left as they are. -/
def awp (P : Program) (n : Fr) (T : Tab) : Code → Post → Slots → List Blk → Prop
  | .skip, Q, sl, bk => Q .normal sl bk
  | .region id ops draw, Q, sl, bk =>
    (match draw with
     | false => awpOps P T ops ops.toList sl bk (Q .normal)
     | true => AW P n (.region id ops true) Q sl bk)
  | .seq a b, Q, sl, bk => awp P n T a (thenQ (awp P n T b Q) Q) sl bk
  | .cond c x y, Q, sl, bk =>
    (match ev sl c with
     | .lf (.pv (.sc (.bool b))) => (match b with | true => awp P n T x Q (know sl c true) bk | false => awp P n T y Q (know sl c false) bk)
     | _ => False)
  | .block id c, Q, sl, bk => awp P n T c (inBlk id Q) sl bk
  | .exit id, Q, sl, bk => Q (.exit id) sl bk
  | .ret, Q, sl, bk => Q .ret sl bk
  | c, Q, sl, bk => AW P n c Q sl bk
/-- Every slot that is written is there. -/
def dstB (n : Nat) : Code → Bool
  | .region _ ops _ => ops.all fun o => match o.dst with | some d => Nat.blt d n | none => true
  | .seq a b => dstB n a && dstB n b
  | .cond _ a b => dstB n a && dstB n b
  | .block _ c => dstB n c
  | .loop c => dstB n c
  | _ => true

section
variable {P : Program} {T : Tab} {C : Ctx} {G : Gh} {sl : Slots} {bk : List Blk} {a : Act} {w : World} {n : Fr}

theorem put_self {sl : Slots} {d : Nat} {x : AV} (h : sl d = x) : put sl d x = sl := by
  funext t
  unfold put
  split
  · rename_i e; rw [e, h]
  · rfl
theorem know_self {sl : Slots} {c : Operand} {b : Bool} (h : ev sl c = .lf (.pv (.sc (.bool b)))) : know sl c b = sl := by
  cases c with
  | tmp d => exact put_self h
  | _ => rfl
theorem bool_slot (h : Rel C G sl bk a w) {d : Nat} {b : Bool} (e : sl d = sc (.bool b)) : a.tmps.getD d undef = .bool b ∧ a.tmps[d]? = some (.bool b) := by
  have h1 := h.slots d
  rw [e] at h1
  have h2 := (sc_rep h1).1
  refine ⟨h2, ?_⟩
  cases hq : a.tmps[d]? with
  | none => simp [hq, undef] at h2
  | some v => simp [hq] at h2; rw [h2]
/-- What a guard asks: carried out, or not. -/
theorem guardK_sound (h : Rel C G sl bk a w) {ops : Array Oper} {o : Oper} {run skip : Slots → Prop} (hg : guardK ops o.guard sl run skip) :
    (Region.wanted o (yielded ops a.tmps) = true ∧ run sl) ∨ (Region.wanted o (yielded ops a.tmps) = false ∧ skip sl) := by
  unfold guardK at hg
  unfold Region.wanted
  cases hgd : o.guard with
  | none => rw [hgd] at hg; exact .inl ⟨rfl, hg⟩
  | some jw =>
    obtain ⟨j, want⟩ := jw
    rw [hgd] at hg
    simp only at hg
    cases hs : gslot ops j with
    | none => rw [hs] at hg; exact hg.elim
    | some d =>
      rw [hs] at hg
      simp only at hg
      split at hg
      · rename_i b hb
        have hy : yielded ops a.tmps j = some b := by
          unfold yielded
          unfold gslot at hs
          rw [hs, Option.bind_some, (bool_slot h hb).2]
        simp only [hy]
        cases b <;> cases want <;> simp only at hg <;> rw [put_self hb] at hg
        · exact .inl ⟨rfl, hg⟩
        · exact .inr ⟨rfl, hg⟩
        · exact .inr ⟨rfl, hg⟩
        · exact .inl ⟨rfl, hg⟩
      · rename_i hb
        have hy : yielded ops a.tmps j = none := by
          unfold yielded
          unfold gslot at hs
          rw [hs, Option.bind_some]
          have h1 := h.slots d
          rw [hb] at h1
          obtain ⟨us, hv, hf⟩ := h1
          cases us with
          | cons u us => exact hf.elim
          | nil =>
            cases hq : a.tmps[d]? with
            | none => rfl
            | some v => simp [hq] at hv; rw [hv]
        simp only [hy]
        exact .inr ⟨rfl, hg⟩
      · exact hg.elim

theorem arOp_sound (hT : TabOK P T) (h : Rel C G sl bk a w) {ops : Array Oper} {o : Oper} (hd : ∀ k, o.dst = some k → k < C.n) {K : Slots → List Blk → Prop} {K' : Act → World → Prop} {Q : Exit → Act → World → Prop}
    (hK : ∀ a w, Ok C K a w → K' a w) (hk : arOp P T ops o sl bk K) :
    (Region.wanted o (yielded ops a.tmps) = true ∧ o.wp P a w K' Q) ∨ (Region.wanted o (yielded ops a.tmps) = false ∧ K' (a.put o.dst undef) w) := by
  rcases guardK_sound h hk with ⟨hw, hr⟩ | ⟨hw, hs⟩
  · refine .inl ⟨hw, ?_⟩
    have hout := opV_sound hT h.mem (ev_rep h) o hr
    unfold Oper.wp
    generalize (execOp a.eval o).run P w = r at hout
    cases hout with
    | value t m hx hk => exact hK _ _ ⟨_, _, _, hk, h.put_of t m hx o.dst hd⟩
    | skip t m hk => exact hK _ _ ⟨_, _, _, hk, h.put_of t m (x := .un) trivial o.dst hd⟩
    | enter hc =>
      refine hc.mono ?_
      rintro e w' ⟨u, x, G', bk', rfl, t, m, hx, hk⟩
      exact hK _ _ ⟨_, _, _, hk, h.put_of t m hx o.dst hd⟩
  · exact .inr ⟨hw, hK _ _ ⟨G, _, bk, hs, h.put_of (Trn.refl _ _ _) h.mem (x := .tup []) ⟨[], rfl, trivial⟩ o.dst hd⟩⟩

theorem arCut_sound (hT : TabOK P T) (h : Rel C G sl bk a w) {ops : Array Oper} {o : Oper} (hd : ∀ k, o.dst = some k → k < C.n) {K : Slots → List Blk → Prop} {K' : Act → World → Prop} {Q : Exit → Act → World → Prop}
    (hK : ∀ a w, Ok C K a w → K' a w) (hk : arCut P T ops o sl bk K) :
    (Region.wanted o (yielded ops a.tmps) = true ∧ o.wp P a w K' Q) ∨ (Region.wanted o (yielded ops a.tmps) = false ∧ K' (a.put o.dst undef) w) := by
  unfold arCut at hk
  split at hk
  · rename_i t x hi hop hg
    split at hk
    · rcases hk with hk | hk
      · refine .inl ⟨by unfold Region.wanted; rw [hg], ?_⟩
        obtain ⟨dst, op, type, pos, after, guard⟩ := o
        simp only at hop hg
        subst hop
        have hout := cutK_sound (dst := dst) (type := type) (pos := pos) (after := after) (guard := guard) hT h.mem (ev_rep h) hk
        unfold Oper.wp
        generalize (execOp a.eval _).run P w = r at hout
        cases hout with
        | value t m hx hk => exact hK _ _ ⟨_, _, _, hk, h.put_of t m hx dst hd⟩
        | skip t m hk => exact hK _ _ ⟨_, _, _, hk, h.put_of t m (x := .un) trivial dst hd⟩
        | enter hc =>
          refine hc.mono ?_
          rintro e w' ⟨u, x, G', bk', rfl, t, m, hx, hk⟩
          exact hK _ _ ⟨_, _, _, hk, h.put_of t m hx dst hd⟩
      · exact arOp_sound hT h hd hK hk
    · exact arOp_sound hT h hd hK hk
  · exact arOp_sound hT h hd hK hk
theorem awpOps_sound (hT : TabOK P T) {ops : Array Oper} {Q : Exit → Act → World → Prop} {K : Slots → List Blk → Prop} (hQ : ∀ a w, Ok C K a w → Q .normal a w) : ∀ (l : List Oper) {G : Gh} {sl : Slots} {bk : List Blk} {a : Act} {w : World}, (∀ o ∈ l, ∀ k, o.dst = some k → k < C.n) →
    Rel C G sl bk a w → awpOps P T ops l sl bk K → wpList P ops Q l a w
  | [], G, sl, bk, a, w, _, h, hk => hQ _ _ ⟨G, sl, bk, hk, h⟩
  | o :: l, G, sl, bk, a, w, hd, h, hk => by
    unfold wpList
    rcases arCut_sound (Q := Q) hT h (hd o (by simp)) (fun a w ⟨G', sl', bk', hk', h'⟩ => awpOps_sound hT hQ l (fun o ho => hd o (by simp [ho])) h' hk') hk with ⟨hw, h1⟩ | ⟨hw, h1⟩
    · rw [if_pos hw]; exact .inl h1
    · rw [if_neg (by simp [hw])]; exact h1

/-! ### The rules -/
theorem AW.mono {c : Code} {Q R : Post} (h : AW P n c Q sl bk) (hq : ∀ e sl bk, Q e sl bk → R e sl bk) : AW P n c R sl bk :=
  ⟨fun C G a w hn hr => wp_mono (h.out C G a w hn hr) fun e a w ⟨G', sl', bk', hk, h'⟩ => ⟨G', sl', bk', hq _ _ _ hk, h'⟩⟩
theorem AW.seq {x y : Code} {Q : Post} {R : Slots → List Blk → Prop} (h : AW P n x (thenQ R Q) sl bk) (hy : ∀ sl bk, R sl bk → AW P n y Q sl bk) : AW P n (.seq x y) Q sl bk := by
  refine ⟨fun C G a w hn hr => ?_⟩
  refine wp_seq (wp_mono (h.out C G a w hn hr) fun e a w ⟨G', sl', bk', hk, h'⟩ => ?_)
  cases e <;> first
    | exact (hy _ _ hk).out C G' a w hn h'
    | exact ⟨G', sl', bk', hk, h'⟩
theorem AW.block {id : Nat} {c : Code} {Q : Post} (h : AW P n c (inBlk id Q) sl bk) : AW P n (.block id c) Q sl bk := by
  refine ⟨fun C G a w hn hr => ?_⟩
  refine wp_block (wp_mono (h.out C G a w hn hr) fun e a w ⟨G', sl', bk', hk, h'⟩ => ?_)
  cases e with
  | exit id' =>
    simp only [Exit.inBlock]
    simp only [inBlk] at hk
    cases hb : Nat.beq id' id with
    | true => rw [hb] at hk; rw [if_pos (Nat.eq_of_beq_eq_true hb)]; exact ⟨G', sl', bk', hk, h'⟩
    | false =>
      rw [hb] at hk
      have : id' ≠ id := fun e => by subst e; rw [show Nat.beq id' id' = true from Nat.beq_refl id'] at hb; cases hb
      rw [if_neg this]
      exact ⟨G', sl', bk', hk, h'⟩
  | _ => exact ⟨G', sl', bk', hk, h'⟩

theorem aw_of (hT : TabOK P T) : ∀ {c : Code} {Q : Post} {sl : Slots} {bk : List Blk}, dstB n.n c = true → awp P n T c Q sl bk → AW P n c Q sl bk := by
  intro c
  induction c with
  | skip => intro Q sl bk _ h; refine ⟨fun C G a w hn hr => ?_⟩; exact wp_skip ⟨G, sl, bk, h, hr⟩
  | region id ops draw =>
    intro Q sl bk hd h
    cases draw with
    | true => exact h
    | false =>
      refine ⟨fun C G a w hn hr => ?_⟩
      refine wp_region_list (awpOps_sound hT (K := Q .normal) (fun a w h => h) ops.toList (fun o ho k hk => ?_) hr h)
      have := (Array.all_eq_true'.1 hd) o (by simpa using ho)
      rw [hk] at this
      rw [hn.1]
      exact Nat.le_of_ble_eq_true this
  | seq x y ihx ihy =>
    intro Q sl bk hd h
    simp only [dstB, Bool.and_eq_true] at hd
    exact AW.seq (ihx hd.1 h) fun sl bk h => ihy hd.2 h
  | cond c x y ihx ihy =>
    intro Q sl bk hd h
    refine ⟨fun C G a w hn hr => ?_⟩
    simp only [dstB, Bool.and_eq_true] at hd
    simp only [awp] at h
    split at h
    · rename_i b hb
      have h0 := ev_rep hr c
      rw [hb] at h0
      have h1 := (sc_rep h0).1
      cases b with
      | true => rw [know_self hb] at h; exact wp_cond_true h1 ((ihx hd.1 h).out C G a w hn hr)
      | false => rw [know_self hb] at h; exact wp_cond_false h1 ((ihy hd.2 h).out C G a w hn hr)
    · exact h.elim
  | block id c ih => intro Q sl bk hd h; exact AW.block (ih hd h)
  | exit id => intro Q sl bk _ h; refine ⟨fun C G a w hn hr => ?_⟩; exact wp_exit ⟨G, sl, bk, h, hr⟩
  | ret => intro Q sl bk _ h; refine ⟨fun C G a w hn hr => ?_⟩; exact wp_ret ⟨G, sl, bk, h, hr⟩
  | _ => intro Q sl bk _ h; exact h

/-! ### Where ways meet -/
def mkS (l : List (Nat × AV)) : Slots := fun t => (l.lookup t).getD .un
def agree (sl : Slots) : List (Nat × AV) → Prop
  | [] => True
  | (t, x) :: l => sl t = x ∧ agree sl l
def clL (m : Nat) : Lf → Bool
  | .ptr b _ => Nat.blt b m
  | .ept b _ _ _ _ => Nat.blt b m
  | .own b _ => Nat.blt b m
  | _ => true
def clB (m : Nat) : Blk → Bool
  | .var cells => cells.all (clL m)
  | _ => true
def clT (m : Nat) : TC → Bool
  | .lf l => clL m l
  | .agg l => l.all (clL m)
def clA (m : Nat) : AV → Bool
  | .lf l => clL m l
  | .agg l => l.all (clL m)
  | .tup l => l.all (clT m)
  | .un => true
/-- What is known fits what is to be known at a meeting place; blocks that nobody there names are let go. -/
def Fits (m : Nat) (sl : Slots) (bk : List Blk) (S : List (Nat × AV)) (B : List Blk) : Prop :=
  agree sl S ∧ (∃ rest, bk = B ++ rest) ∧ B.all (clB B.length) = true ∧ (S.all (fun p => clA B.length p.2) && Nat.ble m B.length) = true

theorem blt_lt {a b : Nat} (h : Nat.blt a b = true) : a < b := Nat.le_of_ble_eq_true h
theorem clL_rep {B rest : List Blk} {l : Lf} {v : Value} (hc : clL B.length l = true) (h : RepL G (B ++ rest) w l v) : RepL G B w l v := by
  cases l with
  | pv p => exact h
  | ro p => exact h
  | fn f c => exact h
  | ptr b off =>
    have hb := blt_lt hc
    obtain ⟨h1, _, h2⟩ := h
    exact ⟨h1, hb, by rw [rowsOf_append _ hb] at h2; exact h2⟩
  | ept b m i sz off =>
    have hb := blt_lt hc
    obtain ⟨h1, rows, h2, h3⟩ := h
    exact ⟨h1, rows, by rw [rowsOf_append _ hb] at h2; exact h2, h3⟩
  | own b len =>
    have hb := blt_lt hc
    obtain ⟨h1, sz, rows, h2, h3⟩ := h
    exact ⟨h1, sz, rows, by rw [rowsOf_append _ hb] at h2; exact h2, h3⟩
theorem clA_rep {B rest : List Blk} {x : AV} {v : Value} (hc : clA B.length x = true) (h : RepA G (B ++ rest) w x v) : RepA G B w x v := by
  cases x with
  | lf l => exact clL_rep hc h
  | agg l => obtain ⟨us, rfl, hu⟩ := h; exact ⟨us, rfl, fa_all (p := clL B.length) (fun _ _ h1 h2 => clL_rep h1 h2) hc hu⟩
  | tup l =>
    obtain ⟨us, rfl, hu⟩ := h
    refine ⟨us, rfl, fa_all (p := clT B.length) (fun t v h1 h2 => ?_) hc hu⟩
    cases t with
    | lf l => exact clL_rep h1 h2
    | agg l => obtain ⟨us, rfl, hu⟩ := h2; exact ⟨us, rfl, fa_all (p := clL B.length) (fun _ _ h1 h2 => clL_rep h1 h2) h1 hu⟩
  | un => trivial
theorem agree_get {sl : Slots} : ∀ {S : List (Nat × AV)} {t : Nat}, agree sl S → mkS S t = .un ∨ (mkS S t = sl t ∧ ∃ p ∈ S, p.2 = sl t)
  | [], t, _ => .inl rfl
  | (t0, x) :: S, t, h => by
    by_cases e : t = t0
    · subst e
      right
      have : mkS ((t, x) :: S) t = x := by simp [mkS, List.lookup]
      exact ⟨by rw [this, h.1], (t, x), by simp, h.1.symm⟩
    · have : mkS ((t0, x) :: S) t = mkS S t := by
        have hb : (t == t0) = false := by simpa using e
        simp [mkS, List.lookup, hb]
      rw [this]
      rcases agree_get h.2 with h1 | ⟨h1, p, hp, h2⟩
      · exact .inl h1
      · exact .inr ⟨h1, p, by simp [hp], h2⟩
theorem Rel.fits {S : List (Nat × AV)} {B : List Blk} (hr : Rel C G sl bk a w) {m : Nat} (hn : C.m = m) (h : Fits m sl bk S B) : Rel C G (mkS S) B a w := by
  obtain ⟨ha, ⟨rest, rfl⟩, hB, hS⟩ := h
  rw [Bool.and_eq_true] at hS
  have hm : C.m ≤ B.length := by rw [hn]; exact Nat.le_of_ble_eq_true hS.2
  replace hS := hS.1
  have hget : ∀ b, b < B.length → (B ++ rest)[b]? = B[b]? := fun b hb => List.getElem?_append_left hb
  refine ⟨hr.size, hr.dfr, fun t => ?_, ?_⟩
  · rcases agree_get (t := t) ha with h1 | ⟨h1, p, hp, h2⟩
    · rw [h1]; trivial
    · rw [h1]
      have hc := List.all_eq_true.1 hS p hp
      rw [h2] at hc
      exact clA_rep hc (hr.slots t)
  · have k := hr.mem
    have hlt : ∀ b, b < B.length → b < (B ++ rest).length := fun b hb => by simp; omega
    refine ⟨fun b X hb => ?_, fun b b' g hb hb' => k.inj b b' g (hlt b hb) (hlt b' hb'), fun g o b hs hal => k.sdis g o b hs ((alive_append rest (alive_lt hal)).2 hal), k.slt, fun b g hb => k.mlt b g (hlt b hb), fun b g hb => k.new b g (hlt b hb), k.s0, k.snew, k.os, k.tape, k.output, k.size, k.block, hm, k.t0.drop hm⟩
    have hbl := (List.getElem?_eq_some_iff.1 hb).1
    have h0 := k.blk b X (by rw [hget b hbl]; exact hb)
    have hcb := List.all_eq_true.1 hB X (List.mem_of_getElem? hb)
    cases X with
    | var cells => obtain ⟨g, cur, ty, h1, h2, h3⟩ := h0; exact ⟨g, cur, ty, h1, h2, fa_all (p := clL B.length) (fun _ _ h1 h2 => clL_rep h1 h2) hcb h3⟩
    | _ => exact h0

/-- A slice that is nil becomes one of the call's own: before a loop that appends to it. -/
inductive NilAt where
  | slot (t e sz : Nat)
  | cell (b off e sz : Nat)
def nilsK : List NilAt → Slots → List Blk → (Slots → List Blk → Prop) → Prop
  | [], sl, bk, K => K sl bk
  | .slot t e sz :: l, sl, bk, K => sl t = sc (.slice none 0 0) ∧ nilsK l (put sl t (.lf (.own bk.length 0))) (bk ++ [.arr e sz []]) K
  | .cell b off e sz :: l, sl, bk, K =>
    (match bk[b]? with
     | some (.var cells) => cells[off]? = some (.pv (.sc (.slice none 0 0))) ∧ nilsK l sl (bk.set b (.var (cells.set off (.own bk.length 0))) ++ [.arr e sz []]) K
     | _ => False)
theorem nilsK_sound : ∀ {l : List NilAt} {G : Gh} {sl : Slots} {bk : List Blk} {K : Slots → List Blk → Prop}, Rel C G sl bk a w → nilsK l sl bk K → ∃ G' sl' bk', K sl' bk' ∧ Rel C G' sl' bk' a w
  | [], G, sl, bk, K, hr, h => ⟨G, sl, bk, h, hr⟩
  | .slot t e sz :: l, G, sl, bk, K, hr, h => by
    obtain ⟨h1, h2⟩ := h
    obtain ⟨G1, t1, m1, hM, hcp⟩ := hr.mem.alloc none (.arr e sz []) 0 (fun G' hS hM hcp tr => .inl ⟨hM, rfl⟩)
    refine nilsK_sound (G := G1) ⟨hr.size, hr.dfr, fun t' => ?_, m1⟩ h2
    by_cases he : t' = t
    · subst he
      have h0 := hr.slots t'
      rw [h1] at h0
      have hv := (sc_rep h0).1
      simp only [put, if_true]
      refine ⟨by rw [hv]; rfl, sz, [], ?_, Nat.le_refl _, fun _ => .inr ⟨hM, rfl, hv⟩⟩
      unfold rowsOf
      rw [List.getElem?_append_right (Nat.le_refl _)]
      simp
    · simp only [put, if_neg he]
      exact t1.repA (hr.slots t')
  | .cell b off e sz :: l, G, sl, bk, K, hr, h => by
    simp only [nilsK] at h
    split at h
    · rename_i cells hb
      obtain ⟨h1, h2⟩ := h
      obtain ⟨G1, t1, m1, hM, hcp⟩ := hr.mem.alloc none (.arr e sz []) 0 (fun G' hS hM hcp tr => .inl ⟨hM, rfl⟩)
      have hbl := (List.getElem?_eq_some_iff.1 hb).1
      have hb1 : (bk ++ [Blk.arr e sz []])[b]? = some (.var cells) := by rw [List.getElem?_append_left hbl]; exact hb
      have hset : (bk ++ [Blk.arr e sz []]).set b (.var (cells.set off (.own bk.length 0))) = bk.set b (.var (cells.set off (.own bk.length 0))) ++ [.arr e sz []] := by rw [List.set_append_left _ _ hbl]
      have hnew : ((bk ++ [Blk.arr e sz []]).set b (.var (cells.set off (.own bk.length 0))))[b]? = some (.var (cells.set off (.own bk.length 0))) := List.getElem?_set_self (by simp; omega)
      have hro : rowsOf (bk ++ [Blk.arr e sz []]) b = none := by unfold rowsOf; rw [hb1]
      obtain ⟨t2, m2⟩ := m1.setb (w' := w) b (alive_var hb1) (.var (cells.set off (.own bk.length 0))) (alive_var hnew) (.inl ⟨hro, by unfold rowsOf; rw [hnew]⟩) (fun _ _ => rfl) rfl rfl rfl rfl (fun t => by
        obtain ⟨g, cur, ty, k1, k2, k3⟩ := m1.blk b _ hb1
        refine ⟨g, cur, ty, k1, k2, Fa.of_get (by simpa using k3.length) fun i x y hx hy => ?_⟩
        by_cases he : i = off
        · subst he
          have hil := (List.getElem?_eq_some_iff.1 h1).1
          rw [List.getElem?_set_self hil] at hx
          cases hx
          obtain ⟨y', hy', hry⟩ := k3.get h1
          rw [hy] at hy'
          cases hy'
          have hv : y = .slice none 0 0 := by have h' : RepP _ _ _ _ := hry; cases h'; rfl
          refine ⟨by rw [hv]; rfl, sz, [], ?_, Nat.le_refl _, fun _ => .inr ⟨hM, rfl, hv⟩⟩
          unfold rowsOf
          rw [List.getElem?_set_ne (by omega), List.getElem?_append_right (Nat.le_refl _)]
          simp
        · rw [List.getElem?_set_ne (Ne.symm he)] at hx
          obtain ⟨y', hy', hry⟩ := k3.get hx
          rw [hy] at hy'
          cases hy'
          exact t.repL hry)
      rw [hset] at t2 m2
      exact nilsK_sound ⟨hr.size, hr.dfr, fun t' => t2.repA (t1.repA (hr.slots t')), m2⟩ h2
    · exact h.elim

/-- Ways meet: what is known is said anew, in the form (S, B) at some index that I holds of. -/
def Meets {α : Type} (m : Nat) (I : α → Prop) (S : α → List (Nat × AV)) (B : α → List Blk) (sl : Slots) (bk : List Blk) : Prop := ∃ i, I i ∧ Fits m sl bk (S i) (B i)
theorem AW.cut {α : Type} (I : α → Prop) (S : α → List (Nat × AV)) (B : α → List Blk) (ns : List NilAt) {x y : Code} {Q : Post}
    (hx : AW P n x (thenQ (fun sl bk => nilsK ns sl bk (Meets n.m I S B)) Q) sl bk) (hm : ∀ i, I i → AW P n y Q (mkS (S i)) (B i)) : AW P n (.seq x y) Q sl bk := by
  refine ⟨fun C G a w hn hr => ?_⟩
  refine wp_seq (wp_mono (hx.out C G a w hn hr) fun e a w ⟨G', sl', bk', hk, h'⟩ => ?_)
  cases e <;> first
    | exact ⟨G', sl', bk', hk, h'⟩
    | skip
  obtain ⟨G1, sl1, bk1, ⟨i, hi, hf⟩, h1⟩ := nilsK_sound h' hk
  exact (hm i hi).out C G1 a w hn (h1.fits hn.2 hf)
/-- The same, ahead of the code. -/
theorem AW.meet {α : Type} (I : α → Prop) (S : α → List (Nat × AV)) (B : α → List Blk) (ns : List NilAt) {y : Code} {Q : Post}
    (hx : nilsK ns sl bk (Meets n.m I S B)) (hm : ∀ i, I i → AW P n y Q (mkS (S i)) (B i)) : AW P n y Q sl bk := by
  refine ⟨fun C G a w hn hr => ?_⟩
  obtain ⟨G1, sl1, bk1, ⟨i, hi, hf⟩, h1⟩ := nilsK_sound hr hx
  exact (hm i hi).out C G1 a w hn (h1.fits hn.2 hf)
/-- A loop: I, S and B say what is known at its head; every round lowers m. -/
theorem AW.loop {α : Type} (I : α → Prop) (S : α → List (Nat × AV)) (B : α → List Blk) (m : α → Nat) (ns : List NilAt) {c : Code} {Q : Post}
    (h0 : nilsK ns sl bk (Meets n.m I S B))
    (hr : ∀ i, I i → AW P n c (thenQ (Meets n.m (fun j => I j ∧ m j < m i) S B) Q) (mkS (S i)) (B i)) : AW P n (.loop c) Q sl bk := by
  refine ⟨fun C G a w hn hrel => ?_⟩
  obtain ⟨G1, sl1, bk1, ⟨i, hi, hf⟩, h1⟩ := nilsK_sound hrel h0
  have h1' := h1.fits hn.2 hf
  -- the measure counts the index of the round at hand
  have key : ∀ k i, m i = k → I i → ∀ G a w, Rel C G (mkS (S i)) (B i) a w → ∀ (b : Frame) (kk : List Item) (cs : List Frame),
      ∃ e a' w', Ok C (Q e) a' w' ∧ Arrives P (lone (b.at a (.code c :: .inLoop c :: kk)) cs w) b kk cs e a' w' := by
    intro k
    induction k using Nat.strongRecOn with
    | _ k ih =>
      intro i hk hi G a w hrel b kk cs
      obtain ⟨e, a₁, w₁, hq, harr⟩ := (hr i hi).out C G a w hn hrel b (.inLoop c :: kk) cs
      obtain ⟨G2, sl2, bk2, hq, hr2⟩ := hq
      cases e with
      | normal =>
        obtain ⟨j, ⟨hj, hlt⟩, hf2⟩ := hq
        obtain ⟨e₂, a₂, w₂, hq₂, harr₂⟩ := ih (m j) (by omega) j rfl hj G2 a₁ w₁ (hr2.fits hn.2 hf2) b kk cs
        exact ⟨e₂, a₂, w₂, hq₂, .of_steps (Steps.trans harr (.one step_inLoop)) harr₂⟩
      | exit id => exact ⟨_, a₁, w₁, ⟨G2, sl2, bk2, hq, hr2⟩, .pass (x := .inLoop c) rfl (fun _ _ => .inl (by simp)) harr⟩
      | goto l => exact ⟨_, a₁, w₁, ⟨G2, sl2, bk2, hq, hr2⟩, .pass (x := .inLoop c) rfl (fun _ _ => .inl (by simp)) harr⟩
      | ret => exact ⟨_, a₁, w₁, ⟨G2, sl2, bk2, hq, hr2⟩, .pass (x := .inLoop c) rfl (fun _ _ => .inl (by simp)) harr⟩
      | panic ch => exact ⟨_, a₁, w₁, ⟨G2, sl2, bk2, hq, hr2⟩, .pass (x := .inLoop c) rfl (fun _ _ => .inl (by simp)) harr⟩
      | outgrown => exact ⟨_, a₁, w₁, ⟨G2, sl2, bk2, hq, hr2⟩, .pass (x := .inLoop c) rfl (fun _ _ => .inl (by simp)) harr⟩
  intro b kk cs
  obtain ⟨e, a', w', hq, harr⟩ := key _ i rfl hi G1 a w h1' b kk cs
  exact ⟨e, a', w', hq, .of_steps (.one step_loop) harr⟩

/-! ### What a function returns -/
def resK (T : Tab) : List ResultVar → Slots → List Blk → (List AV → Prop) → Prop
  | [], sl, bk, K => K []
  | .tmp t :: l, sl, bk, K => resK T l sl bk fun xs => K (sl t :: xs)
  | .cell p t :: l, sl, bk, K => loadK T t (sl p) bk fun x => resK T l sl bk fun xs => K (x :: xs)
def toTC : AV → Option TC
  | .lf l => some (.lf l)
  | .agg l => some (.agg l)
  | _ => none
def pack : List AV → Option AV
  | [x] => some x
  | xs => (xs.mapM toTC).map AV.tup
/-- Behind the body r is returned. -/
def RetQ (T : Tab) (rs : List ResultVar) (r : AV) : Post
  | .ret, sl, bk => resK T rs sl bk fun xs => argsK bk xs fun _ ys => ∃ zs, Fa WkA ys zs ∧ pack zs = some r
  | .normal, sl, bk => resK T rs sl bk fun xs => argsK bk xs fun _ ys => ∃ zs, Fa WkA ys zs ∧ pack zs = some r
  | _, _, _ => False

theorem resK_sound (hT : TabOK P T) (hr : Rel C G sl bk a w) : ∀ {rs : List ResultVar} {K : List AV → Prop}, resK T rs sl bk K →
    ∃ xs vs, (rs.mapM (m := Sem) fun | .tmp t => pure (a.tmps.getD t undef) | .cell p t => do loadVar t (← asAddr (a.tmps.getD p undef))).run P w = .ok vs w ∧ Fa (RepA G bk w) xs vs ∧ K xs
  | [], K, h => ⟨[], [], rfl, trivial, h⟩
  | .tmp t :: rs, K, h => by
    obtain ⟨xs, vs, h1, h2, h3⟩ := resK_sound hT hr (rs := rs) h
    refine ⟨sl t :: xs, a.tmps.getD t undef :: vs, ?_, ⟨hr.slots t, h2⟩, h3⟩
    rw [List.mapM_cons, Sem.run_bind]
    simp only [Sem.run_pure, Result.andThen_ok, Sem.run_bind, h1]
  | .cell p t :: rs, K, h => by
    obtain ⟨x, u, h1, h2, h3⟩ := loadK_sound hT hr.mem (hr.slots p) h
    obtain ⟨xs, vs, h4, h5, h6⟩ := resK_sound hT hr (rs := rs) h3
    refine ⟨x :: xs, u :: vs, ?_, ⟨h2, h5⟩, h6⟩
    rw [List.mapM_cons, Sem.run_bind]
    have h1' : (do loadVar t (← asAddr (a.tmps.getD p undef)) : Sem Value).run P w = .ok u w := by
      generalize a.tmps.getD p undef = v at h1
      unfold Instr.loadAt Instr.sureAddr at h1
      unfold asAddr
      cases v with
      | pointer q => cases q <;> simp at h1 ⊢; exact h1
      | _ => simp at h1
    simp only [h1', Sem.run_pure, Result.andThen_ok, Sem.run_bind, h4]

theorem pack_rep {S : Nat → Nat → Prop} {zs : List AV} {vs : List Value} {r : AV} (h : Fa (RepA (Gh.base S) [] w) zs vs) (hp : pack zs = some r) :
    RepA (Gh.base S) [] w r (if h : vs.toArray.size = 1 then vs.toArray[0] else .tuple vs.toArray) := by
  have tc : ∀ {zs : List AV} {vs : List Value} {ts : List TC}, Fa (RepA (Gh.base S) [] w) zs vs → zs.mapM toTC = some ts → Fa (RepT (Gh.base S) [] w) ts vs := fun {zs} => by
    induction zs with
    | nil => intro vs ts h hm; simp at hm; subst hm; cases vs <;> exact h
    | cons z zs ih =>
      intro vs ts h hm
      cases vs with
      | nil => exact h.elim
      | cons v vs =>
        rw [List.mapM_cons] at hm
        cases z with
        | lf l =>
          simp only [toTC, Option.bind_eq_bind, Option.bind_some] at hm
          cases hq : zs.mapM toTC with
          | none => rw [hq] at hm; simp at hm
          | some l' => rw [hq] at hm; simp at hm; subst hm; exact ⟨h.1, ih h.2 hq⟩
        | agg l =>
          simp only [toTC, Option.bind_eq_bind, Option.bind_some] at hm
          cases hq : zs.mapM toTC with
          | none => rw [hq] at hm; simp at hm
          | some l' => rw [hq] at hm; simp at hm; subst hm; exact ⟨h.1, ih h.2 hq⟩
        | _ => simp [toTC] at hm
  cases zs with
  | nil => cases vs with
    | nil => simp [pack] at hp; subst hp; exact ⟨[], rfl, trivial⟩
    | cons v vs => exact h.elim
  | cons z zs => cases zs with
    | nil => cases vs with
      | nil => exact h.elim
      | cons v vs => cases vs with
        | nil => simp [pack] at hp; subst hp; exact h.1
        | cons v' vs => exact h.2.elim
    | cons z' zs => cases vs with
      | nil => exact h.elim
      | cons v vs => cases vs with
        | nil => exact h.2.elim
        | cons v' vs =>
          simp only [pack, Option.map_eq_some_iff] at hp
          obtain ⟨ts, h1, rfl⟩ := hp
          rw [dif_neg (by simp)]
          exact ⟨_, rfl, tc h h1⟩

/-- A contract, out of a body. -/
theorem Con.of {f : FuncId} {fn : Func} {c : Code} {args : List AV} {r : AV} (hT : TabOK P T) (hf : P.funcs[f]? = some fn) (hb : fn.body = some c) (hn : fnOK P f = true)
    (hsz : Nat.ble args.length fn.ntmps = true)
    (h : AW P ⟨fn.ntmps, 0⟩ c (RetQ T fn.results.toList r) (mkS (args.zipIdx.map fun p => (p.2, p.1))) []) : Con P f args r [] := by
  refine ⟨hn, rfl, fun w S us hS hargs => ?_⟩
  refine calls_of_wp hf hb ?_
  have hlen := hargs.length
  have hsz' := Nat.le_of_ble_eq_true hsz
  have hrel : Rel (Ctx.base w S fn.ntmps) (Gh.base S) (mkS (args.zipIdx.map fun p => (p.2, p.1))) [] { tmps := us.toArray ++ Array.replicate (fn.ntmps - us.toArray.size) undef, defers := [] } w := by
    refine ⟨?_, rfl, fun t => ?_, ⟨fun b B hb => by simp at hb, fun b b' g hb => by simp at hb, fun g o b hs ha => absurd (alive_lt ha) (by simp), hS, fun b g hb => by simp at hb, fun b g hb => by simp at hb, fun g o hs => hs, fun g o hs => .inl hs, rfl, rfl, rfl, Nat.le_refl _, fun _ _ _ => rfl, Nat.le_refl _, Trn.refl _ _ _⟩⟩
    · simp [Ctx.base]; omega
    · have hmk : mkS (args.zipIdx.map fun p => (p.2, p.1)) t = (args[t]?).getD .un := by
        unfold mkS
        have gen : ∀ (l : List AV) (k : Nat), ((l.zipIdx k).map fun p => (p.2, p.1)).lookup t = if t < k then none else l[t - k]? := fun l => by
          induction l with
          | nil => intro k; simp
          | cons x l ih =>
            intro k
            rw [List.zipIdx_cons, List.map_cons, List.lookup]
            by_cases e : t = k
            · subst e; simp
            · have hb : (t == k) = false := by simpa using e
              rw [hb, ih (k + 1)]
              by_cases hlt : t < k
              · rw [if_pos (by omega), if_pos hlt]
              · rw [if_neg (by omega), if_neg hlt]
                have : t - k = (t - (k + 1)) + 1 := by omega
                rw [this]; simp
        have := gen args 0
        simp at this
        simp [this]
      rw [hmk]
      rcases Nat.lt_or_ge t args.length with hl | hl
      · obtain ⟨v, hv, hrv⟩ := hargs.get (List.getElem?_eq_getElem hl)
        rw [List.getElem?_eq_getElem hl, Option.getD_some]
        have e1 : (us.toArray ++ Array.replicate (fn.ntmps - us.toArray.size) undef).getD t undef = v := by
          simp [Array.getElem?_append_left (show t < us.toArray.size by simp; omega), hv]
        rw [e1]
        exact hrv
      · rw [List.getElem?_eq_none hl]
        trivial
  refine wp_mono (h.out (Ctx.base w S fn.ntmps) _ _ w ⟨rfl, rfl⟩ hrel) fun e a' w' ⟨G', sl', bk', hq, hr'⟩ => ?_
  have fin : (resK T fn.results.toList sl' bk' fun xs => argsK bk' xs fun _ ys => ∃ zs, Fa WkA ys zs ∧ pack zs = some r) →
      a'.defers = [] ∧ ∃ v, (results fn a'.tmps).run P w' = .ok v w' ∧ ∃ u G'', Ending.returned v = .returned u ∧ RepA G'' [] w' r u ∧ Mem (Ctx.base w S 0) G'' [] w' := fun hq => by
    obtain ⟨xs, vs, h1, h2, h3⟩ := resK_sound hT hr' hq
    obtain ⟨G2, b2, ys, t2, m2, hys, zs, hwk, hpk⟩ := argsK_sound hr'.mem h2 h3
    refine ⟨hr'.dfr, _, ?_, _, Gh.base G2.S, rfl, pack_rep (wks_rep hwk hys) hpk, ?_⟩
    · unfold results
      rw [Sem.run_bind, Array.mapM_eq_mapM_toList, Sem.run_map]
      exact congrArg (fun r : Result (List Value) => Result.andThen (Result.andThen r fun a w' => Result.ok a.toArray w') fun a w' => Sem.run P (pure (if h : a.size = 1 then a[0] else Value.tuple a)) w') h1
    · exact ⟨fun b B hb => by simp at hb, fun b b' g hb => by simp at hb, fun g o b hs ha => absurd (alive_lt ha) (by simp), m2.slt, fun b g hb => by simp at hb, fun b g hb => by simp at hb, m2.s0, m2.snew, m2.os, m2.tape, m2.output, m2.size, m2.block, Nat.le_refl _, ⟨m2.t0.S, m2.t0.cell, Nat.le_refl _, fun b hb => absurd hb (Nat.not_lt_zero _), fun b sz rows h => (by unfold rowsOf at h; simp [Ctx.base] at h)⟩⟩
  cases e with
  | normal => exact fin hq
  | ret => exact fin hq
  | _ => exact hq.elim
end
end Go.Rx
