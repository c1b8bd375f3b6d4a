/- Calls by contract, and every operation at once. -/
import Derived.Test.YtooiiihaijpbaaaRxQ
set_option linter.unusedVariables false
set_option linter.unusedSimpArgs false
namespace Go.Rx
open Go.RowKit

def fnOK (P : Program) (f : FuncId) : Bool :=
  match P.funcs[f]? with
  | some fn => fn.name != "runtime.NumGoroutine" && fn.body.isSome
  | none => false
def isArr : Blk → Bool
  | .arr _ _ _ => true
  | _ => false
def Gh.base (S : Nat → Nat → Prop) : Gh := ⟨fun _ => none, S, fun _ => 0⟩
def Ctx.base (w : World) (S : Nat → Nat → Prop) (n : Nat) : Ctx := ⟨w, Gh.base S, [], n⟩

/-- f at these arguments returns r; nb: the rows that r alone holds. Nothing that was there has turned. -/
def Con (P : Program) (f : FuncId) (args : List AV) (r : AV) (nb : List Blk) : Prop :=
  fnOK P f = true ∧ nb.all isArr = true ∧ ∀ (w : World) (S : Nat → Nat → Prop) (us : List Value), (∀ g o, S g o → g < w.heap.size) → Fa (RepA (Gh.base S) [] w) args us →
    Calls P f us.toArray w fun e w' => ∃ u G', e = .returned u ∧ RepA G' nb w' r u ∧ Mem (Ctx.base w S 0) G' nb w'

def argL (bk : List Blk) (l : Lf) (K : List Blk → Lf → Prop) : Prop :=
  match l with
  | .pv p => K bk (.pv p)
  | .ro l => K bk (.ro l)
  | .fn f c => K bk (.fn f c)
  | .own b len => pvK bk (.own b len) fun bk p => K bk (.pv p)
  | .ptr b off =>
    (match bk[b]? with
     | some (.var cells) => (match cells.mapM pvOf with | some ps => K (bk.set b (.frv ps)) (.ro (ps.drop off)) | none => False)
     | some (.frv ps) => K bk (.ro (ps.drop off))
     | _ => False)
  | .ept _ _ _ _ _ => False
def argLs : List Blk → List Lf → (List Blk → List Lf → Prop) → Prop
  | bk, [], K => K bk []
  | bk, l :: ls, K => argL bk l fun bk x => argLs bk ls fun bk xs => K bk (x :: xs)
def argA (bk : List Blk) (x : AV) (K : List Blk → AV → Prop) : Prop :=
  match x with
  | .lf l => argL bk l fun bk l => K bk (.lf l)
  | .agg ls => argLs bk ls fun bk ls => K bk (.agg ls)
  | _ => False
def argsK : List Blk → List AV → (List Blk → List AV → Prop) → Prop
  | bk, [], K => K bk []
  | bk, x :: xs, K => argA bk x fun bk y => argsK bk xs fun bk ys => K bk (y :: ys)

/-- What stands for one value stands for the other, too. -/
def WkP (p q : PV) : Prop := ∀ (S : Nat → Nat → Prop) (w : World) (v : Value), RepP S w p v → RepP S w q v
def WkL (l l' : Lf) : Prop := l = l' ∨ ∃ p q, l = .pv p ∧ l' = .pv q ∧ WkP p q
def WkA (x y : AV) : Prop := x = y ∨ (∃ l l', x = .lf l ∧ y = .lf l' ∧ WkL l l') ∨ ∃ ls ms, x = .agg ls ∧ y = .agg ms ∧ Fa WkL ls ms
theorem wk_refl : ∀ l : List AV, Fa WkA l l
  | [] => trivial
  | _ :: l => ⟨.inl rfl, wk_refl l⟩

def scalL : Lf → Bool
  | .pv (.sc _) => true
  | _ => false
def scalT : TC → Bool
  | .lf l => scalL l
  | .agg l => l.all scalL
def scalA : AV → Bool
  | .lf l => scalL l
  | .agg l => l.all scalL
  | .tup l => l.all scalT
  | .un => false
def shL (n : Nat) : Lf → Lf
  | .own b len => .own (b + n) len
  | .ptr b off => .ptr (b + n) off
  | .ept b m i sz off => .ept (b + n) m i sz off
  | .pv p => .pv p
  | .ro l => .ro l
  | .fn f c => .fn f c
def shT (n : Nat) : TC → TC
  | .lf l => .lf (shL n l)
  | .agg l => .agg (l.map (shL n))
def shA (n : Nat) : AV → AV
  | .lf l => .lf (shL n l)
  | .agg l => .agg (l.map (shL n))
  | .tup l => .tup (l.map (shT n))
  | .un => .un

/-- f, to which these blocks are lent, at these arguments returns r; B1: the blocks behind it, those lent first. -/
def ConG (P : Program) (f : FuncId) (B0 : List Blk) (args : List AV) (r : AV) (B1 : List Blk) : Prop :=
  fnOK P f = true ∧ ∀ (w : World) (G0 : Gh) (us : List Value), Mem ⟨w, G0, B0, 0⟩ G0 B0 w → Fa (RepA G0 B0 w) args us →
    Calls P f us.toArray w fun e w' => ∃ u G', e = .returned u ∧ RepA G' B1 w' r u ∧ Mem ⟨w, G0, B0, 0⟩ G' B1 w'
def lendK (P : Program) (f : FuncId) (args : List AV) (bk : List Blk) (K : AV → List Blk → Prop) : Prop :=
  ∃ idx B0 cargs cargs' r B1, idx.Nodup ∧ pickB idx bk idx = some B0 ∧ renAs idx args = some cargs ∧ Fa WkA cargs cargs' ∧ ConG P f B0 cargs' r B1 ∧ K (bkA idx bk.length r) (bkBs idx bk B1)
def callK (P : Program) (ln : Bool) (fop : AV) (args : List AV) (bk : List Blk) (K : AV → List Blk → Prop) : Prop :=
  match fop with
  | .lf (.fn f caps) =>
    (match ln with
     | true => lendK P f (args ++ caps.map fun l => .lf (.ro l)) bk K
     | false => argsK bk args fun bk' cargs => ∃ cargs' r nb, Fa WkA (cargs ++ caps.map fun l => .lf (.ro l)) cargs' ∧ Con P f cargs' r nb ∧
        ((scalA r = true ∧ nb = [] ∧ K r bk) ∨ K (shA bk'.length r) (bk' ++ nb)))
  | _ => False

section
variable {P : Program} {T : Tab} {C : Ctx} {G : Gh} {sl : Nat → AV} {bk : List Blk} {a : Act} {w : World}

def pureL : Lf → Prop
  | .pv _ | .ro _ | .fn _ _ => True
  | _ => False
def pureA : AV → Prop
  | .lf l => pureL l
  | .agg l => ∀ x ∈ l, pureL x
  | _ => False
theorem pure_rep {l : Lf} {v : Value} (hp : pureL l) (h : RepL G bk w l v) : RepL (Gh.base G.S) [] w l v := by
  cases l <;> first | exact h | exact hp.elim
theorem pureA_rep {x : AV} {v : Value} (hp : pureA x) (h : RepA G bk w x v) : RepA (Gh.base G.S) [] w x v := by
  cases x with
  | lf l => exact pure_rep hp h
  | agg l =>
    obtain ⟨us, rfl, hu⟩ := h
    refine ⟨us, rfl, ?_⟩
    have : ∀ {l : List Lf} {us : List Value}, (∀ x ∈ l, pureL x) → Fa (RepL G bk w) l us → Fa (RepL (Gh.base G.S) [] w) l us := fun {l} => by
      induction l with
      | nil => intro us _ h; cases us <;> exact h
      | cons x l ih =>
        intro us hp h
        cases us with
        | nil => exact h.elim
        | cons u us => exact ⟨pure_rep (hp x (by simp)) h.1, ih (fun y hy => hp y (by simp [hy])) h.2⟩
    exact this hp hu
  | _ => exact hp.elim

theorem argL_sound (hm : Mem C G bk w) {l : Lf} {v : Value} (hl : RepL G bk w l v) {K : List Blk → Lf → Prop} (h : argL bk l K) :
    ∃ G' bk' x, Trn G bk w G' bk' w ∧ Mem C G' bk' w ∧ RepL G' bk' w x v ∧ pureL x ∧ K bk' x := by
  cases l with
  | pv p => exact ⟨G, bk, _, Trn.refl _ _ _, hm, hl, trivial, h⟩
  | ro p => exact ⟨G, bk, _, Trn.refl _ _ _, hm, hl, trivial, h⟩
  | fn f c => exact ⟨G, bk, _, Trn.refl _ _ _, hm, hl, trivial, h⟩
  | own b len =>
    simp only [argL] at h
    obtain ⟨G', bk', p, t, m, hp, hk⟩ := pvK_sound hm hl h
    exact ⟨G', bk', .pv p, t, m, hp, trivial, hk⟩
  | ptr b off =>
    simp only [argL] at h
    split at h
    · rename_i cells hb
      split at h
      · rename_i ps hps
        obtain ⟨G', t, m, _⟩ := hm.frz b _ (.frv ps) hb (by simp [frzB, hps])
        exact ⟨G', _, _, t, m, ptr_ro m (by rw [List.getElem?_set_self (List.getElem?_eq_some_iff.1 hb).1]) (t.repL hl), trivial, h⟩
      · exact h.elim
    · rename_i ps hb
      exact ⟨G, bk, _, Trn.refl _ _ _, hm, ptr_ro hm hb hl, trivial, h⟩
    · exact h.elim
  | ept b n i sz off => exact h.elim
theorem argLs_sound : ∀ {ls : List Lf} {G : Gh} {bk : List Blk} {vs : List Value} {K : List Blk → List Lf → Prop}, Mem C G bk w → Fa (RepL G bk w) ls vs → argLs bk ls K →
    ∃ G' bk' xs, Trn G bk w G' bk' w ∧ Mem C G' bk' w ∧ Fa (RepL G' bk' w) xs vs ∧ (∀ x ∈ xs, pureL x) ∧ K bk' xs
  | [], G, bk, [], K, hm, _, h => ⟨G, bk, [], Trn.refl _ _ _, hm, trivial, by simp, h⟩
  | l :: ls, G, bk, v :: vs, K, hm, hf, h => by
    obtain ⟨G1, b1, p, t1, m1, hp, hpu, h1⟩ := argL_sound hm hf.1 h
    obtain ⟨G2, b2, ps, t2, m2, hps, hpus, h2⟩ := argLs_sound m1 (hf.2.mono fun _ _ => t1.repL) h1
    exact ⟨G2, b2, p :: ps, t1.trans t2, m2, ⟨t2.repL hp, hps⟩, by simpa using ⟨hpu, hpus⟩, h2⟩
  | [], _, _, _ :: _, _, _, hf, _ => hf.elim
  | _ :: _, _, _, [], _, _, hf, _ => hf.elim
theorem argA_sound (hm : Mem C G bk w) {x : AV} {v : Value} (hx : RepA G bk w x v) {K : List Blk → AV → Prop} (h : argA bk x K) :
    ∃ G' bk' y, Trn G bk w G' bk' w ∧ Mem C G' bk' w ∧ RepA G' bk' w y v ∧ pureA y ∧ K bk' y := by
  cases x with
  | lf l =>
    simp only [argA] at h
    obtain ⟨G', bk', y, t, m, hy, hp, hk⟩ := argL_sound hm hx h
    exact ⟨G', bk', .lf y, t, m, hy, hp, hk⟩
  | agg ls =>
    obtain ⟨us, rfl, hu⟩ := hx
    simp only [argA] at h
    obtain ⟨G', bk', ys, t, m, hy, hp, hk⟩ := argLs_sound hm hu h
    exact ⟨G', bk', .agg ys, t, m, ⟨us, rfl, hy⟩, hp, hk⟩
  | _ => exact h.elim
theorem argsK_sound : ∀ {xs : List AV} {G : Gh} {bk : List Blk} {vs : List Value} {K : List Blk → List AV → Prop}, Mem C G bk w → Fa (RepA G bk w) xs vs → argsK bk xs K →
    ∃ G' bk' ys, Trn G bk w G' bk' w ∧ Mem C G' bk' w ∧ Fa (RepA (Gh.base G'.S) [] w) ys vs ∧ K bk' ys
  | [], G, bk, [], K, hm, _, h => ⟨G, bk, [], Trn.refl _ _ _, hm, trivial, h⟩
  | x :: xs, G, bk, v :: vs, K, hm, hf, h => by
    obtain ⟨G1, b1, y, t1, m1, hy, hp, h1⟩ := argA_sound hm hf.1 h
    obtain ⟨G2, b2, ys, t2, m2, hys, h2⟩ := argsK_sound m1 (hf.2.mono fun _ _ => t1.repA) h1
    exact ⟨G2, b2, y :: ys, t1.trans t2, m2, ⟨pureA_rep hp (t2.repA hy), hys⟩, h2⟩
  | [], _, _, _ :: _, _, _, hf, _ => hf.elim
  | _ :: _, _, _, [], _, _, hf, _ => hf.elim

theorem wkL_rep {l l' : Lf} {v : Value} (h : WkL l l') (hr : RepL G bk w l v) : RepL G bk w l' v := by
  rcases h with rfl | ⟨p, q, rfl, rfl, h⟩
  · exact hr
  · exact h _ _ _ hr
theorem wkA_rep {x y : AV} {v : Value} (h : WkA x y) (hr : RepA G bk w x v) : RepA G bk w y v := by
  rcases h with rfl | ⟨l, l', rfl, rfl, h⟩ | ⟨ls, ms, rfl, rfl, h⟩
  · exact hr
  · exact wkL_rep h hr
  · obtain ⟨us, rfl, hu⟩ := hr
    refine ⟨us, rfl, ?_⟩
    have : ∀ {ls ms : List Lf} {us : List Value}, Fa WkL ls ms → Fa (RepL G bk w) ls us → Fa (RepL G bk w) ms us := fun {ls} => by
      induction ls with
      | nil => intro ms us h1 h2; cases ms <;> cases us <;> first | trivial | exact h1.elim | exact h2.elim
      | cons x l ih =>
        intro ms us h1 h2
        cases ms with
        | nil => exact h1.elim
        | cons y ms => cases us with
          | nil => exact h2.elim
          | cons u us => exact ⟨wkL_rep h1.1 h2.1, ih h1.2 h2.2⟩
    exact this h hu
theorem wks_rep : ∀ {xs ys : List AV} {us : List Value}, Fa WkA xs ys → Fa (RepA G bk w) xs us → Fa (RepA G bk w) ys us
  | [], [], [], _, _ => trivial
  | _ :: _, _ :: _, _ :: _, h1, h2 => ⟨wkA_rep h1.1 h2.1, wks_rep h1.2 h2.2⟩
  | [], _ :: _, _, h1, _ => h1.elim
  | _ :: _, [], _, h1, _ => h1.elim
  | [], [], _ :: _, _, h2 => h2.elim
  | _ :: _, _ :: _, [], _, h2 => h2.elim

/-- A world in which all that was there is as it was. -/
theorem Mem.below {w' : World} (h : Mem C G bk w) (hos : w'.os = w.os) (htp : w'.tape = w.tape) (hou : w'.output = w.output) (hsz : w.heap.size ≤ w'.heap.size) (hh : ∀ g, g < w.heap.size → w'.heap[g]? = w.heap[g]?) :
    Trn G bk w G bk w' ∧ Mem C G bk w' := by
  have t : Trn G bk w G bk w' := ⟨fun _ _ h => h, fun g o hs => World.cell?_of_block (a := ⟨g, o, none⟩) (hh g (h.slt g o hs)), Nat.le_refl _, fun _ _ h => ⟨h, rfl⟩, fun _ _ rows h => ⟨rows, h, Nat.le_refl _, fun _ => ⟨rfl, rfl⟩⟩⟩
  exact ⟨t, ⟨fun b B hb => RepB.step t rfl rfl (fun g hg => hh g (h.mlt b g (List.getElem?_eq_some_iff.1 hb).1 hg)) (h.blk b B hb), h.inj, h.sdis, fun g o hs => Nat.lt_of_lt_of_le (h.slt g o hs) hsz, fun b g hb hg => Nat.lt_of_lt_of_le (h.mlt b g hb hg) hsz, h.new, h.s0, h.snew,
    hos.trans h.os, htp.trans h.tape, hou.trans h.output, Nat.le_trans h.size hsz, fun g hg hn => (hh g (Nat.lt_of_lt_of_le hg h.size)).trans (h.block g hg hn), h.mle, h.t0.trans t⟩⟩

theorem scalL_rep {G' : Gh} {bk' : List Blk} {w' : World} {l : Lf} {v : Value} (hs : scalL l = true) (h : RepL G bk w l v) : RepL G' bk' w' l v := by
  cases l with
  | pv p => cases p with
    | sc u => have h' : RepP G.S w (.sc u) v := h; cases h'; exact RepP.sc _ (by assumption)
    | sl sz rows => cases hs
  | _ => cases hs
theorem fa_all {α β : Type} {R R' : α → β → Prop} {p : α → Bool} (hr : ∀ a b, p a = true → R a b → R' a b) : ∀ {l : List α} {m : List β}, l.all p = true → Fa R l m → Fa R' l m
  | [], [], _, _ => trivial
  | x :: l, y :: m, hp, h => by
    simp only [List.all_cons, Bool.and_eq_true] at hp
    exact ⟨hr _ _ hp.1 h.1, fa_all hr hp.2 h.2⟩
  | [], _ :: _, _, h => h.elim
  | _ :: _, [], _, h => h.elim
theorem scalA_rep {G' : Gh} {bk' : List Blk} {w' : World} {x : AV} {v : Value} (hs : scalA x = true) (h : RepA G bk w x v) : RepA G' bk' w' x v := by
  cases x with
  | lf l => exact scalL_rep hs h
  | agg l => obtain ⟨us, rfl, hu⟩ := h; exact ⟨us, rfl, fa_all (p := scalL) (fun _ _ h1 h2 => scalL_rep h1 h2) hs hu⟩
  | tup l =>
    obtain ⟨us, rfl, hu⟩ := h
    refine ⟨us, rfl, fa_all (fun t v h1 h2 => ?_) hs hu⟩
    cases t with
    | lf l => exact scalL_rep h1 h2
    | agg l => obtain ⟨us, rfl, hu⟩ := h2; exact ⟨us, rfl, fa_all (p := scalL) (fun _ _ h1 h2 => scalL_rep h1 h2) h1 hu⟩
  | un => cases hs

/-- What a callee has made joins what the caller has. -/
theorem Mem.join {w' : World} {G1 : Gh} {nb : List Blk} (h : Mem C G bk w) (hn : nb.all isArr = true) (k : Mem (Ctx.base w G.S 0) G1 nb w') :
    ∃ G', Trn G bk w G' (bk ++ nb) w' ∧ Mem C G' (bk ++ nb) w' ∧ ∀ x u, RepA G1 nb w' x u → RepA G' (bk ++ nb) w' (shA bk.length x) u := by
  let G' : Gh := { M := fun b => if b < bk.length then G.M b else G1.M (b - bk.length), S := G1.S, cp := fun b => if b < bk.length then G.cp b else G1.cp (b - bk.length) }
  have hMo : ∀ b, b < bk.length → G'.M b = G.M b := fun b hb => if_pos hb
  have hco : ∀ b, b < bk.length → G'.cp b = G.cp b := fun b hb => if_pos hb
  have hMn : ∀ b, G'.M (b + bk.length) = G1.M b := fun b => by show (if _ then _ else _) = _; rw [if_neg (by omega)]; congr 1; omega
  have hcn : ∀ b, G'.cp (b + bk.length) = G1.cp b := fun b => by show (if _ then _ else _) = _; rw [if_neg (by omega)]; congr 1; omega
  have hold : ∀ g, g < w.heap.size → w'.heap[g]? = w.heap[g]? := fun g hg => k.block g hg (fun b' hb' => absurd hb' (Nat.not_lt_zero _))
  have hnew : ∀ b g, b < nb.length → G1.M b = some g → w.heap.size ≤ g := fun b g hb hg => by
    rcases k.new b g hb hg with h1 | ⟨b', h1, _⟩
    · exact h1
    · exact absurd h1 (Nat.not_lt_zero _)
  have hS : ∀ g o, G1.S g o → G.S g o ∨ w.heap.size ≤ g := fun g o hs => by
    rcases k.snew g o hs with h1 | h1 | ⟨b', h1, _⟩
    · exact .inl h1
    · exact .inr h1
    · exact absurd h1 (Nat.not_lt_zero _)
  have hgn : ∀ b, (bk ++ nb)[b + bk.length]? = nb[b]? := fun b => by rw [List.getElem?_append_right (by omega), Nat.add_sub_cancel]
  have hrn : ∀ b, rowsOf (bk ++ nb) (b + bk.length) = rowsOf nb b := fun b => by unfold rowsOf; rw [hgn]
  have hlen : (bk ++ nb).length = bk.length + nb.length := by simp
  have t : Trn G bk w G' (bk ++ nb) w' := by
    refine ⟨k.s0, fun g o hs => World.cell?_of_block (a := ⟨g, o, none⟩) (hold g (h.slt g o hs)), by simp, fun b hb hr => ⟨by rw [rowsOf_append _ hb]; exact hr, hMo b hb⟩, fun b sz rows hr => ⟨rows, by rw [rowsOf_append _ (rowsOf_lt hr)]; exact hr, Nat.le_refl _, fun _ => ⟨hMo b (rowsOf_lt hr), hco b (rowsOf_lt hr)⟩⟩⟩
  have hsplit : ∀ b, b < (bk ++ nb).length → b < bk.length ∨ ∃ c, c < nb.length ∧ b = c + bk.length := fun b hb => by
    rw [hlen] at hb
    rcases Nat.lt_or_ge b bk.length with h1 | h1
    · exact .inl h1
    · exact .inr ⟨b - bk.length, by omega, by omega⟩
  have repLn : ∀ l u, RepL G1 nb w' l u → RepL G' (bk ++ nb) w' (shL bk.length l) u := fun l u hl => by
    cases l with
    | pv p => exact hl
    | ro p => exact hl
    | fn f c => exact hl
    | ptr b off =>
      obtain ⟨⟨g, hg, rfl⟩, hb, hr⟩ := hl
      exact ⟨⟨g, by rw [hMn]; exact hg, rfl⟩, by rw [hlen]; omega, by rw [hrn]; exact hr⟩
    | ept b n i sz off =>
      obtain ⟨h1, rows, h2, h3, h4⟩ := hl
      refine ⟨h1, rows, by rw [hrn]; exact h2, h3, fun e => ?_⟩
      obtain ⟨g, hg, rfl⟩ := h4 e
      exact ⟨g, by rw [hMn]; exact hg, rfl⟩
    | own b len =>
      obtain ⟨h1, sz, rows, h2, h3, h4⟩ := hl
      refine ⟨h1, sz, rows, by rw [hrn]; exact h2, h3, fun e => ?_⟩
      rcases h4 e with ⟨g, hg, rfl⟩ | ⟨hg, h0, rfl⟩
      · exact .inl ⟨g, by rw [hMn]; exact hg, by rw [hcn]⟩
      · exact .inr ⟨by rw [hMn]; exact hg, h0, rfl⟩
  have fmap : ∀ {α : Type} {R R' : α → Value → Prop} {f : α → α}, (∀ l u, R l u → R' (f l) u) → ∀ {ls : List α} {us : List Value}, Fa R ls us → Fa R' (ls.map f) us := fun {α R R' f} hf {ls} => by
    induction ls with
    | nil => intro us h; cases us <;> exact h
    | cons x l ih => intro us h; cases us with
      | nil => exact h.elim
      | cons u us => exact ⟨hf _ _ h.1, ih h.2⟩
  refine ⟨G', t, ⟨fun b B hb => ?_, fun b b' g hb hb' e e' => ?_, fun g o b hs ha e => ?_, k.slt, fun b g hb e => ?_, fun b g hb e => ?_, fun g o hs => k.s0 g o (h.s0 g o hs), fun g o hs => ?_, k.os.trans h.os, k.tape.trans h.tape, k.output.trans h.output, Nat.le_trans h.size k.size,
    fun g hg hn' => (hold g (Nat.lt_of_lt_of_le hg h.size)).trans (h.block g hg hn'), by have := h.mle; rw [hlen]; omega, h.t0.trans t⟩, fun x u hx => ?_⟩
  · rcases hsplit b (List.getElem?_eq_some_iff.1 hb).1 with hl | ⟨c, hc, rfl⟩
    · rw [List.getElem?_append_left hl] at hb
      exact RepB.step t (hMo b hl) (hco b hl) (fun g hg => hold g (h.mlt b g hl hg)) (h.blk b B hb)
    · rw [hgn] at hb
      have ha : isArr B = true := List.all_eq_true.1 hn B (List.mem_of_getElem? hb)
      have hk := k.blk c B hb
      cases B with
      | arr e sz rows =>
        rcases hk with ⟨h1, h2⟩ | ⟨g, cur, h0, h1, h2, h3, h4, h5⟩
        · exact .inl ⟨by rw [hMn]; exact h1, h2⟩
        · exact .inr ⟨g, cur, by rw [hMn]; exact h0, h1, by rw [hcn]; exact h2, by rw [hcn]; exact h3, by rw [hcn]; exact h4, h5⟩
      | _ => cases ha
  · rcases hsplit b hb with hl | ⟨c, hc, rfl⟩ <;> rcases hsplit b' hb' with hl' | ⟨c', hc', rfl⟩
    · rw [hMo b hl] at e; rw [hMo b' hl'] at e'; exact h.inj b b' g hl hl' e e'
    · rw [hMo b hl] at e; rw [hMn] at e'; have := h.mlt b g hl e; have := hnew c' g hc' e'; omega
    · rw [hMn] at e; rw [hMo b' hl'] at e'; have := h.mlt b' g hl' e'; have := hnew c g hc e; omega
    · rw [hMn] at e; rw [hMn] at e'; rw [k.inj c c' g hc hc' e e']
  · rcases hsplit b (alive_lt ha) with hl | ⟨c, hc, rfl⟩
    · rw [hMo b hl] at e
      rcases hS g o hs with h1 | h1
      · exact h.sdis g o b h1 ((alive_append _ hl).1 ha) e
      · have := h.mlt b g hl e; omega
    · rw [hMn] at e
      refine k.sdis g o c hs ?_ e
      unfold Alive at ha ⊢
      rw [hgn] at ha
      exact ha
  · rcases hsplit b hb with hl | ⟨c, hc, rfl⟩
    · rw [hMo b hl] at e; have := h.mlt b g hl e; have := k.size; exact Nat.lt_of_lt_of_le (h.mlt b g hl e) k.size
    · rw [hMn] at e; exact k.mlt c g hc e
  · rcases hsplit b hb with hl | ⟨c, hc, rfl⟩
    · rw [hMo b hl] at e; exact h.new b g hl e
    · rw [hMn] at e; exact .inl (Nat.le_trans h.size (hnew c g hc e))
  · rcases hS g o hs with h1 | h1
    · exact h.snew g o h1
    · exact .inr (.inl (Nat.le_trans h.size h1))
  · cases x with
    | lf l => exact repLn l u hx
    | agg l => obtain ⟨us, rfl, hu⟩ := hx; exact ⟨us, rfl, fmap repLn hu⟩
    | tup l =>
      obtain ⟨us, rfl, hu⟩ := hx
      refine ⟨us, rfl, fmap (fun t u ht => ?_) hu⟩
      cases t with
      | lf l => exact repLn l u ht
      | agg l => obtain ⟨us, rfl, hu⟩ := ht; exact ⟨us, rfl, fmap repLn hu⟩
    | un => trivial

theorem renAs_rep {idx : List Nat} {B : List Blk} {G' : Gh} (hr : ∀ l l' v, renL idx l = some l' → RepL G bk w l v → RepL G' B w l' v) : ∀ {xs ys : List AV} {us : List Value}, renAs idx xs = some ys → Fa (RepA G bk w) xs us → Fa (RepA G' B w) ys us
  | [], ys, us, h, hf => by simp [renAs] at h; subst h; cases us <;> exact hf
  | x :: xs, ys, us, h, hf => by
    unfold renAs at h
    split at h
    · rename_i y ys' hy hys
      cases h
      cases us with
      | nil => exact hf.elim
      | cons u us =>
        refine ⟨?_, renAs_rep hr hys hf.2⟩
        cases x with
        | lf l =>
          simp only [renA, Option.map_eq_some_iff] at hy
          obtain ⟨l', h1, rfl⟩ := hy
          exact hr _ _ _ h1 hf.1
        | agg l =>
          simp only [renA, Option.map_eq_some_iff] at hy
          obtain ⟨l', h1, rfl⟩ := hy
          obtain ⟨vs, e, hvs⟩ := hf.1
          exact ⟨vs, e, renLs_get h1 hr hvs⟩
        | _ => simp [renA] at hy
    · cases h
theorem lendK_sound (hm : Mem C G bk w) {f : FuncId} {xs : List AV} {us : List Value} (hx : Fa (RepA G bk w) xs us) {K : AV → List Blk → Prop} (h : lendK P f xs bk K) :
    fnOK P f = true ∧ Calls P f us.toArray w fun e w' => ∃ u x G' bk', e = .returned u ∧ Trn G bk w G' bk' w' ∧ Mem C G' bk' w' ∧ RepA G' bk' w' x u ∧ K x bk' := by
  obtain ⟨idx, B0, cargs, cargs', r, B1, hnd, hB, hren, hwk, hcon, hk⟩ := h
  obtain ⟨m1, rep⟩ := hm.pick hnd hB 0
  refine ⟨hcon.1, (hcon.2 w (G.pick idx) us m1 (wks_rep hwk (renAs_rep rep hren hx))).mono ?_⟩
  rintro e w' ⟨u, G2, rfl, hr, m2⟩
  obtain ⟨G3, t3, m3, hj⟩ := hm.back hnd hB m2
  exact ⟨u, _, G3, _, rfl, t3, m3, hj _ _ hr, hk⟩
theorem callK_sound (hm : Mem C G bk w) {fop : AV} {fv : Value} {xs : List AV} {us : List Value} (hf : RepA G bk w fop fv) (hx : Fa (RepA G bk w) xs us) {ln : Bool} {K : AV → List Blk → Prop} (h : callK P ln fop xs bk K) :
    ∃ (f : FuncId) (caps : List Value), fv = .func (.func f) #[] caps.toArray ∧ fnOK P f = true ∧ Calls P f (us ++ caps).toArray w fun e w' => ∃ u x G' bk', e = .returned u ∧ Trn G bk w G' bk' w' ∧ Mem C G' bk' w' ∧ RepA G' bk' w' x u ∧ K x bk' := by
  unfold callK at h
  split at h
  · rename_i f caps
    obtain ⟨cus, rfl, hc⟩ := hf
    cases ln with
    | true =>
      have hcap : Fa (RepA G bk w) (caps.map fun l => .lf (.ro l)) cus := by
        have : ∀ {cs : List (List PV)} {us : List Value}, Fa (fun l u => ∃ g o, u = .pointer (some ⟨g, o, none⟩) ∧ CellsP G.S w g o l) cs us → Fa (RepA G bk w) (cs.map fun l => .lf (.ro l)) us := fun {cs} => by
          induction cs with
          | nil => intro us h; cases us <;> exact h
          | cons x l ih => intro us h; cases us with
            | nil => exact h.elim
            | cons u us =>
              obtain ⟨g, o, rfl, hcell⟩ := h.1
              exact ⟨⟨g, o, rfl, hcell⟩, ih h.2⟩
        exact this hc
      obtain ⟨h1, h2⟩ := lendK_sound hm (hx.append hcap) h
      exact ⟨f, cus, rfl, h1, h2⟩
    | false =>
    obtain ⟨G1, b1, ys, t1, m1, hy, cargs, r, nb, hwk, hcon, hk⟩ := argsK_sound hm hx h
    have hcap : Fa (RepA (Gh.base G1.S) [] w) (caps.map fun l => .lf (.ro l)) cus := by
      have : ∀ {cs : List (List PV)} {us : List Value}, Fa (fun l u => ∃ g o, u = .pointer (some ⟨g, o, none⟩) ∧ CellsP G.S w g o l) cs us → Fa (RepA (Gh.base G1.S) [] w) (cs.map fun l => .lf (.ro l)) us := fun {cs} => by
        induction cs with
        | nil => intro us h; cases us <;> exact h
        | cons x l ih => intro us h; cases us with
          | nil => exact h.elim
          | cons u us =>
            obtain ⟨g, o, rfl, hcell⟩ := h.1
            exact ⟨⟨g, o, rfl, t1.cellsP hcell⟩, ih h.2⟩
      exact this hc
    refine ⟨f, cus, rfl, hcon.1, (hcon.2.2 w G1.S _ m1.slt (wks_rep hwk (hy.append hcap))).mono ?_⟩
    rintro e w' ⟨u, G2, rfl, hr, m2⟩
    have hold : ∀ g, g < w.heap.size → w'.heap[g]? = w.heap[g]? := fun g hg => m2.block g hg (fun b' hb' => absurd hb' (Nat.not_lt_zero _))
    rcases hk with ⟨hs, rfl, hk⟩ | hk
    · obtain ⟨t3, m3⟩ := hm.below m2.os m2.tape m2.output m2.size hold
      exact ⟨u, r, G, bk, rfl, t3, m3, scalA_rep hs hr, hk⟩
    · obtain ⟨G3, t3, m3, hj⟩ := m1.join hcon.2.1 m2
      exact ⟨u, _, G3, _, rfl, t1.trans t3, m3, hj _ _ hr, hk⟩
  · exact h.elim
end
end Go.Rx
