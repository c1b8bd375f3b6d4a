/- The texts of the proof, part 2, in order. -/
import Derived.Test.YtnhheglbcphklaaGreatZa
import Derived.Laws.Slices
import Derived.WideLaws
import Derived.Laws.MakeOwn
import Derived.Laws.IdiomStrings
import Derived.Laws.BytesArg
import Derived.IntWalk
import Derived.Tactics
/- Calls by contract, and every operation at once. -/
set_option linter.unusedVariables false
set_option linter.unusedSimpArgs false
namespace Go.Rx
open Go.RowKit

def fnOK (P : Program) (f : FuncId) : Bool :=
  match P.funcs[f]? with
  | some fn => fn.name != "runtime.NumGoroutine" && fn.body.isSome
  | none => false
def isArr : Blk → Bool
  | .arr _ _ _ => true
  | _ => false
def Gh.base (S : Sp) : Gh := ⟨fun _ => none, S, fun _ => 0, fun _ _ => none⟩
def Ctx.base (w : World) (S : Sp) (n : Nat) : Ctx := ⟨w, Gh.base S, [], n⟩

/-- f at these arguments returns r; nb: the rows that r alone holds. Nothing that was there has turned. -/
def Con (P : Program) (f : FuncId) (args : List AV) (r : AV) (nb : List Blk) : Prop :=
  fnOK P f = true ∧ nb.all isArr = true ∧ ∀ (w : World) (S : Sp) (us : List Value), ((∀ g o, S g o → g < w.heap.size) ∧ Glob S w) → (∀ g e, S.f g = some e → TyAt w g e) → Fa (RepA (Gh.base S) [] w) args us →
    Calls P f us.toArray w fun e w' => ∃ u G', e = .returned u ∧ RepA G' nb w' r u ∧ Mem (Ctx.base w S 0) G' nb w'

def argL (bk : List Blk) (l : Lf) (K : List Blk → Lf → Prop) : Prop :=
  match l with
  | .pv p => K bk (.pv p)
  | .ro l => K bk (.ro l)
  | .fn f c => K bk (.fn f c)
  | .own b len => pvK bk (.own b len) fun bk p => K bk (.pv p)
  | .view b n k => pvK bk (.view b n k) fun bk p => K bk (.pv p)
  | .bad _ _ => False
  | .frs _ _ => False
  | .bnd _ _ _ => False
  | .ptr b off =>
    (match bk[b]? with
     | some (.var cells) => (match cells.mapM pvOf with | some ps => K (bk.set b (.frv ps)) (.ro (ps.drop off)) | none => False)
     | some (.frv ps) => K bk (.ro (ps.drop off))
     | _ => False)
  | .ept _ _ _ _ _ => False
def argLs : List Blk → List Lf → (List Blk → List Lf → Prop) → Prop
  | bk, [], K => K bk []
  | bk, l :: ls, K => argL bk l fun bk x => argLs bk ls fun bk xs => K bk (x :: xs)
def argA (bk : List Blk) (x : AV) (K : List Blk → AV → Prop) : Prop :=
  match x with
  | .lf l => argL bk l fun bk l => K bk (.lf l)
  | .agg ls => argLs bk ls fun bk ls => K bk (.agg ls)
  | _ => False
def argsK : List Blk → List AV → (List Blk → List AV → Prop) → Prop
  | bk, [], K => K bk []
  | bk, x :: xs, K => argA bk x fun bk y => argsK bk xs fun bk ys => K bk (y :: ys)

/-- What stands for one value stands for the other, too. -/
def WkP (p q : PV) : Prop := ∀ (S : Sp) (w : World) (v : Value), RepP S w p v → RepP S w q v
def WkL (l l' : Lf) : Prop := l = l' ∨ ∃ p q, l = .pv p ∧ l' = .pv q ∧ WkP p q
def WkA (x y : AV) : Prop := x = y ∨ (∃ l l', x = .lf l ∧ y = .lf l' ∧ WkL l l') ∨ ∃ ls ms, x = .agg ls ∧ y = .agg ms ∧ Fa WkL ls ms
theorem wk_refl : ∀ l : List AV, Fa WkA l l
  | [] => trivial
  | _ :: l => ⟨.inl rfl, wk_refl l⟩

def scalL : Lf → Bool
  | .pv (.sc _) => true
  | _ => false
def scalT : TC → Bool
  | .lf l => scalL l
  | .agg l => l.all scalL
def scalA : AV → Bool
  | .lf l => scalL l
  | .agg l => l.all scalL
  | .tup l => l.all scalT
  | .un => false
def shL (n : Nat) : Lf → Lf
  | .own b len => .own (b + n) len
  | .view b m k => .view (b + n) m k
  | .bad b t => .bad (b + n) t
  | .frs b q => .frs (b + n) q
  | .bnd f b off => .bnd f (b + n) off
  | .ptr b off => .ptr (b + n) off
  | .ept b m i sz off => .ept (b + n) m i sz off
  | .pv p => .pv p
  | .ro l => .ro l
  | .fn f c => .fn f c
def shT (n : Nat) : TC → TC
  | .lf l => .lf (shL n l)
  | .agg l => .agg (l.map (shL n))
def shA (n : Nat) : AV → AV
  | .lf l => .lf (shL n l)
  | .agg l => .agg (l.map (shL n))
  | .tup l => .tup (l.map (shT n))
  | .un => .un

/-- f, to which these blocks are lent, at these arguments returns r; B1: the blocks behind it, those lent first. -/
def ConG (P : Program) (f : FuncId) (B0 : List Blk) (args : List AV) (r : AV) (B1 : List Blk) : Prop :=
  fnOK P f = true ∧ ∀ (w : World) (G0 : Gh) (us : List Value), Mem ⟨w, G0, B0, 0⟩ G0 B0 w ∧ Glob G0.S w → Fa (RepA G0 B0 w) args us →
    Calls P f us.toArray w fun e w' => ∃ u G', e = .returned u ∧ RepA G' B1 w' r u ∧ Mem ⟨w, G0, B0, 0⟩ G' B1 w'
def lendK (P : Program) (f : FuncId) (args : List AV) (bk : List Blk) (K : AV → List Blk → Prop) : Prop :=
  ∃ idx B0 cargs cargs' r B1, idx.Nodup ∧ pickB idx bk idx = some B0 ∧ renAs idx args = some cargs ∧ Fa WkA cargs cargs' ∧ ConG P f B0 cargs' r B1 ∧ K (bkA idx bk.length r) (bkBs idx bk B1)
/-- What lies in blocks that calls have made, alone. -/
def Sp.only (S : Sp) : Sp := ⟨fun g _ => ∃ e, S.f g = some e, S.f⟩
def Sp.bare (S : Sp) : Sp := ⟨S.c, fun _ => none⟩
def FrP (p : PV) : Prop := ∀ (S : Sp) (w : World) (v : Value), RepP S w p v → RepP S.only w p v
/-- What says of no block that a call has made it. -/
def NoP (p : PV) : Prop := ∀ (S : Sp) (w : World) (v : Value), RepP S w p v → RepP S.bare w p v
def FrL : Lf → Prop
  | .pv p => FrP p
  | _ => False
def FrT : TC → Prop
  | .lf l => FrL l
  | .agg l => ∀ x ∈ l, FrL x
def FrA : AV → Prop
  | .lf l => FrL l
  | .agg l => ∀ x ∈ l, FrL x
  | .tup l => ∀ x ∈ l, FrT x
  | .un => False
def NoL : Lf → Prop
  | .pv p => NoP p
  | _ => False
def NoA : AV → Prop
  | .lf l => NoL l
  | .agg l => ∀ x ∈ l, NoL x
  | _ => False
def frL (b : Nat) : Lf → Lf
  | .pv (.sc v) => .pv (.sc v)
  | .pv p => .frs b p
  | l => l
def frT (b : Nat) : TC → TC
  | .lf l => .lf (frL b l)
  | .agg l => .agg (l.map (frL b))
def frA (b : Nat) : AV → AV
  | .lf l => .lf (frL b l)
  | .agg l => .agg (l.map (frL b))
  | .tup l => .tup (l.map (frT b))
  | .un => .un
def callK (P : Program) (ln : Bool) (fop : AV) (args : List AV) (bk : List Blk) (K : AV → List Blk → Prop) : Prop :=
  match fop with
  | .lf (.fn f caps) =>
    (match ln with
     | true => lendK P f (args ++ caps.map fun l => .lf (.ro l)) bk K
     | false => argsK bk args fun bk' cargs => ∃ cargs' r nb, Fa WkA (cargs ++ caps.map fun l => .lf (.ro l)) cargs' ∧ Con P f cargs' r nb ∧
        (((scalA r = true ∧ nb = [] ∧ K r bk) ∨ (nb = [] ∧ FrA r ∧ caps = [] ∧ (∀ x ∈ cargs', NoA x) ∧ K (frA bk'.length r) (bk' ++ [.hp]))) ∨ K (shA bk'.length r) (bk' ++ nb)))
  | .lf (.bnd (.fn f) b off) => (match ln with | true => lendK P f (.lf (.ptr b off) :: args) bk K | false => False)
  | _ => False

section
variable {P : Program} {T : Tab} {C : Ctx} {G : Gh} {sl : Nat → AV} {bk : List Blk} {a : Act} {w : World}

def pureL : Lf → Prop
  | .pv _ | .ro _ | .fn _ _ => True
  | _ => False
def pureA : AV → Prop
  | .lf l => pureL l
  | .agg l => ∀ x ∈ l, pureL x
  | _ => False
theorem pure_rep {l : Lf} {v : Value} (hp : pureL l) (h : RepL G bk w l v) : RepL (Gh.base G.S) [] w l v := by
  cases l <;> first | exact h | exact hp.elim
theorem pureA_rep {x : AV} {v : Value} (hp : pureA x) (h : RepA G bk w x v) : RepA (Gh.base G.S) [] w x v := by
  cases x with
  | lf l => exact pure_rep hp h
  | agg l =>
    obtain ⟨us, rfl, hu⟩ := h
    refine ⟨us, rfl, ?_⟩
    have : ∀ {l : List Lf} {us : List Value}, (∀ x ∈ l, pureL x) → Fa (RepL G bk w) l us → Fa (RepL (Gh.base G.S) [] w) l us := fun {l} => by
      induction l with
      | nil => intro us _ h; cases us <;> exact h
      | cons x l ih =>
        intro us hp h
        cases us with
        | nil => exact h.elim
        | cons u us => exact ⟨pure_rep (hp x (by simp)) h.1, ih (fun y hy => hp y (by simp [hy])) h.2⟩
    exact this hp hu
  | _ => exact hp.elim

theorem argL_sound (hm : Mem C G bk w) {l : Lf} {v : Value} (hl : RepL G bk w l v) {K : List Blk → Lf → Prop} (h : argL bk l K) :
    ∃ G' bk' x, Trn G bk w G' bk' w ∧ Mem C G' bk' w ∧ RepL G' bk' w x v ∧ pureL x ∧ K bk' x := by
  cases l with
  | pv p => exact ⟨G, bk, _, Trn.refl _ _ _, hm, hl, trivial, h⟩
  | ro p => exact ⟨G, bk, _, Trn.refl _ _ _, hm, hl, trivial, h⟩
  | fn f c => exact ⟨G, bk, _, Trn.refl _ _ _, hm, hl, trivial, h⟩
  | own b len =>
    simp only [argL] at h
    obtain ⟨G', bk', p, t, m, hp, hk⟩ := pvK_sound hm hl h
    exact ⟨G', bk', .pv p, t, m, hp, trivial, hk⟩
  | view b n k =>
    simp only [argL] at h
    obtain ⟨G', bk', p, t, m, hp, hk⟩ := pvK_sound hm hl h
    exact ⟨G', bk', .pv p, t, m, hp, trivial, hk⟩
  | ptr b off =>
    simp only [argL] at h
    split at h
    · rename_i cells hb
      split at h
      · rename_i ps hps
        obtain ⟨G', t, m, _⟩ := hm.frz b _ (.frv ps) hb (by simp [frzB, hps])
        exact ⟨G', _, _, t, m, ptr_ro m (by rw [List.getElem?_set_self (List.getElem?_eq_some_iff.1 hb).1]) (t.repL hl), trivial, h⟩
      · exact h.elim
    · rename_i ps hb
      exact ⟨G, bk, _, Trn.refl _ _ _, hm, ptr_ro hm hb hl, trivial, h⟩
    · exact h.elim
  | ept b n i sz off => exact h.elim
  | bad b t => exact h.elim
  | frs b q => exact h.elim
  | bnd f b off => exact h.elim
theorem argLs_sound : ∀ {ls : List Lf} {G : Gh} {bk : List Blk} {vs : List Value} {K : List Blk → List Lf → Prop}, Mem C G bk w → Fa (RepL G bk w) ls vs → argLs bk ls K →
    ∃ G' bk' xs, Trn G bk w G' bk' w ∧ Mem C G' bk' w ∧ Fa (RepL G' bk' w) xs vs ∧ (∀ x ∈ xs, pureL x) ∧ K bk' xs
  | [], G, bk, [], K, hm, _, h => ⟨G, bk, [], Trn.refl _ _ _, hm, trivial, by simp, h⟩
  | l :: ls, G, bk, v :: vs, K, hm, hf, h => by
    obtain ⟨G1, b1, p, t1, m1, hp, hpu, h1⟩ := argL_sound hm hf.1 h
    obtain ⟨G2, b2, ps, t2, m2, hps, hpus, h2⟩ := argLs_sound m1 (hf.2.mono fun _ _ => t1.repL) h1
    exact ⟨G2, b2, p :: ps, t1.trans t2, m2, ⟨t2.repL hp, hps⟩, by simpa using ⟨hpu, hpus⟩, h2⟩
  | [], _, _, _ :: _, _, _, hf, _ => hf.elim
  | _ :: _, _, _, [], _, _, hf, _ => hf.elim
theorem argA_sound (hm : Mem C G bk w) {x : AV} {v : Value} (hx : RepA G bk w x v) {K : List Blk → AV → Prop} (h : argA bk x K) :
    ∃ G' bk' y, Trn G bk w G' bk' w ∧ Mem C G' bk' w ∧ RepA G' bk' w y v ∧ pureA y ∧ K bk' y := by
  cases x with
  | lf l =>
    simp only [argA] at h
    obtain ⟨G', bk', y, t, m, hy, hp, hk⟩ := argL_sound hm hx h
    exact ⟨G', bk', .lf y, t, m, hy, hp, hk⟩
  | agg ls =>
    obtain ⟨us, rfl, hu⟩ := hx
    simp only [argA] at h
    obtain ⟨G', bk', ys, t, m, hy, hp, hk⟩ := argLs_sound hm hu h
    exact ⟨G', bk', .agg ys, t, m, ⟨us, rfl, hy⟩, hp, hk⟩
  | _ => exact h.elim
theorem argsK_sound : ∀ {xs : List AV} {G : Gh} {bk : List Blk} {vs : List Value} {K : List Blk → List AV → Prop}, Mem C G bk w → Fa (RepA G bk w) xs vs → argsK bk xs K →
    ∃ G' bk' ys, Trn G bk w G' bk' w ∧ Mem C G' bk' w ∧ Fa (RepA (Gh.base G'.S) [] w) ys vs ∧ K bk' ys
  | [], G, bk, [], K, hm, _, h => ⟨G, bk, [], Trn.refl _ _ _, hm, trivial, h⟩
  | x :: xs, G, bk, v :: vs, K, hm, hf, h => by
    obtain ⟨G1, b1, y, t1, m1, hy, hp, h1⟩ := argA_sound hm hf.1 h
    obtain ⟨G2, b2, ys, t2, m2, hys, h2⟩ := argsK_sound m1 (hf.2.mono fun _ _ => t1.repA) h1
    exact ⟨G2, b2, y :: ys, t1.trans t2, m2, ⟨pureA_rep hp (t2.repA hy), hys⟩, h2⟩
  | [], _, _, _ :: _, _, _, hf, _ => hf.elim
  | _ :: _, _, _, [], _, _, hf, _ => hf.elim

theorem wkL_rep {l l' : Lf} {v : Value} (h : WkL l l') (hr : RepL G bk w l v) : RepL G bk w l' v := by
  rcases h with rfl | ⟨p, q, rfl, rfl, h⟩
  · exact hr
  · exact h _ _ _ hr
theorem wkA_rep {x y : AV} {v : Value} (h : WkA x y) (hr : RepA G bk w x v) : RepA G bk w y v := by
  rcases h with rfl | ⟨l, l', rfl, rfl, h⟩ | ⟨ls, ms, rfl, rfl, h⟩
  · exact hr
  · exact wkL_rep h hr
  · obtain ⟨us, rfl, hu⟩ := hr
    refine ⟨us, rfl, ?_⟩
    have : ∀ {ls ms : List Lf} {us : List Value}, Fa WkL ls ms → Fa (RepL G bk w) ls us → Fa (RepL G bk w) ms us := fun {ls} => by
      induction ls with
      | nil => intro ms us h1 h2; cases ms <;> cases us <;> first | trivial | exact h1.elim | exact h2.elim
      | cons x l ih =>
        intro ms us h1 h2
        cases ms with
        | nil => exact h1.elim
        | cons y ms => cases us with
          | nil => exact h2.elim
          | cons u us => exact ⟨wkL_rep h1.1 h2.1, ih h1.2 h2.2⟩
    exact this h hu
theorem wks_rep : ∀ {xs ys : List AV} {us : List Value}, Fa WkA xs ys → Fa (RepA G bk w) xs us → Fa (RepA G bk w) ys us
  | [], [], [], _, _ => trivial
  | _ :: _, _ :: _, _ :: _, h1, h2 => ⟨wkA_rep h1.1 h2.1, wks_rep h1.2 h2.2⟩
  | [], _ :: _, _, h1, _ => h1.elim
  | _ :: _, [], _, h1, _ => h1.elim
  | [], [], _ :: _, _, h2 => h2.elim
  | _ :: _, _ :: _, [], _, h2 => h2.elim

/-- A world in which all that was there is as it was. -/
theorem Mem.below {w' : World} (h : Mem C G bk w) (hos : w'.os = w.os) (htp : w'.tape = w.tape) (hou : w'.output = w.output) (hsz : w.heap.size ≤ w'.heap.size) (hh : ∀ g, g < w.heap.size → w'.heap[g]? = w.heap[g]?) :
    Trn G bk w G bk w' ∧ Mem C G bk w' := by
  have t : Trn G bk w G bk w' := ⟨fun _ _ h => h, fun _ _ h => h, fun g o hs => World.cell?_of_block (a := ⟨g, o, none⟩) (hh g (h.slt g o hs)), fun b hb e => ⟨e, rfl, fun g x hg => hh g (h.hlt (hp_of e (.inl ⟨rfl, rfl⟩)) hg).1⟩, Nat.le_refl _, fun _ _ h => ⟨h, rfl⟩, fun _ _ rows h => ⟨rows, h, Nat.le_refl _, fun _ => ⟨rfl, rfl⟩⟩⟩
  exact ⟨t, ⟨fun b B hb => RepB.step t rfl rfl (fun g hg => hh g (h.mlt b g (List.getElem?_eq_some_iff.1 hb).1 hg)) (fun h0 g x e hg => hh g (h.hlt (hp_of hb e) hg).1) (h.blk b B hb), h.inj, h.sdis, fun g o hs => Nat.lt_of_lt_of_le (h.slt g o hs) hsz, fun b g hb hg => Nat.lt_of_lt_of_le (h.mlt b g hb hg) hsz, h.new, h.s0, h.snew, h.fnew, fun g e hf => (h.fty g e hf).keep (hh g (h.flt g e hf)), h.fdis,
    hos.trans h.os, htp.trans h.tape, hou.trans h.output, Nat.le_trans h.size hsz, fun g hg hn hx => (hh g (Nat.lt_of_lt_of_le hg h.size)).trans (h.block g hg hn hx), h.regs, h.mle, h.t0.trans t⟩⟩

theorem scalL_rep {G' : Gh} {bk' : List Blk} {w' : World} {l : Lf} {v : Value} (hs : scalL l = true) (h : RepL G bk w l v) : RepL G' bk' w' l v := by
  cases l with
  | pv p => cases p with
    | sc u => have h' : RepP G.S w (.sc u) v := h; cases h'; exact RepP.sc _ (by assumption)
    | sl sz rows => cases hs
    | fs e sz rows => cases hs
  | _ => cases hs
theorem fa_all {α β : Type} {R R' : α → β → Prop} {p : α → Bool} (hr : ∀ a b, p a = true → R a b → R' a b) : ∀ {l : List α} {m : List β}, l.all p = true → Fa R l m → Fa R' l m
  | [], [], _, _ => trivial
  | x :: l, y :: m, hp, h => by
    simp only [List.all_cons, Bool.and_eq_true] at hp
    exact ⟨hr _ _ hp.1 h.1, fa_all hr hp.2 h.2⟩
  | [], _ :: _, _, h => h.elim
  | _ :: _, [], _, h => h.elim
theorem scalA_rep {G' : Gh} {bk' : List Blk} {w' : World} {x : AV} {v : Value} (hs : scalA x = true) (h : RepA G bk w x v) : RepA G' bk' w' x v := by
  cases x with
  | lf l => exact scalL_rep hs h
  | agg l => obtain ⟨us, rfl, hu⟩ := h; exact ⟨us, rfl, fa_all (p := scalL) (fun _ _ h1 h2 => scalL_rep h1 h2) hs hu⟩
  | tup l =>
    obtain ⟨us, rfl, hu⟩ := h
    refine ⟨us, rfl, fa_all (fun t v h1 h2 => ?_) hs hu⟩
    cases t with
    | lf l => exact scalL_rep h1 h2
    | agg l => obtain ⟨us, rfl, hu⟩ := h2; exact ⟨us, rfl, fa_all (p := scalL) (fun _ _ h1 h2 => scalL_rep h1 h2) h1 hu⟩
  | un => cases hs

/-- What a callee has made joins what the caller has. -/
theorem Mem.join {w' : World} {G1 : Gh} {nb : List Blk} (h : Mem C G bk w) (hn : nb.all isArr = true) (k : Mem (Ctx.base w G.S 0) G1 nb w') :
    ∃ G', Trn G bk w G' (bk ++ nb) w' ∧ Mem C G' (bk ++ nb) w' ∧ ∀ x u, RepA G1 nb w' x u → RepA G' (bk ++ nb) w' (shA bk.length x) u := by
  let G' : Gh := { M := fun b => if b < bk.length then G.M b else G1.M (b - bk.length), S := G1.S, cp := fun b => if b < bk.length then G.cp b else G1.cp (b - bk.length), H := fun b => if b < bk.length then G.H b else G1.H (b - bk.length) }
  have hMo : ∀ b, b < bk.length → G'.M b = G.M b := fun b hb => if_pos hb
  have hco : ∀ b, b < bk.length → G'.cp b = G.cp b := fun b hb => if_pos hb
  have hMn : ∀ b, G'.M (b + bk.length) = G1.M b := fun b => by show (if _ then _ else _) = _; rw [if_neg (by omega)]; congr 1; omega
  have hcn : ∀ b, G'.cp (b + bk.length) = G1.cp b := fun b => by show (if _ then _ else _) = _; rw [if_neg (by omega)]; congr 1; omega
  have hold : ∀ g, g < w.heap.size → w'.heap[g]? = w.heap[g]? := fun g hg => k.block g hg (fun b' hb' => absurd hb' (Nat.not_lt_zero _)) (regX_nil _ g)
  have hnew : ∀ b g, b < nb.length → G1.M b = some g → w.heap.size ≤ g := fun b g hb hg => by
    rcases k.new b g hb hg with h1 | ⟨b', h1, _⟩
    · exact h1
    · exact absurd h1 (Nat.not_lt_zero _)
  have hS : ∀ g o, G1.S g o → G.S g o ∨ w.heap.size ≤ g := fun g o hs => by
    rcases k.snew g o hs with h1 | h1 | ⟨b', h1, _⟩
    · exact .inl h1
    · exact .inr h1
    · exact absurd h1 (Nat.not_lt_zero _)
  have hSf : ∀ g e, G1.S.f g = some e → G.S.f g = some e ∨ w.heap.size ≤ g := fun g e hs => by
    rcases k.fnew g e hs with h1 | h1 | ⟨b', h1, _⟩
    · exact .inl h1
    · exact .inr h1
    · exact absurd h1 (Nat.not_lt_zero _)
  have hgn : ∀ b, (bk ++ nb)[b + bk.length]? = nb[b]? := fun b => by rw [List.getElem?_append_right (by omega), Nat.add_sub_cancel]
  have hrn : ∀ b, rowsOf (bk ++ nb) (b + bk.length) = rowsOf nb b := fun b => by unfold rowsOf; rw [hgn]
  have hlen : (bk ++ nb).length = bk.length + nb.length := by simp
  have t : Trn G bk w G' (bk ++ nb) w' := by
    refine ⟨k.s0, k.t0.F, fun g o hs => World.cell?_of_block (a := ⟨g, o, none⟩) (hold g (h.slt g o hs)), fun b hb e => (by
      rw [List.getElem?_append_left hb] at e
      exact ⟨e, if_pos hb, fun g x hg => hold g (h.hlt (hp_of e (.inl ⟨rfl, rfl⟩)) hg).1⟩), by simp, fun b hb hr => ⟨by rw [rowsOf_append _ hb]; exact hr, hMo b hb⟩, fun b sz rows hr => ⟨rows, by rw [rowsOf_append _ (rowsOf_lt hr)]; exact hr, Nat.le_refl _, fun _ => ⟨hMo b (rowsOf_lt hr), hco b (rowsOf_lt hr)⟩⟩⟩
  have hsplit : ∀ b, b < (bk ++ nb).length → b < bk.length ∨ ∃ c, c < nb.length ∧ b = c + bk.length := fun b hb => by
    rw [hlen] at hb
    rcases Nat.lt_or_ge b bk.length with h1 | h1
    · exact .inl h1
    · exact .inr ⟨b - bk.length, by omega, by omega⟩
  have repLn : ∀ l u, RepL G1 nb w' l u → RepL G' (bk ++ nb) w' (shL bk.length l) u := fun l u hl => by
    cases l with
    | pv p => exact hl
    | ro p => exact hl
    | fn f c => exact hl
    | ptr b off =>
      obtain ⟨⟨g, hg, rfl⟩, hb, hr⟩ := hl
      exact ⟨⟨g, by rw [hMn]; exact hg, rfl⟩, by rw [hlen]; omega, by rw [hrn]; exact hr⟩
    | bnd f b off =>
      obtain ⟨⟨g, hg, rfl⟩, hb, hr⟩ := hl
      exact ⟨⟨g, by rw [hMn]; exact hg, rfl⟩, by rw [hlen]; omega, by rw [hrn]; exact hr⟩
    | bad b t =>
      obtain ⟨h1, hb, hr⟩ := hl
      exact ⟨by rcases h1 with h1 | ⟨g, hg, h1⟩
                · exact .inl h1
                · exact .inr ⟨g, by rw [hMn]; exact hg, h1⟩, by rw [hlen]; omega, by rw [hrn]; exact hr⟩
    | ept b n i sz off =>
      obtain ⟨h1, rows, h2, h3, h4⟩ := hl
      refine ⟨h1, rows, by rw [hrn]; exact h2, h3, fun e => ?_⟩
      obtain ⟨g, hg, rfl⟩ := h4 e
      exact ⟨g, by rw [hMn]; exact hg, rfl⟩
    | frs b q =>
      obtain ⟨h1, hb, hr, h4⟩ := hl
      refine ⟨h1, by rw [hlen]; omega, by rw [hrn]; exact hr, fun e => ?_⟩
      rw [hgn] at e
      have ha : isArr _ = true := List.all_eq_true.1 hn _ (List.mem_of_getElem? e)
      cases ha
    | own b len =>
      obtain ⟨h1, sz, rows, h2, h3, h4⟩ := hl
      refine ⟨h1, sz, rows, by rw [hrn]; exact h2, h3, fun e => ?_⟩
      rcases h4 e with ⟨g, hg, rfl⟩ | ⟨hg, h0, rfl⟩
      · exact .inl ⟨g, by rw [hMn]; exact hg, by rw [hcn]⟩
      · exact .inr ⟨by rw [hMn]; exact hg, h0, rfl⟩
    | view b n k =>
      obtain ⟨h1, sz, rows, h2, h3, hk, h4⟩ := hl
      refine ⟨h1, sz, rows, by rw [hrn]; exact h2, h3, hk, fun e => ?_⟩
      rcases h4 e with ⟨g, hg, rfl⟩ | ⟨hg, h0, rfl⟩
      · exact .inl ⟨g, by rw [hMn]; exact hg, by rw [hcn]⟩
      · exact .inr ⟨by rw [hMn]; exact hg, h0, rfl⟩
  have fmap : ∀ {α : Type} {R R' : α → Value → Prop} {f : α → α}, (∀ l u, R l u → R' (f l) u) → ∀ {ls : List α} {us : List Value}, Fa R ls us → Fa R' (ls.map f) us := fun {α R R' f} hf {ls} => by
    induction ls with
    | nil => intro us h; cases us <;> exact h
    | cons x l ih => intro us h; cases us with
      | nil => exact h.elim
      | cons u us => exact ⟨hf _ _ h.1, ih h.2⟩
  refine ⟨G', t, ⟨fun b B hb => ?_, fun b b' g hb hb' e e' => ?_, fun g o b hs ha e => ?_, k.slt, fun b g hb e => ?_, fun b g hb e => ?_, fun g o hs => k.s0 g o (h.s0 g o hs), fun g o hs => ?_, fun g e hf => ?_, k.fty, fun g e' b hf ha e => ?_, k.os.trans h.os, k.tape.trans h.tape, k.output.trans h.output, Nat.le_trans h.size k.size,
    fun g hg hn' hx' => (hold g (Nat.lt_of_lt_of_le hg h.size)).trans (h.block g hg hn' hx'), ?_, by have := h.mle; rw [hlen]; omega, h.t0.trans t⟩, fun x u hx => ?_⟩
  · rcases hsplit b (List.getElem?_eq_some_iff.1 hb).1 with hl | ⟨c, hc, rfl⟩
    · rw [List.getElem?_append_left hl] at hb
      exact RepB.step t (hMo b hl) (hco b hl) (fun g hg => hold g (h.mlt b g hl hg)) (fun h0 g x e hg => hold g (h.hlt (hp_of hb e) hg).1) (h.blk b B hb) (if_pos hl)
    · rw [hgn] at hb
      have ha : isArr B = true := List.all_eq_true.1 hn B (List.mem_of_getElem? hb)
      have hk := k.blk c B hb
      cases B with
      | arr e sz rows =>
        rcases hk with ⟨h1, h2⟩ | ⟨g, cur, h0, h1, h2, h3, h4, h5⟩
        · exact .inl ⟨by rw [hMn]; exact h1, h2⟩
        · exact .inr ⟨g, cur, by rw [hMn]; exact h0, h1, by rw [hcn]; exact h2, by rw [hcn]; exact h3, by rw [hcn]; exact h4, h5⟩
      | _ => cases ha
  · rcases hsplit b hb with hl | ⟨c, hc, rfl⟩ <;> rcases hsplit b' hb' with hl' | ⟨c', hc', rfl⟩
    · rw [hMo b hl] at e; rw [hMo b' hl'] at e'; exact h.inj b b' g hl hl' e e'
    · rw [hMo b hl] at e; rw [hMn] at e'; have := h.mlt b g hl e; have := hnew c' g hc' e'; omega
    · rw [hMn] at e; rw [hMo b' hl'] at e'; have := h.mlt b' g hl' e'; have := hnew c g hc e; omega
    · rw [hMn] at e; rw [hMn] at e'; rw [k.inj c c' g hc hc' e e']
  · rcases hsplit b (alive_lt ha) with hl | ⟨c, hc, rfl⟩
    · rw [hMo b hl] at e
      rcases hS g o hs with h1 | h1
      · exact h.sdis g o b h1 ((alive_append _ hl).1 ha) e
      · have := h.mlt b g hl e; omega
    · rw [hMn] at e
      refine k.sdis g o c hs ?_ e
      unfold Alive at ha ⊢
      rw [hgn] at ha
      exact ha
  · rcases hsplit b hb with hl | ⟨c, hc, rfl⟩
    · rw [hMo b hl] at e; have := h.mlt b g hl e; have := k.size; exact Nat.lt_of_lt_of_le (h.mlt b g hl e) k.size
    · rw [hMn] at e; exact k.mlt c g hc e
  · rcases hsplit b hb with hl | ⟨c, hc, rfl⟩
    · rw [hMo b hl] at e; exact h.new b g hl e
    · rw [hMn] at e; exact .inl (Nat.le_trans h.size (hnew c g hc e))
  · rcases hS g o hs with h1 | h1
    · exact h.snew g o h1
    · exact .inr (.inl (Nat.le_trans h.size h1))
  · rcases hSf g e hf with h1 | h1
    · exact h.fnew g e h1
    · exact .inr (.inl (Nat.le_trans h.size h1))
  · rcases hsplit b (alive_lt ha) with hl | ⟨c, hc, rfl⟩
    · rw [hMo b hl] at e
      rcases hSf g e' hf with h1 | h1
      · exact h.fdis g e' b h1 ((alive_append _ hl).1 ha) e
      · have := h.mlt b g hl e; omega
    · rw [hMn] at e
      refine k.fdis g e' c hf ?_ e
      unfold Alive at ha ⊢
      rw [hgn] at ha
      exact ha
  · have noB : ∀ c G0 hh, hpOf G0 nb c = some hh → False := fun c G0 hh e => by
      unfold hpOf at e
      cases hq : nb[c]? with
      | none => rw [hq] at e; cases e
      | some X =>
        have ha : isArr X = true := List.all_eq_true.1 hn X (List.mem_of_getElem? hq)
        rw [hq] at e
        cases X <;> first | (cases ha; done) | (cases e; done)
    refine h.regsK (fun b hh e => ?_) (fun b g hb e => ?_) (fun g o hs => (hS g o hs).imp id .inr) (fun g e hf => (hSf g e hf).imp id .inr)
    · rcases hsplit b (hpOf_lt e) with hl | ⟨c, hc, rfl⟩
      · unfold hpOf at e ⊢
        rw [List.getElem?_append_left hl, show G'.H b = G.H b from if_pos hl] at e
        exact e
      · refine (noB c ⟨G1.M, G1.S, G1.cp, fun _ => G'.H (c + bk.length)⟩ hh ?_).elim
        unfold hpOf at e ⊢
        rw [hgn] at e
        exact e
    · rcases hsplit b hb with hl | ⟨c, hc, rfl⟩
      · rw [hMo b hl] at e; exact .inl ⟨b, hl, e⟩
      · rw [hMn] at e; exact .inr (hnew c g hc e)
  · cases x with
    | lf l => exact repLn l u hx
    | agg l => obtain ⟨us, rfl, hu⟩ := hx; exact ⟨us, rfl, fmap repLn hu⟩
    | tup l =>
      obtain ⟨us, rfl, hu⟩ := hx
      refine ⟨us, rfl, fmap (fun t u ht => ?_) hu⟩
      cases t with
      | lf l => exact repLn l u ht
      | agg l => obtain ⟨us, rfl, hu⟩ := ht; exact ⟨us, rfl, fmap repLn hu⟩
    | un => trivial

theorem renAs_rep {idx : List Nat} {B : List Blk} {G' : Gh} (hr : ∀ l l' v, renL idx l = some l' → RepL G bk w l v → RepL G' B w l' v) : ∀ {xs ys : List AV} {us : List Value}, renAs idx xs = some ys → Fa (RepA G bk w) xs us → Fa (RepA G' B w) ys us
  | [], ys, us, h, hf => by simp [renAs] at h; subst h; cases us <;> exact hf
  | x :: xs, ys, us, h, hf => by
    unfold renAs at h
    split at h
    · rename_i y ys' hy hys
      cases h
      cases us with
      | nil => exact hf.elim
      | cons u us =>
        refine ⟨?_, renAs_rep hr hys hf.2⟩
        cases x with
        | lf l =>
          simp only [renA, Option.map_eq_some_iff] at hy
          obtain ⟨l', h1, rfl⟩ := hy
          exact hr _ _ _ h1 hf.1
        | agg l =>
          simp only [renA, Option.map_eq_some_iff] at hy
          obtain ⟨l', h1, rfl⟩ := hy
          obtain ⟨vs, e, hvs⟩ := hf.1
          exact ⟨vs, e, renLs_get h1 hr hvs⟩
        | _ => simp [renA] at hy
    · cases h
theorem lendK_sound (hm : Mem C G bk w) (hg : Glob C.S0 C.w0) {f : FuncId} {xs : List AV} {us : List Value} (hx : Fa (RepA G bk w) xs us) {K : AV → List Blk → Prop} (h : lendK P f xs bk K) :
    fnOK P f = true ∧ Calls P f us.toArray w fun e w' => ∃ u x G' bk', e = .returned u ∧ Trn G bk w G' bk' w' ∧ Mem C G' bk' w' ∧ RepA G' bk' w' x u ∧ K x bk' := by
  obtain ⟨idx, B0, cargs, cargs', r, B1, hnd, hB, hren, hwk, hcon, hk⟩ := h
  obtain ⟨m1, rep⟩ := hm.pick hnd hB 0
  refine ⟨hcon.1, (hcon.2 w (G.pick idx) us ⟨m1, hm.glob hg⟩ (wks_rep hwk (renAs_rep rep hren hx))).mono ?_⟩
  rintro e w' ⟨u, G2, rfl, hr, m2⟩
  obtain ⟨G3, t3, m3, hj⟩ := hm.back hnd hB m2
  exact ⟨u, _, G3, _, rfl, t3, m3, hj _ _ hr, hk⟩
/-- A new block: those of the heap that an answer stands in. -/
theorem Mem.newHp (hm : Mem C G bk w) (h : Nat → Option (Nat × List Value)) (hh : ∀ g e cur, h g = some (e, cur) → ∃ fz, w.heap[g]? = some (.cells cur.toArray e fz) ∧ FzAny cur.length fz)
    (h1 : ∀ g x, h g = some x → C.w0.heap.size ≤ g) (h2 : ∀ g x, h g = some x → (∀ b, b < bk.length → G.M b ≠ some g) ∧ (∀ o, ¬ G.S g o) ∧ G.S.f g = none) (h3 : ∀ g x b h0 x0, h g = some x → hpOf G bk b = some h0 → h0 g ≠ some x0) :
    ∃ G', G'.S = G.S ∧ G'.H bk.length = h ∧ Trn G bk w G' (bk ++ [.hp]) w ∧ Mem C G' (bk ++ [.hp]) w := by
  let G' : Gh := { M := fun b => if b = bk.length then none else G.M b, S := G.S, cp := G.cp, H := fun b => if b = bk.length then h else G.H b }
  have hM : ∀ b, b < bk.length → G'.M b = G.M b := fun b hb => if_neg (by omega)
  have hH : ∀ b, b < bk.length → G'.H b = G.H b := fun b hb => if_neg (by omega)
  have hMn : G'.M bk.length = none := if_pos rfl
  have hHn : G'.H bk.length = h := if_pos rfl
  have hlen : (bk ++ [Blk.hp]).length = bk.length + 1 := by simp
  have hg : ∀ b, b < bk.length → (bk ++ [Blk.hp])[b]? = bk[b]? := fun b hb => List.getElem?_append_left hb
  have hgn : (bk ++ [Blk.hp])[bk.length]? = some .hp := by rw [List.getElem?_append_right (Nat.le_refl _)]; simp
  have hM2 : ∀ b g, b < (bk ++ [Blk.hp]).length → G'.M b = some g → b < bk.length ∧ G.M b = some g := fun b g hb e => by
    rw [hlen] at hb
    by_cases q : b = bk.length
    · subst q; rw [hMn] at e; cases e
    · have hl : b < bk.length := by omega
      exact ⟨hl, by rw [← hM b hl]; exact e⟩
  have hal : ∀ b, Alive (bk ++ [Blk.hp]) b → Alive bk b := fun b ha => by
    have hb := alive_lt ha
    rw [hlen] at hb
    by_cases q : b = bk.length
    · subst q; unfold Alive at ha; rw [hgn] at ha; exact ha.elim
    · exact (alive_append _ (by omega)).1 ha
  have hhp : ∀ b h0, hpOf G' (bk ++ [Blk.hp]) b = some h0 → (b = bk.length ∧ h0 = h) ∨ (b < bk.length ∧ hpOf G bk b = some h0) := fun b h0 e => by
    have hb := hpOf_lt e
    rw [hlen] at hb
    by_cases q : b = bk.length
    · subst q
      unfold hpOf at e
      rw [hgn] at e
      simp only [hHn, Option.some.injEq] at e
      exact .inl ⟨rfl, e.symm⟩
    · have hl : b < bk.length := by omega
      unfold hpOf at e ⊢
      rw [hg b hl, hH b hl] at e
      exact .inr ⟨hl, e⟩
  have t : Trn G bk w G' (bk ++ [.hp]) w := ⟨fun _ _ h => h, fun _ _ h => h, fun _ _ _ => rfl, fun b hb e => (by rw [hg b hb] at e; exact ⟨e, hH b hb, fun _ _ _ => rfl⟩), by simp, fun b hb hr => ⟨by rw [rowsOf_append _ hb]; exact hr, hM b hb⟩, fun b sz rows hr => ⟨rows, by rw [rowsOf_append _ (rowsOf_lt hr)]; exact hr, Nat.le_refl _, fun _ => ⟨hM b (rowsOf_lt hr), rfl⟩⟩⟩
  refine ⟨G', rfl, hHn, t, ⟨fun b B hb => ?_, fun b b' g hb hb' e e' => ?_, fun g o b hs ha e => hm.sdis g o b hs (hal b ha) (hM2 b g (alive_lt ha) e).2, hm.slt, fun b g hb e => hm.mlt b g (hM2 b g hb e).1 (hM2 b g hb e).2, fun b g hb e => hm.new b g (hM2 b g hb e).1 (hM2 b g hb e).2, hm.s0, hm.snew, hm.fnew, hm.fty, fun g e b hf ha em => hm.fdis g e b hf (hal b ha) (hM2 b g (alive_lt ha) em).2, hm.os, hm.tape, hm.output, hm.size, hm.block, ⟨fun b h0 g x e hx => ?_, fun b h0 g x e hx => ?_, fun b b2 h0 h4 g x x2 e e2 hx hx2 => ?_⟩, by have := hm.mle; omega, hm.t0.trans t⟩⟩
  · have hbl := (List.getElem?_eq_some_iff.1 hb).1
    rw [hlen] at hbl
    by_cases q : b = bk.length
    · subst q
      rw [hgn] at hb
      cases hb
      intro g e cur hx
      rw [hHn] at hx
      exact hh g e cur hx
    · have hl : b < bk.length := by omega
      rw [hg b hl] at hb
      exact RepB.step t (hM b hl) rfl (fun _ _ => rfl) (fun _ _ _ _ _ => rfl) (hm.blk b B hb) (hH b hl)
  · obtain ⟨k1, k2⟩ := hM2 b g hb e
    obtain ⟨k3, k4⟩ := hM2 b' g hb' e'
    exact hm.inj b b' g k1 k3 k2 k4
  · rcases hhp b h0 e with ⟨_, rfl⟩ | ⟨_, e⟩
    · exact .inl (h1 g x hx)
    · exact hm.regs.own b h0 g x e hx
  · rcases hhp b h0 e with ⟨_, rfl⟩ | ⟨_, e⟩
    · obtain ⟨k1, k2, k3⟩ := h2 g x hx
      exact ⟨fun b' hb' em => k1 b' (hM2 b' g hb' em).1 (hM2 b' g hb' em).2, k2, k3⟩
    · obtain ⟨k1, k2, k3⟩ := hm.regs.dis b h0 g x e hx
      exact ⟨fun b' hb' em => k1 b' (hM2 b' g hb' em).1 (hM2 b' g hb' em).2, k2, k3⟩
  · rcases hhp b h0 e with ⟨q1, q2⟩ | ⟨_, q2⟩ <;> rcases hhp b2 h4 e2 with ⟨q3, q4⟩ | ⟨_, q4⟩
    · exact q1.trans q3.symm
    · exact absurd hx2 (h3 g x b2 h4 x2 (by rw [← q2]; exact hx) q4)
    · exact absurd hx (h3 g x2 b h0 x (by rw [← q4]; exact hx2) q2)
    · exact hm.regs.inj b b2 h0 h4 g x x2 q2 q4 hx hx2
theorem frL_rep {G' G2 : Gh} {b : Nat} {bk2 : List Blk} {w' : World} {h : Nat → Option (Nat × List Value)} (hh : ∀ g e, G'.S.f g = some e → ∃ cur, h g = some (e, cur)) (hH : G2.H b = h) (hb : b < bk2.length) (hr : rowsOf bk2 b = none) {l : Lf} {v : Value} (hl : FrL l) (hv : RepL G' [] w' l v) : RepL G2 bk2 w' (frL b l) v := by
  cases l with
  | pv p =>
    have hv' : RepP G'.S w' p v := hv
    have key : RepL G2 bk2 w' (.frs b p) v := ⟨hv'.one, hb, hr, fun _ => by
      rw [hH]
      refine RepP.step (S := G'.S.only) (fun g o ⟨e, hs⟩ => ?_) (fun g e hf => ?_) (fun _ _ _ => rfl) (hl _ _ _ hv')
      · obtain ⟨cur, hc⟩ := hh g e hs
        exact .inr ⟨_, hc⟩
      · obtain ⟨cur, hc⟩ := hh g e hf
        show (h g).map _ = some e
        rw [hc]; rfl⟩
    cases p with
    | sc u => cases hv'; exact RepP.sc _ (by assumption)
    | sl sz rows => exact key
    | fs e sz rows => exact key
  | _ => exact hl.elim
theorem faMapR {α : Type} {R R' : α → Value → Prop} {f : α → α} : ∀ {ls : List α} {us : List Value}, (∀ l ∈ ls, ∀ u, R l u → R' (f l) u) → Fa R ls us → Fa R' (ls.map f) us
  | [], [], _, _ => trivial
  | _ :: _, _ :: _, hf, h => ⟨hf _ (by simp) _ h.1, faMapR (fun l hl => hf l (by simp [hl])) h.2⟩
  | [], _ :: _, _, h => h.elim
  | _ :: _, [], _, h => h.elim
theorem frA_rep {G' G2 : Gh} {b : Nat} {bk2 : List Blk} {w' : World} {h : Nat → Option (Nat × List Value)} (hh : ∀ g e, G'.S.f g = some e → ∃ cur, h g = some (e, cur)) (hH : G2.H b = h) (hb : b < bk2.length) (hr : rowsOf bk2 b = none) {x : AV} {v : Value} (hx : FrA x) (hv : RepA G' [] w' x v) : RepA G2 bk2 w' (frA b x) v := by
  cases x with
  | lf l => exact frL_rep hh hH hb hr hx hv
  | agg l => obtain ⟨us, rfl, hu⟩ := hv; exact ⟨us, rfl, faMapR (fun l hl u => frL_rep hh hH hb hr (hx l hl)) hu⟩
  | tup l =>
    obtain ⟨us, rfl, hu⟩ := hv
    refine ⟨us, rfl, faMapR (fun t ht u hu => ?_) hu⟩
    have ht := hx t ht
    cases t with
    | lf l => exact frL_rep hh hH hb hr ht hu
    | agg l => obtain ⟨us, rfl, hu⟩ := hu; exact ⟨us, rfl, faMapR (fun l hl u => frL_rep hh hH hb hr (ht l hl)) hu⟩
  | un => exact hx.elim
theorem noA_rep {S : Sp} {x : AV} {v : Value} (hx : NoA x) (hv : RepA (Gh.base S) [] w x v) : RepA (Gh.base S.bare) [] w x v := by
  have one : ∀ l u, NoL l → RepL (Gh.base S) [] w l u → RepL (Gh.base S.bare) [] w l u := fun l u hl hu => by
    cases l with
    | pv p => exact hl _ _ _ hu
    | _ => exact hl.elim
  cases x with
  | lf l => exact one l v hx hv
  | agg l =>
    obtain ⟨us, rfl, hu⟩ := hv
    refine ⟨us, rfl, ?_⟩
    have := faMapR (f := id) (fun l hl u h => one l u (hx l hl) h) hu
    simpa using this
  | _ => exact hx.elim
theorem noAs_rep {S : Sp} : ∀ {xs : List AV} {us : List Value}, (∀ x ∈ xs, NoA x) → Fa (RepA (Gh.base S) [] w) xs us → Fa (RepA (Gh.base S.bare) [] w) xs us
  | [], [], _, _ => trivial
  | _ :: _, _ :: _, h, hf => ⟨noA_rep (h _ (by simp)) hf.1, noAs_rep (fun x hx => h x (by simp [hx])) hf.2⟩
  | [], _ :: _, _, h => h.elim
  | _ :: _, [], _, h => h.elim
theorem callK_sound (hm : Mem C G bk w) (hg : Glob C.S0 C.w0) {fop : AV} {fv : Value} {xs : List AV} {us : List Value} (hf : RepA G bk w fop fv) (hx : Fa (RepA G bk w) xs us) {ln : Bool} {K : AV → List Blk → Prop} (h : callK P ln fop xs bk K) :
    ∃ (f : FuncId) (first caps : List Value), fv = .func (.func f) first.toArray caps.toArray ∧ fnOK P f = true ∧ Calls P f (first ++ us ++ caps).toArray w fun e w' => ∃ u x G' bk', e = .returned u ∧ Trn G bk w G' bk' w' ∧ Mem C G' bk' w' ∧ RepA G' bk' w' x u ∧ K x bk' := by
  unfold callK at h
  split at h
  · rename_i f caps
    obtain ⟨cus, rfl, hc⟩ := hf
    cases ln with
    | true =>
      have hcap : Fa (RepA G bk w) (caps.map fun l => .lf (.ro l)) cus := by
        have : ∀ {cs : List (List PV)} {us : List Value}, Fa (fun l u => ∃ g o, u = .pointer (some ⟨g, o, none⟩) ∧ CellsP G.S w g o l) cs us → Fa (RepA G bk w) (cs.map fun l => .lf (.ro l)) us := fun {cs} => by
          induction cs with
          | nil => intro us h; cases us <;> exact h
          | cons x l ih => intro us h; cases us with
            | nil => exact h.elim
            | cons u us =>
              obtain ⟨g, o, rfl, hcell⟩ := h.1
              exact ⟨⟨g, o, rfl, hcell⟩, ih h.2⟩
        exact this hc
      obtain ⟨h1, h2⟩ := lendK_sound hm hg (hx.append hcap) h
      exact ⟨f, [], cus, rfl, h1, h2⟩
    | false =>
    obtain ⟨G1, b1, ys, t1, m1, hy, cargs, r, nb, hwk, hcon, hk⟩ := argsK_sound hm hx h
    have hcap : Fa (RepA (Gh.base G1.S) [] w) (caps.map fun l => .lf (.ro l)) cus := by
      have : ∀ {cs : List (List PV)} {us : List Value}, Fa (fun l u => ∃ g o, u = .pointer (some ⟨g, o, none⟩) ∧ CellsP G.S w g o l) cs us → Fa (RepA (Gh.base G1.S) [] w) (cs.map fun l => .lf (.ro l)) us := fun {cs} => by
        induction cs with
        | nil => intro us h; cases us <;> exact h
        | cons x l ih => intro us h; cases us with
          | nil => exact h.elim
          | cons u us =>
            obtain ⟨g, o, rfl, hcell⟩ := h.1
            exact ⟨⟨g, o, rfl, t1.cellsP hcell⟩, ih h.2⟩
      exact this hc
    have hargs := wks_rep hwk (hy.append hcap)
    by_cases hpriv : nb = [] ∧ FrA r ∧ caps = [] ∧ (∀ x ∈ cargs, NoA x) ∧ K (frA b1.length r) (b1 ++ [.hp])
    · obtain ⟨rfl, hfr, _, hno, hk⟩ := hpriv
      refine ⟨f, [], cus, rfl, hcon.1, (hcon.2.2 w G1.S.bare _ ⟨m1.slt, m1.glob hg⟩ (fun g e hf => by cases hf) (noAs_rep hno hargs)).mono ?_⟩
      rintro e w' ⟨u, G2, rfl, hr, m2⟩
      have hold : ∀ g, g < w.heap.size → w'.heap[g]? = w.heap[g]? := fun g hg => m2.block g hg (fun b' hb' => absurd hb' (Nat.not_lt_zero _)) (regX_nil _ g)
      obtain ⟨t3, m3⟩ := m1.below m2.os m2.tape m2.output m2.size hold
      let h : Nat → Option (Nat × List Value) := fun g => match G2.S.f g with | some e => (match w'.heap[g]? with | some (.cells cur _ _) => some (e, cur.toList) | _ => none) | none => none
      have hf : ∀ g e, G2.S.f g = some e → ∃ cur, h g = some (e, cur) := fun g e hf => by
        obtain ⟨cur, fz, hc, _⟩ := m2.fty g e hf
        exact ⟨cur.toList, by show (match G2.S.f g with | some e => _ | none => none) = _; rw [hf]; simp only; rw [hc]⟩
      have hb : ∀ g x, h g = some x → G2.S.f g = some x.1 ∧ ∃ fz, w'.heap[g]? = some (.cells x.2.toArray x.1 fz) ∧ FzAny x.2.length fz := fun g x hx => by
        cases hq : G2.S.f g with
        | none => have : h g = none := by show (match G2.S.f g with | some e => _ | none => none) = _; rw [hq]
                  rw [this] at hx; cases hx
        | some e =>
          obtain ⟨cur, fz, hc, hz⟩ := m2.fty g e hq
          have : h g = some (e, cur.toList) := by show (match G2.S.f g with | some e => _ | none => none) = _; rw [hq]; simp only; rw [hc]
          rw [this] at hx
          cases hx
          exact ⟨rfl, fz, by simpa using hc, by simpa using hz⟩
      have hnew : ∀ g x, h g = some x → w.heap.size ≤ g := fun g x hx => by
        rcases m2.fnew g x.1 (hb g x hx).1 with q | q | ⟨b', q, _⟩
        · cases q
        · exact q
        · exact absurd q (Nat.not_lt_zero _)
      obtain ⟨G3, hS, hH, t4, m4⟩ := m3.newHp h (fun g e cur hx => (hb g _ hx).2) (fun g x hx => Nat.le_trans m1.size (hnew g x hx)) (fun g x hx => ⟨fun b hb em => by
          have := m1.mlt b g hb em; have := hnew g x hx; omega, fun o hs => by have := m1.slt g o hs; have := hnew g x hx; omega, by
          cases hq : G1.S.f g with
          | none => rfl
          | some e => have := m1.flt g e hq; have := hnew g x hx; omega⟩) (fun g x b h0 x0 hx e0 hx0 => by have := (m1.hlt e0 hx0).1; have := hnew g x hx; omega)
      refine ⟨u, _, G3, _, rfl, t1.trans (t3.trans t4), m4, frA_rep (G' := G2) (h := h) hf hH (by simp) ?_ hfr hr, hk⟩
      unfold rowsOf
      rw [List.getElem?_append_right (Nat.le_refl _)]
      simp
    replace hk : (scalA r = true ∧ nb = [] ∧ K r bk) ∨ K (shA b1.length r) (b1 ++ nb) := by
      rcases hk with (hk | hk) | hk
      · exact .inl hk
      · exact absurd hk hpriv
      · exact .inr hk
    refine ⟨f, [], cus, rfl, hcon.1, (hcon.2.2 w G1.S _ ⟨m1.slt, m1.glob hg⟩ m1.fty hargs).mono ?_⟩
    rintro e w' ⟨u, G2, rfl, hr, m2⟩
    have hold : ∀ g, g < w.heap.size → w'.heap[g]? = w.heap[g]? := fun g hg => m2.block g hg (fun b' hb' => absurd hb' (Nat.not_lt_zero _)) (regX_nil _ g)
    rcases hk with ⟨hs, rfl, hk⟩ | hk
    · obtain ⟨t3, m3⟩ := hm.below m2.os m2.tape m2.output m2.size hold
      exact ⟨u, r, G, bk, rfl, t3, m3, scalA_rep hs hr, hk⟩
    · obtain ⟨G3, t3, m3, hj⟩ := m1.join hcon.2.1 m2
      exact ⟨u, _, G3, _, rfl, t1.trans t3, m3, hj _ _ hr, hk⟩
  · rename_i f b off
    obtain ⟨⟨g, hgm, rfl⟩, hb, hr⟩ := hf
    cases ln with
    | false => exact h.elim
    | true =>
      obtain ⟨h1, h2⟩ := lendK_sound hm hg (xs := .lf (.ptr b off) :: xs) (us := .pointer (some ⟨g, off, none⟩) :: us) ⟨⟨⟨g, hgm, rfl⟩, hb, hr⟩, hx⟩ h
      exact ⟨f, [.pointer (some ⟨g, off, none⟩)], [], rfl, h1, by simpa using h2⟩
  · exact h.elim
end
end Go.Rx

/- Every operation: what it makes of what is known, and that it is so. -/
set_option linter.unusedVariables false
set_option linter.unusedSimpArgs false
namespace Go.Rx
open Go.RowKit

def fldOff (T : Tab) (s : TypeId) (f : Nat) : Option Nat :=
  match T.find s with
  | some ⟨.strct fs, _, _, _⟩ =>
    (match fs[f]? with
     | some (off, t) => (match T.find t with | some ty => bif Nat.beq ty.size 0 then none else some off | none => none)
     | none => none)
  | _ => none
def elemOf? (T : Tab) (t : TypeId) : Option (TypeId × Ty) :=
  match T.find t with
  | some ⟨.slice e, _, _, _⟩ => (T.find e).map fun te => (e, te)
  | _ => none
def isStr (T : Tab) (t : TypeId) : Bool := match T.find t with | some ⟨.str, _, _, _⟩ => true | _ => false
def isBoolT (T : Tab) (t : TypeId) : Bool := match T.find t with | some ⟨.bool, _, _, _⟩ => true | _ => false
def isIfc (T : Tab) (t : TypeId) : Bool := match T.find t with | some ⟨.ifc, _, _, _⟩ => true | _ => false
def cstO : Operand → Bool
  | .const _ => true
  | _ => false
def ifcK (op : BinOp) (xo yo : Operand) (x y : AV) (K : AV → Prop) : Prop :=
  match x, y with
  | .lf (.pv (.sc .nilIface)), .lf (.pv (.sc .nilIface)) => (cstO xo || cstO yo) = true ∧ (match op with | .eql => K (sc (.bool true)) | .neq => K (sc (.bool false)) | _ => False)
  | .lf (.pv (.sc (.iface _ _))), .lf (.pv (.sc .nilIface)) => (match op with | .eql => K (sc (.bool false)) | .neq => K (sc (.bool true)) | _ => False)
  | .lf (.bnd (.ifc _) _ _), .lf (.pv (.sc .nilIface)) => (match op with | .eql => K (sc (.bool false)) | .neq => K (sc (.bool true)) | _ => False)
  | _, _ => False
/-- Rows of bytes; a text's bytes as rows. -/
def isBytes (T : Tab) (t : TypeId) : Bool := match elemOf? T t with | some (_, ⟨.int .u8, _, _, _⟩) => true | _ => false
def intKind (T : Tab) (t : TypeId) : Option IntKind := match T.find t with | some ⟨.int k, _, _, _⟩ => some k | _ => none
/-- A bound of a slice expression. -/
def bnd (x : Option AV) (d : Int) : Option Int :=
  match x with
  | none => some d
  | some (.lf (.pv (.sc (.int _ n)))) => some n
  | _ => none
def eqV (T : Tab) (t : TypeId) (u v : Value) : Option Bool :=
  match T.find t, u, v with
  | some ⟨.int _, _, _, _⟩, .int k a, .int k' b => if k = k' then some (a == b) else none
  | some ⟨.bool, _, _, _⟩, .bool a, .bool b => some (a == b)
  | some ⟨.str, _, _, _⟩, .string a, .string b => some (a == b)
  | _, _, _ => none
/-- Two structs whose fields are of one cell each, in order, and plain. -/
def eqFs (T : Tab) : Nat → List (Nat × TypeId) → List Lf → List Lf → Option Bool
  | _, [], [], [] => some true
  | i, (off, t) :: fs, .pv (.sc u) :: l, .pv (.sc v) :: m =>
    bif Nat.beq off i then (match eqV T t u v with | some b => (eqFs T (i + 1) fs l m).map fun r => b && r | none => none) else none
  | _, _, _, _ => none

def tyB (T : Tab) (t : TypeId) (u : Value) : Bool := match T.find t, u with | some _, .bool _ => isBoolT T t | some _, _ => true | none, _ => false
def binX (op : BinOp) (u v : Value) (K : AV → Prop) : Prop :=
  match op, u, v with
  | .add, .string a, .string b => a.size + b.size ≤ 9223372036854775807 ∧ K (sc (.string (a ++ b)))
  | .quo, .int .i64 a, .int .i64 b => 0 ≤ a ∧ 0 < b ∧ a ≤ 9223372036854775807 ∧ K (sc (.int .i64 (a / b)))
  | .rem, .int .i64 a, .int .i64 b => (0 ≤ a ∧ 0 < b ∧ a ≤ 9223372036854775807 ∧ K (sc (.int .i64 (a % b)))) ∨ (b ≠ 0 ∧ K (sc (.int .i64 (a.tmod b))))
  | .rem, .int .u64 a, .int .u64 b => 0 ≤ a ∧ 0 < b ∧ K (sc (.int .u64 (a % b)))
  | .shl, .int k a, .int _ b => 0 ≤ b ∧ K (sc (.int k (k.wrap (a * 2 ^ (min b.toNat k.bits)))))
  | .shr, .int k a, .int _ b => 0 ≤ b ∧ K (sc (.int k (a.fdiv (2 ^ (min b.toNat k.bits)))))
  | .or, .int k a, .int k' b => k = k' ∧ K (sc (.int k (k.wrap (BitVec.ofInt k.bits a ||| BitVec.ofInt k.bits b).toNat)))
  | .and, .int k a, .int k' b => k = k' ∧ K (sc (.int k (k.wrap (BitVec.ofInt k.bits a &&& BitVec.ofInt k.bits b).toNat)))
  | _, _, _ => False
def binK (T : Tab) (op : BinOp) (t : TypeId) (x y : AV) (K : AV → Prop) : Prop :=
  match x, y with
  | .lf (.pv (.sc u)), .lf (.pv (.sc v)) =>
    (match vBin op u v with
     | some z => bif tyB T t u then K (sc z) else False
     | none =>
       binX op u v K)
  | .agg ls, .agg ms =>
    (match T.find t with
     | some ⟨.strct fs, _, _, _⟩ =>
       (match eqFs T 0 fs ls ms with
        | some r => (match op with | .eql => K (sc (.bool r)) | .neq => K (sc (.bool (!r))) | _ => False)
        | none => False)
     | _ => False)
  | _, _ => False

def chunk (sz : Nat) : Nat → List PV → List (List PV)
  | 0, _ => []
  | n + 1, l => l.take sz :: chunk sz n (l.drop sz)

def lfOf : AV → Option Lf
  | .lf l => some l
  | _ => none
def roOf : Lf → Option (List PV)
  | .ro l => some l
  | _ => none
/-- A strings.Builder, new: its address is none yet, or its own. -/
def bldCells (b : Nat) (t : TypeId) : List Value → List Lf
  | .pointer none :: r => .bad b t :: r.map lsc
  | l => l.map lsc
def opV (P : Program) (T : Tab) (op : Op) (ρ : Operand → AV) (bk : List Blk) (K : AV → List Blk → Prop) : Prop :=
  match op with
  | .move x => K (ρ x) bk
  | .assign x => K (ρ x) bk
  | .pick c x y =>
    (match ρ c with
     | .lf (.pv (.sc (.bool true))) => K (ρ x) bk
     | .lf (.pv (.sc (.bool false))) => K (ρ y) bk
     | _ => False)
  | .alloc t => (match T.find t with | some ty => K (.lf (.ptr bk.length 0)) (bk ++ [.var (bif T.bld.any (Nat.beq t) then bldCells bk.length t ty.zero else ty.zero.map lsc)]) | none => False)
  | .box t x => (match leaves (ρ x) with | some ls => bif ls.all notBad then K (.lf (.ptr bk.length 0)) (bk ++ [.var ls]) else False | none => False)
  | .build t parts =>
    (match T.find t with
     | some ⟨.strct fs, _, _, zero⟩ => (match fillL (placeT T fs) (zero.map lsc) (parts.toList.map fun p => (p.1, leaves (ρ p.2))) with | some ls => K (.agg ls) bk | none => False)
     | _ => False)
  | .buildSlice t len parts =>
    (match elemOf? T t with
     | some (e, te) => bif Nat.blt 0 te.size && Nat.ble (len * te.size) 16777216 && Nat.ble len 9223372036854775807 then
         (match fillL (fun i => some (i * te.size, te.size)) ((List.range (len * te.size)).map fun i => lsc (te.zero.getD (i % te.size) undef)) (parts.toList.map fun p => (p.1, leaves (ρ p.2))) with
          | some ls => pvsK bk ls fun bk ps => K (.lf (.own bk.length len)) (bk ++ [.arr e te.size (chunk te.size len ps)])
          | none => False) else False
     | none => False)
  | .makeSlice t l c =>
    (match elemOf? T t, ρ l, ρ c with
     | some (e, te), .lf (.pv (.sc (.int _ n))), .lf (.pv (.sc (.int _ m))) => bif Nat.beq te.size 1 && Nat.blt 0 te.bytes then
         (n = m ∧ ∃ N : Nat, n = N ∧ N * te.bytes ≤ 140737488355328 ∧ K (.lf (.own bk.length N)) (bk ++ [.arr e te.size (List.replicate N (te.zero.map PV.sc))])) else False
     | _, _, _ => False)
  | .load t p => loadK T t (ρ p) bk fun x => K x bk
  | .store t p x => storeK T t (ρ p) (ρ x) bk fun bk => K .un bk
  | .nilCheck x => (match ρ x with | .lf (.ptr b o) => K (.lf (.ptr b o)) bk | .lf (.ro l) => K (.lf (.ro l)) bk | .lf (.ept b n i sz o) => (match rowsOf bk b with | some (_, rows) => rows.length = n ∧ K (.lf (.ept b n i sz o)) bk | none => False) | .lf (.pv (.sc (.pointer (some ad)))) => K (sc (.pointer (some ad))) bk | _ => False)
  | .binOp op t x y _ => bif isIfc T t then ifcK op x y (ρ x) (ρ y) fun z => K z bk else binK T op t (ρ x) (ρ y) fun z => K z bk
  | .makeInterface t x => (match T.find t, ρ x with | some ⟨.strct [], _, _, _⟩, .agg [] => K (sc (.iface t (.agg #[]))) bk | some ⟨.ptr, _, _, _⟩, .lf (.ptr b off) => K (.lf (.bnd (.ifc t) b off)) bk | _, _ => False)
  | .unOp op _ x => (match ρ x with | .lf (.pv (.sc u)) => (match vUn op u with | some z => K (sc z) bk | none => False) | _ => False)
  | .convert s d x =>
    (match ρ x with
     | .lf (.pv (.sc (.int k n))) => (match intKind T s, intKind T d with | some _, some k' => K (sc (.int k' (k'.wrap n))) bk | _, _ => False)
     | .lf (.pv (.sc (.string z))) => bif isStr T s then (bif isStr T d then K (sc (.string z)) bk else bif isBytes T d then K (.lf (.pv (.sl 1 (byteRows z)))) (bk ++ [.dead]) ∨ (z.size ≤ 140737488355328 ∧ match elemOf? T d with | some (ee, _) => (match txtB with | true => K (.lf (.own bk.length z.size)) (bk ++ [.arr ee 1 (byteRows z)]) | false => False) | none => False) else False) else False
     | .lf (.pv (.sl sz rows)) => bif isBytes T s && isStr T d && Nat.beq sz 1 then ∃ z, rows = byteRows z ∧ K (sc (.string z)) bk else False
     | .lf (.pv (.sc (.slice none 0 0))) => bif isBytes T s && isStr T d then K (sc (.string .empty)) bk else False
     | .lf (.own b len) =>
       bif isBytes T s then
         (bif isStr T d then (match rowsOf bk b with | some (sz, rows) => bif Nat.beq sz 1 then rows.length = len ∧ ∃ z, rows = byteRows z ∧ K (sc (.string z)) bk else False | none => False)
          else bif isBytes T d && Nat.beq s d && Nat.blt 0 len then pvK bk (.own b len) fun bk p => K (.lf (.pv p)) bk else False) else False
     | _ => False)
  | .slice t x lo hi none =>
    (match ρ x with
     | .lf (.pv (.sc (.string s))) => bif isStr T t then (match bnd (lo.map ρ) 0, bnd (hi.map ρ) s.size with | some l, some h => 0 ≤ l ∧ l ≤ h ∧ h ≤ s.size ∧ K (sc (.string (s.extract l.toNat h.toNat))) bk | _, _ => False) else False
     | .lf l => pvK bk l fun bk p =>
       (match p, elemOf? T t with
        | .sl sz rows, some (e, te) => bif Nat.beq te.size sz then (match bnd (lo.map ρ) 0, bnd (hi.map ρ) rows.length with | some l, some h => 0 ≤ l ∧ l ≤ h ∧ h ≤ rows.length ∧ K (.lf (.pv (.sl sz ((rows.take h.toNat).drop l.toNat)))) bk | _, _ => False) else False
        | _, _ => False)
     | _ => False)
  | .fieldAddr s x f =>
    (match fldOff T s f with
     | some off =>
       (match ρ x with
        | .lf (.ptr b o) => K (.lf (.ptr b (o + off))) bk
        | .lf (.ro l) => K (.lf (.ro (l.drop off))) bk
        | .lf (.ept b n i sz o) => (match rowsOf bk b with | some (_, rows) => rows.length = n ∧ K (.lf (.ept b n i sz (o + off))) bk | none => False)
        | .lf (.pv (.sc (.pointer (some ⟨g, o, none⟩)))) => K (sc (.pointer (some ⟨g, o + off, none⟩))) bk
        | _ => False)
     | none => False)
  | .indexAddr t x ix =>
    (match elemOf? T t, ρ ix with
     | some (_, te), .lf (.pv (.sc (.int _ i))) =>
       (match ρ x with
        | .lf (.pv (.sl sz rows)) => bif Nat.beq te.size sz then 0 ≤ i ∧ ∃ r, rows[i.toNat]? = some r ∧ K (.lf (.ro r)) bk else False
        | .lf (.pv (.fs _ sz rows)) => bif Nat.beq te.size sz then 0 ≤ i ∧ ∃ r, rows[i.toNat]? = some r ∧ K (.lf (.ro r)) bk else False
        | .lf (.own b len) => (match rowsOf bk b with | some (sz, rows) => bif Nat.beq te.size sz then rows.length = len ∧ 0 ≤ i ∧ i < len ∧ K (.lf (.ept b len i.toNat sz 0)) bk else False | none => False)
        | .lf (.pv (.sc (.slice (some ⟨g, o, none⟩) n _))) => 0 ≤ i ∧ i < n ∧ K (sc (.pointer (some ⟨g, o + i.toNat * te.size, none⟩))) bk
        | _ => False)
     | _, _ => False)
  | .index t x ix =>
    (match ρ x, ρ ix with
     | .lf (.pv (.sc (.string s))), .lf (.pv (.sc (.int _ i))) => bif isStr T t then 0 ≤ i ∧ ∃ c, s[i.toNat]? = some c ∧ K (sc (.int .u8 c.toNat)) bk else False
     | _, _ => False)
  | .extract x k => (match ρ x with | .tup ts => (match ts[k]? with | some (.lf l) => K (.lf l) bk | some (.agg l) => K (.agg l) bk | none => False) | _ => False)
  | .makeFunc (.func f) first caps =>
    (match first.toList with
     | [] =>
       (match (caps.toList.map ρ).mapM lfOf with
        | some ls => argLs bk ls fun bk xs => (match xs.mapM roOf with | some cs => K (.lf (.fn f cs)) bk | none => False)
        | none => False)
     | [x] => (match caps.toList, ρ x with | [], .lf (.ptr b off) => K (.lf (.bnd (.fn f) b off)) bk | _, _ => False)
     | _ => False)
  | .call c =>
    (match c.callee, c.args.toList, c.argTypes.toList with
     | .builtin .len, [x], [t] =>
       (match ρ x with
        | .lf (.pv (.sc (.string s))) => bif isStr T t then K (sc (.int .i64 s.size)) bk else False
        | .lf (.pv (.sl _ rows)) => (match elemOf? T t with | some _ => K (sc (.int .i64 rows.length)) bk | none => False)
        | .lf (.pv (.fs _ _ rows)) => (match elemOf? T t with | some _ => K (sc (.int .i64 rows.length)) bk | none => False)
        | .lf (.pv (.sc (.slice none 0 0))) => (match elemOf? T t with | some _ => K (sc (.int .i64 0)) bk | none => False)
        | .lf (.own b len) => (match elemOf? T t, rowsOf bk b with | some _, some (_, rows) => rows.length = len ∧ K (sc (.int .i64 len)) bk | _, _ => False)
        | .lf (.pv (.sc (.slice (some _) n _))) => (match elemOf? T t with | some _ => K (sc (.int .i64 n)) bk | none => False)
        | _ => False)
     | .builtin .append, [x, y], [t, t'] => bif Nat.beq t t' then
       (match elemOf? T t with
        | some (e, te) => bif Nat.blt 0 te.size && Nat.blt 0 te.bytes then
          (match ρ y with
           | .lf l => pvK bk l fun bk p => ∃ rows2, (p = .sl te.size rows2 ∨ (p = .sc (.slice none 0 0) ∧ rows2 = [])) ∧
             (match ρ x with
              | .lf (.own b len) => (match bk[b]? with | some (.arr e' sz rows) => bif Nat.beq e' e && Nat.beq sz te.size then rows.length = len ∧ (len + rows2.length) * te.bytes ≤ 140737488355328 ∧ K (.lf (.own b (len + rows2.length))) (bk.set b (.arr e sz (rows ++ rows2))) else False | _ => False)
              | .lf (.pv (.sc (.slice none 0 0))) => rows2.length * te.bytes ≤ 140737488355328 ∧ K (.lf (.own bk.length rows2.length)) (bk ++ [.arr e te.size rows2])
              | _ => False)
           | _ => False) else False
        | none => False) else (bif isBytes T t && isStr T t' then
       (match elemOf? T t, ρ y with
        | some (e, te), .lf (.pv (.sc (.string s))) => bif Nat.beq te.size 1 && Nat.blt 0 te.bytes then
          (match ρ x with
           | .lf (.own b len) => (match bk[b]? with | some (.arr e' sz rows) => bif Nat.beq e' e && Nat.beq sz te.size then rows.length = len ∧ (len + s.size) * te.bytes ≤ 140737488355328 ∧ K (.lf (.own b (len + s.size))) (bk.set b (.arr e sz (rows ++ byteRows s))) else False | _ => False)
           | _ => False) else False
        | _, _ => False) else False)
     | .builtin .min, [x, y], [_, _] => (match ρ x, ρ y with | .lf (.pv (.sc (.int k a))), .lf (.pv (.sc (.int _ b))) => K (sc (.int k (if b < a then b else a))) bk | _, _ => False)
     | .builtin .max, [x, y], [_, _] => (match ρ x, ρ y with | .lf (.pv (.sc (.int k a))), .lf (.pv (.sc (.int _ b))) => K (sc (.int k (if b > a then b else a))) bk | _, _ => False)
     | .value f, xs, ts => callK P (lendB T f ts) (ρ f) (xs.map ρ) bk K
     | _, _, _ => False)
  | _ => False

section
variable {P : Program} {T : Tab} {C : Ctx} {G : Gh} {sl : Nat → AV} {bk : List Blk} {a : Act} {w : World}

/-- How a step may come out. -/
inductive Out (P : Program) (C : Ctx) (G : Gh) (bk : List Blk) (w : World) (K : AV → List Blk → Prop) : Result Next → Prop
  | value {x : AV} {u : Value} {G' : Gh} {bk' : List Blk} {w' : World} (t : Trn G bk w G' bk' w') (m : Mem C G' bk' w') (hx : RepA G' bk' w' x u) (hk : K x bk') : Out P C G bk w K (.ok (.value u) w')
  | skip {G' : Gh} {bk' : List Blk} {w' : World} (t : Trn G bk w G' bk' w') (m : Mem C G' bk' w') (hk : K .un bk') : Out P C G bk w K (.ok .skip w')
  | enter {f : FuncId} {us : Array Value} (h : Calls P f us w fun e w' => ∃ u x G' bk', e = .returned u ∧ Trn G bk w G' bk' w' ∧ Mem C G' bk' w' ∧ RepA G' bk' w' x u ∧ K x bk') : Out P C G bk w K (.ok (.enter f us) w)

theorem Out.of {K : AV → List Blk → Prop} {r : Result Next} {x : AV} {u : Value} (hm : Mem C G bk w) (hr : r = .ok (.value u) w) (hx : RepA G bk w x u) (hk : K x bk) : Out P C G bk w K r := by
  subst hr; exact .value (Trn.refl _ _ _) hm hx hk

theorem fldOff_spec (hT : TabOK P T) {s : TypeId} {f off : Nat} (h : fldOff T s f = some off) : ∃ (F : Array Field) (fl : Field) (i : TypeInfo), P.underlying s = some (.struct F) ∧ F[f]? = some fl ∧ fl.offset = off ∧ P.info? fl.type = some i ∧ i.size ≠ 0 := by
  unfold fldOff at h
  split at h
  · rename_i fs size bytes zero hs
    obtain ⟨F, h1, h2, _⟩ := (hT s _ hs).strct fs rfl
    split at h
    · rename_i o t hf
      split at h
      · rename_i ty ht
        cases hz : Nat.beq ty.size 0 with
        | true => rw [hz] at h; cases h
        | false =>
          rw [hz] at h
          simp only [cond_false, Option.some.injEq] at h
          subst h
          rw [← h2, List.getElem?_map, Option.map_eq_some_iff] at hf
          obtain ⟨fl, hfl, he⟩ := hf
          cases he
          obtain ⟨i, z, hi, hsz, _⟩ := (hT _ ty ht).info
          refine ⟨F, fl, i, h1, by simpa using hfl, rfl, hi, fun e => ?_⟩
          rw [← hsz, e] at hz
          cases hz
      · cases h
    · cases h
  · cases h
theorem run_fieldAt (hT : TabOK P T) {s : TypeId} {f off : Nat} (h : fldOff T s f = some off) (g o : Nat) (w : World) : (Instr.fieldAt s (.pointer (some ⟨g, o, none⟩)) f).run P w = .ok (.pointer (some ⟨g, o + off, none⟩)) w := by
  obtain ⟨F, fl, i, h1, h2, rfl, h4, h5⟩ := fldOff_spec hT h
  simp [Instr.fieldAt, run_underlying h1, h2, Instr.sureAddr, fieldPlace, sizeOf, typeInfo, h4, h5, Addr.add_lit]

theorem elemOf_spec (hT : TabOK P T) {t e : TypeId} {te : Ty} (h : elemOf? T t = some (e, te)) : P.underlying t = some (.slice e) ∧ T.find e = some te ∧ ∃ tt, T.find t = some tt ∧ tt.d = .slice e := by
  unfold elemOf? at h
  split at h
  · rename_i e' a b c ht
    rw [Option.map_eq_some_iff] at h
    obtain ⟨te', h1, h2⟩ := h
    cases h2
    exact ⟨(hT t _ ht).slice _ rfl, h1, _, ht, rfl⟩
  · cases h
theorem isStr_spec (hT : TabOK P T) {t : TypeId} (h : isStr T t = true) : P.underlying t = some .string := by
  unfold isStr at h
  split at h
  · rename_i ht; exact (hT t _ ht).str rfl
  · cases h
theorem isBoolT_spec {t : TypeId} (h : isBoolT T t = true) : ∃ ty, T.find t = some ty ∧ ty.d = .bool := by
  unfold isBoolT at h
  split at h
  · rename_i ht; exact ⟨_, ht, rfl⟩
  · cases h
theorem isBytes_spec (hT : TabOK P T) {t : TypeId} (h : isBytes T t = true) : ∃ e, P.underlying t = some (.slice e) ∧ P.underlying e = some (.int .u8) := by
  unfold isBytes at h
  split at h
  · rename_i e a b c he
    obtain ⟨h1, h2, _⟩ := elemOf_spec hT he
    exact ⟨e, h1, (hT e _ h2).int _ rfl⟩
  · cases h
theorem str_kinds {t : TypeId} (h : isStr T t = true) : intKind T t = none ∧ isBytes T t = false := by
  unfold isStr at h
  split at h
  · rename_i ht; exact ⟨by unfold intKind; rw [ht], by unfold isBytes elemOf?; rw [ht]⟩
  · cases h
theorem bytes_kinds {t : TypeId} (h : isBytes T t = true) : intKind T t = none ∧ isStr T t = false := by
  unfold isBytes elemOf? at h
  split at h
  · rename_i hh
    split at hh
    · rename_i ht; exact ⟨by unfold intKind; rw [ht], by unfold isStr; rw [ht]⟩
    · cases hh
  · cases h
theorem intKind_spec (hT : TabOK P T) {t : TypeId} {k : IntKind} (h : intKind T t = some k) : P.underlying t = some (.int k) := by
  unfold intKind at h
  split at h
  · rename_i ht; cases h; exact (hT t _ ht).int _ rfl
  · cases h

theorem sc_rep {v u : Value} (h : RepA G bk w (sc v) u) : u = v ∧ v.oneCell' = true := by
  have h' : RepP G.S w (.sc v) u := h
  cases h'
  exact ⟨rfl, by assumption⟩
theorem rep_sc {v : Value} (h : v.oneCell' = true) : RepA G bk w (sc v) v := RepP.sc v h

theorem eqV_sound (hT : TabOK P T) (d : Nat) (w : World) {t : TypeId} {u v : Value} {b : Bool} (h : eqV T t u v = some b) : (Op.equalIn (d + 1) t u v).run P w = .ok b w ∧ (isAgg t).run P w = .ok false w := by
  unfold eqV at h
  split at h
  · rename_i ht
    split at h
    · rename_i e
      subst e
      cases h
      exact ⟨run_equalIn_int w d t _ _ _ _ ((hT _ _ ht).int _ rfl), run_isAgg hT ht w⟩
    · cases h
  · rename_i ht
    cases h
    exact ⟨run_equalIn_bool' w d t _ _ ((hT _ _ ht).bool rfl), run_isAgg hT ht w⟩
  · rename_i ht
    cases h
    exact ⟨by rw [beq_toListBytes]; exact run_equalIn_string w d t _ _ ((hT _ _ ht).str rfl), run_isAgg hT ht w⟩
  · cases h
theorem eqFields_sound (hT : TabOK P T) (d : Nat) (w : World) : ∀ (fs : List Field) (i : Nat) (ls ms : List Lf) (xs ys : Array Value) (r : Bool), (∀ f ∈ fs, f.name ≠ "_") →
    Fa (RepL G bk w) ls (xs.toList.drop i) → Fa (RepL G bk w) ms (ys.toList.drop i) → eqFs T i (fs.map fun (f : Field) => (f.offset, f.type)) ls ms = some r → (Op.eqFields (d + 1) xs ys fs).run P w = .ok r w
  | [], i, ls, ms, xs, ys, r, _, hx, hy, h => by
    cases ls <;> cases ms <;> simp [eqFs] at h
    subst h
    rfl
  | f :: fs, i, ls, ms, xs, ys, r, hn, hx, hy, h => by
    cases ls with
    | nil => simp [eqFs] at h
    | cons l ls =>
      cases ms with
      | nil => cases l with
        | pv p => cases p <;> simp [eqFs] at h
        | _ => simp [eqFs] at h
      | cons m ms =>
        cases l with
        | pv p =>
          cases p with
          | sc p =>
            cases m with
            | pv q =>
              cases q with
              | sc q =>
                simp only [List.map_cons, eqFs] at h
                cases hb : Nat.beq f.offset i with
                | false => rw [hb] at h; cases h
                | true =>
                  have ho : f.offset = i := Nat.eq_of_beq_eq_true hb
                  rw [hb] at h
                  simp only [cond_true] at h
                  cases hv : eqV T f.type p q with
                  | none => rw [hv] at h; cases h
                  | some b =>
                    rw [hv] at h
                    simp only at h
                    obtain ⟨r', h1, rfl⟩ := Option.map_eq_some_iff.1 h
                    obtain ⟨hq, hagg⟩ := eqV_sound hT d w hv
                    cases hxe : xs.toList.drop i with
                    | nil => rw [hxe] at hx; exact hx.elim
                    | cons u us =>
                      cases hye : ys.toList.drop i with
                      | nil => rw [hye] at hy; exact hy.elim
                      | cons v vs =>
                        rw [hxe] at hx
                        rw [hye] at hy
                        have e1 : u = p := (sc_rep (G := G) (bk := bk) (w := w) hx.1).1
                        have e2 : v = q := (sc_rep (G := G) (bk := bk) (w := w) hy.1).1
                        subst e1 e2
                        have hpart : ∀ (zs : Array Value) (u : Value) (us : List Value), zs.toList.drop i = u :: us → (part f.type zs f.offset).run P w = .ok u w := fun zs u us e => by
                          have hg : zs[i]? = some u := by
                            have : (zs.toList.drop i)[0]? = some u := by rw [e]; rfl
                            simpa using this
                          unfold part
                          rw [Sem.run_bind, hagg, Result.andThen_ok]
                          simp [ho, hg]
                        have hdrop : ∀ (zs : Array Value) (u : Value) (us : List Value), zs.toList.drop i = u :: us → zs.toList.drop (i + 1) = us := fun zs u us e => by
                          rw [← List.drop_drop, e]; rfl
                        have ih := eqFields_sound hT d w fs (i + 1) ls ms xs ys r' (fun g hg => hn g (by simp [hg])) (by rw [hdrop xs u us hxe]; exact hx.2) (by rw [hdrop ys v vs hye]; exact hy.2) h1
                        simp only [Op.eqFields, Sem.run_ite, hn f (by simp), ne_eq, not_false_iff, if_true, Sem.run_bind, hpart xs u us hxe, hpart ys v vs hye, hq, Result.andThen_ok]
                        cases b with
                        | false => simp
                        | true => simp [ih]
              | sl => simp [eqFs] at h
              | fs => simp [eqFs] at h
            | _ => simp [eqFs] at h
          | sl => simp [eqFs] at h
          | fs => simp [eqFs] at h
        | _ => simp [eqFs] at h

theorem isIfc_spec (hT : TabOK P T) {t : TypeId} (h : isIfc T t = true) : ∃ ms, P.underlying t = some (.interface ms) := by
  unfold isIfc at h
  split at h
  · rename_i ht; exact (hT t _ ht).ifc rfl
  · cases h
theorem ifcK_sound (hT : TabOK P T) {op : BinOp} {t : TypeId} {xo yo : Operand} {x y : AV} {u v : Value} (ht : isIfc T t = true) (hx : RepA G bk w x u) (hy : RepA G bk w y v) {K : AV → Prop} (h : ifcK op xo yo x y K) :
    ∃ z r, (do eqGuard op t xo yo u v; binOp op t u v).run P w = .ok r w ∧ RepA G bk w z r ∧ K z := by
  obtain ⟨ms, hu⟩ := isIfc_spec hT ht
  have hm : P.underlying t = some (.interface (P.methodsAt t)) := by simp [Program.methodsAt, hu]
  unfold ifcK at h
  split at h
  · obtain ⟨rfl, _⟩ := sc_rep hx
    obtain ⟨rfl, _⟩ := sc_rep hy
    obtain ⟨hc, h⟩ := h
    have hg : eqGuard op t xo yo .nilIface .nilIface = pure () := by
      cases yo with
      | const c => exact eqGuard_nil_constR _ _ _ c
      | _ => cases xo with
        | const c => exact eqGuard_nil_constL _ _ _ c
        | _ => cases hc
    cases op <;> first | exact h.elim | skip
    · exact ⟨_, .bool true, by rw [Sem.run_bind, hg]; simp [run_eql_nil_nil w t hm], rep_sc rfl, h⟩
    · exact ⟨_, .bool false, by rw [Sem.run_bind, hg]; simp [run_neq_nil_nil w t hm], rep_sc rfl, h⟩
  · obtain ⟨rfl, _⟩ := sc_rep hx
    obtain ⟨rfl, _⟩ := sc_rep hy
    have hg : ∀ (op : BinOp) (d : TypeId) (z : Value), eqGuard op t xo yo (.iface d z) .nilIface = pure () := fun op d z => by cases op <;> rfl
    cases op <;> first | exact h.elim | skip
    · exact ⟨_, .bool false, by rw [Sem.run_bind, hg]; simp [run_eql_held_nil w t _ _ hm], rep_sc rfl, h⟩
    · exact ⟨_, .bool true, by rw [Sem.run_bind, hg]; simp [run_neq_held_nil w t _ _ hm], rep_sc rfl, h⟩
  · obtain ⟨⟨g, _, rfl⟩, _⟩ := hx
    obtain ⟨rfl, _⟩ := sc_rep hy
    have hg : ∀ (op : BinOp) (d : TypeId) (z : Value), eqGuard op t xo yo (.iface d z) .nilIface = pure () := fun op d z => by cases op <;> rfl
    simp only [Wr.val]
    cases op <;> first | exact h.elim | skip
    · exact ⟨_, .bool false, by rw [Sem.run_bind, hg]; simp [run_eql_held_nil w t _ _ hm], rep_sc rfl, h⟩
    · exact ⟨_, .bool true, by rw [Sem.run_bind, hg]; simp [run_neq_held_nil w t _ _ hm], rep_sc rfl, h⟩
  · exact h.elim
theorem binX_sound {op : BinOp} {t : TypeId} {xo yo : Operand} {u v : Value} {K : AV → Prop} (h : binX op u v K) :
    ∃ r, (do eqGuard op t xo yo u v; binOp op t u v).run P w = .ok r w ∧ r.oneCell' = true ∧ K (sc r) := by
  have guard : (op = .add ∨ op = .quo ∨ op = .rem) → (eqGuard op t xo yo u v).run P w = .ok () w := fun h => by
    rcases h with rfl | rfl | rfl <;> simp [eqGuard]
  have guard2 : (op = .shl ∨ op = .shr ∨ op = .or ∨ op = .and) → (eqGuard op t xo yo u v).run P w = .ok () w := fun h => by
    rcases h with rfl | rfl | rfl | rfl <;> simp [eqGuard]
  unfold binX at h
  split at h
  · rename_i a b
    refine ⟨_, ?_, rfl, h.2⟩
    rw [Sem.run_bind, guard (.inl rfl), Result.andThen_ok]
    have e : IntKind.i64.max = 9223372036854775807 := rfl
    simp only [binOp, Op.stringOp, e]
    rw [if_neg (by have := h.1; omega)]
    rfl
  · rename_i a b
    obtain ⟨h1, h2, h3, h4⟩ := h
    refine ⟨_, ?_, rfl, h4⟩
    rw [Sem.run_bind, guard (.inr (.inl rfl)), Result.andThen_ok]
    have hle : a / b ≤ a := Int.ediv_le_self _ h1
    have hge : 0 ≤ a / b := Int.ediv_nonneg h1 (by omega)
    have e1 : a.tdiv b = a / b := Int.tdiv_eq_ediv_of_nonneg h1
    have e2 : IntKind.i64.wrap (a / b) = a / b := by
      simp only [IntKind.wrap, IntKind.signed, IntKind.bits]
      have : (a / b) % 2 ^ 64 = a / b := Int.emod_eq_of_lt hge (by omega)
      simp only [this]
      rw [if_neg (by simp; omega)]
    simp only [binOp, Op.intDiv, ne_eq, not_true_eq_false, if_false, e1, e2]
    rw [if_neg (by omega)]
    rfl
  · rename_i a b
    rcases h with ⟨h1, h2, h3, h4⟩ | ⟨h2, h4⟩
    · refine ⟨_, ?_, rfl, h4⟩
      rw [Sem.run_bind, guard (.inr (.inr rfl)), Result.andThen_ok]
      have e1 : a.tmod b = a % b := Int.tmod_eq_emod_of_nonneg h1
      simp only [binOp, Op.intDiv, ne_eq, not_true_eq_false, if_false, e1]
      rw [if_neg (by omega)]
      rfl
    · refine ⟨_, ?_, rfl, h4⟩
      rw [Sem.run_bind, guard (.inr (.inr rfl)), Result.andThen_ok]
      simp only [binOp, Op.intDiv, ne_eq, not_true_eq_false, if_false]
      rw [if_neg h2]
      rfl
  · rename_i a b
    obtain ⟨h1, h2, h4⟩ := h
    refine ⟨_, ?_, rfl, h4⟩
    rw [Sem.run_bind, guard (.inr (.inr rfl)), Result.andThen_ok]
    have e1 : a.tmod b = a % b := Int.tmod_eq_emod_of_nonneg h1
    simp only [binOp, Op.intDiv, ne_eq, not_true_eq_false, if_false, e1]
    rw [if_neg (by omega)]
    rfl
  · rename_i k a k' b
    obtain ⟨h1, h4⟩ := h
    refine ⟨_, ?_, rfl, h4⟩
    rw [Sem.run_bind, guard2 (.inl rfl), Result.andThen_ok]
    simp only [binOp, Op.shift]
    rw [if_neg (by omega)]
    rfl
  · rename_i k a k' b
    obtain ⟨h1, h4⟩ := h
    refine ⟨_, ?_, rfl, h4⟩
    rw [Sem.run_bind, guard2 (.inr (.inl rfl)), Result.andThen_ok]
    simp only [binOp, Op.shift]
    rw [if_neg (by omega)]
    rfl
  · rename_i k a k' b
    obtain ⟨rfl, h4⟩ := h
    refine ⟨_, ?_, rfl, h4⟩
    rw [Sem.run_bind, guard2 (.inr (.inr (.inl rfl))), Result.andThen_ok]
    simp only [binOp, Op.intBits, ne_eq, not_true_eq_false, if_false]
    rfl
  · rename_i k a k' b
    obtain ⟨rfl, h4⟩ := h
    refine ⟨_, ?_, rfl, h4⟩
    rw [Sem.run_bind, guard2 (.inr (.inr (.inr rfl))), Result.andThen_ok]
    simp only [binOp, Op.intBits, ne_eq, not_true_eq_false, if_false]
    rfl
  · exact h.elim

theorem binK_sound (hT : TabOK P T) {op : BinOp} {t : TypeId} {xo yo : Operand} {x y : AV} {u v : Value} (hx : RepA G bk w x u) (hy : RepA G bk w y v) {K : AV → Prop} (h : binK T op t x y K) :
    ∃ z r, (do eqGuard op t xo yo u v; binOp op t u v).run P w = .ok r w ∧ RepA G bk w z r ∧ K z := by
  unfold binK at h
  split at h
  · rename_i p q
    obtain ⟨rfl, _⟩ := sc_rep hx
    obtain ⟨rfl, _⟩ := sc_rep hy
    split at h
    · rename_i z hz
      have key : ∀ ty, T.find t = some ty → ((∃ p, u = .bool p) → ty.d = .bool) → K (sc z) → ∃ z' r, (do eqGuard op t xo yo u v; binOp op t u v).run P w = .ok r w ∧ RepA G bk w z' r ∧ K z' := fun ty ht hb hk => by
        obtain ⟨h1, h2⟩ := vBin_run hT ht hz hb w (x := xo) (y := yo)
        exact ⟨sc z, z, h1, rep_sc h2, hk⟩
      unfold tyB at h
      cases ht : T.find t with
      | none => rw [ht] at h; exact h.elim
      | some ty =>
        rw [ht] at h
        cases u with
        | bool p =>
          simp only at h
          cases hb : isBoolT T t with
          | false => rw [hb] at h; exact h.elim
          | true =>
            rw [hb] at h
            obtain ⟨ty', h1, h2⟩ := isBoolT_spec hb
            rw [ht] at h1
            cases h1
            exact key ty ht (fun _ => h2) h
        | _ => exact key ty ht (fun ⟨p, e⟩ => by cases e) h
    · obtain ⟨r, h1, h2, h3⟩ := binX_sound (P := P) (w := w) (t := t) (xo := xo) (yo := yo) h
      exact ⟨_, r, h1, rep_sc h2, h3⟩
  · rename_i ls ms
    obtain ⟨xs, rfl, hxs⟩ := hx
    obtain ⟨ys, rfl, hys⟩ := hy
    split at h
    · rename_i fs size bytes zero ht
      split at h
      · rename_i r hr
        obtain ⟨F, h1, h2, h3, h4, h5, _⟩ := (hT t _ ht).strct fs rfl
        have hf : P.fieldsOf t = F := by simp [Program.fieldsOf, h1]
        have he : (Op.equalIn 10000 t (.agg xs.toArray) (.agg ys.toArray)).run P w = .ok r w := by
          rw [run_equalIn_struct w 9999 t _ _ (by rw [hf]; exact h1) h4, hf]
          exact eqFields_sound hT 9998 w F.toList 0 ls ms _ _ r h3 (by simpa using hxs) (by simpa using hys) (by rw [h2]; exact hr)
        cases op <;> first | exact h.elim | skip
        · exact ⟨_, .bool r, by rw [Sem.run_bind, run_eqGuard_agg w _ t xo yo _ _ h5, Result.andThen_ok, run_eql_struct, he]; rfl, rep_sc rfl, h⟩
        · exact ⟨_, .bool (!r), by rw [Sem.run_bind, run_eqGuard_agg w _ t xo yo _ _ h5, Result.andThen_ok, run_neq_struct, he]; rfl, rep_sc rfl, h⟩
      · exact h.elim
    · exact h.elim
  · exact h.elim
end
end Go.Rx

/- Each operation does what the table of operations says. -/
set_option linter.unusedVariables false
set_option linter.unusedSimpArgs false
namespace Go.Rx
open Go.RowKit

section
variable {P : Program} {T : Tab} {C : Ctx} {G : Gh} {sl : Nat → AV} {bk : List Blk} {a : Act} {w : World}

theorem run_zeroValue (hT : TabOK P T) {t : TypeId} {ty : Ty} (ht : T.find t = some ty) (w : World) : ∃ z, (zeroValue t).run P w = .ok z w ∧ z.cells.toList = ty.zero ∧ (z = .agg ty.zero.toArray ∨ ty.d.agg = false) := by
  obtain ⟨i, z, h1, h2, h3, h4, h5, h6⟩ := (hT t ty ht).info
  exact ⟨z, by simp [zeroValue, typeInfo, h1, h4], h5, h6⟩

theorem fa_parts {ρ : Operand → AV} {e : Operand → Value} (hr : ∀ x, RepA G bk w (ρ x) (e x)) : ∀ (l : List (Nat × Operand)),
    Fa (fun (p : Nat × Option (List Lf)) (v : Nat × Value) => p.1 = v.1 ∧ ∀ ls, p.2 = some ls → Fa (RepL G bk w) ls v.2.cells.toList ∧ v.2.cells.size = ls.length) (l.map fun p => (p.1, leaves (ρ p.2))) (l.map fun p => (p.1, e p.2))
  | [] => trivial
  | p :: l => ⟨⟨rfl, fun ls h => leaves_rep (hr p.2) h⟩, fa_parts hr l⟩

theorem fa_map {ρ : Operand → AV} {e : Operand → Value} (hr : ∀ x, RepA G bk w (ρ x) (e x)) : ∀ (l : List Operand), Fa (RepA G bk w) (l.map ρ) (l.map e)
  | [] => trivial
  | x :: l => ⟨hr x, fa_map hr l⟩

theorem chunk_get (sz : Nat) : ∀ (n : Nat) (l : List PV) (j : Nat), j < n → (chunk sz n l)[j]? = some ((l.drop (j * sz)).take sz)
  | 0, _, _, h => absurd h (Nat.not_lt_zero _)
  | n + 1, l, 0, _ => by simp [chunk]
  | n + 1, l, j + 1, h => by
    simp only [chunk, List.getElem?_cons_succ]
    rw [chunk_get sz n (l.drop sz) j (by omega), List.drop_drop, Nat.succ_mul, Nat.add_comm sz]
theorem chunk_length (sz : Nat) : ∀ (n : Nat) (l : List PV), (chunk sz n l).length = n
  | 0, _ => rfl
  | n + 1, l => by simp [chunk, chunk_length sz n]

theorem cell_back (hT : TabOK P T) {s d : TypeId} {z : ByteArray} (hs : isBytes T s = true) (hd : isStr T d = true) {g o cap : Nat} (hc : ∀ j (hj : j < z.data.size), w.cell? ⟨g, o + j, none⟩ = some (.int .u8 (z.data[j].toNat : Int))) :
    (convert s d (.slice (some ⟨g, o, none⟩) z.size cap)).run P w = .ok (.string z) w := by
  obtain ⟨ee, hs1, he⟩ := isBytes_spec hT hs
  have := run_convert_bytes_back (P := P) w s d ee ⟨g, o, none⟩ cap z.data.toList hs1 he (isStr_spec hT hd) (fun j hj => by rw [Addr.add_lit]; simpa using hc j (by simpa using hj))
  have e1 : z.data.toList.length = z.size := by simp
  rw [e1] at this
  simpa using this
theorem bytes_back (hT : TabOK P T) {s d : TypeId} {z : ByteArray} (hs : isBytes T s = true) (hd : isStr T d = true) {v : Value} (h : RepP G.S w (.sl 1 (byteRows z)) v) : (convert s d v).run P w = .ok (.string z) w := by
  have hlen : (byteRows z).length = z.size := by simp [byteRows]
  generalize hrw : byteRows z = rows at h
  cases h with
  | nil =>
    obtain ⟨ee, hs1, he⟩ := isBytes_spec hT hs
    have hz : z.data = #[] := by
      have : z.data.toList = [] := by simpa [byteRows] using hrw
      simpa using this
    have : z = .empty := ByteArray.ext hz
    rw [run_convert_bytes_nil w s ee hs1 he 0 0 d (isStr_spec hT hd), this]
  | emp _ a cap =>
    obtain ⟨ee, hs1, he⟩ := isBytes_spec hT hs
    have hz : z.data.toList = [] := by simpa [byteRows] using hrw
    have := run_convert_bytes_back (P := P) w s d ee a cap z.data.toList hs1 he (isStr_spec hT hd) (fun j hj => by rw [hz] at hj; cases hj)
    rw [hz] at this
    have e2 : z = ⟨([] : List UInt8).toArray⟩ := ByteArray.ext (by simpa using hz)
    rw [e2]
    exact this
  | sl _ g o cap _ vs hc hu hm hr =>
    subst hrw
    rw [hlen]
    refine cell_back hT hs hd fun j hj => ?_
    have hj0 : (byteRows z)[j]? = some [.sc (.int .u8 (z.data[j].toNat : Int))] := by
      unfold byteRows
      rw [List.getElem?_map, List.getElem?_eq_getElem (by simpa using hj)]
      simp
    have h1 := (hm j _ 0 _ hj0 rfl).2
    have h2 := (sc_rep (G := G) (bk := []) (w := w) (hr j _ 0 _ hj0 rfl)).1
    rw [h2] at h1
    simpa using h1
theorem own_back (hT : TabOK P T) (hm : Mem C G bk w) {s d : TypeId} {z : ByteArray} {b : Nat} (hs : isBytes T s = true) (hd : isStr T d = true) (hb : rowsOf bk b = some (1, byteRows z)) {v : Value} (h : RepL G bk w (.own b (byteRows z).length) v) : (convert s d v).run P w = .ok (.string z) w := by
  have hlen : (byteRows z).length = z.size := by simp [byteRows]
  obtain ⟨ee, hs1, he⟩ := isBytes_spec hT hs
  have hj0 : ∀ j (hj : j < z.data.size), (byteRows z)[j]? = some [.sc (.int .u8 (z.data[j].toNat : Int))] := fun j hj => by
    unfold byteRows
    rw [List.getElem?_map, List.getElem?_eq_getElem (by simpa using hj)]
    simp
  have emp : (byteRows z).length = 0 → z = .empty := fun e => by
    rw [hlen] at e
    exact ByteArray.ext (Array.eq_empty_of_size_eq_zero e)
  obtain ⟨_, sz, rows, h2, _, h4⟩ := h
  rw [hb] at h2
  cases h2
  rcases h4 rfl with ⟨g, hg, rfl⟩ | ⟨_, hz, rfl⟩
  · rw [hlen]
    refine cell_back hT hs hd fun j hj => ?_
    unfold rowsOf at hb
    cases hbb : bk[b]? with
    | none => rw [hbb] at hb; cases hb
    | some B =>
      rw [hbb] at hb
      have h0 := hm.blk b B hbb
      cases B with
      | arr ety sz' rows' =>
        simp at hb
        obtain ⟨rfl, rfl⟩ := hb
        rcases h0 with ⟨h0, _⟩ | ⟨g', cur, h0, ⟨fz, h1, _⟩, _, _, _, h5⟩
        · rw [hg] at h0; cases h0
        · rw [hg] at h0
          cases h0
          obtain ⟨u, hu, hru⟩ := (h5 j _ (hj0 j hj)).2 0 _ rfl
          cases hru
          rw [cell_of_row w _ _ _ _ _ h1, Nat.zero_add]
          simpa using hu
      | frz sz' rows' =>
        simp at hb
        obtain ⟨rfl, rfl⟩ := hb
        rcases h0 with ⟨h0, _⟩ | ⟨g', h0, _, h5⟩
        · rw [hg] at h0; cases h0
        · rw [hg] at h0
          cases h0
          obtain ⟨_, u, hu, hru⟩ := (h5 j _ (hj0 j hj)).2 0 _ rfl
          cases hru
          rw [Nat.zero_add]
          simpa using hu
      | lost sz' rows' => exact absurd ((show G.M b = none from h0).symm.trans hg) (by simp)
      | _ => simp at hb
  · rw [run_convert_bytes_nil w s ee hs1 he 0 0 d (isStr_spec hT hd), emp hz]
theorem run_markStringish (w : World) (g : Nat) : ∃ w', (markStringish ⟨g, 0, none⟩).run P w = .ok () w' ∧ (∀ g' o, w'.cell? ⟨g', o, none⟩ = w.cell? ⟨g', o, none⟩) ∧ (∀ g', g' ≠ g → w'.heap[g']? = w.heap[g']?) ∧ w'.heap.size = w.heap.size ∧ w'.os = w.os ∧ w'.tape = w.tape ∧ w'.output = w.output ∧ ∀ e, TyAt w g e → TyAt w' g e := by
  unfold markStringish
  cases hs : w.shape? g with
  | none => exact ⟨w, by simp [hs], fun _ _ => rfl, fun _ _ => rfl, rfl, rfl, rfl, rfl, fun _ h => h⟩
  | some x =>
    have hget : ∀ g', (w.freeze ⟨g, x.2, none⟩ 1).heap[g']? = if g = g' then (w.heap[g']?).map fun
        | .cells c elem (lo, hi) => .cells c elem (if lo == hi then (x.2, x.2 + 1) else (min lo x.2, max hi (x.2 + 1)))
        | o => o else w.heap[g']? := fun g' => by
      unfold World.freeze
      rw [if_neg (by decide)]
      show (w.heap.modify g _)[g']? = _
      rw [Array.getElem?_modify]
      rfl
    refine ⟨w.freeze ⟨g, x.2, none⟩ 1, by simp [hs], fun g' o => ?_, fun g' hg' => ?_, ?_, ?_, ?_, ?_, fun e he => ?_⟩
    · unfold World.cell?
      rw [hget]
      by_cases e : g = g'
      · rw [if_pos e]
        cases w.heap[g']? with
        | none => rfl
        | some ob => cases ob <;> rfl
      · rw [if_neg e]
    · rw [hget, if_neg (Ne.symm hg')]
    · unfold World.freeze
      rw [if_neg (by decide)]
      simp
    rotate_right
    · obtain ⟨cur, fz, h1, h2⟩ := he
      have hx : x.2 = cur.size := by
        unfold World.shape? at hs
        rw [h1] at hs
        cases hs; rfl
      have h3 := hget g
      rw [if_pos rfl, h1] at h3
      obtain ⟨lo, hi⟩ := fz
      refine ⟨cur, _, h3, ?_⟩
      rcases h2 with h2 | h2
      · cases h2
        right
        simp [hx]
      · right
        simp only at h2
        rw [hx, h2]
        split <;> simp
    all_goals (unfold World.freeze; rw [if_neg (by decide)])
theorem opV_sound (hT : TabOK P T) (hgl : Glob C.S0 C.w0) (hm : Mem C G bk w) {ρ : Operand → AV} {e : Operand → Value} (hr : ∀ x, RepA G bk w (ρ x) (e x)) (o : Oper) {K : AV → List Blk → Prop} (h : opV P T o.op ρ bk K) :
    Out P C G bk w K ((execOp e o).run P w) := by
  obtain ⟨dst, op, type, pos, after, guard⟩ := o
  cases op with
  | move x => exact Out.of hm rfl (hr x) h
  | assign x => exact Out.of hm rfl (hr x) h
  | pick c x y =>
    simp only [opV] at h
    split at h
    · rename_i hc
      have := hr c
      rw [hc] at this
      obtain ⟨e1, _⟩ := sc_rep this
      exact Out.of hm (by simp [execOp, e1, asBool]) (hr x) h
    · rename_i hc
      have := hr c
      rw [hc] at this
      obtain ⟨e1, _⟩ := sc_rep this
      exact Out.of hm (by simp [execOp, e1, asBool]) (hr y) h
    · exact h.elim
  | alloc t =>
    simp only [opV] at h
    split at h
    · rename_i ty ht
      obtain ⟨z, hz, hzl, _⟩ := run_zeroValue hT ht w
      cases hbl : T.bld.any (Nat.beq t) with
      | true =>
        rw [hbl] at h
        simp only [cond_true] at h
        obtain ⟨G', t', hm', hM, _⟩ := hm.alloc (some (.cells z.cells t)) (.var (bldCells bk.length t ty.zero)) 0 rfl (fun G' _ hM _ tr => by
          have hro : rowsOf (bk ++ [.var (bldCells bk.length t ty.zero)]) bk.length = none := by
            unfold rowsOf
            rw [List.getElem?_append_right (Nat.le_refl _)]
            simp
          refine ⟨w.heap.size, ty.zero, t, hM, ⟨by rw [← hzl, Array.toArray_toList]; exact heap_alloc_new w _, ?_⟩, ?_⟩
          · unfold bldCells
            split
            · intro t2 ht2
              rcases List.mem_cons.1 ht2 with e | e
              · cases e; rfl
              · obtain ⟨v, _, e⟩ := List.mem_map.1 e; cases e
            · intro t2 ht2
              obtain ⟨v, _, e⟩ := List.mem_map.1 ht2; cases e
          · have hone : ∀ v ∈ ty.zero, v.oneCell' = true := fun v hv => plainV_one ((hT t ty ht).zp v hv)
            have hf : ∀ l : List Value, (∀ v ∈ l, v.oneCell' = true) → Fa (RepL G' (bk ++ [.var (bldCells bk.length t ty.zero)]) (Option.elim (some (Obj.cells z.cells t)) w w.alloc)) (l.map lsc) l := fun l hl => fa_lsc hl
            generalize hB : Blk.var (bldCells bk.length t ty.zero) = B at hro hf ⊢
            generalize hz0 : ty.zero = l0 at hone
            unfold bldCells
            split
            · rename_i r
              exact ⟨⟨.inl rfl, by simp, hro⟩, hf r fun v hv => hone v (by simp [hv])⟩
            · exact hf _ hone)
        have hrun : (execOp e ⟨dst, .alloc t, type, pos, after, guard⟩).run P w = .ok (.value (.pointer (some ⟨w.heap.size, 0, none⟩))) (w.alloc (.cells z.cells t)) := by
          simp [execOp, Instr.alloc, hz, Go.newVar, Go.newRow]
        rw [hrun]
        refine .value (x := .lf (.ptr bk.length 0)) t' hm' ⟨⟨_, hM, rfl⟩, by simp, ?_⟩ h
        unfold rowsOf
        rw [List.getElem?_append_right (Nat.le_refl _)]
        simp
      | false =>
      rw [hbl] at h
      simp only [cond_false] at h
      obtain ⟨G', u, h1, h2, h3, h4⟩ := mem_newVar (P := P) hm t (ls := ty.zero.map lsc) (v := z) (by rw [hzl]; exact fa_lsc fun v hv => plainV_one ((hT t ty ht).zp v hv)) (by rw [List.all_map]; exact List.all_eq_true.2 fun v _ => rfl)
      have hrun : (execOp e ⟨dst, .alloc t, type, pos, after, guard⟩).run P w = .ok (.value (.pointer (some u))) (w.alloc (.cells z.cells t)) := by
        simp [execOp, Instr.alloc, hz, h1]
      rw [hrun]
      exact .value (x := .lf (.ptr bk.length 0)) h2 h3 h4 h
    · exact h.elim
  | box t x =>
    simp only [opV] at h
    split at h
    · rename_i ls hls
      obtain ⟨hf, _⟩ := leaves_rep (hr x) hls
      cases hno : ls.all notBad with
      | false => rw [hno] at h; exact h.elim
      | true =>
      rw [hno] at h
      simp only [cond_true] at h
      obtain ⟨G', u, h1, h2, h3, h4⟩ := mem_newVar (P := P) hm t hf hno
      have hrun : (execOp e ⟨dst, .box t x, type, pos, after, guard⟩).run P w = .ok (.value (.pointer (some u))) (w.alloc (.cells (e x).cells t)) := by
        simp [execOp, Instr.box, h1]
      rw [hrun]
      exact .value (x := .lf (.ptr bk.length 0)) h2 h3 h4 h
    · exact h.elim
  | build t parts =>
    simp only [opV] at h
    split at h
    · rename_i fs size bytes zero ht
      split at h
      · rename_i ls hls
        obtain ⟨F, h1, h2, h3, h4, h5, hall⟩ := (hT t _ ht).strct fs rfl
        obtain ⟨z, hz, hzl, _⟩ := run_zeroValue hT ht w
        -- every part that is filled has a place of its own
        let pl : Nat → Option (Nat × Nat) := fun i => (F[i]?).map fun f => (f.offset, P.cellsOf f.type)
        have hpl : ∀ i x, placeT T fs i = some x → pl i = some x := fun i x hx => by
          unfold placeT at hx
          split at hx
          · rename_i off t' hf
            split at hx
            · rename_i ty hty
              cases hx
              rw [← h2, List.getElem?_map, Option.map_eq_some_iff] at hf
              obtain ⟨f, hf1, hf2⟩ := hf
              cases hf2
              obtain ⟨i', z', hi, hs, _⟩ := (hT _ ty hty).info
              simp only [pl]
              rw [← Array.getElem?_toList, hf1]
              simp [Program.cellsOf, hi, hs]
            · cases hx
          · cases hx
        have hzf : Fa (RepL G bk w) (zero.map lsc) z.cells.toList := by rw [hzl]; exact fa_lsc fun v hv => plainV_one ((hT t _ ht).zp v hv)
        obtain ⟨rs, hrs, hfr⟩ := fill_sound hpl hzf (fa_parts hr parts.toList) hls
        refine Out.of (x := .agg ls) (u := .agg rs) hm ?_ ⟨rs.toList, by simp, hfr⟩ h
        have hpls := run_places hT h2 hall w
        have hget : ∀ i, (F.map fun (f : Field) => (f.offset, P.cellsOf f.type))[i]? = pl i := fun i => by simp [pl]
        simp only [execOp, Instr.build, Sem.run_bind, hz, Result.andThen_ok, run_underlying h1, hpls, hget]
        have hl : (parts.map fun x => (match x with | (i, x) => (i, e x))).toList = parts.toList.map fun p => (p.1, e p.2) := by simp
        rw [hl]
        have hpl' : (fun i => pl i) = pl := rfl
        simp only [hrs]
        rfl
      · exact h.elim
    · exact h.elim
  | load t p =>
    simp only [opV] at h
    obtain ⟨x, u, h1, h2, h3⟩ := loadK_sound hT hm (hr p) h
    exact Out.of hm (by simp [execOp, h1]) h2 h3
  | store t p x =>
    simp only [opV] at h
    obtain ⟨G', bk', w', h1, h2, h3, h4⟩ := storeK_sound hT hm (hr p) (hr x) h
    have hrun : (execOp e ⟨dst, .store t p x, type, pos, after, guard⟩).run P w = .ok .skip w' := by simp [execOp, h1]
    rw [hrun]
    exact .skip h2 h3 h4
  | nilCheck x =>
    simp only [opV] at h
    split at h
    · rename_i b o' hx
      have h0 := hr x
      rw [hx] at h0
      replace h0 : RepL G bk w (.ptr b o') (e x) := h0
      obtain ⟨⟨g, hg, e1⟩, h1⟩ := h0
      exact Out.of (x := .lf (.ptr b o')) hm (by simp [execOp, e1]) ⟨⟨g, hg, rfl⟩, h1⟩ h
    · rename_i l hx
      have h0 := hr x
      rw [hx] at h0
      replace h0 : RepL G bk w (.ro l) (e x) := h0
      obtain ⟨g, o', e1, h1⟩ := h0
      exact Out.of (x := .lf (.ro l)) hm (by simp [execOp, e1]) ⟨g, o', rfl, h1⟩ h
    · rename_i b n i sz o' hx
      have h0 := hr x
      rw [hx] at h0
      replace h0 : RepL G bk w (.ept b n i sz o') (e x) := h0
      obtain ⟨h1, rows, h2, h3, h4⟩ := h0
      rw [h2] at h
      obtain ⟨h5, h⟩ := h
      obtain ⟨g, hg, e1⟩ := h4 h5
      exact Out.of (x := .lf (.ept b n i sz o')) (u := .pointer (some ⟨g, i * sz + o', none⟩)) hm (by simp [execOp, e1]) ⟨rfl, rows, h2, h3, fun _ => ⟨g, hg, rfl⟩⟩ h
    · rename_i ad hx
      have h0 := hr x
      rw [hx] at h0
      obtain ⟨e1, _⟩ := sc_rep h0
      exact Out.of (x := sc (.pointer (some ad))) hm (by simp [execOp, e1]) (rep_sc rfl) h
    · exact h.elim
  | binOp op t x y yt =>
    simp only [opV] at h
    have key : ∃ z r, (do eqGuard op t x y (e x) (e y); binOp op t (e x) (e y)).run P w = .ok r w ∧ RepA G bk w z r ∧ K z bk := by
      cases hc : isIfc T t with
      | true => rw [hc] at h; exact ifcK_sound hT hc (hr x) (hr y) h
      | false => rw [hc] at h; exact binK_sound hT (hr x) (hr y) h
    obtain ⟨z, r, h1, h2, h3⟩ := key
    refine Out.of hm (u := r) ?_ h2 h3
    simp only [execOp]
    rw [Sem.run_bind, h1]
    rfl
  | unOp op t x =>
    simp only [opV] at h
    split at h
    · rename_i u hx
      split at h
      · rename_i z hz
        have h0 := hr x
        rw [hx] at h0
        obtain ⟨e1, _⟩ := sc_rep h0
        obtain ⟨h1, h2⟩ := vUn_run (P := P) hz w
        exact Out.of hm (by simp [execOp, e1, h1]) (rep_sc h2) h
      · exact h.elim
    · exact h.elim
  | convert s d x =>
    simp only [opV] at h
    split at h
    · rename_i k n hx
      have h0 := hr x
      rw [hx] at h0
      obtain ⟨e1, _⟩ := sc_rep h0
      split at h
      · rename_i k1 k2 hs hd
        exact Out.of hm (by simp [execOp, convert, e1, run_underlying (intKind_spec hT hs), run_underlying (intKind_spec hT hd), Conv.intToInt]) (rep_sc rfl) h
      · exact h.elim
    · rename_i z hx
      have h0 := hr x
      rw [hx] at h0
      obtain ⟨e1, _⟩ := sc_rep h0
      cases hs : isStr T s with
      | false => rw [hs] at h; exact h.elim
      | true =>
        rw [hs] at h
        simp only [cond_true] at h
        cases hd : isStr T d with
        | true =>
          rw [hd] at h
          exact Out.of hm (by simp [execOp, convert, e1, run_underlying (isStr_spec hT hs), run_underlying (isStr_spec hT hd)]) (rep_sc rfl) h
        | false =>
          rw [hd] at h
          simp only [cond_false] at h
          cases hb : isBytes T d with
          | false => rw [hb] at h; exact h.elim
          | true =>
            rw [hb] at h
            simp only [cond_true] at h
            obtain ⟨ee, hd1, he⟩ := isBytes_spec hT hb
            have hrun := run_bytes_of_string w s d ee z (isStr_spec hT hs) hd1 he
            generalize hcap : grownCap w z.size 0 ee = cap at hrun
            have hge : z.size ≤ cap := by rw [← hcap]; exact grownCap_ge w z.size 0 ee
            obtain ⟨td, md⟩ := hm.drew
            have hlen : (byteRows z).length = z.size := by simp [byteRows]
            have hrow : ∀ j r c p, (byteRows z)[j]? = some r → r[c]? = some p → c = 0 ∧ ∃ hj : j < z.data.size, p = .sc (.int .u8 (z.data[j].toNat : Int)) := fun j r c p hj hp => by
              unfold byteRows at hj
              rw [List.getElem?_map, Option.map_eq_some_iff] at hj
              obtain ⟨b, hb1, rfl⟩ := hj
              have hc0 : c = 0 := by
                have := (List.getElem?_eq_some_iff.1 hp).1
                simpa using this
              subst hc0
              simp at hp
              have hjl := (List.getElem?_eq_some_iff.1 hb1).1
              simp at hjl
              refine ⟨rfl, hjl, ?_⟩
              rw [List.getElem?_eq_getElem (by simpa using hjl)] at hb1
              simp at hb1
              rw [← hp, ← hb1]
            have hrun2 : (execOp e ⟨dst, .convert s d x, type, pos, after, guard⟩).run P w = .ok (.value (.slice (some ⟨w.heap.size, 0, none⟩) z.size cap)) (w.drew.alloc (.cells (bytesRow z cap) ee ((bytesRow z cap).size, (bytesRow z cap).size + 1))) := by
              simp [execOp, e1, hrun]
            rcases h with h | ⟨hz, h⟩
            · obtain ⟨G1, t1, m1, hM, _⟩ := md.alloc (some (.cells (bytesRow z cap) ee ((bytesRow z cap).size, (bytesRow z cap).size + 1))) .dead 0 rfl (fun _ _ _ _ _ => trivial)
              have hbk : (bk ++ [Blk.dead])[bk.length]? = some .dead := by rw [List.getElem?_append_right (Nat.le_refl _)]; simp
              obtain ⟨G2, t2, m2, hM2, _, hS2⟩ := m1.share bk.length .dead hbk (by unfold Alive; rw [hbk]; exact id) (fun _ _ => rfl) (fun _ _ => rfl) (fun _ _ _ h => h) rfl rfl rfl rfl
              rw [hrun2]
              refine .value (x := .lf (.pv (.sl 1 (byteRows z)))) (td.trans (t1.trans t2)) m2 ?_ h
              show RepP G2.S _ (.sl 1 (byteRows z)) (.slice (some ⟨w.heap.size, 0, none⟩) z.size cap)
              rw [← hlen]
              refine .sl 1 w.heap.size 0 cap _ (fun j _ => .int .u8 ((z.data[j]?).getD 0).toNat) (by rw [hlen]; exact hge) (fun r hr' => ?_) (fun j r c p hj hp => ?_) (fun j r c p hj hp => ?_)
              · unfold byteRows at hr'
                rw [List.mem_map] at hr'
                obtain ⟨b, _, rfl⟩ := hr'
                rfl
              · obtain ⟨rfl, hjl, rfl⟩ := hrow j r c p hj hp
                refine ⟨?_, ?_⟩
                · rw [hS2]; exact .inr (by rw [hM]; rfl)
                · have := World.cell?_alloc_mark w.drew (bytesRow z cap) ee ((bytesRow z cap).size, (bytesRow z cap).size + 1) j
                  rw [bytesRow_at z cap j hjl] at this
                  rw [Nat.zero_add, Nat.mul_one, Nat.add_zero]
                  simp only [Option.elim, Array.getElem?_eq_getElem hjl, Option.getD_some]
                  exact this
              · obtain ⟨rfl, hjl, rfl⟩ := hrow j r c p hj hp
                simp only [Array.getElem?_eq_getElem hjl, Option.getD_some]
                exact .sc _ rfl
            · cases hel : elemOf? T d with
              | none => rw [hel] at h; exact h.elim
              | some q =>
                obtain ⟨e', te⟩ := q
                rw [hel] at h
                simp only at h
                have htx : txtB = true := by
                  cases htx : txtB with
                  | true => rfl
                  | false => rw [htx] at h; exact h.elim
                rw [htx] at h
                simp only at h
                obtain ⟨hd2, _, _⟩ := elemOf_spec hT hel
                have hee : e' = ee := by rw [hd1] at hd2; cases hd2; rfl
                subst hee
                have hsz : (bytesRow z cap).size = cap := by simp [bytesRow]; omega
                obtain ⟨G1, t1, m1, hM, hcp1⟩ := md.alloc (some (.cells (bytesRow z cap) e' ((bytesRow z cap).size, (bytesRow z cap).size + 1))) (.arr e' 1 (byteRows z)) cap rfl (fun G' hS hM hcp tr => by
                  refine .inr ⟨w.heap.size, bytesRow z cap, hM, ⟨_, heap_alloc_new w.drew _, .inr ⟨htx, rfl⟩⟩, by rw [hcp, ← hcap]; exact grownCap_le_maxLen w z.size 0 e' (by simp only [maxLen]; omega), by rw [hcp, hsz, Nat.mul_one], by rw [hcp, hlen]; exact hge, fun j r hj => ?_⟩
                  have hr1 : r.length = 1 := by
                    have := List.mem_of_getElem? hj
                    unfold byteRows at this
                    rw [List.mem_map] at this
                    obtain ⟨b, _, rfl⟩ := this
                    rfl
                  refine ⟨hr1, fun c p hp => ?_⟩
                  obtain ⟨rfl, hjl, rfl⟩ := hrow j r c p hj hp
                  exact ⟨_, by rw [Nat.mul_one, Nat.add_zero]; exact bytesRow_at z cap j hjl, .sc _ rfl⟩)
                rw [hrun2]
                refine .value (x := .lf (.own bk.length z.size)) (td.trans t1) m1 ?_ h
                have hnew : (bk ++ [Blk.arr e' 1 (byteRows z)])[bk.length]? = some (.arr e' 1 (byteRows z)) := by rw [List.getElem?_append_right (Nat.le_refl _)]; simp
                exact ⟨rfl, 1, byteRows z, by unfold rowsOf; rw [hnew], by rw [hlen]; exact Nat.le_refl _, fun _ => .inl ⟨w.heap.size, by rw [hM]; rfl, by rw [hcp1]⟩⟩
    · rename_i sz rows hx
      have h0 := hr x
      rw [hx] at h0
      cases hb : (isBytes T s && isStr T d && Nat.beq sz 1) with
      | false => rw [hb] at h; exact h.elim
      | true =>
        rw [hb] at h
        simp only [cond_true] at h
        simp only [Bool.and_eq_true] at hb
        obtain ⟨z, rfl, h⟩ := h
        obtain rfl : sz = 1 := Nat.eq_of_beq_eq_true hb.2
        exact Out.of hm (by simp [execOp, bytes_back hT hb.1.1 hb.1.2 (h0 : RepP G.S w (.sl 1 (byteRows z)) (e x))]) (rep_sc rfl) h
    · rename_i hx
      have h0 := hr x
      rw [hx] at h0
      obtain ⟨e1, _⟩ := sc_rep h0
      cases hb : (isBytes T s && isStr T d) with
      | false => rw [hb] at h; exact h.elim
      | true =>
        rw [hb] at h
        simp only [Bool.and_eq_true] at hb
        obtain ⟨ee, hs1, he⟩ := isBytes_spec hT hb.1
        exact Out.of hm (by simp [execOp, e1, run_convert_bytes_nil w s ee hs1 he 0 0 d (isStr_spec hT hb.2)]) (rep_sc rfl) h
    · rename_i b len hx
      have h0 := hr x
      rw [hx] at h0
      replace h0 : RepL G bk w (.own b len) (e x) := h0
      cases hs : isBytes T s with
      | false => rw [hs] at h; exact h.elim
      | true =>
        rw [hs] at h
        simp only [cond_true] at h
        cases hd : isStr T d with
        | true =>
          rw [hd] at h
          simp only [cond_true] at h
          split at h
          · rename_i sz rows hrw
            cases hb : Nat.beq sz 1 with
            | false => rw [hb] at h; exact h.elim
            | true =>
              rw [hb] at h
              obtain rfl : sz = 1 := Nat.eq_of_beq_eq_true hb
              obtain ⟨rfl, z, rfl, h⟩ := h
              refine Out.of hm ?_ (rep_sc rfl) h
              simp [execOp, own_back hT hm hs hd hrw h0]
          · exact h.elim
        | false =>
          rw [hd] at h
          simp only [cond_false] at h
          cases hb : (isBytes T d && Nat.beq s d && Nat.blt 0 len) with
          | false => rw [hb] at h; exact h.elim
          | true =>
            rw [hb] at h
            simp only [cond_true] at h
            simp only [Bool.and_eq_true] at hb
            obtain rfl : s = d := Nat.eq_of_beq_eq_true hb.1.2
            obtain ⟨ee, hs1, he⟩ := isBytes_spec hT hs
            have hpos : 0 < len := Nat.le_of_ble_eq_true hb.2
            have key : ∀ (sz : Nat) (rows : List (List PV)) (G1 : Gh) (b1 : List Blk), Trn G bk w G1 b1 w → Mem C G1 b1 w → b1[b]? = some (.frz sz rows) → rows.length = len → K (.lf (.pv (.sl sz rows))) b1 →
                Out P C G bk w K ((execOp e ⟨dst, .convert s s x, type, pos, after, guard⟩).run P w) := fun sz rows G1 b1 t1 m1 hb1 hl hk => by
              have h1 := t1.repL h0
              obtain ⟨_, sz', rows', h2, _, h4⟩ := h1
              have er : rowsOf b1 b = some (sz, rows) := by unfold rowsOf; rw [hb1]
              rw [er] at h2
              cases h2
              rcases h4 hl with ⟨g, hg, hv⟩ | ⟨_, hz, _⟩
              · obtain ⟨w2, hrun, hc, ho, hsz, hos, htp, hou, hty⟩ := run_markStringish (P := P) w g
                obtain ⟨G2, t2, m2, _, _, _⟩ := m1.share (w' := w2) b _ hb1 (by unfold Alive; rw [hb1]; exact id) hc (fun g' hg' => ho g' fun e => hg' (by rw [e]; exact hg)) (fun g' e' hg' => by
                  rw [hg] at hg'
                  cases hg'
                  exact hty e') hsz hos htp hou
                have hrun2 : (execOp e ⟨dst, .convert s s x, type, pos, after, guard⟩).run P w = .ok (.value (e x)) w2 := by
                  rw [hv]
                  simp [execOp, hv, convert, run_underlying hs1, run_underlying he, hrun]
                rw [hrun2]
                refine .value (t1.trans t2) m2 (x := .lf (.pv (.sl sz rows))) ?_ hk
                exact own_pv m2 hb1 (by rw [hl]; exact t2.repL (t1.repL h0))
              · omega
            simp only [pvK] at h
            split at h
            · rename_i ety sz rows hbb
              obtain ⟨hl, hk⟩ := h
              obtain ⟨G1, t1, m1, _, _, _⟩ := hm.frz b _ (.frz sz rows) hbb rfl
              exact key sz rows G1 _ t1 m1 (List.getElem?_set_self (List.getElem?_eq_some_iff.1 hbb).1) hl hk
            · rename_i sz rows hbb
              obtain ⟨hl, hk⟩ := h
              exact key sz rows G bk (Trn.refl _ _ _) hm hbb hl hk
            · exact h.elim
    · exact h.elim
  | fieldAddr s x f =>
    simp only [opV] at h
    split at h
    · rename_i off hoff
      split at h
      · rename_i b o' hx
        have h0 := hr x
        rw [hx] at h0
        replace h0 : RepL G bk w (.ptr b o') (e x) := h0
        obtain ⟨⟨g, hg, e1⟩, h1⟩ := h0
        exact Out.of (x := .lf (.ptr b (o' + off))) hm (by simp [execOp, e1, run_fieldAt hT hoff]) ⟨⟨g, hg, rfl⟩, h1⟩ h
      · rename_i l hx
        have h0 := hr x
        rw [hx] at h0
        replace h0 : RepL G bk w (.ro l) (e x) := h0
        obtain ⟨g, o', e1, h1⟩ := h0
        exact Out.of (x := .lf (.ro (l.drop off))) hm (by simp [execOp, e1, run_fieldAt hT hoff]) ⟨g, o' + off, rfl, h1.drop off⟩ h
      · rename_i b n i sz o' hx
        have h0 := hr x
        rw [hx] at h0
        replace h0 : RepL G bk w (.ept b n i sz o') (e x) := h0
        obtain ⟨h1, rows, h2, h3, h4⟩ := h0
        rw [h2] at h
        obtain ⟨h5, h⟩ := h
        obtain ⟨g, hg, e1⟩ := h4 h5
        exact Out.of (x := .lf (.ept b n i sz (o' + off))) (u := .pointer (some ⟨g, i * sz + (o' + off), none⟩)) hm (by simp [execOp, e1, run_fieldAt hT hoff, Nat.add_assoc]) ⟨rfl, rows, h2, h3, fun _ => ⟨g, hg, rfl⟩⟩ h
      · rename_i g o' hx
        have h0 := hr x
        rw [hx] at h0
        obtain ⟨e1, _⟩ := sc_rep h0
        exact Out.of (x := sc (.pointer (some ⟨g, o' + off, none⟩))) hm (by simp [execOp, e1, run_fieldAt hT hoff]) (rep_sc rfl) h
      · exact h.elim
    · exact h.elim
  | index t x ix =>
    simp only [opV] at h
    split at h
    · rename_i s k i hx hi
      have h0 := hr x
      rw [hx] at h0
      obtain ⟨e1, _⟩ := sc_rep h0
      have h1 := hr ix
      rw [hi] at h1
      obtain ⟨e2, _⟩ := sc_rep h1
      cases hb : isStr T t with
      | false => rw [hb] at h; exact h.elim
      | true =>
        rw [hb] at h
        obtain ⟨h2, c, h3, h4⟩ := h
        exact Out.of hm (by simp [execOp, Instr.index, e1, e2, asIntOf, run_underlying (isStr_spec hT hb), h2, h3]) (rep_sc rfl) h4
    · exact h.elim
  | extract x k =>
    simp only [opV] at h
    split at h
    · rename_i ts hx
      have h0 := hr x
      rw [hx] at h0
      obtain ⟨us, e1, hu⟩ := h0
      split at h
      · rename_i l hl
        obtain ⟨v, hv, hrv⟩ := hu.get hl
        exact Out.of (x := .lf l) hm (u := v) (by simp [execOp, e1, Instr.extract, hv]) hrv h
      · rename_i l hl
        obtain ⟨v, hv, hrv⟩ := hu.get hl
        exact Out.of (x := .agg l) hm (u := v) (by simp [execOp, e1, Instr.extract, hv]) hrv h
      · exact h.elim
    · exact h.elim
  | indexAddr t x ix =>
    simp only [opV] at h
    split at h
    · rename_i ee te k i hte hi
      obtain ⟨h1, h2, _⟩ := elemOf_spec hT hte
      have hi0 := hr ix
      rw [hi] at hi0
      obtain ⟨e2, _⟩ := sc_rep hi0
      have hsz := run_sizeOf hT h2 w
      split at h
      · rename_i sz rows hx
        have h0 := hr x
        rw [hx] at h0
        replace h0 : RepP G.S w (.sl sz rows) (e x) := h0
        cases hb : Nat.beq te.size sz with
        | false => rw [hb] at h; exact h.elim
        | true =>
          rw [hb] at h
          have es : te.size = sz := Nat.eq_of_beq_eq_true hb
          obtain ⟨hi1, r, hrr, h⟩ := h
          have hlt := (List.getElem?_eq_some_iff.1 hrr).1
          generalize hex : e x = v at h0
          cases h0 with
          | nil => simp at hlt
          | emp => simp at hlt
          | sl _ g o cap _ vs hc hu hmm hrp =>
            have hc1 : (i.toNat : Int) = i := Int.toNat_of_nonneg hi1
            have hin : 0 ≤ i ∧ i < rows.length := ⟨hi1, by omega⟩
            refine Out.of (x := .lf (.ro r)) (u := .pointer (some ⟨g, o + i.toNat * sz, none⟩)) hm ?_ ⟨g, _, rfl, fun c p hp => ?_⟩ h
            · simp [execOp, Instr.indexAt, e2, hex, asIntOf, run_underlying h1, hin, hsz, es, Addr.add_lit]
            · have := hmm i.toNat r c p hrr hp
              rw [Nat.add_assoc]
              exact ⟨this.1, _, this.2, hrp i.toNat r c p hrr hp⟩
      · rename_i e0 sz rows hx
        have h0 := hr x
        rw [hx] at h0
        replace h0 : RepP G.S w (.sl sz rows) (e x) := RepP.weak (e := e0) h0
        cases hb : Nat.beq te.size sz with
        | false => rw [hb] at h; exact h.elim
        | true =>
          rw [hb] at h
          have es : te.size = sz := Nat.eq_of_beq_eq_true hb
          obtain ⟨hi1, r, hrr, h⟩ := h
          have hlt := (List.getElem?_eq_some_iff.1 hrr).1
          generalize hex : e x = v at h0
          cases h0 with
          | nil => simp at hlt
          | emp => simp at hlt
          | sl _ g o cap _ vs hc hu hmm hrp =>
            have hc1 : (i.toNat : Int) = i := Int.toNat_of_nonneg hi1
            have hin : 0 ≤ i ∧ i < rows.length := ⟨hi1, by omega⟩
            refine Out.of (x := .lf (.ro r)) (u := .pointer (some ⟨g, o + i.toNat * sz, none⟩)) hm ?_ ⟨g, _, rfl, fun c p hp => ?_⟩ h
            · simp [execOp, Instr.indexAt, e2, hex, asIntOf, run_underlying h1, hin, hsz, es, Addr.add_lit]
            · have := hmm i.toNat r c p hrr hp
              rw [Nat.add_assoc]
              exact ⟨this.1, _, this.2, hrp i.toNat r c p hrr hp⟩
      · rename_i b len hx
        have h0 := hr x
        rw [hx] at h0
        replace h0 : RepL G bk w (.own b len) (e x) := h0
        split at h
        · rename_i sz rows hrow
          cases hb : Nat.beq te.size sz with
          | false => rw [hb] at h; exact h.elim
          | true =>
            rw [hb] at h
            have es : te.size = sz := Nat.eq_of_beq_eq_true hb
            obtain ⟨hlen, hi1, hi2, h⟩ := h
            obtain ⟨_, sz', rows', h3, h4, h5⟩ := h0
            rw [hrow] at h3
            cases h3
            rcases h5 hlen with ⟨g, hg, ev⟩ | ⟨_, h6, _⟩
            · have hin : 0 ≤ i ∧ i < len := ⟨hi1, hi2⟩
              refine Out.of (x := .lf (.ept b len i.toNat sz 0)) (u := .pointer (some ⟨g, i.toNat * sz + 0, none⟩)) hm ?_ ⟨rfl, rows, hrow, by omega, fun _ => ⟨g, hg, rfl⟩⟩ h
              simp [execOp, Instr.indexAt, e2, ev, asIntOf, run_underlying h1, hin, hsz, es, Addr.add_lit]
            · omega
        · exact h.elim
      · rename_i g o n cap hx
        have h0 := hr x
        rw [hx] at h0
        obtain ⟨e1, _⟩ := sc_rep h0
        obtain ⟨hi1, hi2, h⟩ := h
        have hc1 : (i.toNat : Int) = i := Int.toNat_of_nonneg hi1
        have hin : 0 ≤ i ∧ i < n := ⟨hi1, hi2⟩
        exact Out.of (x := sc (.pointer (some ⟨g, o + i.toNat * te.size, none⟩))) hm (by simp [execOp, Instr.indexAt, e2, e1, asIntOf, run_underlying h1, hin, hsz, Addr.add_lit]) (rep_sc rfl) h
      · exact h.elim
    · exact h.elim
  | slice t x lo hi mx =>
    cases mx with
    | some m => exact h.elim
    | none => ?_
    have hb : ∀ (y : Option Operand) (d n : Int), bnd (y.map ρ) d = some n → (y = none ∧ n = d) ∨ ∃ z k, y = some z ∧ e z = .int k n := fun y d n hy => by
      cases y with
      | none => simp [bnd] at hy; exact .inl ⟨rfl, hy.symm⟩
      | some z =>
        right
        simp only [Option.map_some, bnd] at hy
        split at hy
        · rename_i q hq; cases hq
        · rename_i q k n' hq
          cases hy
          have := hr z
          rw [Option.some.inj hq] at this
          exact ⟨z, k, rfl, (sc_rep this).1⟩
        · cases hy
    have bounds : ∀ (isS : Bool) (len cap : Nat) (l hh : Int), len ≤ cap → bnd (lo.map ρ) 0 = some l → bnd (hi.map ρ) len = some hh → 0 ≤ l → l ≤ hh → hh ≤ len →
        (Instr.sliceBounds isS len cap (lo.map e) (hi.map e) none).run P w = .ok (l.toNat, hh.toNat, cap) w := fun isS len cap l hh hc h1 h2 h3 h4 h5 => by
      have hhn : 0 ≤ hh := by omega
      have e1 : ((hh.toNat : Nat) : Int) = hh := Int.toNat_of_nonneg hhn
      rcases hb lo 0 l h1 with ⟨rfl, rfl⟩ | ⟨z, k, rfl, hz⟩ <;> rcases hb hi len hh h2 with ⟨rfl, rfl⟩ | ⟨z', k', rfl, hz'⟩
      · simp [Instr.sliceBounds]
      · have hin : 0 ≤ hh ∧ hh ≤ cap := ⟨hhn, by omega⟩
        simp [Instr.sliceBounds, Instr.sliceBound, hz', asIntOf, hin]
      · have hin : 0 ≤ l ∧ l ≤ len := ⟨h3, h4⟩
        simp [Instr.sliceBounds, Instr.sliceBound, hz, asIntOf, hin]
      · have hin : 0 ≤ hh ∧ hh ≤ cap := ⟨hhn, by omega⟩
        have hin2 : 0 ≤ l ∧ l ≤ hh := ⟨h3, h4⟩
        have e1' : max hh 0 = hh := by omega
        simp [Instr.sliceBounds, Instr.sliceBound, hz, hz', asIntOf, hin, hin2, e1, e1']
    simp only [opV] at h
    split at h
    · rename_i s hx
      have h0 := hr x
      rw [hx] at h0
      obtain ⟨e1, _⟩ := sc_rep h0
      cases hbs : isStr T t with
      | false => rw [hbs] at h; exact h.elim
      | true =>
        rw [hbs] at h
        simp only [cond_true] at h
        split at h
        case h_2 => exact h.elim
        rename_i l hh hl hhh
        obtain ⟨h1, h2, h3, hk⟩ := h
        have hbd := bounds false s.size s.size l hh (Nat.le_refl _) hl hhh h1 h2 h3
        refine Out.of (u := .string (s.extract l.toNat hh.toNat)) hm ?_ (rep_sc rfl) hk
        simp only [execOp, Instr.sliceAt, Sem.run_bind, run_underlying (isStr_spec hT hbs), Result.andThen_ok, e1, Instr.slice]
        simp [hbd]
    · rename_i l0 hnot hx
      have h0 := hr x
      rw [hx] at h0
      obtain ⟨G1, b1, p, t1, m1, hp, hk⟩ := pvK_sound hm (h0 : RepL G bk w l0 (e x)) h
      split at hk
      case h_2 => exact hk.elim
      rename_i sz rows ee te hte
      obtain ⟨k1, k2, _⟩ := elemOf_spec hT hte
      cases hbs : Nat.beq te.size sz with
      | false => rw [hbs] at hk; exact hk.elim
      | true =>
        rw [hbs] at hk
        have es : te.size = sz := Nat.eq_of_beq_eq_true hbs
        simp only [cond_true] at hk
        split at hk
        case h_2 => exact hk.elim
        rename_i l hh hl hhh
        obtain ⟨h1, h2, h3, hk⟩ := hk
        have hln : l.toNat ≤ hh.toNat := by omega
        have hhl : hh.toNat ≤ rows.length := by omega
        have hlen : ((rows.take hh.toNat).drop l.toNat).length = hh.toNat - l.toNat := by simp; omega
        have hrun : ∀ (a : Option Addr) (cap : Nat), e x = .slice a rows.length cap → rows.length ≤ cap → (execOp e ⟨dst, .slice t x lo hi none, type, pos, after, guard⟩).run P w =
            .ok (.value (.slice (if cap = l.toNat then a else a.map (·.add (l.toNat * sz))) (hh.toNat - l.toNat) (cap - l.toNat))) w := fun a cap ex hc => by
          have hbd := bounds true rows.length cap l hh hc hl hhh h1 h2 h3
          simp only [execOp, Instr.sliceAt, Sem.run_bind, run_underlying k1, Result.andThen_ok, ex, Instr.slice]
          simp [hbd, run_sizeOf hT k2, es]
        generalize hex : e x = v at hp
        generalize hrw : rows = rws at hp
        cases hp with
        | nil =>
          subst hrw
          have e0 : l.toNat = 0 := by simp at hhl; omega
          have e1 : hh.toNat = 0 := by simpa using hhl
          rw [hrun none 0 hex (by simp)]
          refine .value (x := .lf (.pv (.sl sz (([] : List (List PV)).take hh.toNat |>.drop l.toNat)))) t1 m1 ?_ hk
          simp only [e0, e1, if_true, Nat.sub_self, List.take_nil, List.drop_nil]
          exact RepP.nil sz
        | emp _ a0 cap =>
          subst hrw
          have e0 : l.toNat = 0 := by simp at hhl; omega
          have e1 : hh.toNat = 0 := by simpa using hhl
          rw [hrun (some a0) cap hex (by simp)]
          refine .value (x := .lf (.pv (.sl sz (([] : List (List PV)).take hh.toNat |>.drop l.toNat)))) t1 m1 ?_ hk
          simp only [e0, e1, Nat.sub_self, List.take_nil, List.drop_nil]
          split
          · exact RepP.emp sz _ _
          · exact RepP.emp sz _ _
        | sl _ g o cap _ vs hc hu hmm hrp =>
          subst hrw
          rw [hrun (some ⟨g, o, none⟩) cap hex hc]
          refine .value (x := .lf (.pv (.sl sz ((rows.take hh.toNat).drop l.toNat)))) t1 m1 ?_ hk
          have hgetr : ∀ j r, ((rows.take hh.toNat).drop l.toNat)[j]? = some r → rows[l.toNat + j]? = some r := fun j r hj => by
            rw [List.getElem?_drop] at hj
            have hjl := (List.getElem?_eq_some_iff.1 hj).1
            rw [List.getElem?_take_of_lt (by simp at hjl; omega)] at hj
            exact hj
          have hgen : ∀ o', (cap = l.toNat → rows.drop l.toNat = [] ∨ o' = o + l.toNat * sz) → (cap ≠ l.toNat → o' = o + l.toNat * sz) → RepP G1.S w (.sl sz ((rows.take hh.toNat).drop l.toNat)) (.slice (some ⟨g, o', none⟩) (hh.toNat - l.toNat) (cap - l.toNat)) := fun o' ho1 ho2 => by
            rw [← hlen]
            refine .sl sz g o' (cap - l.toNat) _ (fun j c => vs (l.toNat + j) c) (by rw [hlen]; omega) (fun r hr' => hu r (List.mem_of_mem_take (List.mem_of_mem_drop hr'))) (fun j r c p hj hp => ?_) (fun j r c p hj hp => hrp _ r c p (hgetr j r hj) hp)
            have h5 := hmm _ r c p (hgetr j r hj) hp
            have hjl : l.toNat + j < rows.length := (List.getElem?_eq_some_iff.1 (hgetr j r hj)).1
            have ho : o' = o + l.toNat * sz := by
              by_cases hcl : cap = l.toNat
              · omega
              · exact ho2 hcl
            have e5 : o' + (j * sz + c) = o + ((l.toNat + j) * sz + c) := by rw [ho, Nat.add_mul]; omega
            rw [e5]
            exact h5
          by_cases hcl : cap = l.toNat
          · rw [if_pos hcl]
            exact hgen o (fun _ => .inl (List.drop_of_length_le (by omega))) (fun h => absurd hcl h)
          · rw [if_neg hcl]
            simp only [Option.map_some, Addr.add_lit]
            exact hgen _ (fun h => absurd h hcl) (fun _ => rfl)
    · exact h.elim
  | makeInterface t x =>
    simp only [opV] at h
    split at h
    case h_3 => exact h.elim
    case h_2 =>
      rename_i b off ht hx
      have hxr := hr x
      rw [hx] at hxr
      obtain ⟨⟨g, hg, hxe⟩, hb, hrow⟩ := hxr
      obtain ⟨e', h1⟩ := (hT t _ ht).ptr rfl
      exact Out.of hm (u := .iface t (.pointer (some ⟨g, off, none⟩))) (by simp [execOp, Instr.makeInterface, run_underlying h1, hxe]) (x := .lf (.bnd (.ifc t) b off)) ⟨⟨g, hg, rfl⟩, hb, hrow⟩ h
    rename_i ht hx
    have hxr := hr x
    rw [hx] at hxr
    obtain ⟨us, hu, hf⟩ := hxr
    cases us with
    | cons _ _ => exact hf.elim
    | nil =>
      obtain ⟨F, h1, _⟩ := (hT t _ ht).strct [] rfl
      exact Out.of hm (by simp [execOp, Instr.makeInterface, run_underlying h1, hu]) (rep_sc rfl) h
  | makeFunc fn first caps =>
    cases fn with
    | func f => ?_
    | _ => exact h.elim
    simp only [opV] at h
    split at h
    case h_3 => exact h.elim
    case h_2 =>
      rename_i x hfirst
      split at h
      case h_2 => exact h.elim
      rename_i b off hcaps hx
      have hf0 : first = #[x] := by
        apply Array.toList_inj.1
        simpa using hfirst
      have hc0 : caps = #[] := by
        apply Array.toList_inj.1
        simpa using hcaps
      subst hf0 hc0
      have hxr := hr x
      rw [hx] at hxr
      obtain ⟨⟨g, hg, hxe⟩, hb, hrow⟩ := hxr
      exact Out.of hm (u := .func (.func f) #[.pointer (some ⟨g, off, none⟩)] #[]) (by simp [execOp, Instr.makeFunc, hxe]) (x := .lf (.bnd (.fn f) b off)) ⟨⟨g, hg, rfl⟩, hb, hrow⟩ h
    rename_i hfirst
    split at h
    case h_2 => exact h.elim
    rename_i ls hls
    have hf0 : first = #[] := by
      apply Array.toList_inj.1
      simpa using hfirst
    subst hf0
    have hfa : Fa (RepL G bk w) ls (caps.toList.map e) := by
      have : ∀ {l : List Operand} {ls : List Lf}, (l.map ρ).mapM lfOf = some ls → Fa (RepL G bk w) ls (l.map e) := fun {l} => by
        induction l with
        | nil => intro ls h; simp at h; subst h; trivial
        | cons x l ih =>
          intro ls h
          rw [List.map_cons, List.mapM_cons] at h
          cases hx : ρ x with
          | lf y =>
            rw [hx] at h
            simp only [lfOf, Option.bind_eq_bind, Option.bind_some] at h
            cases hq : (l.map ρ).mapM lfOf with
            | none => rw [hq] at h; simp at h
            | some l' =>
              rw [hq] at h
              simp at h
              subst h
              have := hr x
              rw [hx] at this
              exact ⟨this, ih hq⟩
          | _ => rw [hx] at h; simp [lfOf] at h
      exact this hls
    obtain ⟨G1, b1, xs, t1, m1, hxs, _, hk⟩ := argLs_sound hm hfa h
    split at hk
    · rename_i cs hcs
      have hrun : (execOp e ⟨dst, .makeFunc (.func f) #[] caps, type, pos, after, guard⟩).run P w = .ok (.value (.func (.func f) #[] (caps.toList.map e).toArray)) w := by
        have hmp : caps.map e = (caps.toList.map e).toArray := by apply Array.toList_inj.1; simp
        simp [execOp, Instr.makeFunc, hmp]
      rw [hrun]
      refine .value (x := .lf (.fn f cs)) t1 m1 ⟨caps.toList.map e, rfl, ?_⟩ hk
      have : ∀ {xs : List Lf} {cs : List (List PV)} {us : List Value}, xs.mapM roOf = some cs → Fa (RepL G1 b1 w) xs us → Fa (fun l u => ∃ g o, u = .pointer (some ⟨g, o, none⟩) ∧ CellsP G1.S w g o l) cs us := fun {xs} => by
        induction xs with
        | nil => intro cs us h1 h2; simp at h1; subst h1; cases us <;> exact h2
        | cons x xs ih =>
          intro cs us h1 h2
          cases us with
          | nil => exact h2.elim
          | cons u us =>
            rw [List.mapM_cons] at h1
            cases x with
            | ro l =>
              simp only [roOf, Option.bind_eq_bind, Option.bind_some] at h1
              cases hq : xs.mapM roOf with
              | none => rw [hq] at h1; simp at h1
              | some l' => rw [hq] at h1; simp at h1; subst h1; exact ⟨h2.1, ih hq h2.2⟩
            | _ => simp [roOf] at h1
      exact this hcs hxs
    · exact hk.elim
  | buildSlice t len parts =>
    simp only [opV] at h
    split at h
    case h_2 => exact h.elim
    rename_i ee te hte
    obtain ⟨h1, h2, tt, h3, h4⟩ := elemOf_spec hT hte
    cases hb : (Nat.blt 0 te.size && Nat.ble (len * te.size) 16777216 && Nat.ble len 9223372036854775807) with
    | false => rw [hb] at h; exact h.elim
    | true =>
      rw [hb] at h
      simp only [Bool.and_eq_true] at hb
      have hpos : 0 < te.size := by have := Nat.le_of_ble_eq_true hb.1.1; omega
      have hle : len * te.size ≤ 16777216 := Nat.le_of_ble_eq_true hb.1.2
      have hlen : len ≤ maxLen := by have := Nat.le_of_ble_eq_true hb.2; simp only [maxLen]; omega
      simp only [cond_true] at h
      split at h
      case h_2 => exact h.elim
      rename_i ls hls
      obtain ⟨z, hz, hzl, _⟩ := run_zeroValue hT h2 w
      have hzs : te.zero.length = te.size := (hT ee te h2).zs
      have hzc : z.cells.size = te.size := by rw [← hzs, ← hzl]; simp
      let c0 : Array Value := (Array.range (len * te.size)).map (fun i => (if len * te.size = 0 then #[] else z.cells)[i % (if len * te.size = 0 then #[] else z.cells).size]!)
      have hc0 : Fa (RepL G bk w) ((List.range (len * te.size)).map fun i => lsc (te.zero.getD (i % te.size) undef)) c0.toList := by
        refine Fa.of_get (by simp [c0]) fun i x y hx hy => ?_
        have hi : i < len * te.size := by have := (List.getElem?_eq_some_iff.1 hx).1; simpa using this
        have hm' : i % te.size < te.size := Nat.mod_lt _ hpos
        have hne : len * te.size ≠ 0 := by omega
        simp [hi] at hx
        simp [c0, hi, hne, hzc] at hy
        subst hx
        have e1 : te.zero.getD (i % te.size) undef = z.cells[i % te.size]! := by
          rw [← hzl, List.getD_eq_getElem?_getD, Array.getElem?_toList, Array.getElem?_eq_getElem (by omega), getElem!_pos z.cells _ (by omega)]
          rfl
        have hz2 : z.cells[i % te.size]! ∈ te.zero := by
          rw [← hzl, getElem!_pos z.cells _ (by omega)]
          simp
        have e2 : te.zero[i % te.size]?.getD undef = z.cells[i % te.size]! := by rw [← e1]; simp
        rw [e2, ← hy]
        exact RepP.sc _ (plainV_one ((hT ee te h2).zp _ hz2))
      obtain ⟨rs, hrs, hfr⟩ := fill_sound (place' := fun i => some (i * te.size, te.size)) (fun _ _ h => h) hc0 (fa_parts hr parts.toList) hls
      have hlsl : ls.length = len * te.size := by
        have : ∀ (ps : List (Nat × Option (List Lf))) (cells r : List Lf), fillL (fun i => some (i * te.size, te.size)) cells ps = some r → r.length = cells.length := fun ps => by
          induction ps with
          | nil => intro cells r h; simp [fillL] at h; rw [h]
          | cons p ps ih =>
            intro cells r h
            obtain ⟨i, o⟩ := p
            cases o with
            | none => simp [fillL] at h
            | some l =>
              simp only [fillL] at h
              cases hbb : (Nat.beq l.length te.size && Nat.ble (i * te.size + te.size) cells.length) with
              | false => rw [hbb] at h; cases h
              | true =>
                rw [hbb] at h
                simp only [Bool.and_eq_true] at hbb
                have e1 := Nat.eq_of_beq_eq_true hbb.1
                have e2 := Nat.le_of_ble_eq_true hbb.2
                rw [ih _ _ h, length_splice (by omega)]
        rw [this _ _ _ hls]; simp
      obtain ⟨G1, b1, ps, t1, m1, hps, hk⟩ := pvsK_sound hm hfr h
      have hpsl : ps.length = len * te.size := by rw [hps.length, ← hfr.length, hlsl]
      have hrsl : rs.size = len * te.size := by have := hfr.length; simp at this; omega
      obtain ⟨G2, t2, m2, hM, hcp⟩ := m1.alloc (some (.cells rs ee)) (.arr ee te.size (chunk te.size len ps)) len rfl (fun G' hS hM hcp tr => by
        refine .inr ⟨w.heap.size, rs, hM, ⟨_, heap_alloc_new w _, .inl rfl⟩, by rw [hcp]; exact hlen, by rw [hcp]; exact hrsl, by rw [hcp, chunk_length]; exact Nat.le_refl _, fun j r hj => ?_⟩
        have hjl : j < len := by have := (List.getElem?_eq_some_iff.1 hj).1; rwa [chunk_length] at this
        rw [chunk_get _ _ _ _ hjl] at hj
        cases hj
        have hjs : j * te.size + te.size ≤ len * te.size := by rw [← Nat.succ_mul]; exact Nat.mul_le_mul_right _ hjl
        refine ⟨by simp; omega, fun c p hp => ?_⟩
        have hcl : c < te.size := by
          have := (List.getElem?_eq_some_iff.1 hp).1
          simp at this; omega
        rw [List.getElem?_take_of_lt hcl, List.getElem?_drop] at hp
        obtain ⟨u, hu, hru⟩ := hps.get hp
        exact ⟨u, by simpa using hu, tr.repP hru⟩)
      have hrun : (execOp e ⟨dst, .buildSlice t len parts, type, pos, after, guard⟩).run P w = .ok (.value (.slice (some ⟨w.heap.size, 0, none⟩) len len)) (w.alloc (.cells rs ee)) := by
        have hl : (parts.map fun x => (match x with | (i, x) => (i, e x))).toList = parts.toList.map fun p => (p.1, e p.2) := by simp
        have hzr : (if len * te.size = 0 then pure #[] else do pure (← zeroValue ee).cells : Sem (Array Value)).run P w = .ok (if len * te.size = 0 then #[] else z.cells) w := by
          by_cases h0 : len * te.size = 0
          · rw [if_pos h0, if_pos h0]; rfl
          · rw [if_neg h0, if_neg h0, Sem.run_bind, hz]; rfl
        simp only [execOp, Instr.buildSlice, Sem.run_bind, run_underlying h1, Result.andThen_ok, run_sizeOf hT h2, Sem.run_ite]
        rw [if_neg (by omega)]
        simp only [hl]
        by_cases h0 : len * te.size = 0
        · have hrs' : Instr.fill (fun i => some (i * te.size, te.size)) ((Array.range (len * te.size)).map (fun i => (#[] : Array Value)[i % (#[] : Array Value).size]!)) (parts.toList.map fun p => (p.1, e p.2)) = some rs := by
            have := hrs
            simp only [c0, if_pos h0] at this
            exact this
          simp only [if_pos h0, Sem.run_pure, Result.andThen_ok, hrs']
          simp [Go.newRow]
        · have hrs' : Instr.fill (fun i => some (i * te.size, te.size)) ((Array.range (len * te.size)).map (fun i => z.cells[i % z.cells.size]!)) (parts.toList.map fun p => (p.1, e p.2)) = some rs := by
            have := hrs
            simp only [c0, if_neg h0] at this
            exact this
          simp only [if_neg h0, Sem.run_bind, hz, Sem.run_pure, Result.andThen_ok, hrs']
          simp [Go.newRow]
      rw [hrun]
      refine .value (x := .lf (.own b1.length len)) (t1.trans t2) m2 ⟨rfl, te.size, chunk te.size len ps, ?_, by rw [chunk_length]; exact Nat.le_refl _, fun _ => .inl ⟨w.heap.size, hM, by rw [hcp]⟩⟩ hk
      unfold rowsOf
      rw [List.getElem?_append_right (Nat.le_refl _)]
      simp
  | makeSlice t l c =>
    simp only [opV] at h
    split at h
    case h_2 => exact h.elim
    rename_i ee te kl n kc m hte hl hc
    obtain ⟨h1, h2, tt, h3, h4⟩ := elemOf_spec hT hte
    cases hb : (Nat.beq te.size 1 && Nat.blt 0 te.bytes) with
    | false => rw [hb] at h; exact h.elim
    | true =>
      rw [hb] at h
      simp only [Bool.and_eq_true] at hb
      have hs1 : te.size = 1 := Nat.eq_of_beq_eq_true hb.1
      have hpos : 0 < te.bytes := by have := Nat.le_of_ble_eq_true hb.2; omega
      obtain ⟨rfl, N, rfl, hN, hk⟩ := h
      have el := hr l
      rw [hl] at el
      obtain ⟨e1, _⟩ := sc_rep el
      have ec := hr c
      rw [hc] at ec
      obtain ⟨e2, _⟩ := sc_rep ec
      obtain ⟨i, z, i1, i2, i3, i4, i5, _⟩ := (hT ee te h2).info
      have hNle : N ≤ N * te.bytes := Nat.le_mul_of_pos_right N hpos
      have hlen : N ≤ maxLen := by simp only [maxLen]; omega
      have hbi : (i.bytes : Int) * (N : Int) ≤ 281474976710656 := by
        have : ((i.bytes * N : Nat) : Int) ≤ 281474976710656 := by rw [i3, Nat.mul_comm]; omega
        rwa [Int.natCast_mul] at this
      have hrun := run_make (P := P) w t ee i z h1 i1 i4 kl kc N N (by omega) (Int.le_refl _) hbi (by omega)
      simp only [Int.toNat_natCast] at hrun
      rw [i2, hs1, Nat.mul_one] at hrun
      have hzl : te.zero.length = 1 := by rw [(hT ee te h2).zs, hs1]
      have hzc : z.cells.size = 1 := by rw [← hzl, ← i5]; simp
      have hz0 : te.zero[0]? = some z.cells[0]! := by
        rw [← i5, Array.getElem?_toList, Array.getElem?_eq_getElem (by omega), getElem!_pos z.cells _ (by omega)]
      have hmem : z.cells[0]! ∈ te.zero := List.mem_of_getElem? hz0
      obtain ⟨G2, t2, m2, hM, hcp⟩ := hm.alloc (some (.cells (madeCells z.cells N) ee)) (.arr ee te.size (List.replicate N (te.zero.map PV.sc))) N rfl (fun G' hS hM hcp tr => by
        refine .inr ⟨w.heap.size, madeCells z.cells N, hM, ⟨_, heap_alloc_new w _, .inl rfl⟩, by rw [hcp]; exact hlen, by rw [hcp, size_madeCells, hs1, Nat.mul_one], by rw [hcp, List.length_replicate]; exact Nat.le_refl _, fun j r hj => ?_⟩
        have hjl : j < N := by have := (List.getElem?_eq_some_iff.1 hj).1; rwa [List.length_replicate] at this
        rw [List.getElem?_replicate, if_pos hjl] at hj
        cases hj
        refine ⟨by rw [List.length_map, hzl, hs1], fun c p hp => ?_⟩
        have hcl : c = 0 := by
          have := (List.getElem?_eq_some_iff.1 hp).1
          rw [List.length_map] at this; omega
        subst hcl
        rw [List.getElem?_map, hz0] at hp
        cases hp
        refine ⟨z.cells[0]!, ?_, RepP.sc _ (plainV_one ((hT ee te h2).zp _ hmem))⟩
        rw [hs1]
        simp [madeCells, hjl, hzc, Nat.mod_one])
      have hrun2 : (execOp e ⟨dst, .makeSlice t l c, type, pos, after, guard⟩).run P w = .ok (.value (.slice (some ⟨w.heap.size, 0, none⟩) N N)) (w.alloc (.cells (madeCells z.cells N) ee)) := by
        simp [execOp, e1, e2, hrun]
      rw [hrun2]
      refine .value (x := .lf (.own bk.length N)) t2 m2 ⟨rfl, te.size, List.replicate N (te.zero.map PV.sc), ?_, by rw [List.length_replicate]; exact Nat.le_refl _, fun _ => .inl ⟨w.heap.size, hM, by rw [hcp]⟩⟩ hk
      unfold rowsOf
      rw [List.getElem?_append_right (Nat.le_refl _)]
      simp
  | call c =>
    obtain ⟨callee, args, argTypes⟩ := c
    simp only [opV] at h
    split at h
    · rename_i x t hargs htys
      have ha : args = #[x] := by apply Array.toList_inj.1; simpa using hargs
      have htt : argTypes = #[t] := by apply Array.toList_inj.1; simpa using htys
      subst ha htt
      have h0 := hr x
      split at h
      · rename_i s hx
        rw [hx] at h0
        obtain ⟨e1, _⟩ := sc_rep h0
        cases hb : isStr T t with
        | false => rw [hb] at h; exact h.elim
        | true =>
          rw [hb] at h
          exact Out.of hm (by simp [execOp, resolve, invoke, builtin, e1, Builtin.len_, run_underlying (isStr_spec hT hb), goInt]) (rep_sc rfl) h
      · rename_i sz rows hx
        rw [hx] at h0
        split at h
        · rename_i et hte
          obtain ⟨k1, _, _⟩ := elemOf_spec hT hte
          generalize hex : e x = v at h0
          have h0' : RepP G.S w (.sl sz rows) v := h0
          cases h0' with
          | nil => exact Out.of hm (by simp [execOp, resolve, invoke, builtin, hex, Builtin.len_, run_underlying k1, goInt]) (rep_sc rfl) h
          | emp => exact Out.of hm (by simp [execOp, resolve, invoke, builtin, hex, Builtin.len_, run_underlying k1, goInt]) (rep_sc rfl) h
          | sl => exact Out.of hm (by simp [execOp, resolve, invoke, builtin, hex, Builtin.len_, run_underlying k1, goInt]) (rep_sc rfl) h
        · exact h.elim
      · rename_i e0 sz rows hx
        rw [hx] at h0
        split at h
        · rename_i et hte
          obtain ⟨k1, _, _⟩ := elemOf_spec hT hte
          generalize hex : e x = v at h0
          have h0' : RepP G.S w (.sl sz rows) v := RepP.weak (e := e0) h0
          cases h0' with
          | nil => exact Out.of hm (by simp [execOp, resolve, invoke, builtin, hex, Builtin.len_, run_underlying k1, goInt]) (rep_sc rfl) h
          | emp => exact Out.of hm (by simp [execOp, resolve, invoke, builtin, hex, Builtin.len_, run_underlying k1, goInt]) (rep_sc rfl) h
          | sl => exact Out.of hm (by simp [execOp, resolve, invoke, builtin, hex, Builtin.len_, run_underlying k1, goInt]) (rep_sc rfl) h
        · exact h.elim
      · rename_i hx
        rw [hx] at h0
        obtain ⟨e1, _⟩ := sc_rep h0
        split at h
        · rename_i et hte
          obtain ⟨k1, _, _⟩ := elemOf_spec hT hte
          exact Out.of hm (by simp [execOp, resolve, invoke, builtin, e1, Builtin.len_, run_underlying k1, goInt]) (rep_sc rfl) h
        · exact h.elim
      · rename_i b len hx
        rw [hx] at h0
        split at h
        · rename_i et sz rows hte hrow
          obtain ⟨k1, _, _⟩ := elemOf_spec hT hte
          obtain ⟨hl, h⟩ := h
          obtain ⟨_, sz', rows', h3, h4, h5⟩ := (h0 : RepL G bk w (.own b len) (e x))
          rw [hrow] at h3
          cases h3
          rcases h5 hl with ⟨g, hg, ev⟩ | ⟨_, hl0, ev⟩
          · exact Out.of hm (by simp [execOp, resolve, invoke, builtin, ev, Builtin.len_, run_underlying k1, goInt]) (rep_sc rfl) h
          · subst hl0
            exact Out.of hm (by simp [execOp, resolve, invoke, builtin, ev, Builtin.len_, run_underlying k1, goInt]) (rep_sc rfl) h
        · exact h.elim
      · rename_i ad n cap hx
        rw [hx] at h0
        obtain ⟨e1, _⟩ := sc_rep h0
        split at h
        · rename_i et hte
          obtain ⟨k1, _, _⟩ := elemOf_spec hT hte
          exact Out.of hm (by simp [execOp, resolve, invoke, builtin, e1, Builtin.len_, run_underlying k1, goInt]) (rep_sc rfl) h
        · exact h.elim
      · exact h.elim
    · rename_i x y t t' hargs htys
      have ha : args = #[x, y] := by apply Array.toList_inj.1; simpa using hargs
      have htt : argTypes = #[t, t'] := by apply Array.toList_inj.1; simpa using htys
      subst ha htt
      cases hbt : Nat.beq t t' with
      | false =>
        rw [hbt] at h
        simp only [cond_false] at h
        cases hbs : (isBytes T t && isStr T t') with
        | false => rw [hbs] at h; exact h.elim
        | true =>
        rw [hbs] at h
        simp only [cond_true] at h
        rw [Bool.and_eq_true] at hbs
        split at h
        case h_2 => exact h.elim
        rename_i ee te s hte hy
        obtain ⟨k1, k2, tt, k3, k4⟩ := elemOf_spec hT hte
        cases hbb : (Nat.beq te.size 1 && Nat.blt 0 te.bytes) with
        | false => rw [hbb] at h; exact h.elim
        | true =>
        rw [hbb] at h
        simp only [Bool.and_eq_true] at hbb
        simp only [cond_true] at h
        have hs1 : te.size = 1 := Nat.eq_of_beq_eq_true hbb.1
        have hp2 : 0 < te.bytes := by have := Nat.le_of_ble_eq_true hbb.2; omega
        have hyr := hr y
        rw [hy] at hyr
        obtain ⟨ey, _⟩ := sc_rep hyr
        have hxr := hr x
        split at h
        case h_2 => exact h.elim
        rename_i b len hx
        rw [hx] at hxr
        split at h
        case h_2 => exact h.elim
        rename_i e' sz rows hb
        cases hbc : (Nat.beq e' ee && Nat.beq sz te.size) with
        | false => rw [hbc] at h; exact h.elim
        | true =>
        rw [hbc] at h
        simp only [Bool.and_eq_true] at hbc
        simp only [cond_true] at h
        obtain rfl : e' = ee := Nat.eq_of_beq_eq_true hbc.1
        obtain rfl : sz = te.size := Nat.eq_of_beq_eq_true hbc.2
        have hrl : (byteRows s).length = s.size := by simp [byteRows]
        obtain ⟨rfl, hbd, hk⟩ := h
        obtain ⟨G2, w', r, h1, h2, h3, h4⟩ := append_str_sound hT hm (ty := type) k3 k4 k2 (isStr_spec hT hbs.2) hs1 hp2 s hb (hxr : RepL G bk w (.own b rows.length) (e x)) (by rw [hrl]; exact hbd)
        have hrun : (execOp e ⟨dst, .call ⟨.builtin .append, #[x, y], #[t, t']⟩, type, pos, after, guard⟩).run P w = .ok (.value r) w' := by
          simp [execOp, resolve, invoke, builtin, ey, h1]
        rw [hrun]
        rw [hrl] at h4
        exact .value (x := .lf (.own b (rows.length + s.size))) h2 h3 h4 hk
      | true =>
        rw [hbt] at h
        obtain rfl : t = t' := Nat.eq_of_beq_eq_true hbt
        simp only [cond_true] at h
        split at h
        case h_2 => exact h.elim
        rename_i ee te hte
        obtain ⟨k1, k2, tt, k3, k4⟩ := elemOf_spec hT hte
        cases hbb : (Nat.blt 0 te.size && Nat.blt 0 te.bytes) with
        | false => rw [hbb] at h; exact h.elim
        | true =>
          rw [hbb] at h
          simp only [Bool.and_eq_true] at hbb
          have hp1 : 0 < te.size := by have := Nat.le_of_ble_eq_true hbb.1; omega
          have hp2 : 0 < te.bytes := by have := Nat.le_of_ble_eq_true hbb.2; omega
          simp only [cond_true] at h
          split at h
          case h_2 => exact h.elim
          rename_i l hly
          have hyr : RepL G bk w l (e y) := by have := hr y; rw [hly] at this; exact this
          obtain ⟨G1, b1, p, t1, m1, hpr, rows2, hp2', hk⟩ := pvK_sound hm hyr h
          have hpr2 : RepP G1.S w (.sl te.size rows2) (e y) := by
            rcases hp2' with rfl | ⟨rfl, rfl⟩
            · exact hpr
            · generalize e y = v at hpr
              cases hpr
              exact RepP.nil _
          have hxr := t1.repA (hr x)
          have fin : ∀ {r : Value} {w' : World}, (Builtin.append_ #[t, t] type #[e x, e y]).run P w = .ok r w' → (execOp e ⟨dst, .call ⟨.builtin .append, #[x, y], #[t, t]⟩, type, pos, after, guard⟩).run P w = .ok (.value r) w' := fun hr' => by
            simp [execOp, resolve, invoke, builtin, hr']
          split at hk
          · rename_i b len hx
            rw [hx] at hxr
            split at hk
            case h_2 => exact hk.elim
            rename_i e' sz rows hb
            cases hbc : (Nat.beq e' ee && Nat.beq sz te.size) with
            | false => rw [hbc] at hk; exact hk.elim
            | true =>
              rw [hbc] at hk
              simp only [Bool.and_eq_true] at hbc
              obtain rfl : e' = ee := Nat.eq_of_beq_eq_true hbc.1
              obtain rfl : sz = te.size := Nat.eq_of_beq_eq_true hbc.2
              obtain ⟨rfl, hbd, hk⟩ := hk
              obtain ⟨G2, w', r, h1, h2, h3, h4⟩ := append_sound hT m1 (ty := type) k3 k4 k2 hp1 hp2 hb (hxr : RepL G1 b1 w (.own b rows.length) (e x)) hpr2 hbd
              rw [fin h1]
              exact .value (x := .lf (.own b (rows.length + rows2.length))) (t1.trans h2) h3 h4 hk
          · rename_i hx
            rw [hx] at hxr
            obtain ⟨ex, _⟩ := sc_rep hxr
            obtain ⟨hbd, hk⟩ := hk
            -- a slice of the call's own that is nil yet
            obtain ⟨G2, t2, m2, hM, hcp⟩ := m1.alloc none (.arr ee te.size []) 0 rfl (fun G' hS hM hcp tr => .inl ⟨hM, rfl⟩)
            have hb2 : (b1 ++ [Blk.arr ee te.size []])[b1.length]? = some (.arr ee te.size []) := by rw [List.getElem?_append_right (Nat.le_refl _)]; simp
            have hset : (b1 ++ [Blk.arr ee te.size []]).set b1.length (.arr ee te.size ([] ++ rows2)) = b1 ++ [Blk.arr ee te.size rows2] := by
              rw [List.set_append_right _ _ (Nat.le_refl _)]; simp
            obtain ⟨G3, w', r, h1, h2, h3, h4⟩ := append_sound (w := w) hT m2 (ty := type) (u := e x) (rows := []) k3 k4 k2 hp1 hp2 hb2
              ⟨by rw [ex]; rfl, te.size, [], by unfold rowsOf; rw [hb2], Nat.le_refl _, fun _ => .inr ⟨hM, rfl, ex⟩⟩ (t2.repP hpr2) (by simpa using hbd)
            rw [hset] at h2 h3 h4
            rw [fin h1]
            simp only [List.length_nil, Nat.zero_add] at h4
            exact .value (x := .lf (.own b1.length rows2.length)) ((t1.trans t2).trans h2) h3 h4 hk
          · exact hk.elim
    · rename_i x y t t' hargs htys
      have ha : args = #[x, y] := by apply Array.toList_inj.1; simpa using hargs
      have htt : argTypes = #[t, t'] := by apply Array.toList_inj.1; simpa using htys
      subst ha htt
      split at h
      · rename_i k a k' b hx hy
        have h1 := hr x
        have h2 := hr y
        rw [hx] at h1
        rw [hy] at h2
        obtain ⟨e1, _⟩ := sc_rep h1
        obtain ⟨e2, _⟩ := sc_rep h2
        exact Out.of hm (by simp [execOp, resolve, invoke, builtin, e1, e2, Builtin.min_, Builtin.min2]) (rep_sc rfl) h
      · exact h.elim
    · rename_i x y t t' hargs htys
      have ha : args = #[x, y] := by apply Array.toList_inj.1; simpa using hargs
      have htt : argTypes = #[t, t'] := by apply Array.toList_inj.1; simpa using htys
      subst ha htt
      split at h
      · rename_i k a k' b hx hy
        have h1 := hr x
        have h2 := hr y
        rw [hx] at h1
        rw [hy] at h2
        obtain ⟨e1, _⟩ := sc_rep h1
        obtain ⟨e2, _⟩ := sc_rep h2
        exact Out.of hm (by simp [execOp, resolve, invoke, builtin, e1, e2, Builtin.max_, Builtin.max2]) (rep_sc rfl) h
      · exact h.elim
    · rename_i fo
      have hfa := fa_map hr args.toList
      obtain ⟨f, first, caps, h1, h2, h3⟩ := callK_sound hm hgl (hr fo) hfa h
      have hrun : (execOp e ⟨dst, .call ⟨.value fo, args, argTypes⟩, type, pos, after, guard⟩).run P w = .ok (.enter f (first ++ args.toList.map e ++ caps).toArray) w := by
        unfold fnOK at h2
        cases hfn : P.funcs[f]? with
        | none => rw [hfn] at h2; cases h2
        | some fn =>
          rw [hfn] at h2
          simp only [Bool.and_eq_true, bne_iff_ne, ne_eq] at h2
          have hbody : fn.body.isNone = false := by cases hq : fn.body <;> simp_all
          have hmp : first.toArray ++ args.map e ++ caps.toArray = (first ++ args.toList.map e ++ caps).toArray := by apply Array.toList_inj.1; simp
          simp [execOp, resolve, Deferred.ofValue, h1, invoke, callFunc, hfn, h2.1, hmp]
          intro hq
          rw [hq] at hbody
          cases hbody
      rw [hrun]
      exact .enter h3
    · exact h.elim
  | _ => exact h.elim
end
end Go.Rx

/- A slice of the call's own, cut short: its rows belong to a block anew. -/
set_option linter.unusedVariables false
set_option linter.unusedSimpArgs false
namespace Go.Rx
open Go.RowKit

section
variable {P : Program} {T : Tab} {C : Ctx} {G : Gh} {sl : Nat → AV} {bk : List Blk} {a : Act} {w : World}

def cutB (bk : List Blk) (b e sz : Nat) (rows : List (List PV)) (k : Nat) : List Blk := bk.set b (.lost sz (rows ++ [[]])) ++ [.arr e sz (rows.take k)]
theorem Mem.cut (h : Mem C G bk w) {b e sz : Nat} {rows : List (List PV)} (hb : bk[b]? = some (.arr e sz rows)) (k : Nat) (hk : k ≤ rows.length) :
    ∃ G', Trn G bk w G' (cutB bk b e sz rows k) w ∧ Mem C G' (cutB bk b e sz rows k) w ∧ G'.M bk.length = G.M b ∧ G'.cp bk.length = G.cp b := by
  have hbl : b < bk.length := (List.getElem?_eq_some_iff.1 hb).1
  have hrb : rowsOf bk b = some (sz, rows) := by unfold rowsOf; rw [hb]
  let G' : Gh := { M := fun i => if i = bk.length then G.M b else if i = b then none else G.M i, S := G.S, cp := fun i => if i = bk.length then G.cp b else G.cp i, H := G.H }
  have hlen : (cutB bk b e sz rows k).length = bk.length + 1 := by simp [cutB]
  have g0 : ∀ i, i < bk.length → i ≠ b → (cutB bk b e sz rows k)[i]? = bk[i]? := fun i hi hn => by
    unfold cutB
    rw [List.getElem?_append_left (by simpa using hi), List.getElem?_set_ne (Ne.symm hn)]
  have gb : (cutB bk b e sz rows k)[b]? = some (.lost sz (rows ++ [[]])) := by
    unfold cutB
    rw [List.getElem?_append_left (by simpa using hbl), List.getElem?_set_self hbl]
  have gn : (cutB bk b e sz rows k)[bk.length]? = some (.arr e sz (rows.take k)) := by
    unfold cutB
    rw [List.getElem?_append_right (by simp)]; simp
  have hM : ∀ i, i < bk.length → i ≠ b → G'.M i = G.M i := fun i hi hn => by
    show (if i = bk.length then _ else if i = b then _ else _) = _
    rw [if_neg (by omega), if_neg hn]
  have hMb : G'.M b = none := by
    show (if b = bk.length then _ else if b = b then _ else _) = _
    rw [if_neg (by omega), if_pos rfl]
  have hMn : G'.M bk.length = G.M b := if_pos rfl
  have hc : ∀ i, i < bk.length → G'.cp i = G.cp i := fun i hi => if_neg (by omega)
  have hcn : G'.cp bk.length = G.cp b := if_pos rfl
  have hro : ∀ i, i < bk.length → i ≠ b → rowsOf (cutB bk b e sz rows k) i = rowsOf bk i := fun i hi hn => by unfold rowsOf; rw [g0 i hi hn]
  have hrlost : rowsOf (cutB bk b e sz rows k) b = some (sz, rows ++ [[]]) := by unfold rowsOf; rw [gb]
  have ab : Alive bk b := by unfold Alive; rw [hb]; trivial
  have t : Trn G bk w G' (cutB bk b e sz rows k) w := by
    refine ⟨fun _ _ h => h, fun _ _ h => h, fun _ _ _ => rfl, fun i hi e => (by
      by_cases hn : i = b
      · subst hn; rw [gb] at e; cases e
      · rw [g0 i hi hn] at e; exact ⟨e, rfl, fun _ _ _ => rfl⟩), by rw [hlen]; omega, fun i hi hr => ?_, fun i s r hr => ?_⟩
    · have hn : i ≠ b := fun e => by subst e; rw [hrb] at hr; cases hr
      exact ⟨by rw [hro i hi hn]; exact hr, hM i hi hn⟩
    · by_cases hn : i = b
      · subst hn
        rw [hrb] at hr
        cases hr
        refine ⟨_, hrlost, by simp, fun h => ?_⟩
        simp at h
      · exact ⟨r, by rw [hro i (rowsOf_lt hr) hn]; exact hr, Nat.le_refl _, fun _ => ⟨hM i (rowsOf_lt hr) hn, hc i (rowsOf_lt hr)⟩⟩
  have split : ∀ i, i < (cutB bk b e sz rows k).length → (i < bk.length ∧ i ≠ b) ∨ i = b ∨ i = bk.length := fun i hi => by rw [hlen] at hi; omega
  refine ⟨G', t, ⟨fun i B hB => ?_, fun i j g hi hj e1 e2 => ?_, fun g o i hs ha e1 => ?_, h.slt, fun i g hi e1 => ?_, fun i g hi e1 => ?_, h.s0, h.snew, h.fnew, h.fty, fun g e' i hf ha e1 => ?_, h.os, h.tape, h.output, h.size, h.block, h.regsK (fun i hh e => ?_) (fun i g hi e1 => ?_) (fun g o hs => .inl hs) (fun g e hf => .inl hf), by rw [hlen]; have := h.mle; omega, h.t0.trans t⟩, hMn, hcn⟩
  · rcases split i (List.getElem?_eq_some_iff.1 hB).1 with ⟨h1, h2⟩ | rfl | rfl
    · rw [g0 i h1 h2] at hB
      exact RepB.step t (hM i h1 h2) (hc i h1) (fun _ _ => rfl) (fun _ _ _ _ _ => rfl) (h.blk i B hB)
    · rw [gb] at hB
      cases hB
      exact hMb
    · rw [gn] at hB
      cases hB
      rcases h.blk b _ hb with ⟨h1, h2⟩ | ⟨g, cur, h0, h1, h2, h3, h4, h5⟩
      · exact .inl ⟨by rw [hMn]; exact h1, by rw [h2]; simp⟩
      · refine .inr ⟨g, cur, by rw [hMn]; exact h0, h1, by rw [hcn]; exact h2, by rw [hcn]; exact h3, by rw [hcn, List.length_take]; omega, fun j r hj => ?_⟩
        have hj' : rows[j]? = some r := by
          have hl := (List.getElem?_eq_some_iff.1 hj).1
          rw [List.getElem?_take_of_lt (by simp at hl; omega)] at hj
          exact hj
        obtain ⟨k1, k2⟩ := h5 j r hj'
        exact ⟨k1, fun c p hp => by obtain ⟨u, hu, hr⟩ := k2 c p hp; exact ⟨u, hu, t.repP hr⟩⟩
  · rcases split i hi with ⟨h1, h2⟩ | rfl | rfl <;> rcases split j hj with ⟨h3, h4⟩ | rfl | rfl
    · rw [hM i h1 h2] at e1; rw [hM j h3 h4] at e2; exact h.inj i j g h1 h3 e1 e2
    · rw [hMb] at e2; cases e2
    · rw [hM i h1 h2] at e1; rw [hMn] at e2; exact absurd (h.inj i b g h1 hbl e1 e2) h2
    · rw [hMb] at e1; cases e1
    · rfl
    · rw [hMb] at e1; cases e1
    · rw [hMn] at e1; rw [hM j h3 h4] at e2; exact absurd (h.inj j b g h3 hbl e2 e1) h4
    · rw [hMb] at e2; cases e2
    · rfl
  · rcases split i (alive_lt ha) with ⟨h1, h2⟩ | rfl | rfl
    · rw [hM i h1 h2] at e1
      exact h.sdis g o i hs (by unfold Alive at ha ⊢; rw [g0 i h1 h2] at ha; exact ha) e1
    · rw [hMb] at e1; cases e1
    · rw [hMn] at e1
      exact h.sdis g o b hs ab e1
  · rcases split i hi with ⟨h1, h2⟩ | rfl | rfl
    · rw [hM i h1 h2] at e1; exact h.mlt i g h1 e1
    · rw [hMb] at e1; cases e1
    · rw [hMn] at e1; exact h.mlt b g hbl e1
  · rcases split i hi with ⟨h1, h2⟩ | rfl | rfl
    · rw [hM i h1 h2] at e1; exact h.new i g h1 e1
    · rw [hMb] at e1; cases e1
    · rw [hMn] at e1; exact h.new b g hbl e1
  · rcases split i (alive_lt ha) with ⟨h1, h2⟩ | rfl | rfl
    · rw [hM i h1 h2] at e1
      exact h.fdis g e' i hf (by unfold Alive at ha ⊢; rw [g0 i h1 h2] at ha; exact ha) e1
    · rw [hMb] at e1; cases e1
    · rw [hMn] at e1
      exact h.fdis g e' b hf ab e1
  · rcases split i (hpOf_lt e) with ⟨h1, h2⟩ | rfl | rfl
    · unfold hpOf at e ⊢; rw [g0 i h1 h2] at e; exact e
    · unfold hpOf at e; rw [gb] at e; cases e
    · unfold hpOf at e; rw [gn] at e; cases e
  · rcases split i hi with ⟨h1, h2⟩ | rfl | rfl
    · rw [hM i h1 h2] at e1; exact .inl ⟨i, h1, e1⟩
    · rw [hMb] at e1; cases e1
    · rw [hMn] at e1; exact .inl ⟨b, hbl, e1⟩

/-- s[:k] of a slice of the call's own: k of its rows. -/
def cutK (T : Tab) (t : TypeId) (x : Operand) (hi : Operand) (ρ : Operand → AV) (bk : List Blk) (K : AV → List Blk → Prop) : Prop :=
  match ρ x with
  | .lf (.own b len) =>
    (match bk[b]? with
     | some (.arr e sz rows) =>
       (match elemOf? T t, bnd (some (ρ hi)) 0 with
        | some (_, te), some h => bif Nat.beq te.size sz then rows.length = len ∧ 0 ≤ h ∧ h ≤ len ∧ K (.lf (.own bk.length h.toNat)) (cutB bk b e sz rows h.toNat) else False
        | _, _ => False)
     | _ => False)
  | _ => False
theorem cutK_sound (hT : TabOK P T) (hm : Mem C G bk w) {ρ : Operand → AV} {e : Operand → Value} (hr : ∀ x, RepA G bk w (ρ x) (e x)) {dst : Option Nat} {t : TypeId} {x hi : Operand} {type : TypeId} {pos : String} {after : Array Edge} {guard : Option (Nat × Bool)} {K : AV → List Blk → Prop}
    (h : cutK T t x hi ρ bk K) : Out P C G bk w K ((execOp e ⟨dst, .slice t x none (some hi) none, type, pos, after, guard⟩).run P w) := by
  unfold cutK at h
  split at h
  case h_2 => exact h.elim
  rename_i b len hx
  split at h
  case h_2 => exact h.elim
  rename_i ety sz rows hb
  split at h
  case h_2 => exact h.elim
  rename_i ee te hh hte hbn
  obtain ⟨k1, k2, _⟩ := elemOf_spec hT hte
  cases hbs : Nat.beq te.size sz with
  | false => rw [hbs] at h; exact h.elim
  | true =>
  rw [hbs] at h
  have es : te.size = sz := Nat.eq_of_beq_eq_true hbs
  simp only [cond_true] at h
  obtain ⟨hlen, h0, hle, hk⟩ := h
  -- the bound's value
  obtain ⟨kk, hz⟩ : ∃ k, e hi = .int k hh := by
    simp only [bnd] at hbn
    split at hbn
    · rename_i q; cases q
    · rename_i k n' hq
      cases hbn
      have := hr hi
      rw [Option.some.inj hq] at this
      exact ⟨k, (sc_rep this).1⟩
    · cases hbn
  have hx0 := hr x
  rw [hx] at hx0
  have e1 : ((hh.toNat : Nat) : Int) = hh := Int.toNat_of_nonneg h0
  have hrun : ∀ (a : Option Addr) (cap : Nat), e x = .slice a len cap → len ≤ cap → (execOp e ⟨dst, .slice t x none (some hi) none, type, pos, after, guard⟩).run P w =
      .ok (.value (.slice (if cap = 0 then a else a.map (·.add 0)) hh.toNat cap)) w := fun a cap ex hc => by
    have hin : 0 ≤ hh ∧ hh ≤ cap := ⟨h0, by omega⟩
    simp only [execOp, Instr.sliceAt, Sem.run_bind, run_underlying k1, Result.andThen_ok, ex, Instr.slice]
    simp [Instr.sliceBounds, Instr.sliceBound, hz, asIntOf, hin, run_sizeOf hT k2, es]
  obtain ⟨G', t', m', hMn, hcn⟩ := hm.cut hb hh.toNat (by omega)
  obtain ⟨_, sz', rows', h2, _, h4⟩ := hx0
  have e2 : rowsOf bk b = some (sz, rows) := by unfold rowsOf; rw [hb]
  rw [e2] at h2
  cases h2
  have hrn : rowsOf (cutB bk b ety sz rows hh.toNat) bk.length = some (sz, rows.take hh.toNat) := by
    unfold rowsOf cutB
    rw [List.getElem?_append_right (by simp)]; simp
  have htl : (rows.take hh.toNat).length = hh.toNat := by rw [List.length_take]; omega
  rcases h4 hlen with ⟨g, hg, hv⟩ | ⟨hg, hl, hv⟩
  · have hcap : len ≤ G.cp b := by
      rcases hm.blk b _ hb with ⟨q, _⟩ | ⟨_, _, _, _, _, _, q, _⟩
      · rw [hg] at q; cases q
      · omega
    have ex := hrun (some ⟨g, 0, none⟩) (G.cp b) hv hcap
    have ea : (if G.cp b = 0 then some (⟨g, 0, none⟩ : Addr) else (some (⟨g, 0, none⟩ : Addr)).map (·.add 0)) = some ⟨g, 0, none⟩ := by
      split
      · rfl
      · simp [Addr.add_lit]
    rw [ea] at ex
    rw [ex]
    exact .value (x := .lf (.own bk.length hh.toNat)) t' m' ⟨rfl, sz, _, hrn, by omega, fun _ => .inl ⟨g, by rw [hMn]; exact hg, by rw [hcn]⟩⟩ hk
  · have hz0 : hh.toNat = 0 := by omega
    have ex := hrun none 0 (by rw [hv, hl]) (by omega)
    rw [if_pos rfl] at ex
    rw [ex]
    exact .value (x := .lf (.own bk.length hh.toNat)) t' m' ⟨rfl, sz, _, hrn, by omega, fun _ => .inr ⟨by rw [hMn]; exact hg, hz0, by rw [hz0]⟩⟩ hk
/-- The same, to be read alone: nothing stays behind that the rows could not turn under. -/
def viewK (T : Tab) (t : TypeId) (x : Operand) (hi : Operand) (ρ : Operand → AV) (bk : List Blk) (K : AV → List Blk → Prop) : Prop :=
  match ρ x with
  | .lf (.own b len) =>
    (match bk[b]? with
     | some (.arr _ sz rows) =>
       (match elemOf? T t, bnd (some (ρ hi)) 0 with
        | some (_, te), some h => bif Nat.beq te.size sz then rows.length = len ∧ 0 ≤ h ∧ h ≤ len ∧ K (.lf (.view b len h.toNat)) bk else False
        | _, _ => False)
     | _ => False)
  | _ => False
theorem viewK_sound (hT : TabOK P T) (hm : Mem C G bk w) {ρ : Operand → AV} {e : Operand → Value} (hr : ∀ x, RepA G bk w (ρ x) (e x)) {dst : Option Nat} {t : TypeId} {x hi : Operand} {type : TypeId} {pos : String} {after : Array Edge} {guard : Option (Nat × Bool)} {K : AV → List Blk → Prop}
    (h : viewK T t x hi ρ bk K) : Out P C G bk w K ((execOp e ⟨dst, .slice t x none (some hi) none, type, pos, after, guard⟩).run P w) := by
  unfold viewK at h
  split at h
  case h_2 => exact h.elim
  rename_i b len hx
  split at h
  case h_2 => exact h.elim
  rename_i ety sz rows hb
  split at h
  case h_2 => exact h.elim
  rename_i ee te hh hte hbn
  obtain ⟨k1, k2, _⟩ := elemOf_spec hT hte
  cases hbs : Nat.beq te.size sz with
  | false => rw [hbs] at h; exact h.elim
  | true =>
  rw [hbs] at h
  have es : te.size = sz := Nat.eq_of_beq_eq_true hbs
  simp only [cond_true] at h
  obtain ⟨hlen, h0, hle, hk⟩ := h
  obtain ⟨kk, hz⟩ : ∃ k, e hi = .int k hh := by
    simp only [bnd] at hbn
    split at hbn
    · rename_i q; cases q
    · rename_i k n' hq
      cases hbn
      have := hr hi
      rw [Option.some.inj hq] at this
      exact ⟨k, (sc_rep this).1⟩
    · cases hbn
  have hx0 := hr x
  rw [hx] at hx0
  have e1 : ((hh.toNat : Nat) : Int) = hh := Int.toNat_of_nonneg h0
  have hrun : ∀ (a : Option Addr) (cap : Nat), e x = .slice a len cap → len ≤ cap → (execOp e ⟨dst, .slice t x none (some hi) none, type, pos, after, guard⟩).run P w =
      .ok (.value (.slice (if cap = 0 then a else a.map (·.add 0)) hh.toNat cap)) w := fun a cap ex hc => by
    have hin : 0 ≤ hh ∧ hh ≤ cap := ⟨h0, by omega⟩
    simp only [execOp, Instr.sliceAt, Sem.run_bind, run_underlying k1, Result.andThen_ok, ex, Instr.slice]
    simp [Instr.sliceBounds, Instr.sliceBound, hz, asIntOf, hin, run_sizeOf hT k2, es]
  have e2 : rowsOf bk b = some (sz, rows) := by unfold rowsOf; rw [hb]
  obtain ⟨_, sz', rows', h2, _, h4⟩ := hx0
  rw [e2] at h2
  cases h2
  rcases h4 hlen with ⟨g, hg, hv⟩ | ⟨hg, hl, hv⟩
  · have hcap : len ≤ G.cp b := by
      rcases hm.blk b _ hb with ⟨q, _⟩ | ⟨_, _, _, _, _, _, q, _⟩
      · rw [hg] at q; cases q
      · omega
    have ex := hrun (some ⟨g, 0, none⟩) (G.cp b) hv hcap
    have ea : (if G.cp b = 0 then some (⟨g, 0, none⟩ : Addr) else (some (⟨g, 0, none⟩ : Addr)).map (·.add 0)) = some ⟨g, 0, none⟩ := by
      split
      · rfl
      · simp [Addr.add_lit]
    rw [ea] at ex
    exact Out.of hm ex (x := .lf (.view b len hh.toNat)) ⟨rfl, sz, rows, e2, by omega, by omega, fun _ => .inl ⟨g, hg, rfl⟩⟩ hk
  · subst hl
    have ex := hrun none 0 hv (Nat.le_refl _)
    have ez : hh.toNat = 0 := by omega
    rw [if_pos rfl, ez] at ex
    exact Out.of hm ex (x := .lf (.view b 0 hh.toNat)) ⟨rfl, sz, rows, e2, by omega, by omega, fun _ => .inr ⟨hg, rfl, rfl⟩⟩ hk
end
end Go.Rx

/- Code: what holds behind it. -/
set_option linter.unusedVariables false
set_option linter.unusedSimpArgs false
namespace Go.Rx
open Go.RowKit

abbrev Slots := Nat → AV
/-- The slot that a guard looks at. -/
def gslot (ops : Array Oper) (j : Nat) : Option Nat := (ops[j]?).bind (·.dst)
/-- An operation that may be guarded. -/
def guardK (ops : Array Oper) (g : Option (Nat × Bool)) (sl : Slots) (run : Slots → Prop) (skip : Slots → Prop) : Prop :=
  match g with
  | none => run sl
  | some (j, want) =>
    match gslot ops j with
    | none => False
    | some d =>
      match sl d with
      | .lf (.pv (.sc (.bool b))) =>
        (match b with
         | true => (match want with | true => run (put sl d (sc (.bool true))) | false => skip (put sl d (sc (.bool true))))
         | false => (match want with | true => skip (put sl d (sc (.bool false))) | false => run (put sl d (sc (.bool false)))))
      | .tup [] => skip sl
      | _ => False
def arOp (P : Program) (T : Tab) (ops : Array Oper) (o : Oper) (sl : Slots) (bk : List Blk) (K : Slots → List Blk → Prop) : Prop :=
  guardK ops o.guard sl (fun sl => opV P T o.op (ev sl) bk fun x bk => K (putO sl o.dst x) bk) (fun sl => K (putO sl o.dst (.tup [])) bk)
/-- The same; where a slice of the call's own is cut short, it may stay the call's own. -/
def arCut (P : Program) (T : Tab) (ops : Array Oper) (o : Oper) (sl : Slots) (bk : List Blk) (K : Slots → List Blk → Prop) : Prop :=
  match o.op, o.guard with
  | .slice t x none (some hi) none, none =>
    (match ev sl x with
     | .lf (.own _ _) => cutK T t x hi (ev sl) bk (fun y bk => K (putO sl o.dst y) bk) ∨ arOp P T ops o sl bk K
     | _ => arOp P T ops o sl bk K)
  | .slice t x none (some hi) none, some g =>
    (match ev sl x with
     | .lf (.own _ _) => guardK ops (some g) sl (fun sl => viewK T t x hi (ev sl) bk fun y bk => K (putO sl o.dst y) bk) (fun sl => K (putO sl o.dst (.tup [])) bk) ∨ arOp P T ops o sl bk K
     | _ => arOp P T ops o sl bk K)
  | _, _ => arOp P T ops o sl bk K
def awpOps (P : Program) (T : Tab) (ops : Array Oper) : List Oper → Slots → List Blk → (Slots → List Blk → Prop) → Prop
  | [], sl, bk, K => K sl bk
  | o :: rest, sl, bk, K => arCut P T ops o sl bk fun sl bk => awpOps P T ops rest sl bk K

abbrev Post := Exit → Slots → List Blk → Prop
/-- How many slots there are, and how many blocks were handed over. -/
structure Fr where
  n : Nat
  m : Nat
/-- Behind code c, begun where these slots and blocks are known, Q holds. -/
structure AW (P : Program) (n : Fr) (c : Code) (Q : Post) (sl : Slots) (bk : List Blk) : Prop where
  out : ∀ (C : Ctx) (G : Gh) (a : Act) (w : World), C.n = n.n ∧ C.m = n.m ∧ Glob C.S0 C.w0 → Rel C G sl bk a w → c.wp P (fun e a' w' => Ok C (Q e) a' w') a w
def thenQ (Q : Slots → List Blk → Prop) (R : Post) : Post
  | .normal => Q
  | e => R e
def inBlk (id : Nat) (Q : Post) : Post
  | .exit id' => (match Nat.beq id' id with | true => Q .normal | false => Q (.exit id'))
  | e => Q e
/-- What a test has told of a slot. -/
def know (sl : Slots) (c : Operand) (b : Bool) : Slots := match c with | .tmp d => put sl d (sc (.bool b)) | _ => sl
/-- The same, by the form of the code; loops and regions that draw their order are left as they are. -/
def awp (P : Program) (n : Fr) (T : Tab) : Code → Post → Slots → List Blk → Prop
  | .skip, Q, sl, bk => Q .normal sl bk
  | .region id ops draw, Q, sl, bk =>
    (match draw with
     | false => awpOps P T ops ops.toList sl bk (Q .normal)
     | true => AW P n (.region id ops true) Q sl bk)
  | .seq a b, Q, sl, bk => awp P n T a (thenQ (awp P n T b Q) Q) sl bk
  | .cond c x y, Q, sl, bk =>
    (match ev sl c with
     | .lf (.pv (.sc (.bool b))) => (match b with | true => awp P n T x Q (know sl c true) bk | false => awp P n T y Q (know sl c false) bk)
     | _ => False)
  | .block id c, Q, sl, bk => awp P n T c (inBlk id Q) sl bk
  | .exit id, Q, sl, bk => Q (.exit id) sl bk
  | .ret, Q, sl, bk => Q .ret sl bk
  | c, Q, sl, bk => AW P n c Q sl bk
/-- Every slot that is written is there. -/
def dstB (n : Nat) : Code → Bool
  | .region _ ops _ => ops.all fun o => match o.dst with | some d => Nat.blt d n | none => true
  | .seq a b => dstB n a && dstB n b
  | .cond _ a b => dstB n a && dstB n b
  | .block _ c => dstB n c
  | .loop c => dstB n c
  | _ => true

section
variable {P : Program} {T : Tab} {C : Ctx} {G : Gh} {sl : Slots} {bk : List Blk} {a : Act} {w : World} {n : Fr}

theorem put_self {sl : Slots} {d : Nat} {x : AV} (h : sl d = x) : put sl d x = sl := by
  funext t
  unfold put
  split
  · rename_i e; rw [e, h]
  · rfl
theorem know_self {sl : Slots} {c : Operand} {b : Bool} (h : ev sl c = .lf (.pv (.sc (.bool b)))) : know sl c b = sl := by
  cases c with
  | tmp d => exact put_self h
  | _ => rfl
theorem bool_slot (h : Rel C G sl bk a w) {d : Nat} {b : Bool} (e : sl d = sc (.bool b)) : a.tmps.getD d undef = .bool b ∧ a.tmps[d]? = some (.bool b) := by
  have h1 := h.slots d
  rw [e] at h1
  have h2 := (sc_rep h1).1
  refine ⟨h2, ?_⟩
  cases hq : a.tmps[d]? with
  | none => simp [hq, undef] at h2
  | some v => simp [hq] at h2; rw [h2]
/-- What a guard asks: carried out, or not. -/
theorem guardK_sound (h : Rel C G sl bk a w) {ops : Array Oper} {o : Oper} {run skip : Slots → Prop} (hg : guardK ops o.guard sl run skip) :
    (Region.wanted o (yielded ops a.tmps) = true ∧ run sl) ∨ (Region.wanted o (yielded ops a.tmps) = false ∧ skip sl) := by
  unfold guardK at hg
  unfold Region.wanted
  cases hgd : o.guard with
  | none => rw [hgd] at hg; exact .inl ⟨rfl, hg⟩
  | some jw =>
    obtain ⟨j, want⟩ := jw
    rw [hgd] at hg
    simp only at hg
    cases hs : gslot ops j with
    | none => rw [hs] at hg; exact hg.elim
    | some d =>
      rw [hs] at hg
      simp only at hg
      split at hg
      · rename_i b hb
        have hy : yielded ops a.tmps j = some b := by
          unfold yielded
          unfold gslot at hs
          rw [hs, Option.bind_some, (bool_slot h hb).2]
        simp only [hy]
        cases b <;> cases want <;> simp only at hg <;> rw [put_self hb] at hg
        · exact .inl ⟨rfl, hg⟩
        · exact .inr ⟨rfl, hg⟩
        · exact .inr ⟨rfl, hg⟩
        · exact .inl ⟨rfl, hg⟩
      · rename_i hb
        have hy : yielded ops a.tmps j = none := by
          unfold yielded
          unfold gslot at hs
          rw [hs, Option.bind_some]
          have h1 := h.slots d
          rw [hb] at h1
          obtain ⟨us, hv, hf⟩ := h1
          cases us with
          | cons u us => exact hf.elim
          | nil =>
            cases hq : a.tmps[d]? with
            | none => rfl
            | some v => simp [hq] at hv; rw [hv]
        simp only [hy]
        exact .inr ⟨rfl, hg⟩
      · exact hg.elim

theorem arOp_sound (hT : TabOK P T) (hgl : Glob C.S0 C.w0) (h : Rel C G sl bk a w) {ops : Array Oper} {o : Oper} (hd : ∀ k, o.dst = some k → k < C.n) {K : Slots → List Blk → Prop} {K' : Act → World → Prop} {Q : Exit → Act → World → Prop}
    (hK : ∀ a w, Ok C K a w → K' a w) (hk : arOp P T ops o sl bk K) :
    (Region.wanted o (yielded ops a.tmps) = true ∧ o.wp P a w K' Q) ∨ (Region.wanted o (yielded ops a.tmps) = false ∧ K' (a.put o.dst undef) w) := by
  rcases guardK_sound h hk with ⟨hw, hr⟩ | ⟨hw, hs⟩
  · refine .inl ⟨hw, ?_⟩
    have hout := opV_sound hT hgl h.mem (ev_rep h) o hr
    unfold Oper.wp
    generalize (execOp a.eval o).run P w = r at hout
    cases hout with
    | value t m hx hk => exact hK _ _ ⟨_, _, _, hk, h.put_of t m hx o.dst hd⟩
    | skip t m hk => exact hK _ _ ⟨_, _, _, hk, h.put_of t m (x := .un) trivial o.dst hd⟩
    | enter hc =>
      refine hc.mono ?_
      rintro e w' ⟨u, x, G', bk', rfl, t, m, hx, hk⟩
      exact hK _ _ ⟨_, _, _, hk, h.put_of t m hx o.dst hd⟩
  · exact .inr ⟨hw, hK _ _ ⟨G, _, bk, hs, h.put_of (Trn.refl _ _ _) h.mem (x := .tup []) ⟨[], rfl, trivial⟩ o.dst hd⟩⟩

theorem arCut_sound (hT : TabOK P T) (hgl : Glob C.S0 C.w0) (h : Rel C G sl bk a w) {ops : Array Oper} {o : Oper} (hd : ∀ k, o.dst = some k → k < C.n) {K : Slots → List Blk → Prop} {K' : Act → World → Prop} {Q : Exit → Act → World → Prop}
    (hK : ∀ a w, Ok C K a w → K' a w) (hk : arCut P T ops o sl bk K) :
    (Region.wanted o (yielded ops a.tmps) = true ∧ o.wp P a w K' Q) ∨ (Region.wanted o (yielded ops a.tmps) = false ∧ K' (a.put o.dst undef) w) := by
  unfold arCut at hk
  split at hk
  · rename_i t x hi hop hg
    split at hk
    · rcases hk with hk | hk
      · refine .inl ⟨by unfold Region.wanted; rw [hg], ?_⟩
        obtain ⟨dst, op, type, pos, after, guard⟩ := o
        simp only at hop hg
        subst hop
        have hout := cutK_sound (dst := dst) (type := type) (pos := pos) (after := after) (guard := guard) hT h.mem (ev_rep h) hk
        unfold Oper.wp
        generalize (execOp a.eval _).run P w = r at hout
        cases hout with
        | value t m hx hk => exact hK _ _ ⟨_, _, _, hk, h.put_of t m hx dst hd⟩
        | skip t m hk => exact hK _ _ ⟨_, _, _, hk, h.put_of t m (x := .un) trivial dst hd⟩
        | enter hc =>
          refine hc.mono ?_
          rintro e w' ⟨u, x, G', bk', rfl, t, m, hx, hk⟩
          exact hK _ _ ⟨_, _, _, hk, h.put_of t m hx dst hd⟩
      · exact arOp_sound hT hgl h hd hK hk
    · exact arOp_sound hT hgl h hd hK hk
  · rename_i t x hi gg hop hg
    split at hk
    · rcases hk with hk | hk
      · rw [← hg] at hk
        rcases guardK_sound h hk with ⟨hw, hr⟩ | ⟨hw, hs⟩
        · refine .inl ⟨hw, ?_⟩
          obtain ⟨dst, op, type, pos, after, guard⟩ := o
          simp only at hop hg
          subst hop
          have hout := viewK_sound (dst := dst) (type := type) (pos := pos) (after := after) (guard := guard) hT h.mem (ev_rep h) hr
          unfold Oper.wp
          generalize (execOp a.eval _).run P w = r at hout
          cases hout with
          | value t m hx hk => exact hK _ _ ⟨_, _, _, hk, h.put_of t m hx dst hd⟩
          | skip t m hk => exact hK _ _ ⟨_, _, _, hk, h.put_of t m (x := .un) trivial dst hd⟩
          | enter hc =>
            refine hc.mono ?_
            rintro e w' ⟨u, x, G', bk', rfl, t, m, hx, hk⟩
            exact hK _ _ ⟨_, _, _, hk, h.put_of t m hx dst hd⟩
        · exact .inr ⟨hw, hK _ _ ⟨G, _, bk, hs, h.put_of (Trn.refl _ _ _) h.mem (x := .tup []) ⟨[], rfl, trivial⟩ o.dst hd⟩⟩
      · exact arOp_sound hT hgl h hd hK hk
    · exact arOp_sound hT hgl h hd hK hk
  · exact arOp_sound hT hgl h hd hK hk
theorem awpOps_sound (hT : TabOK P T) (hgl : Glob C.S0 C.w0) {ops : Array Oper} {Q : Exit → Act → World → Prop} {K : Slots → List Blk → Prop} (hQ : ∀ a w, Ok C K a w → Q .normal a w) : ∀ (l : List Oper) {G : Gh} {sl : Slots} {bk : List Blk} {a : Act} {w : World}, (∀ o ∈ l, ∀ k, o.dst = some k → k < C.n) →
    Rel C G sl bk a w → awpOps P T ops l sl bk K → wpList P ops Q l a w
  | [], G, sl, bk, a, w, _, h, hk => hQ _ _ ⟨G, sl, bk, hk, h⟩
  | o :: l, G, sl, bk, a, w, hd, h, hk => by
    unfold wpList
    rcases arCut_sound (Q := Q) hT hgl h (hd o (by simp)) (fun a w ⟨G', sl', bk', hk', h'⟩ => awpOps_sound hT hgl hQ l (fun o ho => hd o (by simp [ho])) h' hk') hk with ⟨hw, h1⟩ | ⟨hw, h1⟩
    · rw [if_pos hw]; exact .inl h1
    · rw [if_neg (by simp [hw])]; exact h1

/-! ### The rules -/
theorem AW.mono {c : Code} {Q R : Post} (h : AW P n c Q sl bk) (hq : ∀ e sl bk, Q e sl bk → R e sl bk) : AW P n c R sl bk :=
  ⟨fun C G a w hn hr => wp_mono (h.out C G a w hn hr) fun e a w ⟨G', sl', bk', hk, h'⟩ => ⟨G', sl', bk', hq _ _ _ hk, h'⟩⟩
theorem AW.seq {x y : Code} {Q : Post} {R : Slots → List Blk → Prop} (h : AW P n x (thenQ R Q) sl bk) (hy : ∀ sl bk, R sl bk → AW P n y Q sl bk) : AW P n (.seq x y) Q sl bk := by
  refine ⟨fun C G a w hn hr => ?_⟩
  refine wp_seq (wp_mono (h.out C G a w hn hr) fun e a w ⟨G', sl', bk', hk, h'⟩ => ?_)
  cases e <;> first
    | exact (hy _ _ hk).out C G' a w hn h'
    | exact ⟨G', sl', bk', hk, h'⟩
theorem AW.block {id : Nat} {c : Code} {Q : Post} (h : AW P n c (inBlk id Q) sl bk) : AW P n (.block id c) Q sl bk := by
  refine ⟨fun C G a w hn hr => ?_⟩
  refine wp_block (wp_mono (h.out C G a w hn hr) fun e a w ⟨G', sl', bk', hk, h'⟩ => ?_)
  cases e with
  | exit id' =>
    simp only [Exit.inBlock]
    simp only [inBlk] at hk
    cases hb : Nat.beq id' id with
    | true => rw [hb] at hk; rw [if_pos (Nat.eq_of_beq_eq_true hb)]; exact ⟨G', sl', bk', hk, h'⟩
    | false =>
      rw [hb] at hk
      have : id' ≠ id := fun e => by subst e; rw [show Nat.beq id' id' = true from Nat.beq_refl id'] at hb; cases hb
      rw [if_neg this]
      exact ⟨G', sl', bk', hk, h'⟩
  | _ => exact ⟨G', sl', bk', hk, h'⟩

theorem aw_of (hT : TabOK P T) : ∀ {c : Code} {Q : Post} {sl : Slots} {bk : List Blk}, dstB n.n c = true → awp P n T c Q sl bk → AW P n c Q sl bk := by
  intro c
  induction c with
  | skip => intro Q sl bk _ h; refine ⟨fun C G a w hn hr => ?_⟩; exact wp_skip ⟨G, sl, bk, h, hr⟩
  | region id ops draw =>
    intro Q sl bk hd h
    cases draw with
    | true => exact h
    | false =>
      refine ⟨fun C G a w hn hr => ?_⟩
      refine wp_region_list (awpOps_sound hT hn.2.2 (K := Q .normal) (fun a w h => h) ops.toList (fun o ho k hk => ?_) hr h)
      have := (Array.all_eq_true'.1 hd) o (by simpa using ho)
      rw [hk] at this
      rw [hn.1]
      exact Nat.le_of_ble_eq_true this
  | seq x y ihx ihy =>
    intro Q sl bk hd h
    simp only [dstB, Bool.and_eq_true] at hd
    exact AW.seq (ihx hd.1 h) fun sl bk h => ihy hd.2 h
  | cond c x y ihx ihy =>
    intro Q sl bk hd h
    refine ⟨fun C G a w hn hr => ?_⟩
    simp only [dstB, Bool.and_eq_true] at hd
    simp only [awp] at h
    split at h
    · rename_i b hb
      have h0 := ev_rep hr c
      rw [hb] at h0
      have h1 := (sc_rep h0).1
      cases b with
      | true => rw [know_self hb] at h; exact wp_cond_true h1 ((ihx hd.1 h).out C G a w hn hr)
      | false => rw [know_self hb] at h; exact wp_cond_false h1 ((ihy hd.2 h).out C G a w hn hr)
    · exact h.elim
  | block id c ih => intro Q sl bk hd h; exact AW.block (ih hd h)
  | exit id => intro Q sl bk _ h; refine ⟨fun C G a w hn hr => ?_⟩; exact wp_exit ⟨G, sl, bk, h, hr⟩
  | ret => intro Q sl bk _ h; refine ⟨fun C G a w hn hr => ?_⟩; exact wp_ret ⟨G, sl, bk, h, hr⟩
  | _ => intro Q sl bk _ h; exact h

/-! ### Where ways meet -/
def mkS (l : List (Nat × AV)) : Slots := fun t => (l.lookup t).getD .un
def agree (sl : Slots) : List (Nat × AV) → Prop
  | [] => True
  | (t, x) :: l => sl t = x ∧ agree sl l
def clL (m : Nat) : Lf → Bool
  | .ptr b _ => Nat.blt b m
  | .ept b _ _ _ _ => Nat.blt b m
  | .own b _ => Nat.blt b m
  | .view b _ _ => Nat.blt b m
  | .bad b _ => Nat.blt b m
  | .frs b _ => Nat.blt b m
  | .bnd _ b _ => Nat.blt b m
  | _ => true
def clB (m : Nat) : Blk → Bool
  | .var cells => cells.all (clL m)
  | _ => true
def clT (m : Nat) : TC → Bool
  | .lf l => clL m l
  | .agg l => l.all (clL m)
def clA (m : Nat) : AV → Bool
  | .lf l => clL m l
  | .agg l => l.all (clL m)
  | .tup l => l.all (clT m)
  | .un => true
/-- What is known fits what is to be known at a meeting place; blocks that nobody there names are let go. -/
def Fits (m : Nat) (sl : Slots) (bk : List Blk) (S : List (Nat × AV)) (B : List Blk) : Prop :=
  agree sl S ∧ (∃ rest, bk = B ++ rest) ∧ B.all (clB B.length) = true ∧ (S.all (fun p => clA B.length p.2) && Nat.ble m B.length) = true

theorem blt_lt {a b : Nat} (h : Nat.blt a b = true) : a < b := Nat.le_of_ble_eq_true h
theorem clL_rep {B rest : List Blk} {l : Lf} {v : Value} (hc : clL B.length l = true) (h : RepL G (B ++ rest) w l v) : RepL G B w l v := by
  cases l with
  | pv p => exact h
  | ro p => exact h
  | fn f c => exact h
  | ptr b off =>
    have hb := blt_lt hc
    obtain ⟨h1, _, h2⟩ := h
    exact ⟨h1, hb, by rw [rowsOf_append _ hb] at h2; exact h2⟩
  | bnd f b off =>
    have hb := blt_lt hc
    obtain ⟨h1, _, h2⟩ := h
    exact ⟨h1, hb, by rw [rowsOf_append _ hb] at h2; exact h2⟩
  | bad b t =>
    have hb := blt_lt hc
    obtain ⟨h1, _, h2⟩ := h
    exact ⟨h1, hb, by rw [rowsOf_append _ hb] at h2; exact h2⟩
  | frs b q =>
    have hb := blt_lt hc
    obtain ⟨h1, _, h2, h3⟩ := h
    exact ⟨h1, hb, by rw [rowsOf_append _ hb] at h2; exact h2, fun e => h3 (by rw [List.getElem?_append_left hb]; exact e)⟩
  | ept b m i sz off =>
    have hb := blt_lt hc
    obtain ⟨h1, rows, h2, h3⟩ := h
    exact ⟨h1, rows, by rw [rowsOf_append _ hb] at h2; exact h2, h3⟩
  | own b len =>
    have hb := blt_lt hc
    obtain ⟨h1, sz, rows, h2, h3⟩ := h
    exact ⟨h1, sz, rows, by rw [rowsOf_append _ hb] at h2; exact h2, h3⟩
  | view b n k =>
    have hb := blt_lt hc
    obtain ⟨h1, sz, rows, h2, h3⟩ := h
    exact ⟨h1, sz, rows, by rw [rowsOf_append _ hb] at h2; exact h2, h3⟩
theorem clA_rep {B rest : List Blk} {x : AV} {v : Value} (hc : clA B.length x = true) (h : RepA G (B ++ rest) w x v) : RepA G B w x v := by
  cases x with
  | lf l => exact clL_rep hc h
  | agg l => obtain ⟨us, rfl, hu⟩ := h; exact ⟨us, rfl, fa_all (p := clL B.length) (fun _ _ h1 h2 => clL_rep h1 h2) hc hu⟩
  | tup l =>
    obtain ⟨us, rfl, hu⟩ := h
    refine ⟨us, rfl, fa_all (p := clT B.length) (fun t v h1 h2 => ?_) hc hu⟩
    cases t with
    | lf l => exact clL_rep h1 h2
    | agg l => obtain ⟨us, rfl, hu⟩ := h2; exact ⟨us, rfl, fa_all (p := clL B.length) (fun _ _ h1 h2 => clL_rep h1 h2) h1 hu⟩
  | un => trivial
theorem agree_get {sl : Slots} : ∀ {S : List (Nat × AV)} {t : Nat}, agree sl S → mkS S t = .un ∨ (mkS S t = sl t ∧ ∃ p ∈ S, p.2 = sl t)
  | [], t, _ => .inl rfl
  | (t0, x) :: S, t, h => by
    by_cases e : t = t0
    · subst e
      right
      have : mkS ((t, x) :: S) t = x := by simp [mkS, List.lookup]
      exact ⟨by rw [this, h.1], (t, x), by simp, h.1.symm⟩
    · have : mkS ((t0, x) :: S) t = mkS S t := by
        have hb : (t == t0) = false := by simpa using e
        simp [mkS, List.lookup, hb]
      rw [this]
      rcases agree_get h.2 with h1 | ⟨h1, p, hp, h2⟩
      · exact .inl h1
      · exact .inr ⟨h1, p, by simp [hp], h2⟩
theorem Rel.fits {S : List (Nat × AV)} {B : List Blk} (hr : Rel C G sl bk a w) {m : Nat} (hn : C.m = m) (h : Fits m sl bk S B) : Rel C G (mkS S) B a w := by
  obtain ⟨ha, ⟨rest, rfl⟩, hB, hS⟩ := h
  rw [Bool.and_eq_true] at hS
  have hm : C.m ≤ B.length := by rw [hn]; exact Nat.le_of_ble_eq_true hS.2
  replace hS := hS.1
  have hget : ∀ b, b < B.length → (B ++ rest)[b]? = B[b]? := fun b hb => List.getElem?_append_left hb
  refine ⟨hr.size, hr.dfr, fun t => ?_, ?_⟩
  · rcases agree_get (t := t) ha with h1 | ⟨h1, p, hp, h2⟩
    · rw [h1]; trivial
    · rw [h1]
      have hc := List.all_eq_true.1 hS p hp
      rw [h2] at hc
      exact clA_rep hc (hr.slots t)
  · have k := hr.mem
    have hlt : ∀ b, b < B.length → b < (B ++ rest).length := fun b hb => by simp; omega
    have hpd : ∀ b h0, hpOf G B b = some h0 → hpOf G (B ++ rest) b = some h0 := fun b h0 e => by
      unfold hpOf at e ⊢
      rw [List.getElem?_append_left (hpOf_lt (G := G) (bk := B) (b := b) (h := h0) (by unfold hpOf; exact e))]
      exact e
    refine ⟨fun b X hb => ?_, fun b b' g hb hb' => k.inj b b' g (hlt b hb) (hlt b' hb'), fun g o b hs hal => k.sdis g o b hs ((alive_append rest (alive_lt hal)).2 hal), k.slt, fun b g hb => k.mlt b g (hlt b hb), fun b g hb => k.new b g (hlt b hb), k.s0, k.snew, k.fnew, k.fty, fun g e b hf hal => k.fdis g e b hf ((alive_append rest (alive_lt hal)).2 hal), k.os, k.tape, k.output, k.size, k.block, ⟨fun b h0 g x e => k.regs.own b h0 g x (hpd b h0 e), fun b h0 g x e hg => (by
      obtain ⟨d1, d2, d3⟩ := k.regs.dis b h0 g x (hpd b h0 e) hg
      exact ⟨fun b' hb' => d1 b' (hlt b' hb'), d2, d3⟩), fun b b2 h0 h2 g x x2 e e2 => k.regs.inj b b2 h0 h2 g x x2 (hpd b h0 e) (hpd b2 h2 e2)⟩, hm, k.t0.drop hm⟩
    have hbl := (List.getElem?_eq_some_iff.1 hb).1
    have h0 := k.blk b X (by rw [hget b hbl]; exact hb)
    have hcb := List.all_eq_true.1 hB X (List.mem_of_getElem? hb)
    cases X with
    | var cells => obtain ⟨g, cur, ty, h1, h2, h3⟩ := h0; exact ⟨g, cur, ty, h1, h2, fa_all (p := clL B.length) (fun _ _ h1 h2 => clL_rep h1 h2) hcb h3⟩
    | _ => exact h0

/-- A slice that is nil becomes one of the call's own: before a loop that appends to it. -/
inductive NilAt where
  | slot (t e sz : Nat)
  | cell (b off e sz : Nat)
  | frz (t : Nat)
def nilsK : List NilAt → Slots → List Blk → (Slots → List Blk → Prop) → Prop
  | [], sl, bk, K => K sl bk
  | .slot t e sz :: l, sl, bk, K => sl t = sc (.slice none 0 0) ∧ nilsK l (put sl t (.lf (.own bk.length 0))) (bk ++ [.arr e sz []]) K
  | .cell b off e sz :: l, sl, bk, K =>
    (match bk[b]? with
     | some (.var cells) => cells[off]? = some (.pv (.sc (.slice none 0 0))) ∧ nilsK l sl (bk.set b (.var (cells.set off (.own bk.length 0))) ++ [.arr e sz []]) K
     | _ => False)
  | .frz t :: l, sl, bk, K => (match sl t with | .lf x => pvK bk x fun bk p => nilsK l (put sl t (.lf (.pv p))) bk K | _ => False)
theorem nilsK_sound : ∀ {l : List NilAt} {G : Gh} {sl : Slots} {bk : List Blk} {K : Slots → List Blk → Prop}, Rel C G sl bk a w → nilsK l sl bk K → ∃ G' sl' bk', K sl' bk' ∧ Rel C G' sl' bk' a w
  | [], G, sl, bk, K, hr, h => ⟨G, sl, bk, h, hr⟩
  | .slot t e sz :: l, G, sl, bk, K, hr, h => by
    obtain ⟨h1, h2⟩ := h
    obtain ⟨G1, t1, m1, hM, hcp⟩ := hr.mem.alloc none (.arr e sz []) 0 rfl (fun G' hS hM hcp tr => .inl ⟨hM, rfl⟩)
    refine nilsK_sound (G := G1) ⟨hr.size, hr.dfr, fun t' => ?_, m1⟩ h2
    by_cases he : t' = t
    · subst he
      have h0 := hr.slots t'
      rw [h1] at h0
      have hv := (sc_rep h0).1
      simp only [put, if_true]
      refine ⟨by rw [hv]; rfl, sz, [], ?_, Nat.le_refl _, fun _ => .inr ⟨hM, rfl, hv⟩⟩
      unfold rowsOf
      rw [List.getElem?_append_right (Nat.le_refl _)]
      simp
    · simp only [put, if_neg he]
      exact t1.repA (hr.slots t')
  | .cell b off e sz :: l, G, sl, bk, K, hr, h => by
    simp only [nilsK] at h
    split at h
    · rename_i cells hb
      obtain ⟨h1, h2⟩ := h
      obtain ⟨G1, t1, m1, hM, hcp⟩ := hr.mem.alloc none (.arr e sz []) 0 rfl (fun G' hS hM hcp tr => .inl ⟨hM, rfl⟩)
      have hbl := (List.getElem?_eq_some_iff.1 hb).1
      have hb1 : (bk ++ [Blk.arr e sz []])[b]? = some (.var cells) := by rw [List.getElem?_append_left hbl]; exact hb
      have hset : (bk ++ [Blk.arr e sz []]).set b (.var (cells.set off (.own bk.length 0))) = bk.set b (.var (cells.set off (.own bk.length 0))) ++ [.arr e sz []] := by rw [List.set_append_left _ _ hbl]
      have hnew : ((bk ++ [Blk.arr e sz []]).set b (.var (cells.set off (.own bk.length 0))))[b]? = some (.var (cells.set off (.own bk.length 0))) := List.getElem?_set_self (by simp; omega)
      have hro : rowsOf (bk ++ [Blk.arr e sz []]) b = none := by unfold rowsOf; rw [hb1]
      obtain ⟨t2, m2⟩ := m1.setb (w' := w) b (alive_var hb1) (.var (cells.set off (.own bk.length 0))) (alive_var hnew) (.inl ⟨hro, by unfold rowsOf; rw [hnew]⟩) (fun _ _ => rfl) rfl rfl rfl rfl (fun t => by
        obtain ⟨g, cur, ty, k1, k2, k3⟩ := m1.blk b _ hb1
        refine ⟨g, cur, ty, k1, ⟨k2.1, fun t ht => by
          rcases List.mem_or_eq_of_mem_set ht with ht | ht
          · exact k2.2 t ht
          · cases ht⟩, Fa.of_get (by simpa using k3.length) fun i x y hx hy => ?_⟩
        by_cases he : i = off
        · subst he
          have hil := (List.getElem?_eq_some_iff.1 h1).1
          rw [List.getElem?_set_self hil] at hx
          cases hx
          obtain ⟨y', hy', hry⟩ := k3.get h1
          rw [hy] at hy'
          cases hy'
          have hv : y = .slice none 0 0 := by have h' : RepP _ _ _ _ := hry; cases h'; rfl
          refine ⟨by rw [hv]; rfl, sz, [], ?_, Nat.le_refl _, fun _ => .inr ⟨hM, rfl, hv⟩⟩
          unfold rowsOf
          rw [List.getElem?_set_ne (by omega), List.getElem?_append_right (Nat.le_refl _)]
          simp
        · rw [List.getElem?_set_ne (Ne.symm he)] at hx
          obtain ⟨y', hy', hry⟩ := k3.get hx
          rw [hy] at hy'
          cases hy'
          exact t.repL hry)
      rw [hset] at t2 m2
      exact nilsK_sound ⟨hr.size, hr.dfr, fun t' => t2.repA (t1.repA (hr.slots t')), m2⟩ h2
    · exact h.elim
  | .frz t :: l, G, sl, bk, K, hr, h => by
    simp only [nilsK] at h
    split at h
    · rename_i x hx
      have h0 := hr.slots t
      rw [hx] at h0
      obtain ⟨G1, b1, p, t1, m1, hp, hk⟩ := pvK_sound hr.mem h0 h
      refine nilsK_sound (G := G1) ⟨hr.size, hr.dfr, fun t' => ?_, m1⟩ hk
      by_cases he : t' = t
      · subst he
        simp only [put, if_true]
        exact hp
      · simp only [put, if_neg he]
        exact t1.repA (hr.slots t')
    · exact h.elim

/-- Ways meet: what is known is said anew, in the form (S, B) at some index that I holds of. -/
def Meets {α : Type} (m : Nat) (I : α → Prop) (S : α → List (Nat × AV)) (B : α → List Blk) (sl : Slots) (bk : List Blk) : Prop := ∃ i, I i ∧ Fits m sl bk (S i) (B i)
theorem AW.cut {α : Type} (I : α → Prop) (S : α → List (Nat × AV)) (B : α → List Blk) (ns : List NilAt) {x y : Code} {Q : Post}
    (hx : AW P n x (thenQ (fun sl bk => nilsK ns sl bk (Meets n.m I S B)) Q) sl bk) (hm : ∀ i, I i → AW P n y Q (mkS (S i)) (B i)) : AW P n (.seq x y) Q sl bk := by
  refine ⟨fun C G a w hn hr => ?_⟩
  refine wp_seq (wp_mono (hx.out C G a w hn hr) fun e a w ⟨G', sl', bk', hk, h'⟩ => ?_)
  cases e <;> first
    | exact ⟨G', sl', bk', hk, h'⟩
    | skip
  obtain ⟨G1, sl1, bk1, ⟨i, hi, hf⟩, h1⟩ := nilsK_sound h' hk
  exact (hm i hi).out C G1 a w hn (h1.fits hn.2.1 hf)
/-- The same, ahead of the code. -/
theorem AW.meet {α : Type} (I : α → Prop) (S : α → List (Nat × AV)) (B : α → List Blk) (ns : List NilAt) {y : Code} {Q : Post}
    (hx : nilsK ns sl bk (Meets n.m I S B)) (hm : ∀ i, I i → AW P n y Q (mkS (S i)) (B i)) : AW P n y Q sl bk := by
  refine ⟨fun C G a w hn hr => ?_⟩
  obtain ⟨G1, sl1, bk1, ⟨i, hi, hf⟩, h1⟩ := nilsK_sound hr hx
  exact (hm i hi).out C G1 a w hn (h1.fits hn.2.1 hf)
/-- A loop: I, S and B say what is known at its head; every round lowers m. -/
theorem AW.loop {α : Type} (I : α → Prop) (S : α → List (Nat × AV)) (B : α → List Blk) (m : α → Nat) (ns : List NilAt) {c : Code} {Q : Post}
    (h0 : nilsK ns sl bk (Meets n.m I S B))
    (hr : ∀ i, I i → AW P n c (thenQ (Meets n.m (fun j => I j ∧ m j < m i) S B) Q) (mkS (S i)) (B i)) : AW P n (.loop c) Q sl bk := by
  refine ⟨fun C G a w hn hrel => ?_⟩
  obtain ⟨G1, sl1, bk1, ⟨i, hi, hf⟩, h1⟩ := nilsK_sound hrel h0
  have h1' := h1.fits hn.2.1 hf
  -- the measure counts the index of the round at hand
  have key : ∀ k i, m i = k → I i → ∀ G a w, Rel C G (mkS (S i)) (B i) a w → ∀ (b : Frame) (kk : List Item) (cs : List Frame),
      ∃ e a' w', Ok C (Q e) a' w' ∧ Arrives P (lone (b.at a (.code c :: .inLoop c :: kk)) cs w) b kk cs e a' w' := by
    intro k
    induction k using Nat.strongRecOn with
    | _ k ih =>
      intro i hk hi G a w hrel b kk cs
      obtain ⟨e, a₁, w₁, hq, harr⟩ := (hr i hi).out C G a w hn hrel b (.inLoop c :: kk) cs
      obtain ⟨G2, sl2, bk2, hq, hr2⟩ := hq
      cases e with
      | normal =>
        obtain ⟨j, ⟨hj, hlt⟩, hf2⟩ := hq
        obtain ⟨e₂, a₂, w₂, hq₂, harr₂⟩ := ih (m j) (by omega) j rfl hj G2 a₁ w₁ (hr2.fits hn.2.1 hf2) b kk cs
        exact ⟨e₂, a₂, w₂, hq₂, .of_steps (Steps.trans harr (.one step_inLoop)) harr₂⟩
      | exit id => exact ⟨_, a₁, w₁, ⟨G2, sl2, bk2, hq, hr2⟩, .pass (x := .inLoop c) rfl (fun _ _ => .inl (by simp)) harr⟩
      | goto l => exact ⟨_, a₁, w₁, ⟨G2, sl2, bk2, hq, hr2⟩, .pass (x := .inLoop c) rfl (fun _ _ => .inl (by simp)) harr⟩
      | ret => exact ⟨_, a₁, w₁, ⟨G2, sl2, bk2, hq, hr2⟩, .pass (x := .inLoop c) rfl (fun _ _ => .inl (by simp)) harr⟩
      | panic ch => exact ⟨_, a₁, w₁, ⟨G2, sl2, bk2, hq, hr2⟩, .pass (x := .inLoop c) rfl (fun _ _ => .inl (by simp)) harr⟩
      | outgrown => exact ⟨_, a₁, w₁, ⟨G2, sl2, bk2, hq, hr2⟩, .pass (x := .inLoop c) rfl (fun _ _ => .inl (by simp)) harr⟩
  intro b kk cs
  obtain ⟨e, a', w', hq, harr⟩ := key _ i rfl hi G1 a w h1' b kk cs
  exact ⟨e, a', w', hq, .of_steps (.one step_loop) harr⟩

/-! ### What a function returns -/
def resK (T : Tab) : List ResultVar → Slots → List Blk → (List AV → Prop) → Prop
  | [], sl, bk, K => K []
  | .tmp t :: l, sl, bk, K => resK T l sl bk fun xs => K (sl t :: xs)
  | .cell p t :: l, sl, bk, K => loadK T t (sl p) bk fun x => resK T l sl bk fun xs => K (x :: xs)
def toTC : AV → Option TC
  | .lf l => some (.lf l)
  | .agg l => some (.agg l)
  | _ => none
def pack : List AV → Option AV
  | [x] => some x
  | xs => (xs.mapM toTC).map AV.tup
/-- Behind the body r is returned. -/
def RetQ (T : Tab) (rs : List ResultVar) (r : AV) : Post
  | .ret, sl, bk => resK T rs sl bk fun xs => argsK bk xs fun _ ys => ∃ zs, Fa WkA ys zs ∧ pack zs = some r
  | .normal, sl, bk => resK T rs sl bk fun xs => argsK bk xs fun _ ys => ∃ zs, Fa WkA ys zs ∧ pack zs = some r
  | _, _, _ => False

theorem resK_sound (hT : TabOK P T) (hr : Rel C G sl bk a w) : ∀ {rs : List ResultVar} {K : List AV → Prop}, resK T rs sl bk K →
    ∃ xs vs, (rs.mapM (m := Sem) fun | .tmp t => pure (a.tmps.getD t undef) | .cell p t => do loadVar t (← asAddr (a.tmps.getD p undef))).run P w = .ok vs w ∧ Fa (RepA G bk w) xs vs ∧ K xs
  | [], K, h => ⟨[], [], rfl, trivial, h⟩
  | .tmp t :: rs, K, h => by
    obtain ⟨xs, vs, h1, h2, h3⟩ := resK_sound hT hr (rs := rs) h
    refine ⟨sl t :: xs, a.tmps.getD t undef :: vs, ?_, ⟨hr.slots t, h2⟩, h3⟩
    rw [List.mapM_cons, Sem.run_bind]
    simp only [Sem.run_pure, Result.andThen_ok, Sem.run_bind, h1]
  | .cell p t :: rs, K, h => by
    obtain ⟨x, u, h1, h2, h3⟩ := loadK_sound hT hr.mem (hr.slots p) h
    obtain ⟨xs, vs, h4, h5, h6⟩ := resK_sound hT hr (rs := rs) h3
    refine ⟨x :: xs, u :: vs, ?_, ⟨h2, h5⟩, h6⟩
    rw [List.mapM_cons, Sem.run_bind]
    have h1' : (do loadVar t (← asAddr (a.tmps.getD p undef)) : Sem Value).run P w = .ok u w := by
      generalize a.tmps.getD p undef = v at h1
      unfold Instr.loadAt Instr.sureAddr at h1
      unfold asAddr
      cases v with
      | pointer q => cases q <;> simp at h1 ⊢; exact h1
      | _ => simp at h1
    simp only [h1', Sem.run_pure, Result.andThen_ok, Sem.run_bind, h4]

theorem pack_rep {S : Sp} {zs : List AV} {vs : List Value} {r : AV} (h : Fa (RepA (Gh.base S) [] w) zs vs) (hp : pack zs = some r) :
    RepA (Gh.base S) [] w r (if h : vs.toArray.size = 1 then vs.toArray[0] else .tuple vs.toArray) := by
  have tc : ∀ {zs : List AV} {vs : List Value} {ts : List TC}, Fa (RepA (Gh.base S) [] w) zs vs → zs.mapM toTC = some ts → Fa (RepT (Gh.base S) [] w) ts vs := fun {zs} => by
    induction zs with
    | nil => intro vs ts h hm; simp at hm; subst hm; cases vs <;> exact h
    | cons z zs ih =>
      intro vs ts h hm
      cases vs with
      | nil => exact h.elim
      | cons v vs =>
        rw [List.mapM_cons] at hm
        cases z with
        | lf l =>
          simp only [toTC, Option.bind_eq_bind, Option.bind_some] at hm
          cases hq : zs.mapM toTC with
          | none => rw [hq] at hm; simp at hm
          | some l' => rw [hq] at hm; simp at hm; subst hm; exact ⟨h.1, ih h.2 hq⟩
        | agg l =>
          simp only [toTC, Option.bind_eq_bind, Option.bind_some] at hm
          cases hq : zs.mapM toTC with
          | none => rw [hq] at hm; simp at hm
          | some l' => rw [hq] at hm; simp at hm; subst hm; exact ⟨h.1, ih h.2 hq⟩
        | _ => simp [toTC] at hm
  cases zs with
  | nil => cases vs with
    | nil => simp [pack] at hp; subst hp; exact ⟨[], rfl, trivial⟩
    | cons v vs => exact h.elim
  | cons z zs => cases zs with
    | nil => cases vs with
      | nil => exact h.elim
      | cons v vs => cases vs with
        | nil => simp [pack] at hp; subst hp; exact h.1
        | cons v' vs => exact h.2.elim
    | cons z' zs => cases vs with
      | nil => exact h.elim
      | cons v vs => cases vs with
        | nil => exact h.2.elim
        | cons v' vs =>
          simp only [pack, Option.map_eq_some_iff] at hp
          obtain ⟨ts, h1, rfl⟩ := hp
          rw [dif_neg (by simp)]
          exact ⟨_, rfl, tc h h1⟩

/-- A contract, out of a body. -/
theorem Con.of {f : FuncId} {fn : Func} {c : Code} {args : List AV} {r : AV} (hT : TabOK P T) (hf : P.funcs[f]? = some fn) (hb : fn.body = some c) (hn : fnOK P f = true)
    (hsz : Nat.ble args.length fn.ntmps = true)
    (h : AW P ⟨fn.ntmps, 0⟩ c (RetQ T fn.results.toList r) (mkS (args.zipIdx.map fun p => (p.2, p.1))) []) : Con P f args r [] := by
  refine ⟨hn, rfl, fun w S us ⟨hS, hgl⟩ hSf hargs => ?_⟩
  refine calls_of_wp hf hb ?_
  have hlen := hargs.length
  have hsz' := Nat.le_of_ble_eq_true hsz
  have hrel : Rel (Ctx.base w S fn.ntmps) (Gh.base S) (mkS (args.zipIdx.map fun p => (p.2, p.1))) [] { tmps := us.toArray ++ Array.replicate (fn.ntmps - us.toArray.size) undef, defers := [] } w := by
    refine ⟨?_, rfl, fun t => ?_, ⟨fun b B hb => by simp at hb, fun b b' g hb => by simp at hb, fun g o b hs ha => absurd (alive_lt ha) (by simp), hS, fun b g hb => by simp at hb, fun b g hb => by simp at hb, fun g o hs => hs, fun g o hs => .inl hs, fun g e hs => .inl hs, hSf, fun g e b hf ha => absurd (alive_lt ha) (by simp), rfl, rfl, rfl, Nat.le_refl _, fun _ _ _ _ => rfl, Regs.nil _ _, Nat.le_refl _, Trn.refl _ _ _⟩⟩
    · simp [Ctx.base]; omega
    · have hmk : mkS (args.zipIdx.map fun p => (p.2, p.1)) t = (args[t]?).getD .un := by
        unfold mkS
        have gen : ∀ (l : List AV) (k : Nat), ((l.zipIdx k).map fun p => (p.2, p.1)).lookup t = if t < k then none else l[t - k]? := fun l => by
          induction l with
          | nil => intro k; simp
          | cons x l ih =>
            intro k
            rw [List.zipIdx_cons, List.map_cons, List.lookup]
            by_cases e : t = k
            · subst e; simp
            · have hb : (t == k) = false := by simpa using e
              rw [hb, ih (k + 1)]
              by_cases hlt : t < k
              · rw [if_pos (by omega), if_pos hlt]
              · rw [if_neg (by omega), if_neg hlt]
                have : t - k = (t - (k + 1)) + 1 := by omega
                rw [this]; simp
        have := gen args 0
        simp at this
        simp [this]
      rw [hmk]
      rcases Nat.lt_or_ge t args.length with hl | hl
      · obtain ⟨v, hv, hrv⟩ := hargs.get (List.getElem?_eq_getElem hl)
        rw [List.getElem?_eq_getElem hl, Option.getD_some]
        have e1 : (us.toArray ++ Array.replicate (fn.ntmps - us.toArray.size) undef).getD t undef = v := by
          simp [Array.getElem?_append_left (show t < us.toArray.size by simp; omega), hv]
        rw [e1]
        exact hrv
      · rw [List.getElem?_eq_none hl]
        trivial
  refine wp_mono (h.out (Ctx.base w S fn.ntmps) _ _ w ⟨rfl, rfl, hgl⟩ hrel) fun e a' w' ⟨G', sl', bk', hq, hr'⟩ => ?_
  have fin : (resK T fn.results.toList sl' bk' fun xs => argsK bk' xs fun _ ys => ∃ zs, Fa WkA ys zs ∧ pack zs = some r) →
      a'.defers = [] ∧ ∃ v, (results fn a'.tmps).run P w' = .ok v w' ∧ ∃ u G'', Ending.returned v = .returned u ∧ RepA G'' [] w' r u ∧ Mem (Ctx.base w S 0) G'' [] w' := fun hq => by
    obtain ⟨xs, vs, h1, h2, h3⟩ := resK_sound hT hr' hq
    obtain ⟨G2, b2, ys, t2, m2, hys, zs, hwk, hpk⟩ := argsK_sound hr'.mem h2 h3
    refine ⟨hr'.dfr, _, ?_, _, Gh.base G2.S, rfl, pack_rep (wks_rep hwk hys) hpk, ?_⟩
    · unfold results
      rw [Sem.run_bind, Array.mapM_eq_mapM_toList, Sem.run_map]
      exact congrArg (fun r : Result (List Value) => Result.andThen (Result.andThen r fun a w' => Result.ok a.toArray w') fun a w' => Sem.run P (pure (if h : a.size = 1 then a[0] else Value.tuple a)) w') h1
    · exact ⟨fun b B hb => by simp at hb, fun b b' g hb => by simp at hb, fun g o b hs ha => absurd (alive_lt ha) (by simp), m2.slt, fun b g hb => by simp at hb, fun b g hb => by simp at hb, m2.s0, m2.snew, m2.fnew, m2.fty, fun g e b hf ha => absurd (alive_lt ha) (by simp), m2.os, m2.tape, m2.output, m2.size, m2.block, Regs.nil _ _, Nat.le_refl _, ⟨m2.t0.S, m2.t0.F, m2.t0.cell, fun b hb => absurd hb (Nat.not_lt_zero _), Nat.le_refl _, fun b hb => absurd hb (Nat.not_lt_zero _), fun b sz rows h => (by unfold rowsOf at h; simp [Ctx.base] at h)⟩⟩
  cases e with
  | normal => exact fin hq
  | ret => exact fin hq
  | _ => exact hq.elim
end
end Go.Rx

/- Small words for the ends of walks. -/
namespace Go.Rx
abbrev I (n : Int) : AV := sc (.int .i64 n)
abbrev Bl (b : Bool) : AV := sc (.bool b)
abbrev Sx (s : ByteArray) : AV := sc (.string s)
abbrev pI (n : Int) : PV := .sc (.int .i64 n)
abbrev pB (b : Bool) : PV := .sc (.bool b)
abbrev pS (s : ByteArray) : PV := .sc (.string s)
theorem ret1 {x y : AV} (h : x = y) : ∃ zs, Fa WkA [x] zs ∧ pack zs = some y := ⟨_, wk_refl _, by rw [← h]; rfl⟩
theorem retB {x y : Bool} (h : x = y) : ∃ zs, Fa WkA [Bl x] zs ∧ pack zs = some (Bl y) := ret1 (by rw [h])
theorem retI {x y : Int} (h : x = y) : ∃ zs, Fa WkA [I x] zs ∧ pack zs = some (I y) := ret1 (by rw [h])
end Go.Rx
