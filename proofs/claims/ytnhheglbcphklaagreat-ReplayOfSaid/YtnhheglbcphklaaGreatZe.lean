/- The texts of the proof, part 5, in order. -/
import Derived.Test.YtnhheglbcphklaaGreatZd
import Derived.Test.YtnhheglbcphklaaGreatZc
/- Ends of functions that tell which rows the call has made. -/
set_option linter.unusedVariables false
set_option linter.unusedSimpArgs false
namespace Go.Rx
open Go.RowKit
section
variable {P : Program} {T : Tab} {C : Ctx} {G : Gh} {sl : Nat → AV} {bk : List Blk} {a : Act} {w : World}
/-- A slice of the call's own whose block stays, with the type of its elements. -/
theorem own_fs (h : Mem C G bk w) {b e sz : Nat} {rows : List (List PV)} {v : Value} (hb : bk[b]? = some (.frz sz rows)) (hv : RepL G bk w (.own b rows.length) v) (hf : ∀ g, G.M b = some g → G.S.f g = some e) : RepP G.S w (.fs e sz rows) v := by
  obtain ⟨_, sz', rows', h2, _, h4⟩ := hv
  have e' : rowsOf bk b = some (sz, rows) := by unfold rowsOf; rw [hb]
  rw [e'] at h2
  cases h2
  rcases h4 rfl with ⟨g, hg, rfl⟩ | ⟨hg, hl, rfl⟩
  · rcases h.blk b _ hb with ⟨h0, rfl⟩ | ⟨g', hg', hc, hr⟩
    · rw [hg] at h0; cases h0
    rw [hg] at hg'
    cases hg'
    refine .fs e sz g (G.cp b) rows (fun j c => (w.cell? ⟨g, j * sz + c, none⟩).getD undef) hc (fun r hr' => ?_) (hf g hg) (fun j r c p hj hp => ?_) (fun j r c p hj hp => ?_)
    · obtain ⟨j, hj⟩ := List.getElem?_of_mem hr'
      exact (hr j r hj).1
    · obtain ⟨h1, u, h2, _⟩ := (hr j r hj).2 c p hp
      rw [h2]
      exact ⟨h1, rfl⟩
    · obtain ⟨_, u, h2, h3⟩ := (hr j r hj).2 c p hp
      rw [h2]
      exact h3
  · have : rows = [] := List.eq_nil_of_length_eq_zero hl
    subst this
    exact .fnil e sz
def pvF (bk : List Blk) (l : Lf) (K : List Blk → PV → Prop) : Prop :=
  match l with
  | .pv p => K bk p
  | .own b len => (match bk[b]? with | some (.arr e sz rows) => rows.length = len ∧ K (bk.set b (.frz sz rows)) (.fs e sz rows) | _ => False)
  | _ => False
theorem pvF_sound (hm : Mem C G bk w) {l : Lf} {v : Value} (hl : RepL G bk w l v) {K : List Blk → PV → Prop} (h : pvF bk l K) :
    ∃ G' bk' p, Trn G bk w G' bk' w ∧ Mem C G' bk' w ∧ RepP G'.S w p v ∧ K bk' p := by
  cases l with
  | pv p => exact ⟨G, bk, p, Trn.refl _ _ _, hm, hl, h⟩
  | own b len =>
    simp only [pvF] at h
    split at h
    · rename_i e sz rows hb
      obtain ⟨rfl, h⟩ := h
      obtain ⟨G', t, hm', hM, _, _, hfs⟩ := hm.frz b _ (.frz sz rows) hb rfl
      exact ⟨G', _, _, t, hm', own_fs hm' (by rw [List.getElem?_set_self (List.getElem?_eq_some_iff.1 hb).1]) (t.repL hl) (fun g hg => hfs g e (by rw [← hM]; exact hg) rfl), h⟩
    · exact h.elim
  | _ => exact h.elim
def pvsF : List Blk → List Lf → (List Blk → List Lf → Prop) → Prop
  | bk, [], K => K bk []
  | bk, l :: ls, K => pvF bk l fun bk p => pvsF bk ls fun bk ps => K bk (.pv p :: ps)
theorem pvsF_sound : ∀ {ls : List Lf} {G : Gh} {bk : List Blk} {vs : List Value} {K : List Blk → List Lf → Prop}, Mem C G bk w → Fa (RepL G bk w) ls vs → pvsF bk ls K →
    ∃ G' bk' xs, Trn G bk w G' bk' w ∧ Mem C G' bk' w ∧ Fa (RepL G' bk' w) xs vs ∧ (∀ x ∈ xs, pureL x) ∧ K bk' xs
  | [], G, bk, [], K, hm, _, h => ⟨G, bk, [], Trn.refl _ _ _, hm, trivial, by simp, h⟩
  | l :: ls, G, bk, v :: vs, K, hm, hf, h => by
    obtain ⟨G1, b1, p, t1, m1, hp, h1⟩ := pvF_sound hm hf.1 h
    obtain ⟨G2, b2, ps, t2, m2, hps, hpus, h2⟩ := pvsF_sound m1 (hf.2.mono fun _ _ => t1.repL) h1
    exact ⟨G2, b2, .pv p :: ps, t1.trans t2, m2, ⟨t2.repL (l := .pv p) hp, hps⟩, by simpa using ⟨trivial, hpus⟩, h2⟩
  | [], _, _, _ :: _, _, _, hf, _ => hf.elim
  | _ :: _, _, _, [], _, _, hf, _ => hf.elim
def argF (bk : List Blk) (x : AV) (K : List Blk → AV → Prop) : Prop :=
  match x with
  | .lf l => pvF bk l fun bk p => K bk (.lf (.pv p))
  | .agg ls => pvsF bk ls fun bk ls => K bk (.agg ls)
  | _ => False
def argsF : List Blk → List AV → (List Blk → List AV → Prop) → Prop
  | bk, [], K => K bk []
  | bk, x :: xs, K => argF bk x fun bk y => argsF bk xs fun bk ys => K bk (y :: ys)
theorem argF_sound (hm : Mem C G bk w) {x : AV} {v : Value} (hx : RepA G bk w x v) {K : List Blk → AV → Prop} (h : argF bk x K) :
    ∃ G' bk' y, Trn G bk w G' bk' w ∧ Mem C G' bk' w ∧ RepA G' bk' w y v ∧ pureA y ∧ K bk' y := by
  cases x with
  | lf l =>
    simp only [argF] at h
    obtain ⟨G', bk', p, t, m, hy, hk⟩ := pvF_sound hm hx h
    exact ⟨G', bk', .lf (.pv p), t, m, hy, trivial, hk⟩
  | agg ls =>
    obtain ⟨us, rfl, hu⟩ := hx
    simp only [argF] at h
    obtain ⟨G', bk', ys, t, m, hy, hp, hk⟩ := pvsF_sound hm hu h
    exact ⟨G', bk', .agg ys, t, m, ⟨us, rfl, hy⟩, hp, hk⟩
  | _ => exact h.elim
theorem argsF_sound : ∀ {xs : List AV} {G : Gh} {bk : List Blk} {vs : List Value} {K : List Blk → List AV → Prop}, Mem C G bk w → Fa (RepA G bk w) xs vs → argsF bk xs K →
    ∃ G' bk' ys, Trn G bk w G' bk' w ∧ Mem C G' bk' w ∧ Fa (RepA (Gh.base G'.S) [] w) ys vs ∧ K bk' ys
  | [], G, bk, [], K, hm, _, h => ⟨G, bk, [], Trn.refl _ _ _, hm, trivial, h⟩
  | x :: xs, G, bk, v :: vs, K, hm, hf, h => by
    obtain ⟨G1, b1, y, t1, m1, hy, hp, h1⟩ := argF_sound hm hf.1 h
    obtain ⟨G2, b2, ys, t2, m2, hys, h2⟩ := argsF_sound m1 (hf.2.mono fun _ _ => t1.repA) h1
    exact ⟨G2, b2, y :: ys, t1.trans t2, m2, ⟨pureA_rep hp (t2.repA hy), hys⟩, h2⟩
  | [], _, _, _ :: _, _, _, hf, _ => hf.elim
  | _ :: _, _, _, [], _, _, hf, _ => hf.elim
/-- A contract whose own rows stay from now on: told as rows that the call has made. -/
theorem Con.staysF {f : FuncId} {args : List AV} {ts : List TC} {r : AV} {nb : List Blk} (h : Con P f args (.tup ts) nb) (h2 : 2 ≤ ts.length)
    (hk : argsF nb (ts.map ofTC) fun _ ys => ∃ zs, Fa WkA ys zs ∧ pack zs = some r) : Con P f args r [] := by
  refine ⟨h.1, rfl, fun w S us hS hSf hargs => (h.2.2 w S us hS hSf hargs).mono fun e w' ⟨u, G', he, hr, hm⟩ => ?_⟩
  obtain ⟨vs, rfl, hvs⟩ := hr
  obtain ⟨G2, b2, ys, t2, m2, hys, zs, hwk, hpk⟩ := argsF_sound hm (ofTC_rep hvs) hk
  have hp := pack_rep (wks_rep hwk hys) hpk
  have hl : vs.toArray.size ≠ 1 := by have := hvs.length; simp; omega
  rw [dif_neg hl] at hp
  exact ⟨_, Gh.base G2.S, he, hp, fun b B hb => by simp at hb, fun b b' g hb => by simp at hb, fun g o b hs ha => absurd (alive_lt ha) (by simp), m2.slt, fun b g hb => by simp at hb, fun b g hb => by simp at hb, m2.s0, m2.snew, m2.fnew, m2.fty, fun g e b hf ha => absurd (alive_lt ha) (by simp), m2.os, m2.tape, m2.output, m2.size, m2.block, Regs.nil _ _, Nat.le_refl _, ⟨m2.t0.S, m2.t0.F, m2.t0.cell, fun b hb => absurd hb (Nat.not_lt_zero _), Nat.le_refl _, fun b hb => absurd hb (Nat.not_lt_zero _), fun b sz rows h => (by unfold rowsOf at h; simp [Ctx.base] at h)⟩⟩
/-- Behind the body r is returned, its rows those that the call has made. -/
def RetF (T : Tab) (rs : List ResultVar) (r : AV) : Post
  | .ret, sl, bk => resK T rs sl bk fun xs => argsF bk xs fun _ ys => ∃ zs, Fa WkA ys zs ∧ pack zs = some r
  | .normal, sl, bk => resK T rs sl bk fun xs => argsF bk xs fun _ ys => ∃ zs, Fa WkA ys zs ∧ pack zs = some r
  | _, _, _ => False
/-- A contract, out of a body, whose result's rows the call has made. -/
theorem Con.ofF {f : FuncId} {fn : Func} {c : Code} {args : List AV} {r : AV} (hT : TabOK P T) (hf : P.funcs[f]? = some fn) (hb : fn.body = some c) (hn : fnOK P f = true)
    (hsz : Nat.ble args.length fn.ntmps = true)
    (h : AW P ⟨fn.ntmps, 0⟩ c (RetF T fn.results.toList r) (mkS (args.zipIdx.map fun p => (p.2, p.1))) []) : Con P f args r [] := by
  refine ⟨hn, rfl, fun w S us ⟨hS, hgl⟩ hSf hargs => ?_⟩
  refine calls_of_wp hf hb ?_
  have hlen := hargs.length
  have hsz' := Nat.le_of_ble_eq_true hsz
  have hrel : Rel (Ctx.base w S fn.ntmps) (Gh.base S) (mkS (args.zipIdx.map fun p => (p.2, p.1))) [] { tmps := us.toArray ++ Array.replicate (fn.ntmps - us.toArray.size) undef, defers := [] } w := by
    refine ⟨?_, rfl, fun t => ?_, ⟨fun b B hb => by simp at hb, fun b b' g hb => by simp at hb, fun g o b hs ha => absurd (alive_lt ha) (by simp), hS, fun b g hb => by simp at hb, fun b g hb => by simp at hb, fun g o hs => hs, fun g o hs => .inl hs, fun g e hs => .inl hs, hSf, fun g e b hf ha => absurd (alive_lt ha) (by simp), rfl, rfl, rfl, Nat.le_refl _, fun _ _ _ _ => rfl, Regs.nil _ _, Nat.le_refl _, Trn.refl _ _ _⟩⟩
    · simp [Ctx.base]; omega
    · have hmk : mkS (args.zipIdx.map fun p => (p.2, p.1)) t = (args[t]?).getD .un := by
        unfold mkS
        have gen : ∀ (l : List AV) (k : Nat), ((l.zipIdx k).map fun p => (p.2, p.1)).lookup t = if t < k then none else l[t - k]? := fun l => by
          induction l with
          | nil => intro k; simp
          | cons x l ih =>
            intro k
            rw [List.zipIdx_cons, List.map_cons, List.lookup]
            by_cases e : t = k
            · subst e; simp
            · have hb : (t == k) = false := by simpa using e
              rw [hb, ih (k + 1)]
              by_cases hlt : t < k
              · rw [if_pos (by omega), if_pos hlt]
              · rw [if_neg (by omega), if_neg hlt]
                have : t - k = (t - (k + 1)) + 1 := by omega
                rw [this]; simp
        have := gen args 0
        simp at this
        simp [this]
      rw [hmk]
      rcases Nat.lt_or_ge t args.length with hl | hl
      · obtain ⟨v, hv, hrv⟩ := hargs.get (List.getElem?_eq_getElem hl)
        rw [List.getElem?_eq_getElem hl, Option.getD_some]
        have e1 : (us.toArray ++ Array.replicate (fn.ntmps - us.toArray.size) undef).getD t undef = v := by
          simp [Array.getElem?_append_left (show t < us.toArray.size by simp; omega), hv]
        rw [e1]
        exact hrv
      · rw [List.getElem?_eq_none hl]
        trivial
  refine wp_mono (h.out (Ctx.base w S fn.ntmps) _ _ w ⟨rfl, rfl, hgl⟩ hrel) fun e a' w' ⟨G', sl', bk', hq, hr'⟩ => ?_
  have fin : (resK T fn.results.toList sl' bk' fun xs => argsF bk' xs fun _ ys => ∃ zs, Fa WkA ys zs ∧ pack zs = some r) →
      a'.defers = [] ∧ ∃ v, (results fn a'.tmps).run P w' = .ok v w' ∧ ∃ u G'', Ending.returned v = .returned u ∧ RepA G'' [] w' r u ∧ Mem (Ctx.base w S 0) G'' [] w' := fun hq => by
    obtain ⟨xs, vs, h1, h2, h3⟩ := resK_sound hT hr' hq
    obtain ⟨G2, b2, ys, t2, m2, hys, zs, hwk, hpk⟩ := argsF_sound hr'.mem h2 h3
    refine ⟨hr'.dfr, _, ?_, _, Gh.base G2.S, rfl, pack_rep (wks_rep hwk hys) hpk, ?_⟩
    · unfold results
      rw [Sem.run_bind, Array.mapM_eq_mapM_toList, Sem.run_map]
      exact congrArg (fun r : Result (List Value) => Result.andThen (Result.andThen r fun a w' => Result.ok a.toArray w') fun a w' => Sem.run P (pure (if h : a.size = 1 then a[0] else Value.tuple a)) w') h1
    · exact ⟨fun b B hb => by simp at hb, fun b b' g hb => by simp at hb, fun g o b hs ha => absurd (alive_lt ha) (by simp), m2.slt, fun b g hb => by simp at hb, fun b g hb => by simp at hb, m2.s0, m2.snew, m2.fnew, m2.fty, fun g e b hf ha => absurd (alive_lt ha) (by simp), m2.os, m2.tape, m2.output, m2.size, m2.block, Regs.nil _ _, Nat.le_refl _, ⟨m2.t0.S, m2.t0.F, m2.t0.cell, fun b hb => absurd hb (Nat.not_lt_zero _), Nat.le_refl _, fun b hb => absurd hb (Nat.not_lt_zero _), fun b sz rows h => (by unfold rowsOf at h; simp [Ctx.base] at h)⟩⟩
  cases e with
  | normal => exact fin hq
  | ret => exact fin hq
  | _ => exact hq.elim
end
/-! ### Weaker values -/
theorem wkF (e sz : Nat) (rows : List (List PV)) : WkP (.fs e sz rows) (.sl sz rows) := fun S w v h => h.weak
theorem wkFn (e sz : Nat) : WkP (.sc (.slice none 0 0)) (.fs e sz []) := fun S w v h => by
  cases h
  exact .fnil e sz
theorem WkP.trans {p q r : PV} (h : WkP p q) (k : WkP q r) : WkP p r := fun S w v hv => k S w v (h S w v hv)
theorem wkFR {e sz : Nat} {rows rows' : List (List PV)} (h : Fa (Fa WkP) rows rows') : WkP (.fs e sz rows) (.fs e sz rows') := fun S w v hv => by
  have hl := h.length
  have back : ∀ {j r' c q}, rows'[j]? = some r' → r'[c]? = some q → ∃ r p, rows[j]? = some r ∧ r[c]? = some p ∧ WkP p q := fun {j r' c q} hj hc => by
    obtain ⟨r, h1, h2⟩ := fa_get' h hj
    obtain ⟨p, h3, h4⟩ := fa_get' h2 hc
    exact ⟨r, p, h1, h3, h4⟩
  cases hv with
  | fnil => have : rows' = [] := List.eq_nil_of_length_eq_zero (by rw [← hl]; rfl); subst this; exact .fnil e sz
  | femp _ _ a cap => have : rows' = [] := List.eq_nil_of_length_eq_zero (by rw [← hl]; rfl); subst this; exact .femp e sz a cap
  | fs _ _ g cap _ vs hc hu hf hm hr =>
    rw [hl]
    refine .fs e sz g cap rows' vs (by rw [← hl]; exact hc) (fun r' hr' => ?_) hf (fun j r' c q hj hq => ?_) (fun j r' c q hj hq => ?_)
    · obtain ⟨j, hj⟩ := List.getElem?_of_mem hr'
      obtain ⟨r, h1, h2⟩ := fa_get' h hj
      rw [← h2.length]
      exact hu r (List.mem_of_getElem? h1)
    · obtain ⟨r, p, h1, h2, _⟩ := back hj hq
      exact hm j r c p h1 h2
    · obtain ⟨r, p, h1, h2, h3⟩ := back hj hq
      exact h3 _ _ _ (hr j r c p h1 h2)
theorem wkFS {e sz : Nat} {rows rows' : List (List PV)} (h : Fa (Fa WkP) rows rows') : WkP (.fs e sz rows) (.sl sz rows') := (wkFR h).trans (wkF e sz rows')
end Go.Rx

/- Answers that are written over: what stands in them, calls that look at them, calls that write them over. -/
set_option linter.unusedVariables false
set_option linter.unusedSimpArgs false
namespace Go.Rx
open Go.RowKit

/-! ### What lies in blocks that calls have made, alone; what says of no block that a call has made it -/
theorem FrP.sc (v : Value) : FrP (.sc v) := fun S w u h => by cases h; exact .sc _ (by assumption)
theorem FrP.fs {e sz : Nat} {rows : List (List PV)} (h : ∀ r ∈ rows, ∀ p ∈ r, FrP p) : FrP (.fs e sz rows) := fun S w u hu => by
  cases hu with
  | fnil => exact .fnil e sz
  | femp _ _ a cap => exact .femp e sz a cap
  | fs _ _ g cap _ vs hc hl hf hm hr =>
    exact .fs e sz g cap rows vs hc hl hf (fun j r c p hj hp => ⟨⟨e, hf⟩, (hm j r c p hj hp).2⟩) fun j r c p hj hp => h r (List.mem_of_getElem? hj) p (List.mem_of_getElem? hp) _ _ _ (hr j r c p hj hp)
theorem NoP.sc (v : Value) : NoP (.sc v) := fun S w u h => by cases h; exact .sc _ (by assumption)
theorem NoP.sl {sz : Nat} {rows : List (List PV)} (h : ∀ r ∈ rows, ∀ p ∈ r, NoP p) : NoP (.sl sz rows) := fun S w u hu => by
  cases hu with
  | nil => exact .nil sz
  | emp _ a cap => exact .emp sz a cap
  | sl _ g o cap _ vs hc hl hm hr =>
    exact .sl sz g o cap rows vs hc hl hm fun j r c p hj hp => h r (List.mem_of_getElem? hj) p (List.mem_of_getElem? hp) _ _ _ (hr j r c p hj hp)

section
variable {P : Program}
/-! ### Calls that look at an answer -/
def UnL (l l' : Lf) : Prop := (∃ p, l = .frs 0 p ∧ l' = .pv p) ∨ ∃ p, l = .pv p ∧ l' = .pv p ∧ NoP p
def UnA (x y : AV) : Prop := (∃ l l', x = .lf l ∧ y = .lf l' ∧ UnL l l') ∨ ∃ ls ms, x = .agg ls ∧ y = .agg ms ∧ Fa UnL ls ms
theorem un_rep {G : Gh} {w : World} {l l' : Lf} {v : Value} (h : UnL l l') (hl : RepL G [.hp] w l v) : RepL (Gh.base (SpR G.S (G.H 0))) [] w l' v := by
  rcases h with ⟨p, rfl, rfl⟩ | ⟨p, rfl, rfl, hn⟩
  · obtain ⟨_, _, _, h4⟩ := hl
    exact h4 rfl
  · exact RepP.step (S := G.S.bare) (S' := SpR G.S (G.H 0)) (fun g o hs => .inl hs) (fun g e hf => by cases hf) (fun _ _ _ => rfl) (hn _ _ _ hl)
theorem fa_two {α : Type} {U : α → α → Prop} {R R' : α → Value → Prop} (hu : ∀ a b v, U a b → R a v → R' b v) : ∀ {xs ys : List α} {us : List Value}, Fa U xs ys → Fa R xs us → Fa R' ys us
  | [], [], [], _, _ => trivial
  | _ :: _, _ :: _, _ :: _, h, k => ⟨hu _ _ _ h.1 k.1, fa_two hu h.2 k.2⟩
  | [], _ :: _, _, h, _ => h.elim
  | _ :: _, [], _, h, _ => h.elim
  | [], [], _ :: _, _, k => k.elim
  | _ :: _, _ :: _, [], _, k => k.elim
theorem unA_rep {G : Gh} {w : World} {x y : AV} {v : Value} (h : UnA x y) (hx : RepA G [.hp] w x v) : RepA (Gh.base (SpR G.S (G.H 0))) [] w y v := by
  rcases h with ⟨l, l', rfl, rfl, h⟩ | ⟨ls, ms, rfl, rfl, h⟩
  · exact un_rep h hx
  · obtain ⟨us, rfl, hu⟩ := hx
    exact ⟨us, rfl, fa_two (fun l l' v h1 h2 => un_rep (G := G) (w := w) (l := l) (l' := l') (v := v) h1 h2) h hu⟩
theorem ConG.look {f : FuncId} {args cargs : List AV} {r : AV} (h : Con P f cargs r []) (hs : scalA r = true) (hu : Fa UnA args cargs) : ConG P f [.hp] args r [.hp] := by
  refine ⟨h.1, fun w G0 us ⟨hm, hgl⟩ hargs => (h.2.2 w (SpR G0.S (G0.H 0)) us ⟨fun g o hs => ?_, fun x hx => ⟨.inl (hgl x hx).1, (hgl x hx).2⟩⟩ (fun g e hf => ?_) (fa_two (fun x y v h1 h2 => unA_rep (G := G0) (w := w) (x := x) (y := y) (v := v) h1 h2) hu hargs)).mono ?_⟩
  · rcases hs with hs | ⟨x, hx⟩
    · exact hm.slt g o hs
    · exact (hm.hlt (b := 0) (hh := G0.H 0) rfl hx).1
  · have hf' : (G0.H 0 g).map (·.1) = some e := hf
    rw [Option.map_eq_some_iff] at hf'
    obtain ⟨x, hx, rfl⟩ := hf'
    obtain ⟨_, fz, h1, h2⟩ := hm.hlt (b := 0) (hh := G0.H 0) rfl hx
    exact ⟨_, fz, h1, by simpa using h2⟩
  · rintro e w' ⟨u, G2, rfl, hr, m2⟩
    have hold : ∀ g, g < w.heap.size → w'.heap[g]? = w.heap[g]? := fun g hg => m2.block g hg (fun b' hb' => absurd hb' (Nat.not_lt_zero _)) (regX_nil _ g)
    obtain ⟨_, m3⟩ := hm.below m2.os m2.tape m2.output m2.size hold
    exact ⟨u, G0, rfl, scalA_rep hs hr, m3⟩

/-! ### Calls that write an answer over -/
/-- What a value is, in these blocks of the heap. -/
inductive RepH (h : Nat → Option (Nat × List Value)) : PV → Value → Prop
  | sc (v : Value) (h1 : v.oneCell' = true) : RepH h (.sc v) v
  | sl (sz : Nat) (rows : List (List PV)) (v : Value) (h1 : v.oneCell' = true) : RepH h (.sl sz rows) v
  | fnil (e sz : Nat) : RepH h (.fs e sz []) (.slice none 0 0)
  | femp (e sz : Nat) (a : Addr) (cap : Nat) : RepH h (.fs e sz []) (.slice (some a) 0 cap)
  | fs (e sz g cap : Nat) (rows : List (List PV)) (cur : List Value) (vs : Nat → Nat → Value) (hu : ∀ r ∈ rows, r.length = sz) (hg : h g = some (e, cur))
      (hm : ∀ j r c p, rows[j]? = some r → r[c]? = some p → cur[j * sz + c]? = some (vs j c))
      (hr : ∀ j r c p, rows[j]? = some r → r[c]? = some p → RepH h p (vs j c)) : RepH h (.fs e sz rows) (.slice (some ⟨g, 0, none⟩) rows.length cap)
theorem RepH.one {h : Nat → Option (Nat × List Value)} {p : PV} {v : Value} (k : RepH h p v) : v.oneCell' = true := by
  cases k <;> first | assumption | rfl
theorem repH_of {S : Sp} {w : World} {h : Nat → Option (Nat × List Value)} (hb : ∀ g e cur, h g = some (e, cur) → ∃ fz, w.heap[g]? = some (.cells cur.toArray e fz) ∧ FzAny cur.length fz) {p : PV} {v : Value} (k : RepP (SpR S h) w p v) : RepH h p v := by
  induction k with
  | sc v h1 => exact .sc v h1
  | nil sz => exact .sl _ _ _ rfl
  | emp sz a cap => exact .sl _ _ _ rfl
  | sl => exact .sl _ _ _ rfl
  | fnil e sz => exact .fnil e sz
  | femp e sz a cap => exact .femp e sz a cap
  | fs e sz g cap rows vs hc hu hf hm _ ih =>
    have hf' : (h g).map (·.1) = some e := hf
    rw [Option.map_eq_some_iff] at hf'
    obtain ⟨⟨e', cur⟩, hx, rfl⟩ := hf'
    obtain ⟨fz, h1, _⟩ := hb g _ cur hx
    refine .fs _ sz g cap rows cur vs hu hx (fun j r c p hj hp => ?_) ih
    have := (hm j r c p hj hp).2
    rw [cell_of_row w _ _ _ _ _ h1] at this
    simpa using this
def MacL (h : Nat → Option (Nat × List Value)) (l l' : Lf) : Prop := (∃ p v, l = .frs 0 p ∧ l' = .pv (.sc v) ∧ RepH h p v) ∨ ∃ v, l = .pv (.sc v) ∧ l' = .pv (.sc v)
def MacA (h : Nat → Option (Nat × List Value)) (x y : AV) : Prop := (∃ l l', x = .lf l ∧ y = .lf l' ∧ MacL h l l') ∨ ∃ ls ms, x = .agg ls ∧ y = .agg ms ∧ Fa (MacL h) ls ms
/-- The shape of what is handed to such a call. -/
def MacX : AV → Prop
  | .lf l => (∃ p, l = .frs 0 p) ∨ ∃ v, l = .pv (.sc v)
  | .agg ls => ∀ l ∈ ls, (∃ p, l = .frs 0 p) ∨ ∃ v, l = .pv (.sc v)
  | _ => False
theorem macL_rep {G : Gh} {w : World} {l : Lf} {v : Value} (hm : ∀ g e cur, G.H 0 g = some (e, cur) → ∃ fz, w.heap[g]? = some (.cells cur.toArray e fz) ∧ FzAny cur.length fz) (hx : (∃ p, l = .frs 0 p) ∨ ∃ v, l = .pv (.sc v)) (hl : RepL G [.hp] w l v) :
    ∃ l', MacL (G.H 0) l l' ∧ RepL G [.reg (G.H 0)] w l' v := by
  rcases hx with ⟨p, rfl⟩ | ⟨u, rfl⟩
  · obtain ⟨h1, _, _, h4⟩ := hl
    exact ⟨_, .inl ⟨p, v, rfl, rfl, repH_of hm (h4 rfl)⟩, RepP.sc v h1⟩
  · exact ⟨_, .inr ⟨u, rfl, rfl⟩, hl⟩
theorem macLs_rep {G : Gh} {w : World} (hm : ∀ g e cur, G.H 0 g = some (e, cur) → ∃ fz, w.heap[g]? = some (.cells cur.toArray e fz) ∧ FzAny cur.length fz) : ∀ {ls : List Lf} {us : List Value}, (∀ l ∈ ls, (∃ p, l = .frs 0 p) ∨ ∃ v, l = .pv (.sc v)) → Fa (RepL G [.hp] w) ls us →
    ∃ ms, Fa (MacL (G.H 0)) ls ms ∧ Fa (RepL G [.reg (G.H 0)] w) ms us
  | [], [], _, _ => ⟨[], trivial, trivial⟩
  | l :: ls, u :: us, hx, h => by
    obtain ⟨l', k1, k2⟩ := macL_rep hm (hx l (by simp)) h.1
    obtain ⟨ms, k3, k4⟩ := macLs_rep hm (fun x hx' => hx x (by simp [hx'])) h.2
    exact ⟨l' :: ms, ⟨k1, k3⟩, ⟨k2, k4⟩⟩
  | [], _ :: _, _, h => h.elim
  | _ :: _, [], _, h => h.elim
theorem macA_rep {G : Gh} {w : World} (hm : ∀ g e cur, G.H 0 g = some (e, cur) → ∃ fz, w.heap[g]? = some (.cells cur.toArray e fz) ∧ FzAny cur.length fz) {x : AV} {v : Value} (hx : MacX x) (h : RepA G [.hp] w x v) : ∃ y, MacA (G.H 0) x y ∧ RepA G [.reg (G.H 0)] w y v := by
  cases x with
  | lf l =>
    obtain ⟨l', k1, k2⟩ := macL_rep hm hx h
    exact ⟨.lf l', .inl ⟨l, l', rfl, rfl, k1⟩, k2⟩
  | agg ls =>
    obtain ⟨us, rfl, hu⟩ := h
    obtain ⟨ms, k1, k2⟩ := macLs_rep hm hx hu
    exact ⟨.agg ms, .inr ⟨ls, ms, rfl, rfl, k1⟩, us, rfl, k2⟩
  | _ => exact hx.elim
theorem macAs_rep {G : Gh} {w : World} (hm : ∀ g e cur, G.H 0 g = some (e, cur) → ∃ fz, w.heap[g]? = some (.cells cur.toArray e fz) ∧ FzAny cur.length fz) : ∀ {xs : List AV} {us : List Value}, (∀ x ∈ xs, MacX x) → Fa (RepA G [.hp] w) xs us →
    ∃ ys, Fa (MacA (G.H 0)) xs ys ∧ Fa (RepA G [.reg (G.H 0)] w) ys us
  | [], [], _, _ => ⟨[], trivial, trivial⟩
  | x :: xs, u :: us, hx, h => by
    obtain ⟨y, k1, k2⟩ := macA_rep hm (hx x (by simp)) h.1
    obtain ⟨ys, k3, k4⟩ := macAs_rep hm (fun z hz => hx z (by simp [hz])) h.2
    exact ⟨y :: ys, ⟨k1, k3⟩, ⟨k2, k4⟩⟩
  | [], _ :: _, _, h => h.elim
  | _ :: _, [], _, h => h.elim
theorem hp_reg {G : Gh} (b : Nat) : hpOf G [.reg (G.H 0)] b = hpOf G [.hp] b := by
  cases b with
  | zero => rfl
  | succ b => rfl
/-- Whatever the values are, the answer's blocks are spent. -/
theorem ConG.spoil {f : FuncId} {args : List AV} {r : AV} (hf : fnOK P f = true) (hx : ∀ x ∈ args, MacX x) (h : ∀ (hh : Nat → Option (Nat × List Value)) (cs : List AV), Fa (MacA hh) args cs → ConG P f [.reg hh] cs r [.dead]) (hs : scalA r = true) : ConG P f [.hp] args r [.dead] := by
  refine ⟨hf, fun w G0 us ⟨hm, hgl⟩ hargs => ?_⟩
  obtain ⟨cs, k1, k2⟩ := macAs_rep (fun g e cur => hm.blk 0 .hp rfl g e cur) hx hargs
  have hal : ∀ b, Alive [.reg (G0.H 0)] b → Alive [.hp] b := fun b ha => by
    cases b with
    | zero => exact ha
    | succ b => exact ha
  have hlen : ([.reg (G0.H 0)] : List Blk).length = ([.hp] : List Blk).length := rfl
  have hxx : ∀ g, regX G0 [.reg (G0.H 0)] g ↔ regX G0 [.hp] g := fun g => by
    unfold regX
    simp only [hp_reg]
  have m1 : Mem ⟨w, G0, [.reg (G0.H 0)], 0⟩ G0 [.reg (G0.H 0)] w := by
    refine ⟨fun b B hb => ?_, hm.inj, fun g o b hs ha => hm.sdis g o b hs (hal b ha), hm.slt, hm.mlt, hm.new, hm.s0, hm.snew, hm.fnew, hm.fty, fun g e b hf ha => hm.fdis g e b hf (hal b ha), rfl, rfl, rfl, Nat.le_refl _, fun _ _ _ _ => rfl, ⟨fun b h0 g x e hg => ?_, fun b h0 g x e => ?_, fun b b2 h0 h2 g x x2 e e2 => ?_⟩, Nat.le_refl _, Trn.refl _ _ _⟩
    · cases b with
      | zero => cases hb; exact fun g e cur => hm.blk 0 .hp rfl g e cur
      | succ b => cases hb
    · rw [hp_reg] at e
      exact (hm.regs.own b h0 g x e hg).imp id (hxx g).2
    · rw [hp_reg] at e
      exact hm.regs.dis b h0 g x e
    · rw [hp_reg] at e e2
      exact hm.regs.inj b b2 h0 h2 g x x2 e e2
  refine ((h (G0.H 0) cs k1).2 w G0 us ⟨m1, hgl⟩ k2).mono ?_
  rintro e w' ⟨u, G2, rfl, hr, m2⟩
  refine ⟨u, G2, rfl, hr, ⟨m2.blk, m2.inj, m2.sdis, m2.slt, m2.mlt, m2.new, m2.s0, m2.snew, m2.fnew, m2.fty, m2.fdis, m2.os, m2.tape, m2.output, m2.size, fun g hg hn hx => m2.block g hg hn fun q => hx ((hxx g).1 q), ⟨fun b h0 g x e => ?_, m2.regs.dis, m2.regs.inj⟩, m2.mle, ⟨m2.t0.S, m2.t0.F, m2.t0.cell, fun b hb e => ?_, m2.t0.len, fun b hb hr => ?_, fun b sz rows hr => ?_⟩⟩⟩
  · unfold hpOf at e
    cases b with
    | zero => cases e
    | succ b => cases e
  · cases b with
    | zero => cases e
    | succ b => cases e
  · cases b with
    | zero => exact m2.t0.var 0 hb rfl
    | succ b => exact absurd hb (by simp)
  · unfold rowsOf at hr
    cases b with
    | zero => cases hr
    | succ b => cases hr
end
end Go.Rx

/- Bodies that write an answer over. -/
set_option linter.unusedVariables false
set_option linter.unusedSimpArgs false
namespace Go.Rx
open Go.RowKit
section
variable {P : Program} {T : Tab} {C : Ctx} {G : Gh} {w : World}
/-- Blocks that nobody looks at any more. -/
theorem Mem.spent {hh : Nat → Option (Nat × List Value)} (h : Mem C G [.reg hh] w) : Mem C G [.dead] w := by
  have hal : ∀ b, ¬ Alive [.dead] b := fun b ha => by
    cases b with
    | zero => exact ha
    | succ b => exact ha
  have hp : ∀ b h0, hpOf G [.dead] b ≠ some h0 := fun b h0 e => by
    unfold hpOf at e
    cases b with
    | zero => cases e
    | succ b => cases e
  have hr : ∀ b, rowsOf [.dead] b = rowsOf [.reg hh] b := fun b => by
    cases b with
    | zero => rfl
    | succ b => rfl
  refine ⟨fun b B hb => ?_, h.inj, fun g o b hs ha => absurd ha (hal b), h.slt, h.mlt, h.new, h.s0, h.snew, h.fnew, h.fty, fun g e b hf ha => absurd ha (hal b), h.os, h.tape, h.output, h.size, h.block, ⟨fun b h0 g x e => absurd e (hp b h0), fun b h0 g x e => absurd e (hp b h0), fun b b2 h0 h2 g x x2 e => absurd e (hp b h0)⟩, h.mle,
    ⟨h.t0.S, h.t0.F, h.t0.cell, fun b hb e => ?_, h.t0.len, fun b hb e => by rw [hr]; exact h.t0.var b hb e, fun b sz rows e => by rw [hr]; exact h.t0.row b sz rows e⟩⟩
  · cases b with
    | zero => cases hb; trivial
    | succ b => cases hb
  · cases b with
    | zero => cases e
    | succ b => cases e
/-- Behind the body the answer's blocks are still there, whatever they hold. -/
def RetD : Post
  | .ret, _, bk => ∃ hh, bk[0]? = some (.reg hh)
  | .normal, _, bk => ∃ hh, bk[0]? = some (.reg hh)
  | _, _, _ => False
theorem ConG.ofD {f : FuncId} {fn : Func} {c : Code} {B0 : List Blk} {args : List AV} (hT : TabOK P T) (hf : P.funcs[f]? = some fn) (hb : fn.body = some c) (hn : fnOK P f = true) (hres : fn.results.toList = []) (hone : B0.length = 1)
    (hsz : Nat.ble args.length fn.ntmps = true)
    (h : AW P ⟨fn.ntmps, B0.length⟩ c RetD (mkS (args.zipIdx.map fun p => (p.2, p.1))) B0) : ConG P f B0 args (.tup []) [.dead] := by
  refine ⟨hn, fun w G0 us ⟨hm0, hgl⟩ hargs => ?_⟩
  refine calls_of_wp hf hb ?_
  have hlen := hargs.length
  have hsz' := Nat.le_of_ble_eq_true hsz
  have hrel : Rel ⟨w, G0, B0, fn.ntmps⟩ G0 (mkS (args.zipIdx.map fun p => (p.2, p.1))) B0 { tmps := us.toArray ++ Array.replicate (fn.ntmps - us.toArray.size) undef, defers := [] } w := by
    refine ⟨?_, rfl, fun t => ?_, ⟨hm0.blk, hm0.inj, hm0.sdis, hm0.slt, hm0.mlt, hm0.new, hm0.s0, hm0.snew, hm0.fnew, hm0.fty, hm0.fdis, hm0.os, hm0.tape, hm0.output, hm0.size, hm0.block, ⟨hm0.regs.own, hm0.regs.dis, hm0.regs.inj⟩, hm0.mle, hm0.t0⟩⟩
    · simp; omega
    · have hmk : mkS (args.zipIdx.map fun p => (p.2, p.1)) t = (args[t]?).getD .un := by
        unfold mkS
        have gen : ∀ (l : List AV) (k : Nat), ((l.zipIdx k).map fun p => (p.2, p.1)).lookup t = if t < k then none else l[t - k]? := fun l => by
          induction l with
          | nil => intro k; simp
          | cons x l ih =>
            intro k
            rw [List.zipIdx_cons, List.map_cons, List.lookup]
            by_cases e : t = k
            · subst e; simp
            · have hb : (t == k) = false := by simpa using e
              rw [hb, ih (k + 1)]
              by_cases hlt : t < k
              · rw [if_pos (by omega), if_pos hlt]
              · rw [if_neg (by omega), if_neg hlt]
                have : t - k = (t - (k + 1)) + 1 := by omega
                rw [this]; simp
        have := gen args 0
        simp at this
        simp [this]
      rw [hmk]
      rcases Nat.lt_or_ge t args.length with hl | hl
      · obtain ⟨v, hv, hrv⟩ := hargs.get (List.getElem?_eq_getElem hl)
        rw [List.getElem?_eq_getElem hl, Option.getD_some]
        have e1 : (us.toArray ++ Array.replicate (fn.ntmps - us.toArray.size) undef).getD t undef = v := by
          simp [Array.getElem?_append_left (show t < us.toArray.size by simp; omega), hv]
        rw [e1]
        exact hrv
      · rw [List.getElem?_eq_none hl]
        trivial
  refine wp_mono (h.out ⟨w, G0, B0, fn.ntmps⟩ _ _ w ⟨rfl, rfl, hgl⟩ hrel) fun e a' w' ⟨G', sl', bk', hq, hr'⟩ => ?_
  have fin : (∃ hh, bk'[0]? = some (.reg hh)) →
      a'.defers = [] ∧ ∃ v, (results fn a'.tmps).run P w' = .ok v w' ∧ ∃ u G'', Ending.returned v = .returned u ∧ RepA G'' [.dead] w' (.tup []) u ∧ Mem ⟨w, G0, B0, 0⟩ G'' [.dead] w' := fun ⟨hh, hb⟩ => by
    have hB : pickB [0] bk' [0] = some [.reg hh] := by simp [pickB, hb, renB]
    obtain ⟨m2, _⟩ := hr'.mem.sel (idx := [0]) (by simp) hB (show B0.length ≤ 1 by omega) (by
      show heads 0 ([0].take B0.length) = true
      rw [hone]; rfl)
    refine ⟨hr'.dfr, .tuple #[], ?_, _, G'.pick [0], rfl, ⟨[], rfl, trivial⟩, ?_⟩
    · unfold results
      rw [Sem.run_bind, Array.mapM_eq_mapM_toList, Sem.run_map, hres]
      rfl
    · have m3 : Mem ⟨w, G0, B0, 0⟩ (G'.pick [0]) [.reg hh] w' := ⟨m2.blk, m2.inj, m2.sdis, m2.slt, m2.mlt, m2.new, m2.s0, m2.snew, m2.fnew, m2.fty, m2.fdis, m2.os, m2.tape, m2.output, m2.size, m2.block, ⟨m2.regs.own, m2.regs.dis, m2.regs.inj⟩, m2.mle, m2.t0⟩
      exact m3.spent
  cases e with
  | normal => exact fin hq
  | ret => exact fin hq
  | _ => exact hq.elim

/-- The first rows of a slice's block overwritten, each by the same row. -/
def fillR (h : Nat → Option (Nat × List Value)) (v : Value) (row : List Value) : Nat → Option (Nat × List Value) :=
  match v with
  | .slice (some ⟨g, _, _⟩) n _ => (match h g with | some (e, cur) => regSet h g e (((List.replicate n row).flatten ++ cur.drop (n * row.length)).take cur.length) | none => h)
  | _ => h
/-- The same blocks, of the same types and lengths. -/
def Same (h h' : Nat → Option (Nat × List Value)) : Prop := ∀ g, (h g).map (fun x => (x.1, x.2.length)) = (h' g).map fun x => (x.1, x.2.length)
theorem Same.refl (h : Nat → Option (Nat × List Value)) : Same h h := fun _ => rfl
theorem Same.trans {h h' h2 : Nat → Option (Nat × List Value)} (a : Same h h') (b : Same h' h2) : Same h h2 := fun g => (a g).trans (b g)
theorem Same.get {h h' : Nat → Option (Nat × List Value)} (a : Same h h') {g e : Nat} {cur : List Value} (hg : h g = some (e, cur)) : ∃ cur', h' g = some (e, cur') ∧ cur'.length = cur.length := by
  have := a g
  rw [hg] at this
  cases hq : h' g with
  | none => rw [hq] at this; cases this
  | some x =>
    obtain ⟨e', cur'⟩ := x
    rw [hq] at this
    simp only [Option.map_some, Option.some.injEq, Prod.mk.injEq] at this
    exact ⟨cur', by rw [this.1], this.2.symm⟩
theorem same_set {h : Nat → Option (Nat × List Value)} {g e : Nat} {cur cur' : List Value} (hg : h g = some (e, cur)) (hl : cur'.length = cur.length) : Same h (regSet h g e cur') := fun k => by
  by_cases q : k = g
  · subst q; rw [hg, regSet_at]; simp [hl]
  · rw [regSet_ne q]
end
end Go.Rx

/- Slices in an answer's blocks, where these are written over. -/
set_option linter.unusedVariables false
set_option linter.unusedSimpArgs false
namespace Go.Rx
open Go.RowKit

/-- A slice of rows of sz cells in a block of type e, or an empty one. -/
def SlH (h : Nat → Option (Nat × List Value)) (e sz : Nat) (v : Value) : Prop :=
  v = .slice none 0 0 ∨ (∃ a cap, v = .slice (some a) 0 cap) ∨ ∃ g n cap cur, v = .slice (some ⟨g, 0, none⟩) n cap ∧ (0 < n ∧ n ≤ 9223372036854775806) ∧ h g = some (e, cur) ∧ n * sz ≤ cur.length
theorem SlH.same {h h' : Nat → Option (Nat × List Value)} (a : Same h h') {e sz : Nat} {v : Value} (k : SlH h e sz v) : SlH h' e sz v := by
  rcases k with rfl | ⟨x, cap, rfl⟩ | ⟨g, n, cap, cur, rfl, hn, hg, hl⟩
  · exact .inl rfl
  · exact .inr (.inl ⟨x, cap, rfl⟩)
  · obtain ⟨cur', h1, h2⟩ := a.get hg
    exact .inr (.inr ⟨g, n, cap, cur', rfl, hn, h1, by omega⟩)
theorem SlH.of {h : Nat → Option (Nat × List Value)} {e sz : Nat} {rows : List (List PV)} {v : Value} (hs : 0 < sz) (hb : rows.length ≤ 9223372036854775806) (k : RepH h (.fs e sz rows) v) : SlH h e sz v := by
  cases k with
  | fnil => exact .inl rfl
  | femp _ _ a cap => exact .inr (.inl ⟨a, cap, rfl⟩)
  | fs _ _ g cap _ cur vs hu hg hm hr =>
    rcases Nat.eq_zero_or_pos rows.length with h0 | h0
    · rw [h0]; exact .inr (.inl ⟨_, cap, rfl⟩)
    refine .inr (.inr ⟨g, rows.length, cap, cur, rfl, ⟨h0, hb⟩, hg, ?_⟩)
    have hj : rows[rows.length - 1]? = some (rows[rows.length - 1]'(by omega)) := List.getElem?_eq_getElem (by omega)
    have hrl := hu _ (List.mem_of_getElem? hj)
    have hc := hm _ _ (sz - 1) _ hj (List.getElem?_eq_getElem (by omega))
    have hlt := (List.getElem?_eq_some_iff.1 hc).1
    have e1 : rows.length * sz = (rows.length - 1) * sz + sz := by
      rw [← Nat.succ_mul]; congr 1; omega
    omega
/-- One row of such a slice's block, as its values say. -/
theorem RepH.rows {h : Nat → Option (Nat × List Value)} {e sz : Nat} {rows : List (List PV)} {v : Value} (k : RepH h (.fs e sz rows) v) (h0 : 0 < rows.length) :
    ∃ g cap cur, v = .slice (some ⟨g, 0, none⟩) rows.length cap ∧ h g = some (e, cur) ∧ (∀ r ∈ rows, r.length = sz) ∧ ∀ (j : Nat) (r : List PV), rows[j]? = some r → ∃ us : List Value, us.length = sz ∧ (cur.drop (j * sz)).take sz = us ∧ ∀ (c : Nat) (p : PV) (u : Value), r[c]? = some p → us[c]? = some u → RepH h p u := by
  cases k with
  | fnil => simp at h0
  | femp => simp at h0
  | fs _ _ g cap _ cur vs hu hg hm hr =>
    refine ⟨g, cap, cur, rfl, hg, hu, fun j r hj => ?_⟩
    have hrl := hu _ (List.mem_of_getElem? hj)
    have hget : ∀ c, c < sz → cur[j * sz + c]? = some (vs j c) := fun c hc => hm j r c (r[c]'(by omega)) hj (List.getElem?_eq_getElem (by omega))
    refine ⟨_, ?_, rfl, fun c p u hp hu' => ?_⟩
    · rcases Nat.eq_zero_or_pos sz with hz | hz
      · subst hz; simp
      have := (List.getElem?_eq_some_iff.1 (hget (sz - 1) (by omega))).1
      simp; omega
    · have hc : c < sz := by have := (List.getElem?_eq_some_iff.1 hp).1; omega
      rw [List.getElem?_take_of_lt hc, List.getElem?_drop, hget c hc] at hu'
      cases hu'
      exact hr j r c p hj hp
theorem fillR_same (h : Nat → Option (Nat × List Value)) (v : Value) (row : List Value) : Same h (fillR h v row) := by
  unfold fillR
  split
  · rename_i g _ _ n cap
    cases hg : h g with
    | none => exact Same.refl h
    | some x =>
      obtain ⟨e, cur⟩ := x
      refine same_set hg ?_
      simp only [List.length_take, List.length_append, List.length_drop, List.length_flatten, List.map_replicate, List.sum_replicate_nat]
      omega
  · exact Same.refl h
theorem fillR_zero {h : Nat → Option (Nat × List Value)} (a : Addr) (cap : Nat) (row : List Value) (g : Nat) : fillR h (.slice (some a) 0 cap) row g = h g := by
  obtain ⟨g1, o, x⟩ := a
  unfold fillR
  simp only
  cases hg : h g1 with
  | none => rfl
  | some x =>
    obtain ⟨e, cur⟩ := x
    by_cases q : g = g1
    · subst q
      simp [regSet_at, hg]
    · simp [regSet_ne q]
/-- Blocks of another type stay as they are. -/
theorem fillR_ne {h : Nat → Option (Nat × List Value)} {e sz : Nat} {v : Value} (k : SlH h e sz v) {g e' : Nat} {cur : List Value} (row : List Value) (hg : h g = some (e', cur)) (hne : e' ≠ e) : fillR h v row g = h g := by
  rcases k with rfl | ⟨x, cap, rfl⟩ | ⟨g1, n, cap, cur1, rfl, hn, hg1, hl⟩
  · rfl
  · exact fillR_zero x cap row g
  · unfold fillR
    simp only [hg1]
    rw [regSet_ne]
    intro q
    subst q
    rw [hg] at hg1
    cases hg1
    exact hne rfl
end Go.Rx

/- Rows that hold slices, in an answer's blocks, where these are written over. -/
set_option linter.unusedVariables false
set_option linter.unusedSimpArgs false
namespace Go.Rx
open Go.RowKit
abbrev Hp : Type := Nat → Option (Nat × List Value)

/-- The first rows overwritten. -/
def filR (row cur : List Value) (k : Nat) : List Value := (List.replicate k row).flatten ++ cur.drop (k * row.length)
theorem filR_zero (row cur : List Value) : filR row cur 0 = cur := by simp [filR]
theorem flat_len (row : List Value) (k : Nat) : ((List.replicate k row).flatten).length = k * row.length := by
  simp [List.length_flatten, List.map_replicate, List.sum_replicate_nat]
theorem filR_len {row cur : List Value} {k : Nat} (h : k * row.length ≤ cur.length) : (filR row cur k).length = cur.length := by
  unfold filR
  rw [List.length_append, flat_len, List.length_drop]
  omega
theorem filR_succ {row cur : List Value} {k : Nat} : splice (filR row cur k) (k * row.length) row = filR row cur (k + 1) := by
  have h1 : (filR row cur k).take (k * row.length) = (List.replicate k row).flatten := by
    unfold filR
    rw [List.take_append_of_le_length (by rw [flat_len]; exact Nat.le_refl _)]
    exact List.take_of_length_le (by rw [flat_len]; exact Nat.le_refl _)
  have h2 : (filR row cur k).drop (k * row.length + row.length) = cur.drop ((k + 1) * row.length) := by
    unfold filR
    rw [List.drop_append, flat_len, List.drop_of_length_le (by rw [flat_len]; omega), List.nil_append, List.drop_drop]
    congr 1
    rw [Nat.succ_mul]; omega
  unfold splice
  rw [h1, h2]
  unfold filR
  rw [List.replicate_succ', List.flatten_append, List.flatten_cons, List.flatten_nil, List.append_nil, List.append_assoc]
theorem fillR_eq {h : Hp} {g e o n cap : Nat} {x : Option Nat} {cur row : List Value} (hg : h g = some (e, cur)) (hl : n * row.length ≤ cur.length) : fillR h (.slice (some ⟨g, o, x⟩) n cap) row = regSet h g e (filR row cur n) := by
  unfold fillR
  simp only [hg]
  have : ((List.replicate n row).flatten ++ cur.drop (n * row.length)) = filR row cur n := rfl
  rw [this, List.take_of_length_le (by rw [filR_len hl]; exact Nat.le_refl _)]
theorem fillR_emp (h : Hp) (a : Addr) (cap : Nat) (row : List Value) : fillR h (.slice (some a) 0 cap) row = h := funext fun g => fillR_zero a cap row g
theorem regSet_self {h : Hp} {g e : Nat} {cur : List Value} (hg : h g = some (e, cur)) : regSet h g e cur = h := funext fun k => by
  by_cases q : k = g
  · subst q; rw [regSet_at, hg]
  · rw [regSet_ne q]
theorem regSet_twice (h : Hp) (g e : Nat) (c1 c2 : List Value) : regSet (regSet h g e c1) g e c2 = regSet h g e c2 := funext fun k => by
  by_cases q : k = g
  · subst q; rw [regSet_at, regSet_at]
  · rw [regSet_ne q, regSet_ne q, regSet_ne q]

/-- A row of an answer: its cells are of one cell each; those of q are slices in the answer's blocks. -/
structure RowH (h : Hp) (q : List (Nat × Nat × Nat)) (sz : Nat) (us : List Value) : Prop where
  len : us.length = sz
  one : ∀ u ∈ us, u.oneCell' = true
  sub : ∀ t ∈ q, ∃ v, us[t.1]? = some v ∧ SlH h t.2.1 t.2.2 v
theorem RowH.same {h h' : Hp} (a : Same h h') {q : List (Nat × Nat × Nat)} {sz : Nat} {us : List Value} (k : RowH h q sz us) : RowH h' q sz us :=
  ⟨k.len, k.one, fun t ht => (k.sub t ht).imp fun v hv => ⟨hv.1, hv.2.same a⟩⟩
/-- A slice of such rows. -/
def RowsH (h : Hp) (e sz : Nat) (q : List (Nat × Nat × Nat)) (v : Value) : Prop :=
  v = .slice none 0 0 ∨ (∃ a cap, v = .slice (some a) 0 cap) ∨ ∃ g n cap cur, v = .slice (some ⟨g, 0, none⟩) n cap ∧ (0 < n ∧ n ≤ 9223372036854775806) ∧ h g = some (e, cur) ∧ n * sz ≤ cur.length ∧ ∀ j, j < n → RowH h q sz ((cur.drop (j * sz)).take sz)
/-- What a list of leaves says of such a row. -/
def RowP (q : List (Nat × Nat × Nat)) (r : List PV) : Prop := ∀ t ∈ q, 0 < t.2.2 ∧ ∃ rs, r[t.1]? = some (.fs t.2.1 t.2.2 rs) ∧ rs.length ≤ 9223372036854775806
theorem RowH.of {h : Hp} {q : List (Nat × Nat × Nat)} {sz : Nat} {r : List PV} {us : List Value} (hq : RowP q r) (hl : us.length = sz) (hr : r.length = sz) (k : ∀ (c : Nat) (p : PV) (u : Value), r[c]? = some p → us[c]? = some u → RepH h p u) : RowH h q sz us := by
  refine ⟨hl, fun u hu => ?_, fun t ht => ?_⟩
  · obtain ⟨c, hc⟩ := List.getElem?_of_mem hu
    have hcl := (List.getElem?_eq_some_iff.1 hc).1
    exact (k c _ u (List.getElem?_eq_getElem (by omega : c < r.length)) hc).one
  · obtain ⟨h0, rs, hrs, hb⟩ := hq t ht
    have hcl := (List.getElem?_eq_some_iff.1 hrs).1
    exact ⟨us[t.1]'(by omega), List.getElem?_eq_getElem (by omega), SlH.of h0 hb (k t.1 _ _ hrs (List.getElem?_eq_getElem (by omega)))⟩
theorem RowsH.of {h : Hp} {e sz : Nat} {q : List (Nat × Nat × Nat)} {rows : List (List PV)} {v : Value} (hs : 0 < sz) (hb : rows.length ≤ 9223372036854775806) (hq : ∀ r ∈ rows, RowP q r) (k : RepH h (.fs e sz rows) v) : RowsH h e sz q v := by
  rcases Nat.eq_zero_or_pos rows.length with h0 | h0
  · cases k with
    | fnil => exact .inl rfl
    | femp _ _ a cap => exact .inr (.inl ⟨a, cap, rfl⟩)
    | fs _ _ g cap _ cur vs hu hg hm hr => exact .inr (.inl ⟨⟨g, 0, none⟩, cap, by rw [h0]⟩)
  · have hS := SlH.of hs hb k
    obtain ⟨g, cap, cur, rfl, hg, hu, hrow⟩ := k.rows h0
    have hl : rows.length * sz ≤ cur.length := by
      rcases hS with e1 | ⟨a, c, e1⟩ | ⟨g1, n1, c1, cur1, e1, _, hg1, hl1⟩
      · cases e1
      · simp only [Value.slice.injEq] at e1; omega
      · simp only [Value.slice.injEq, Option.some.injEq, Addr.mk.injEq] at e1
        obtain ⟨⟨rfl, _⟩, rfl, _⟩ := e1
        rw [hg] at hg1
        cases hg1
        exact hl1
    refine .inr (.inr ⟨g, rows.length, cap, cur, rfl, ⟨h0, hb⟩, hg, hl, fun j hj => ?_⟩)
    have hj' := List.getElem?_eq_getElem hj
    obtain ⟨us, h1, h2, h3⟩ := hrow j rows[j] hj'
    rw [h2]
    exact RowH.of (hq _ (List.getElem_mem hj)) h1 (hu _ (List.getElem_mem hj)) h3

theorem renLs_sc (idx : List Nat) : ∀ us : List Value, renLs idx (us.map lsc) = some (us.map lsc)
  | [] => rfl
  | u :: us => by
    rw [List.map_cons, renLs, renLs_sc idx us]
    rfl
theorem renAs_agg (idx : List Nat) (us : List Value) : renAs idx [.agg (us.map lsc)] = some [.agg (us.map lsc)] := by
  simp only [renAs, renA, renLs_sc]
  rfl
/-- The state of a loop that writes over the rows of a slice, each behind what it holds. -/
structure Eaten (h h' : Hp) (g e sz k : Nat) (cur : List Value) : Prop where
  same : Same h h'
  rest : ∃ cur', h' g = some (e, cur') ∧ cur'.length = cur.length ∧ cur'.drop (k * sz) = cur.drop (k * sz)
theorem Eaten.start {h : Hp} {g e sz : Nat} {cur : List Value} (hg : h g = some (e, cur)) : Eaten h h g e sz 0 cur := ⟨Same.refl h, cur, hg, rfl, rfl⟩
theorem Eaten.row {h h' : Hp} {g e sz k : Nat} {cur : List Value} (x : Eaten h h' g e sz k cur) {q : List (Nat × Nat × Nat)} (hr : RowH h q sz ((cur.drop (k * sz)).take sz)) :
    ∃ cur', h' g = some (e, cur') ∧ cur'.length = cur.length ∧ RowH h' q sz ((cur'.drop (k * sz)).take sz) := by
  obtain ⟨cur', h1, h2, h3⟩ := x.rest
  exact ⟨cur', h1, h2, by rw [h3]; exact hr.same x.same⟩
/-- Blocks of other types may turn. -/
theorem Eaten.turn {h h' h2 : Hp} {g e sz k : Nat} {cur : List Value} (x : Eaten h h' g e sz k cur) (hs : Same h' h2) (hg : h2 g = h' g) : Eaten h h2 g e sz k cur := by
  obtain ⟨cur', h1, h2', h3⟩ := x.rest
  exact ⟨x.same.trans hs, cur', by rw [hg]; exact h1, h2', h3⟩
theorem Eaten.next {h h' : Hp} {g e sz k : Nat} {cur cur' row : List Value} (x : Eaten h h' g e sz k cur) (hc : h' g = some (e, cur')) (hr : row.length = sz) (hl : k * sz + sz ≤ cur.length) : Eaten h (regSet h' g e (splice cur' (k * sz) row)) g e sz (k + 1) cur := by
  obtain ⟨cur1, h1, h2, h3⟩ := x.rest
  rw [hc] at h1
  cases h1
  have hlen : (splice cur' (k * sz) row).length = cur'.length := length_splice (by omega)
  refine ⟨x.same.trans (same_set hc hlen), _, regSet_at, by rw [hlen, h2], ?_⟩
  have e1 : (k + 1) * sz = k * sz + sz := Nat.succ_mul k sz
  unfold splice
  rw [e1, hr, List.drop_append, List.length_take, List.drop_of_length_le (by rw [List.length_take]; omega), List.nil_append, List.drop_append, List.drop_of_length_le (by omega), List.nil_append, List.drop_drop]
  have e2 : k * sz + sz + (k * sz + sz - min (k * sz) cur'.length - row.length) = k * sz + sz := by omega
  rw [e2, ← List.drop_drop, h3, List.drop_drop]
end Go.Rx

/- Answers that are written over: steps, sagas. -/
set_option linter.unusedVariables false
set_option linter.unusedSimpArgs false
namespace Go.Proofs.YtnhheglbcphklaaGreat.Rx
open Go.Rx Go.Proofs
abbrev spStep : List Value := [.string ⟨#[115, 112, 111, 105, 108, 116]⟩, .int .i64 0, .string ⟨#[]⟩, .string ⟨#[]⟩, .string ⟨#[]⟩, .int .i64 0]
abbrev spSaga : List Value := [.int .i64 (-9), .string ⟨#[]⟩, .string ⟨#[]⟩, .slice none 0 0, .int .i64 0, .bool false, .bool false, .int .i64 0, .int .i64 0]
theorem spSteps_con (h : Hp) (v : Value) (hv : SlH h 87 6 v) : ConG P 58 [.reg h] [sc v] (.tup []) [.reg (fillR h v spStep)] := by
  rcases hv with rfl | ⟨a, cap, rfl⟩ | ⟨g, n, cap, cur, rfl, hn, hg, hl⟩
  · refine ConG.of T_ok Tryz.func58 rfl (by kernel_rfl) (by kernel_rfl) (aw_of T_ok (by kernel_rfl) ?_)
    conv => whnf
    refine AW.loop (fun _ : Unit => True) (fun _ => [(0, sc (.slice none 0 0)), (2, Go.Rx.I 0)]) (fun _ => [.reg h]) (fun _ => 0) [] ?_ ?_
    · exact ⟨(), trivial, ⟨rfl, rfl, trivial⟩, ⟨[], rfl⟩, rfl, rfl⟩
    intro _ _
    refine aw_of T_ok (by kernel_rfl) ?_
    conv => whnf
    exact ⟨[], [0], [], [], rfl, rfl, rfl, wk_refl _, rfl⟩
  · rw [fillR_emp]
    refine ConG.of T_ok Tryz.func58 rfl (by kernel_rfl) (by kernel_rfl) (aw_of T_ok (by kernel_rfl) ?_)
    conv => whnf
    refine AW.loop (fun _ : Unit => True) (fun _ => [(0, sc (.slice (some a) 0 cap)), (2, Go.Rx.I 0)]) (fun _ => [.reg h]) (fun _ => 0) [] ?_ ?_
    · exact ⟨(), trivial, ⟨rfl, rfl, trivial⟩, ⟨[], rfl⟩, rfl, rfl⟩
    intro _ _
    refine aw_of T_ok (by kernel_rfl) ?_
    conv => whnf
    exact ⟨[], [0], [], [], rfl, rfl, rfl, wk_refl _, rfl⟩
  · rw [fillR_eq hg hl]
    refine ConG.of T_ok Tryz.func58 rfl (by kernel_rfl) (by kernel_rfl) (aw_of T_ok (by kernel_rfl) ?_)
    conv => whnf
    refine AW.loop (fun k : Nat => k ≤ n) (fun k => [(0, sc (.slice (some ⟨g, 0, none⟩) n cap)), (2, Go.Rx.I k)]) (fun k => [.reg (regSet h g 87 (filR spStep cur k))]) (fun k => n - k) [] ?_ ?_
    · exact ⟨0, Nat.zero_le _, ⟨rfl, rfl, trivial⟩, ⟨[], by show [Blk.reg h] = [Blk.reg (regSet h g _ (filR spStep cur 0))]; rw [filR_zero, regSet_self hg]⟩, rfl, rfl⟩
    intro k hk
    refine aw_of T_ok (by kernel_rfl) ?_
    conv => whnf
    split <;> rename_i hlt <;> conv => whnf
    · have hkl : k < n := by have := of_decide_eq_true hlt; omega
      have hl' : k * 6 + 6 ≤ cur.length := by have : (k + 1) * 6 ≤ n * 6 := Nat.mul_le_mul_right 6 hkl; omega
      have hfl : (filR spStep cur k).length = cur.length := filR_len (by show k * 6 ≤ _; omega)
      refine ⟨by omega, by omega, ?_⟩
      conv => whnf
      refine ⟨0, _, 87, filR spStep cur k, spStep, rfl, regSet_at, ⟨by rw [hfl]; show 0 + k * 6 + 6 ≤ _; omega, rfl⟩, rfl, ?_⟩
      conv => whnf
      refine ⟨k + 1, ⟨hkl, by omega⟩, ⟨rfl, congrArg Go.Rx.I (wrapI (by omega)), trivial⟩, ⟨[], ?_⟩, rfl, rfl⟩
      show [Blk.reg (regSet (regSet h g _ (filR spStep cur k)) g _ (splice (filR spStep cur k) (0 + k * 6) spStep))] = _
      rw [regSet_twice, Nat.zero_add]
      have e1 : splice (filR spStep cur k) (k * 6) spStep = filR spStep cur (k + 1) := filR_succ (row := spStep)
      rw [e1]
      rfl
    · have hkl : k = n := by have := of_decide_eq_false hlt; omega
      subst hkl
      exact ⟨[], [0], [], [], rfl, rfl, rfl, wk_refl _, rfl⟩
theorem spSaga_con (h : Hp) (us : List Value) (v : Value) (hl : us.length = 9) (h3 : us[3]? = some v) (hv : SlH h 87 6 v) : ConG P 35 [.reg h] [.agg (us.map lsc)] (.tup []) [.reg (fillR h v spStep)] := by
  have cs := spSteps_con h v hv
  match us, hl with
  | [u0, u1, u2, u3, u4, u5, u6, u7, u8], _ =>
  have e : u3 = v := by simpa using h3
  subst e
  refine ConG.of T_ok Tryz.func35 rfl (by kernel_rfl) (by kernel_rfl) (aw_of T_ok (by kernel_rfl) ?_)
  conv => whnf
  refine ⟨[0], _, _, _, _, _, nodupB_ok rfl, rfl, rfl, wk_refl _, cs, ?_⟩
  conv => whnf
  exact ⟨[], [0], [], [], rfl, rfl, rfl, wk_refl _, rfl⟩
theorem spSagas_con (h : Hp) (v : Value) (hv : RowsH h 54 9 [(3, 87, 6)] v) : ConG P 12 [.reg h] [sc v] (.tup []) [.dead] := by
  rcases hv with rfl | ⟨a, cap, rfl⟩ | ⟨g, n, cap, cur, rfl, hn, hg, hl, hrows⟩
  · refine ConG.ofD T_ok Tryz.func12 rfl (by kernel_rfl) rfl rfl (by kernel_rfl) (aw_of T_ok (by kernel_rfl) ?_)
    conv => whnf
    refine AW.loop (fun _ : Unit => True) (fun _ => [(0, sc (.slice none 0 0)), (2, Go.Rx.I 0)]) (fun _ => [.reg h]) (fun _ => 0) [] ?_ ?_
    · exact ⟨(), trivial, ⟨rfl, rfl, trivial⟩, ⟨[], rfl⟩, rfl, rfl⟩
    intro _ _
    refine aw_of T_ok (by kernel_rfl) ?_
    conv => whnf
    exact ⟨h, rfl⟩
  · refine ConG.ofD T_ok Tryz.func12 rfl (by kernel_rfl) rfl rfl (by kernel_rfl) (aw_of T_ok (by kernel_rfl) ?_)
    conv => whnf
    refine AW.loop (fun _ : Unit => True) (fun _ => [(0, sc (.slice (some a) 0 cap)), (2, Go.Rx.I 0)]) (fun _ => [.reg h]) (fun _ => 0) [] ?_ ?_
    · exact ⟨(), trivial, ⟨rfl, rfl, trivial⟩, ⟨[], rfl⟩, rfl, rfl⟩
    intro _ _
    refine aw_of T_ok (by kernel_rfl) ?_
    conv => whnf
    exact ⟨h, rfl⟩
  · refine ConG.ofD T_ok Tryz.func12 rfl (by kernel_rfl) rfl rfl (by kernel_rfl) (aw_of T_ok (by kernel_rfl) ?_)
    conv => whnf
    refine AW.loop (fun p : Nat × Hp => p.1 ≤ n ∧ Eaten h p.2 g 54 9 p.1 cur) (fun p => [(0, sc (.slice (some ⟨g, 0, none⟩) n cap)), (2, Go.Rx.I p.1)]) (fun p => [.reg p.2]) (fun p => n - p.1) [] ?_ ?_
    · exact ⟨(0, h), ⟨Nat.zero_le _, Eaten.start hg⟩, ⟨rfl, rfl, trivial⟩, ⟨[], rfl⟩, rfl, rfl⟩
    rintro ⟨k, h'⟩ ⟨hk, hx⟩
    simp only at hk hx
    refine aw_of T_ok (by kernel_rfl) ?_
    conv => whnf
    split <;> rename_i hlt <;> conv => whnf
    · have hkl : k < n := by have := of_decide_eq_true hlt; omega
      have hl' : k * 9 + 9 ≤ cur.length := by have : (k + 1) * 9 ≤ n * 9 := Nat.mul_le_mul_right 9 hkl; omega
      obtain ⟨cur', hc, hcl, hrow⟩ := hx.row (hrows k hkl)
      obtain ⟨v3, h3, hs3⟩ := hrow.sub _ (List.mem_singleton.2 rfl)
      have cs := spSaga_con h' _ v3 hrow.len h3 hs3
      have hne : fillR h' v3 spStep g = h' g := fillR_ne hs3 spStep hc (by decide)
      have hx2 := hx.turn (fillR_same h' v3 spStep) hne
      have hc2 : fillR h' v3 spStep g = some (54, cur') := by rw [hne, hc]
      have hx3 := hx2.next (row := spSaga) hc2 rfl hl'
      generalize fillR h' v3 spStep = h2 at cs hc2 hx3
      refine ⟨by omega, by omega, ?_⟩
      conv => whnf
      refine ⟨0, h', 54, cur', rfl, hc, ⟨by rw [hcl]; show 0 + k * 9 + 9 ≤ _; omega, rfl⟩, by rw [Nat.zero_add]; exact hrow.one, ?_⟩
      conv => whnf
      refine ⟨[0], _, _, _, _, _, nodupB_ok rfl, rfl, renAs_agg _ _, wk_refl _, by rw [Nat.zero_add]; exact cs, ?_⟩
      conv => whnf
      refine ⟨by omega, by omega, ?_⟩
      conv => whnf
      refine ⟨0, h2, 54, cur', spSaga, rfl, hc2, ⟨by rw [hcl]; show 0 + k * 9 + 9 ≤ _; omega, rfl⟩, rfl, ?_⟩
      conv => whnf
      exact ⟨(k + 1, regSet h2 g 54 (splice cur' (k * 9) spSaga)), ⟨⟨hkl, hx3⟩, by show n - (k + 1) < n - k; omega⟩, ⟨rfl, congrArg Go.Rx.I (wrapI (by omega)), trivial⟩, ⟨[], by show [Blk.reg (regSet h2 g _ (splice cur' (0 + k * 9) spSaga))] = _; rw [Nat.zero_add]; rfl⟩, rfl, rfl⟩
    · exact ⟨h', rfl⟩
end Go.Proofs.YtnhheglbcphklaaGreat.Rx

/- Sagas of records, whose rows are the answer's own. -/
set_option linter.unusedVariables false
set_option linter.unusedSimpArgs false
namespace Go.Rx
/-- A contract with weaker arguments. -/
theorem Con.wkA {P : Program} {f : FuncId} {args args' : List AV} {r : AV} {nb : List Blk} (h : Con P f args' r nb) (hw : Fa WkA args args') : Con P f args r nb :=
  ⟨h.1, h.2.1, fun w S us hS hSf hargs => h.2.2 w S us hS hSf (wks_rep hw hargs)⟩
theorem Con.wkR {P : Program} {f : FuncId} {args : List AV} {r r' : AV} (h : Con P f args r []) (hw : ∀ (G : Gh) (w : World) (v : Value), RepA G [] w r v → RepA G [] w r' v) : Con P f args r' [] :=
  ⟨h.1, h.2.1, fun w S us hS hSf hargs => (h.2.2 w S us hS hSf hargs).mono fun e w' ⟨u, G', h1, h2, h3⟩ => ⟨u, G', h1, hw _ _ _ h2, h3⟩⟩
end Go.Rx
namespace Go.Proofs.YtnhheglbcphklaaGreat.Rx
open Go.Rx Go.Proofs Go.Proofs.YtnhheglbcphklaaGreat.RxH
abbrev encStF (l : List Step) : PV := .fs 87 6 (l.map Step.enc)
abbrev encSgF (s : Saga) : List PV := [pI s.id, pS s.key, pS s.body, encStF s.steps, pI s.done, pB s.out, pB s.back, pI s.left, pI s.status]
abbrev sagaFA (s : Saga) : AV := .agg [.pv (pI s.id), .pv (pS s.key), .pv (pS s.body), .pv (encStF s.steps), .pv (pI s.done), .pv (pB s.out), .pv (pB s.back), .pv (pI s.left), .pv (pI s.status)]
abbrev sagaFT (s : Saga) : TC := .agg [.pv (pI s.id), .pv (pS s.key), .pv (pS s.body), .pv (encStF s.steps), .pv (pI s.done), .pv (pB s.out), .pv (pB s.back), .pv (pI s.left), .pv (pI s.status)]
abbrev sagaFE (p : Saga × Int) : AV := .tup [sagaFT p.1, .lf (.pv (pI p.2))]
abbrev encSgsF (l : List Saga) : PV := .fs 54 9 (l.map encSgF)
theorem wkStF (l : List Step) : WkP (encStF l) (encSteps l) := wkF _ _ _
theorem wkSgA (s : Saga) : WkA (sagaFA s) (encSaga s) := .inr (.inr ⟨_, _, rfl, rfl, .inl rfl, .inl rfl, .inl rfl, .inr ⟨_, _, rfl, rfl, wkStF _⟩, .inl rfl, .inl rfl, .inl rfl, .inl rfl, .inl rfl, trivial⟩)
theorem wkSgR (s : Saga) : Fa WkP (encSgF s) s.enc := ⟨wkPE _, wkPE _, wkPE _, wkStF _, wkPE _, wkPE _, wkPE _, wkPE _, wkPE _, trivial⟩
theorem wkSgs (l : List Saga) : WkL (.pv (.sl 9 (l.map encSgF))) (.pv (encSagas l)) := wkR (fa_maps wkSgR l)
theorem wkSgsF (l : List Saga) : WkP (encSgsF l) (encSagas l) := wkFS (fa_maps wkSgR l)
theorem cloneF_con (l : List Step) (hl : l.length * 80 ≤ 140737488351232) : Con P 71 [.lf (.pv (encSteps l))] (.lf (.pv (encStF l))) [] := by
  have hm : (l.map Step.enc).length = l.length := List.length_map ..
  refine Con.ofF T_ok Tryz.func71 rfl (by kernel_rfl) (by kernel_rfl) (aw_ofC T_ok 2001 (by kernel_rfl) ?_)
  conv => whnf
  refine AW.seq (AW.nilTest T_ok rfl rfl (by decide) ?_ ?_) fun sl bk h => aw_of T_ok (by kernel_rfl) h
  · intro h0
    conv => whnf
    refine ⟨[.lf (.pv (encStF []))], ⟨.inr (.inl ⟨_, _, rfl, rfl, .inr ⟨_, _, rfl, rfl, wkFn _ 6⟩⟩), trivial⟩, ?_⟩
    rw [show l = [] by simpa using h0]; rfl
  · conv => whnf
    refine ⟨_, .inl rfl, ?_⟩
    conv => whnf
    refine ⟨rfl, by show (0 + (l.map Step.enc).length) * 80 ≤ _; omega, ?_⟩
    conv => whnf
    refine ⟨by simp [chunk], ?_⟩
    exact finA ⟨rfl⟩
theorem ownF_con (s : Saga) (hl : s.steps.length * 80 ≤ 140737488351232) : Con P 73 [encSaga s] (sagaFA s) [] := by
  refine Con.ofF T_ok Tryz.func73 rfl (by kernel_rfl) (by kernel_rfl) (aw_of T_ok (by kernel_rfl) ?_)
  conv => whnf
  refine callU (cloneF_con _ hl) (fun _ => rfl) ?_
  conv => whnf
  exact finA ⟨rfl⟩
theorem nextF_con (s : Saga) (r : Rec) (hl : s.steps.length * 80 ≤ 140737488351232) : Con P 51 [encSaga s, encRec r] (sagaFA (nextS s r)) [] := by
  refine Con.ofF T_ok Tryz.func51 rfl (by kernel_rfl) (by kernel_rfl) (aw_of T_ok (by kernel_rfl) ?_)
  conv => whnf
  refine callU (ownF_con s hl) (fun _ => rfl) ?_
  conv => whnf
  split <;> rename_i k2 <;> conv => whnf
  · rw [nextS, if_pos (show r.kind = 2 by simpa using k2)]
    exact finA ⟨rfl⟩
  rw [nextS, if_neg (show ¬ r.kind = 2 by simpa using k2)]
  split <;> rename_i k3 <;> conv => whnf
  · rw [if_pos (show r.kind = 3 by simpa using k3)]
    exact finA ⟨rfl⟩
  rw [if_neg (show ¬ r.kind = 3 by simpa using k3)]
  split <;> rename_i k4 <;> conv => whnf
  · rw [if_pos (show r.kind = 4 by simpa using k4)]
    exact finA ⟨rfl⟩
  rw [if_neg (show ¬ r.kind = 4 by simpa using k4)]
  split <;> rename_i k5 <;> conv => whnf
  · rw [if_pos (show r.kind = 5 by simpa using k5)]
    exact finA ⟨rfl⟩
  rw [if_neg (show ¬ r.kind = 5 by simpa using k5)]
  exact finA ⟨rfl⟩
theorem finZF {e : Int} {q : Saga × Int} (h : Fin (zS, e) q) : ∃ zs, Fa WkA [.agg [.pv (pI 0), .pv (pS ⟨#[]⟩), .pv (pS ⟨#[]⟩), .pv (.sc (.slice none 0 0)), .pv (pI 0), .pv (pB false), .pv (pB false), .pv (pI 0), .pv (pI 0)], Go.Rx.I e] zs ∧ pack zs = some (sagaFE q) := by
  rw [← h.out]
  exact ⟨[sagaFA zS, Go.Rx.I e], ⟨.inr (.inr ⟨_, _, rfl, rfl, wkE _, wkE _, wkE _, .inr ⟨_, _, rfl, rfl, wkFn _ _⟩, wkE _, wkE _, wkE _, wkE _, wkE _, trivial⟩), .inl rfl, trivial⟩, rfl⟩
theorem beginF_con (r : Rec) (hr : r.Ok) : Con P 49 [encRec r] (sagaFE (beginS r)) [] := by
  refine Con.ofF T_ok Tryz.func49 rfl (by kernel_rfl) (by kernel_rfl) (aw_of T_ok (by kernel_rfl) ?_)
  conv => whnf
  split <;> rename_i h1 <;> conv => whnf
  · exact finZF ⟨by rw [beginS, if_pos (by rw [show (r.kind != 1) = true from h1]; rfl)]⟩
  refine callS (recMay_con r hr) rfl ?_
  conv => whnf
  split <;> rename_i h2 <;> conv => whnf
  · exact finZF ⟨by rw [beginS, if_pos (by rw [show (!(recB r)) = true from h2, Bool.or_true])]⟩
  rw [beginS, if_neg (by rw [show (r.kind != 1) = false from h1, show (!(recB r)) = false from h2]; decide)]
  refine AW.draw T_ok rfl (seqPl 0 12) (by kernel_rfl) (by kernel_rfl) ?_
  conv => whnf
  refine callU (cloneF_con r.steps hr.steps.len) (fun _ => rfl) ?_
  conv => whnf
  exact finA ⟨rfl⟩
abbrev sgBF (l : List Saga) : Blk := .arr 54 9 (l.map encSgF)
set_option maxHeartbeats 1000000 in
theorem stepF_yes (l : List Saga) (r : Rec) (hl : Sgs l) (hr : recB r = true) (hok : r.Ok) (hg : goesB l r = true) :
    ConG P 27 [sgBF l] [.lf (.own 0 l.length), encRec r] (.tup [.lf (.own 0 (stepL l r).length), .lf (.pv (pB true))]) [sgBF (stepL l r)] := by
  have hm : (l.map encSgF).length = l.length := List.length_map ..
  have hlen := hl.len
  have hsm := sg_small hl
  have hid := rec_id hr
  refine ConG.of T_ok Tryz.func27 rfl (by kernel_rfl) (by kernel_rfl) (aw_of T_ok (by kernel_rfl) ?_)
  conv => whnf
  split <;> rename_i k1 <;> conv => whnf
  · have k : r.kind = 1 := by simpa using k1
    obtain ⟨h1, h2⟩ := goes_begin hg k
    refine ⟨hm, ?_⟩
    conv => whnf
    split <;> rename_i k2 <;> conv => whnf
    · exfalso
      have : (r.id != IntKind.i64.wrap ((l.length : Int) + 1)) = true := k2
      rw [wrapI (by omega), h1] at this
      simp at this
    refine ⟨hm, ?_⟩
    conv => whnf
    refine callW (keyed_con l r.key hsm) ⟨.inr (.inl ⟨_, _, rfl, rfl, wkSgs l⟩), .inl rfl, trivial⟩ rfl ?_
    conv => whnf
    split <;> rename_i k3 <;> conv => whnf
    · exact absurd (of_decide_eq_true k3) (key_neg h2)
    have cb := beginF_con r hok
    rw [begin_new hr k] at cb
    refine callU cb (fun _ => rfl) ?_
    conv => whnf
    refine ⟨rfl, _, .inl rfl, ?_⟩
    conv => whnf
    refine ⟨hm, by show (l.length + 1) * 96 ≤ _; omega, ?_⟩
    conv => whnf
    have es : stepL l r = l ++ [newS r] := by rw [stepL, if_pos k]
    rw [es]
    refine ⟨[], [0], [.lf (.own 0 (l.length + 1)), Bl true], [.lf (.own 0 (l.length + 1)), Bl true], rfl, ?_, rfl, wk_refl _, ?_⟩
    · show some [Blk.arr _ 9 (l.map encSgF ++ [_])] = some [Blk.arr _ 9 ((l ++ [newS r]).map encSgF)]
      rw [List.map_append]; rfl
    · rw [List.length_append]; rfl
  · have k : ¬ r.kind = 1 := by simpa using k1
    obtain ⟨s, h1, h2, h3, h4⟩ := goes_on hg k
    have hs := hl.sg _ _ h1
    have hsl := (List.getElem?_eq_some_iff.1 h1).1
    have w1 : IntKind.i64.wrap (r.id - 1) = r.id - 1 := wrapI (by omega)
    have hrow : (l.map encSgF)[(IntKind.i64.wrap (r.id - 1)).toNat]? = some (encSgF s) := by rw [w1, List.getElem?_map, h1]; rfl
    refine AW.draw T_ok rfl (seqPl 0 16) (by kernel_rfl) (by kernel_rfl) ?_
    conv => whnf
    refine ⟨hm, ?_⟩
    conv => whnf
    split <;> rename_i k2 <;> conv => whnf
    · exact absurd (of_decide_eq_true k2) (by omega)
    have hix : 0 ≤ IntKind.i64.wrap (r.id - 1) ∧ IntKind.i64.wrap (r.id - 1) < (l.length : Int) := by rw [w1]; omega
    refine ⟨hm, hix.1, hix.2, ?_⟩
    conv => whnf
    refine ⟨rfl, hm, (encSgF s), hrow, ?_⟩
    conv => whnf
    refine callW (fitsTop_con s r) ⟨wkSgA s, .inl rfl, trivial⟩ rfl ?_
    conv => whnf
    split <;> rename_i k3 <;> conv => whnf
    · exfalso
      rw [show (r.id == s.id && (s.status == 0 && fitsB s r)) = true by simp [h2, h3, h4]] at k3
      cases k3
    refine AW.draw T_ok rfl (seqPl 0 14) (by kernel_rfl) (by kernel_rfl) ?_
    conv => whnf
    refine ⟨hm, hix.1, hix.2, ?_⟩
    conv => whnf
    refine ⟨rfl, hm, (encSgF s), hrow, ?_⟩
    conv => whnf
    refine callP (nextF_con s r hs.ok.steps.len) ⟨wkSgA s, .inl rfl, trivial⟩ (fun _ => rfl) ?_
    conv => whnf
    refine ⟨hm, hix.1, hix.2, ?_⟩
    conv => whnf
    refine ⟨rfl, hm, (encSgF s), hrow, ?_⟩
    conv => whnf
    refine ⟨by decide, ?_⟩
    conv => whnf
    have es : stepL l r = l.set (r.id - 1).toNat (nextS s r) := by rw [stepL, if_neg k, h1]
    rw [es]
    refine ⟨[], [0], [.lf (.own 0 l.length), Bl true], [.lf (.own 0 l.length), Bl true], rfl, ?_, rfl, wk_refl _, ?_⟩
    · show some [Blk.arr _ 9 ((l.map encSgF).set (IntKind.i64.wrap (r.id - 1)).toNat (encSgF (nextS s r)))] = some [Blk.arr _ 9 ((l.set (r.id - 1).toNat (nextS s r)).map encSgF)]
      rw [w1, List.map_set]
    · rw [List.length_set]; rfl
theorem stepF_no (l : List Saga) (r : Rec) (hl : Sgs l) (hr : recB r = true) (hok : r.Ok) (hg : goesB l r = false) :
    ConG P 27 [sgBF l] [.lf (.own 0 l.length), encRec r] (.tup [.lf (.pv (.sc (.slice none 0 0))), .lf (.pv (pB false))]) [sgBF l] := by
  have hm : (l.map encSgF).length = l.length := List.length_map ..
  have hlen := hl.len
  have hsm := sg_small hl
  have hid := rec_id hr
  refine ConG.of T_ok Tryz.func27 rfl (by kernel_rfl) (by kernel_rfl) (aw_of T_ok (by kernel_rfl) ?_)
  conv => whnf
  split <;> rename_i k1 <;> conv => whnf
  · have k : r.kind = 1 := by simpa using k1
    rw [goesB, if_pos k] at hg
    refine ⟨hm, ?_⟩
    conv => whnf
    split <;> rename_i k2 <;> conv => whnf
    · exact ⟨[], [0], _, _, rfl, rfl, rfl, wk_refl _, rfl⟩
    have k2' : r.id = ((l.length + 1 : Nat) : Int) := by
      have : (r.id != IntKind.i64.wrap ((l.length : Int) + 1)) = false := k2
      rw [wrapI (by omega)] at this
      simpa using this
    refine ⟨hm, ?_⟩
    conv => whnf
    refine callW (keyed_con l r.key hsm) ⟨.inr (.inl ⟨_, _, rfl, rfl, wkSgs l⟩), .inl rfl, trivial⟩ rfl ?_
    conv => whnf
    split <;> rename_i k3 <;> conv => whnf
    · exact ⟨[], [0], _, _, rfl, rfl, rfl, wk_refl _, rfl⟩
    exfalso
    have k3' : decide (0 ≤ keyI l r.key) = false := k3
    rw [k2', k3'] at hg
    simp at hg
  · have k : ¬ r.kind = 1 := by simpa using k1
    rw [goesB, if_neg k] at hg
    have w1 : IntKind.i64.wrap (r.id - 1) = r.id - 1 := wrapI (by omega)
    refine AW.draw T_ok rfl (seqPl 0 16) (by kernel_rfl) (by kernel_rfl) ?_
    conv => whnf
    refine ⟨hm, ?_⟩
    conv => whnf
    split <;> rename_i k2 <;> conv => whnf
    · exact ⟨[], [0], _, _, rfl, rfl, rfl, wk_refl _, rfl⟩
    have k2' : r.id ≤ l.length := by have := of_decide_eq_false k2; omega
    have hsl : (r.id - 1).toNat < l.length := by omega
    have h1 := List.getElem?_eq_getElem hsl
    generalize l[(r.id - 1).toNat] = s at h1
    rw [h1] at hg
    simp only at hg
    have hrow : (l.map encSgF)[(IntKind.i64.wrap (r.id - 1)).toNat]? = some (encSgF s) := by rw [w1, List.getElem?_map, h1]; rfl
    have hix : 0 ≤ IntKind.i64.wrap (r.id - 1) ∧ IntKind.i64.wrap (r.id - 1) < (l.length : Int) := by rw [w1]; omega
    refine ⟨hm, hix.1, hix.2, ?_⟩
    conv => whnf
    refine ⟨rfl, hm, (encSgF s), hrow, ?_⟩
    conv => whnf
    have cf := fitsTop_con s r
    rw [hg] at cf
    refine callW cf ⟨wkSgA s, .inl rfl, trivial⟩ rfl ?_
    conv => whnf
    exact ⟨[], [0], _, _, rfl, rfl, rfl, wk_refl _, rfl⟩
set_option maxHeartbeats 1000000 in
theorem ofF_ok (l : List Rec) (x : List Saga) (hl : l.length * 80 ≤ 140737488355328) (hr : ∀ r ∈ l, r.Ok) (ha : l.all recB = true) (hx : foldL [] l = some x) :
    Con P 6 [.lf (.pv (encRecs l))] (.tup [.lf (.own 0 x.length), .lf (.pv (pI 0))]) [sgBF x] := by
  have hm : (l.map Rec.enc).length = l.length := List.length_map ..
  refine ConG.con (ConG.of T_ok Tryz.func6 rfl (by kernel_rfl) (by kernel_rfl) (aw_of T_ok (by kernel_rfl) ?_)) rfl
  conv => whnf
  have cany := anyRec_con l hl hr
  rw [any_all, ha] at cany
  refine callS cany rfl ?_
  conv => whnf
  refine AW.loop (fun p : Nat × List Saga => p.1 ≤ l.length ∧ Sgs p.2 ∧ foldL p.2 (l.drop p.1) = some x) (fun p => [(4, .lf (.own 0 p.2.length)), (5, Bl true), (10, .lf (.pv (encRecs l))), (11, Go.Rx.I l.length), (12, Go.Rx.I p.1)]) (fun p => [sgBF p.2]) (fun p => l.length - p.1) [.slot 4 54 9] ?_ ?_
  · exact ⟨rfl, (0, []), ⟨Nat.zero_le _, sgs_nil, hx⟩, ⟨rfl, rfl, rfl, congrArg (fun n : Nat => Go.Rx.I (n : Int)) hm, rfl, trivial⟩, ⟨[], rfl⟩, rfl, rfl⟩
  rintro ⟨k, y⟩ ⟨hk, hy, hf⟩
  simp only at hk hy hf
  refine aw_of T_ok (by kernel_rfl) ?_
  conv => whnf
  split <;> rename_i hlt <;> conv => whnf
  · have hkl : k < l.length := by simpa using hlt
    have hrow : (l.map Rec.enc)[k]? = some (l[k]).enc := by simp [hkl]
    rw [fold_drop hkl] at hf
    have hrm := List.all_eq_true.1 ha _ (List.getElem_mem hkl)
    have hrk := hr _ (List.getElem_mem hkl)
    generalize l[k] = r at hrow hf hrm hrk
    cases hg : goesB y r with
    | false => rw [hg] at hf; cases hf
    | true =>
    rw [hg, if_pos rfl] at hf
    refine ⟨by omega, r.enc, hrow, ?_⟩
    conv => whnf
    refine ⟨[0], _, _, _, _, _, nodupB_ok rfl, rfl, rfl, wk_refl _, stepF_yes y r hy hrm hrk hg, ?_⟩
    conv => whnf
    exact ⟨(k + 1, stepL y r), ⟨⟨hkl, sgs_step hy hrm hrk hg, hf⟩, by show _ - (k + 1) < _ - k; omega⟩, ⟨rfl, rfl, rfl, rfl, congrArg Go.Rx.I (wrapI (by omega)), trivial⟩, ⟨_, rfl⟩, rfl, rfl⟩
  · have hkl : l.length ≤ k := by simpa using hlt
    rw [fold_end hkl] at hf
    cases hf
    exact ⟨[], [0], _, _, rfl, rfl, rfl, wk_refl _, rfl⟩
theorem ofF_bad (l : List Rec) (hl : l.length * 80 ≤ 140737488355328) (hr : ∀ r ∈ l, r.Ok) (hx : l.all recB = false ∨ (l.all recB = true ∧ foldL [] l = none)) :
    Con P 6 [.lf (.pv (encRecs l))] (noSg (ofP l).2) [] := by
  have hm : (l.map Rec.enc).length = l.length := List.length_map ..
  obtain ⟨e, he⟩ : ∃ e, e = (ofP l).2 := ⟨_, rfl⟩
  rw [← he]
  refine Con.of T_ok Tryz.func6 rfl (by kernel_rfl) (by kernel_rfl) (aw_of T_ok (by kernel_rfl) ?_)
  conv => whnf
  have cany := anyRec_con l hl hr
  rw [any_all] at cany
  refine callS cany rfl ?_
  conv => whnf
  split <;> rename_i h1 <;> conv => whnf
  · have ha : l.all recB = false := by simpa using h1
    rw [ofP, if_neg (by rw [ha]; decide)] at he
    subst he
    exact finA ⟨rfl⟩
  have ha : l.all recB = true := by simpa using h1
  have hx2 : foldL [] l = none := by
    rcases hx with hx | hx
    · rw [ha] at hx; cases hx
    · exact hx.2
  rw [ofP, if_pos ha, hx2] at he
  subst he
  refine AW.loop (fun p : Nat × List Saga => p.1 ≤ l.length ∧ Sgs p.2 ∧ foldL p.2 (l.drop p.1) = none) (fun p => [(4, .lf (.own 0 p.2.length)), (5, Bl true), (10, .lf (.pv (encRecs l))), (11, Go.Rx.I l.length), (12, Go.Rx.I p.1)]) (fun p => [sgBF p.2]) (fun p => l.length - p.1) [.slot 4 54 9] ?_ ?_
  · exact ⟨rfl, (0, []), ⟨Nat.zero_le _, sgs_nil, hx2⟩, ⟨rfl, rfl, rfl, congrArg (fun n : Nat => Go.Rx.I (n : Int)) hm, rfl, trivial⟩, ⟨[], rfl⟩, rfl, rfl⟩
  rintro ⟨k, y⟩ ⟨hk, hy, hf⟩
  simp only at hk hy hf
  refine aw_of T_ok (by kernel_rfl) ?_
  conv => whnf
  split <;> rename_i hlt <;> conv => whnf
  · have hkl : k < l.length := by simpa using hlt
    have hrow : (l.map Rec.enc)[k]? = some (l[k]).enc := by simp [hkl]
    rw [fold_drop hkl] at hf
    have hrm := List.all_eq_true.1 ha _ (List.getElem_mem hkl)
    have hrk := hr _ (List.getElem_mem hkl)
    generalize l[k] = r at hrow hf hrm hrk
    cases hg : goesB y r with
    | true =>
      rw [hg, if_pos rfl] at hf
      refine ⟨by omega, r.enc, hrow, ?_⟩
      conv => whnf
      refine ⟨[0], _, _, _, _, _, nodupB_ok rfl, rfl, rfl, wk_refl _, stepF_yes y r hy hrm hrk hg, ?_⟩
      conv => whnf
      exact ⟨(k + 1, stepL y r), ⟨⟨hkl, sgs_step hy hrm hrk hg, hf⟩, by show _ - (k + 1) < _ - k; omega⟩, ⟨rfl, rfl, rfl, rfl, congrArg Go.Rx.I (wrapI (by omega)), trivial⟩, ⟨_, rfl⟩, rfl, rfl⟩
    | false =>
      refine ⟨by omega, r.enc, hrow, ?_⟩
      conv => whnf
      refine ⟨[0], _, _, _, _, _, nodupB_ok rfl, rfl, rfl, wk_refl _, stepF_no y r hy hrm hrk hg, ?_⟩
      conv => whnf
      exact finA ⟨rfl⟩
  · have hkl : l.length ≤ k := by simpa using hlt
    rw [fold_end hkl] at hf
    cases hf
abbrev sagasFE (p : List Saga × Int) : AV := .tup [.lf (.pv (encSgsF p.1)), .lf (.pv (pI p.2))]
theorem ofF_con (l : List Rec) (hl : l.length * 80 ≤ 140737488355328) (hr : ∀ r ∈ l, r.Ok) : Con P 6 [.lf (.pv (encRecs l))] (sagasFE (ofP l)) [] := by
  cases ha : l.all recB with
  | false =>
    have e : ofP l = ([], 1) := by rw [ofP, if_neg (by rw [ha]; decide)]
    have h := ofF_bad l hl hr (.inl ha)
    rw [e] at h ⊢
    exact Con.staysF h (by decide) ⟨[.lf (.pv (encSgsF [])), Go.Rx.I 1], ⟨.inr (.inl ⟨_, _, rfl, rfl, .inr ⟨_, _, rfl, rfl, wkFn _ 9⟩⟩), .inl rfl, trivial⟩, rfl⟩
  | true =>
    cases hx : foldL [] l with
    | none =>
      have e : ofP l = ([], 10) := by rw [ofP, if_pos ha, hx]
      have h := ofF_bad l hl hr (.inr ⟨ha, hx⟩)
      rw [e] at h ⊢
      exact Con.staysF h (by decide) ⟨[.lf (.pv (encSgsF [])), Go.Rx.I 10], ⟨.inr (.inl ⟨_, _, rfl, rfl, .inr ⟨_, _, rfl, rfl, wkFn _ 9⟩⟩), .inl rfl, trivial⟩, rfl⟩
    | some x =>
      have e : ofP l = (x, 0) := by rw [ofP, if_pos ha, hx]
      have h := ofF_ok l x hl hr ha hx
      rw [e]
      exact Con.staysF h (Nat.le_refl 2) ⟨List.length_map .., [.lf (.pv (encSgsF x)), Go.Rx.I 0], wk_refl _, rfl⟩
/-! ### What stands by itself -/
theorem frSteps (l : List Step) : FrP (encStF l) := FrP.fs fun r hr p hp => by
  obtain ⟨s, _, rfl⟩ := List.mem_map.1 hr
  simp only [Step.enc, List.mem_cons, List.not_mem_nil, or_false] at hp
  rcases hp with rfl | rfl | rfl | rfl | rfl | rfl <;> exact FrP.sc _
theorem frSaga (s : Saga) : ∀ p ∈ encSgF s, FrP p := fun p hp => by
  simp only [encSgF, List.mem_cons, List.not_mem_nil, or_false] at hp
  rcases hp with rfl | rfl | rfl | rfl | rfl | rfl | rfl | rfl | rfl <;> first | exact FrP.sc _ | exact frSteps _
theorem frSagas (l : List Saga) : FrP (encSgsF l) := FrP.fs fun r hr p hp => by
  obtain ⟨s, _, rfl⟩ := List.mem_map.1 hr
  exact frSaga s p hp
theorem noSteps (l : List Step) : NoP (encSteps l) := NoP.sl fun r hr p hp => by
  obtain ⟨s, _, rfl⟩ := List.mem_map.1 hr
  simp only [Step.enc, List.mem_cons, List.not_mem_nil, or_false] at hp
  rcases hp with rfl | rfl | rfl | rfl | rfl | rfl <;> exact NoP.sc _
theorem noRecs (l : List Rec) : NoP (encRecs l) := NoP.sl fun r hr p hp => by
  obtain ⟨s, _, rfl⟩ := List.mem_map.1 hr
  simp only [Rec.enc, List.mem_cons, List.not_mem_nil, or_false] at hp
  rcases hp with rfl | rfl | rfl | rfl | rfl | rfl <;> first | exact NoP.sc _ | exact noSteps _
theorem noSagas (l : List Saga) : NoP (encSagas l) := NoP.sl fun r hr p hp => by
  obtain ⟨s, _, rfl⟩ := List.mem_map.1 hr
  simp only [Saga.enc, List.mem_cons, List.not_mem_nil, or_false] at hp
  rcases hp with rfl | rfl | rfl | rfl | rfl | rfl | rfl | rfl | rfl <;> first | exact NoP.sc _ | exact noSteps _
theorem spoilSagas_con (l : List Saga) (hl : l.length * 96 ≤ 140737488351232) (hs : ∀ s ∈ l, s.steps.length * 80 ≤ 140737488351232) : ConG P 12 [.hp] [.lf (.frs 0 (encSgsF l))] (.tup []) [.dead] := by
  refine ConG.spoil (by kernel_rfl) (fun x hx => ?_) (fun hh cs hm => ?_) rfl
  · simp only [List.mem_cons, List.not_mem_nil, or_false] at hx
    subst hx
    exact .inl ⟨_, rfl⟩
  · match cs, hm with
    | [y], ⟨hy, _⟩ =>
      rcases hy with ⟨l0, l', e1, rfl, hl⟩ | ⟨_, _, e1, _⟩
      · cases e1
        rcases hl with ⟨p, v, e2, rfl, hr⟩ | ⟨v, e2, _⟩
        · cases e2
          refine spSagas_con hh v (RowsH.of (by decide) (by rw [List.length_map]; omega) (fun r hr' => ?_) hr)
          obtain ⟨s, hsm, rfl⟩ := List.mem_map.1 hr'
          intro t ht
          obtain rfl : t = (3, 87, 6) := by simpa using ht
          have := hs s hsm
          exact ⟨by decide, _, rfl, by rw [List.length_map]; omega⟩
        · cases e2
      · cases e1
theorem lookSagas_con (a b : List Saga) (ha : a.length * 96 ≤ 140737488351232) (hs : ∀ s ∈ a, s.steps.length * 80 ≤ 140737488351232) : ConG P 10 [.hp] [.lf (.frs 0 (encSgsF a)), .lf (.pv (encSagas b))] (Bl (decide (a = b))) [.hp] :=
  ConG.look (Con.wkA (eqSagas_con a b ha hs) (args := [.lf (.pv (encSgsF a)), .lf (.pv (encSagas b))]) ⟨.inr (.inl ⟨_, _, rfl, rfl, .inr ⟨_, _, rfl, rfl, wkSgsF a⟩⟩), .inl rfl, trivial⟩) rfl
    ⟨.inl ⟨_, _, rfl, rfl, .inl ⟨_, rfl, rfl⟩⟩, .inl ⟨_, _, rfl, rfl, .inr ⟨_, rfl, rfl, noSagas b⟩⟩, trivial⟩
end Go.Proofs.YtnhheglbcphklaaGreat.Rx

/- Which sagas records tell, and whether sagas may be together: the law; the answer is written over. -/
set_option linter.unusedVariables false
set_option linter.unusedSimpArgs false
namespace Go.Rx
def longGo : Nat → Int → Int
  | 0, n => n
  | k + 1, n => longGo k (if 8 < IntKind.i64.wrap (2 * n) then 8 else IntKind.i64.wrap (2 * n))
def longI (t : Int) : Int := longGo ((if 8 < t then 8 else t) - 1).toNat 1
theorem longI_four {t : Int} (h : 4 ≤ t) : longI t = 8 := by
  unfold longI
  have : t = 4 ∨ t = 5 ∨ t = 6 ∨ t = 7 ∨ 8 ≤ t := by omega
  rcases this with rfl | rfl | rfl | rfl | h8
  · rfl
  · rfl
  · rfl
  · rfl
  · have e : (if 8 < t then (8 : Int) else t) = 8 := by split <;> omega
    rw [e]; rfl
end Go.Rx
namespace Go.Proofs.YtnhheglbcphklaaGreat.Rx
open Go.Rx Go.Proofs Go.Proofs.YtnhheglbcphklaaGreat.RxH
theorem long_con (t : Int) (ht : 0 ≤ t) (ht2 : t ≤ 4611686018427387904) : Con P 39 [Go.Rx.I t] (Go.Rx.I (longI t)) [] := by
  obtain ⟨m, hm⟩ : ∃ m : Int, m = (if 8 < t then 8 else t) - 1 := ⟨_, rfl⟩
  have hm1 : -1 ≤ m ∧ m ≤ 7 := by rw [hm]; split <;> omega
  have hw : IntKind.i64.wrap ((if 8 < t then 8 else t) - 1) = m := by rw [← hm]; exact wrapI (by omega)
  obtain ⟨r, hr⟩ : ∃ r, r = longI t := ⟨_, rfl⟩
  rw [← hr]
  rw [longI, ← hm] at hr
  refine Con.of T_ok Tryz.func39 rfl (by kernel_rfl) (by kernel_rfl) (aw_of T_ok (by kernel_rfl) ?_)
  conv => whnf
  refine AW.loop (fun p : Nat × Int => (p.1 : Int) ≤ (if m < 0 then 0 else m) ∧ longGo (m.toNat - p.1) p.2 = r) (fun p => [(3, Go.Rx.I p.2), (6, Go.Rx.I m), (7, Go.Rx.I p.1)]) (fun _ => []) (fun p => m.toNat - p.1) [] ?_ ?_
  · refine ⟨(0, 1), ⟨by split <;> (try show (0 : Int) ≤ _) <;> omega, hr.symm⟩, ⟨rfl, congrArg Go.Rx.I hw, rfl, trivial⟩, ⟨[], rfl⟩, rfl, rfl⟩
  rintro ⟨k, n⟩ ⟨hk, hpre⟩
  simp only at hk hpre
  refine aw_of T_ok (by kernel_rfl) ?_
  conv => whnf
  split <;> rename_i hlt <;> conv => whnf
  · have hkl : (k : Int) < m := of_decide_eq_true hlt
    have e : m.toNat - k = (m.toNat - (k + 1)) + 1 := by omega
    rw [e, longGo] at hpre
    refine ⟨(k + 1, if 8 < IntKind.i64.wrap (2 * n) then 8 else IntKind.i64.wrap (2 * n)), ⟨⟨?zp, hpre⟩, ?zq⟩, ⟨rfl, rfl, congrArg Go.Rx.I (wrapI (by omega)), trivial⟩, ⟨[], rfl⟩, rfl, rfl⟩
    case zp => show ((k + 1 : Nat) : Int) ≤ _; split <;> omega
    case zq => show m.toNat - (k + 1) < m.toNat - k; omega
  · have hkl : ¬ (k : Int) < m := of_decide_eq_false hlt
    have e : m.toNat - k = 0 := by omega
    rw [e, longGo] at hpre
    exact finI ⟨hpre⟩
theorem idx_ge {α : Type} {p : α → Bool} : ∀ (l : List α) (k : Nat), -1 ≤ idxL p l k
  | [], k => by rw [idxL]; exact Int.le_refl _
  | a :: l, k => by
    rw [idxL]
    split
    · omega
    · exact idx_ge l (k + 1)
theorem sagas9_con (l : List Saga) (hl : l.length * 96 ≤ 140737488351232) (hs : ∀ s ∈ l, s.Ok) : Con P 13 [.lf (.pv (encSagas l))] (Bl (togB l)) [] := by
  have hm : (l.map Saga.enc).length = l.length := List.length_map ..
  refine Con.of T_ok Tryz.func13 rfl (by kernel_rfl) (by kernel_rfl) (aw_of T_ok (by kernel_rfl) ?_)
  conv => whnf
  split <;> rename_i h0 <;> conv => whnf
  · have h0' : ¬ l.length ≤ 20 := by have : ((l.map Saga.enc).length : Int) > 20 := of_decide_eq_true h0
                                     omega
    exact finB ⟨by rw [togB, show decide (l.length ≤ 20) = false from decide_eq_false h0', Bool.and_false]⟩
  have h0' : l.length ≤ 20 := by have : ¬ ((l.map Saga.enc).length : Int) > 20 := of_decide_eq_false h0
                                 omega
  refine AW.loop (fun k : Nat => k ≤ l.length ∧ ∀ j, j < k → togAt l j = true) (fun k => [(0, .lf (.pv (encSagas l))), (3, Go.Rx.I k)]) (fun _ => []) (fun k => l.length - k) [] ?_ ?_
  · exact ⟨0, ⟨Nat.zero_le _, fun j hj => absurd hj (Nat.not_lt_zero _)⟩, ⟨rfl, rfl, trivial⟩, ⟨[], rfl⟩, rfl, rfl⟩
  rintro k ⟨hk, hpre⟩
  refine aw_of T_ok (by kernel_rfl) ?_
  conv => whnf
  split <;> rename_i hlt <;> conv => whnf
  · have hkl : k < l.length := by simpa using hlt
    have hrow : (l.map Saga.enc)[k]? = some (l[k]).enc := by simp [hkl]
    have hat := togAt_eq hkl
    have hsk := hs _ (List.getElem_mem hkl)
    have hid : ∀ (i : Nat) (s : Saga), (l.take k)[i]? = some s → s.id = i + 1 := fun i s hi => by
      have hik : i < k := by have := (List.getElem?_eq_some_iff.1 hi).1; rw [List.length_take] at this; omega
      have h1 := hpre i hik
      rw [List.getElem?_take_of_lt hik] at hi
      unfold togAt at h1
      rw [hi] at h1
      simp only [Bool.and_eq_true, beq_iff_eq] at h1
      rw [h1.2.1]; simp
    generalize l[k] = s at hrow hat hsk
    have no : togAt l k = false → false = togB l := fun h => by rw [togB, tog_no hkl h]; rfl
    refine AW.draw T_ok rfl (listPl [0, 1, 2, 3, 4, 5, 6, 7, 8, 9, 10, 11, 12, 13, 14, 15, 16, 17, 18, 20, 21, 22, 23, 24, 19, 25, 26, 27]) (by kernel_rfl) (by kernel_rfl) ?_
    conv => whnf
    refine ⟨by omega, s.enc, hrow, ?_⟩
    conv => whnf
    refine callS (saga9_con s hsk) rfl ?_
    conv => whnf
    split <;> rename_i h1 <;> conv => whnf
    · exact finB ⟨no (by rw [hat, show sagaB s = false by simpa using h1]; rfl)⟩
    have w1 : IntKind.i64.wrap ((k : Int) + 1) = ((k + 1 : Nat) : Int) := wrapI (by omega)
    refine ⟨by omega, s.enc, hrow, ?_⟩
    conv => whnf
    split <;> rename_i h2 <;> conv => whnf
    · refine finB ⟨no ?_⟩
      have h2' : (s.id != IntKind.i64.wrap ((k : Int) + 1)) = true := h2
      rw [w1] at h2'
      rw [hat, show (s.id == ((k + 1 : Nat) : Int)) = false by simpa using h2']
      simp
    have h2' : (s.id == ((k + 1 : Nat) : Int)) = true := by
      have h2' : (s.id != IntKind.i64.wrap ((k : Int) + 1)) = false := h2
      rw [w1] at h2'
      simpa using h2'
    refine ⟨by omega, s.enc, hrow, ?_⟩
    conv => whnf
    refine ⟨by decide, by omega, by rw [hm]; omega, ?_⟩
    conv => whnf
    have ck := find9_con (l.take k) s.key (by rw [List.length_take]; omega) hid
    rw [show encSagas (l.take k) = .sl 9 ((l.map Saga.enc).take k) by rw [encSagas, List.map_take]] at ck
    refine callS ck rfl ?_
    conv => whnf
    have hkn : -1 ≤ keyI (l.take k) s.key := idx_ge _ _
    split <;> rename_i h3 <;> conv => whnf
    · refine finB ⟨no ?_⟩
      have h3' : keyI (l.take k) s.key + 1 > 0 := of_decide_eq_true h3
      rw [hat, decide_eq_true (show 0 ≤ keyI (l.take k) s.key by omega)]
      simp
    have h3' : ¬ keyI (l.take k) s.key + 1 > 0 := of_decide_eq_false h3
    refine ⟨k + 1, ⟨⟨by omega, fun j hj => ?_⟩, by omega⟩, ⟨rfl, congrArg Go.Rx.I w1, trivial⟩, ⟨[], rfl⟩, rfl, rfl⟩
    rcases Nat.lt_or_ge j k with hjk | hjk
    · exact hpre j hjk
    · obtain rfl : j = k := by omega
      rw [hat, show sagaB s = true by simpa using h1, h2', decide_eq_false (show ¬ 0 ≤ keyI (l.take j) s.key by omega)]
      rfl
  · have hkl : k = l.length := by have : ¬ ((k : Int) < (l.length : Int)) := by simpa using hlt
                                  omega
    refine finB ⟨?_⟩
    rw [togB, tog_yes (fun j hj => hpre j (by omega)), Bool.true_and, decide_eq_true h0']
theorem eqRecs_con (a b : List Rec) (ha : a.length * 80 ≤ 140737488351232) (hs : ∀ r ∈ a, r.steps.length * 80 ≤ 140737488351232) : Con P 11 [.lf (.pv (encRecs a)), .lf (.pv (encRecs b))] (Bl (decide (a = b))) [] := by
  have hma : (a.map Rec.enc).length = a.length := List.length_map ..
  have hmb : (b.map Rec.enc).length = b.length := List.length_map ..
  refine Con.of T_ok Tryz.func11 rfl (by kernel_rfl) (by kernel_rfl) (aw_of T_ok (by kernel_rfl) ?_)
  conv => whnf
  split <;> rename_i h <;> conv => whnf
  · refine retB ?_
    symm
    rw [decide_eq_false_iff_not]
    rintro rfl
    simp at h
  · have hl : a.length = b.length := by simp at h; omega
    refine AW.loop (fun k : Nat => k ≤ a.length ∧ ∀ j, j < k → a[j]? = b[j]?) (fun k => [(0, .lf (.pv (encRecs a))), (1, .lf (.pv (encRecs b))), (5, Go.Rx.I k)]) (fun _ => []) (fun k => a.length - k) [] ?_ ?_
    · exact ⟨0, ⟨Nat.zero_le _, fun j hj => absurd hj (Nat.not_lt_zero _)⟩, ⟨rfl, rfl, rfl, trivial⟩, ⟨[], rfl⟩, rfl, rfl⟩
    · rintro k ⟨hk, hpre⟩
      refine aw_of T_ok (by kernel_rfl) ?_
      conv => whnf
      split <;> rename_i hlt <;> conv => whnf
      · have hka : k < a.length := by simp at hlt; omega
        have hkb : k < b.length := by omega
        have ce := eqRec_con a[k] b[k] (hs _ (List.getElem_mem hka))
        have hra : (a.map Rec.enc)[k]? = some a[k].enc := by simp [hka]
        have hrb : (b.map Rec.enc)[k]? = some b[k].enc := by simp [hkb]
        refine AW.draw T_ok rfl (seqPl 0 10) (by kernel_rfl) (by kernel_rfl) ?_
        conv => whnf
        refine ⟨by omega, _, hra, ?_⟩
        conv => whnf
        refine ⟨by omega, _, hrb, ?_⟩
        conv => whnf
        refine callS ce rfl ?_
        conv => whnf
        split <;> rename_i hne <;> conv => whnf
        · refine retB ?_
          symm
          rw [decide_eq_false_iff_not]
          rintro rfl
          have h2 : (!(decide (a[k] = a[k]))) = true := hne
          simp at h2
        · have he : a[k] = b[k] := by
            have h2 : (!(decide (a[k] = b[k]))) = false := hne
            simpa using h2
          refine ⟨k + 1, ⟨⟨by omega, fun j hj => ?_⟩, by omega⟩, ⟨rfl, rfl, congrArg Go.Rx.I (wrapI (by omega)), trivial⟩, ⟨[], rfl⟩, rfl, rfl⟩
          by_cases e : j = k
          · subst e; rw [List.getElem?_eq_getElem hka, List.getElem?_eq_getElem hkb, he]
          · exact hpre j (by omega)
      · refine retB ?_
        symm
        rw [decide_eq_true_eq]
        have hka : k = a.length := by simp at hlt; omega
        apply List.ext_getElem?
        intro j
        rcases Nat.lt_or_ge j k with hj | hj
        · exact hpre j hj
        · rw [List.getElem?_eq_none (by omega), List.getElem?_eq_none (by omega)]
/-- How long one waits, as the page tells it. -/
theorem wait9_con (t : Int) (h1 : 1 ≤ t) (h2 : t ≤ 1073741824) : Con P 19 [Go.Rx.I t] (Go.Rx.I (longI t)) [] := by
  refine Con.of T_ok Tryz.func19 rfl (by kernel_rfl) (by kernel_rfl) (aw_of T_ok (by kernel_rfl) ?_)
  conv => whnf
  refine AW.loop (fun k : Nat => k ≤ 3 ∧ (k : Int) < t) (fun k => [(0, Go.Rx.I t), (3, Go.Rx.I ((2 ^ k : Nat) : Int)), (4, Go.Rx.I ((k + 1 : Nat) : Int))]) (fun _ => []) (fun k => 3 - k) [] ?_ ?_
  · exact ⟨0, ⟨by omega, by show (0 : Int) < t; omega⟩, ⟨rfl, rfl, rfl, trivial⟩, ⟨[], rfl⟩, rfl, rfl⟩
  rintro k ⟨hk, hkt⟩
  have fin : ∀ n : Int, n = longI t → (∃ zs, Fa WkA [Go.Rx.I (if 8 < n then 8 else n)] zs ∧ pack zs = some (Go.Rx.I (longI t))) := fun n hn => by
    refine finI ⟨?_⟩
    rw [hn]
    have : longI t ≤ 8 := by
      rcases (show t = 1 ∨ t = 2 ∨ t = 3 ∨ 4 ≤ t by omega) with rfl | rfl | rfl | h4
      · decide
      · decide
      · decide
      · rw [longI_four h4]; decide
    rw [if_neg (by omega)]
  have hk4 : k = 0 ∨ k = 1 ∨ k = 2 ∨ k = 3 := by omega
  refine aw_of T_ok (by kernel_rfl) ?_
  conv => whnf
  split <;> rename_i hlt <;> conv => whnf
  · have hlt' : ((k + 1 : Nat) : Int) < t := of_decide_eq_true hlt
    rcases hk4 with rfl | rfl | rfl | rfl
    · conv => whnf
      exact ⟨1, ⟨⟨by omega, hlt'⟩, by omega⟩, ⟨rfl, rfl, rfl, trivial⟩, ⟨[], rfl⟩, rfl, rfl⟩
    · conv => whnf
      exact ⟨2, ⟨⟨by omega, hlt'⟩, by omega⟩, ⟨rfl, rfl, rfl, trivial⟩, ⟨[], rfl⟩, rfl, rfl⟩
    · conv => whnf
      exact ⟨3, ⟨⟨by omega, hlt'⟩, by omega⟩, ⟨rfl, rfl, rfl, trivial⟩, ⟨[], rfl⟩, rfl, rfl⟩
    · conv => whnf
      exact fin 8 (longI_four (by omega)).symm
  · have hlt' : ¬ ((k + 1 : Nat) : Int) < t := of_decide_eq_false hlt
    have ht : t = ((k + 1 : Nat) : Int) := by omega
    rcases hk4 with rfl | rfl | rfl | rfl
    · exact fin 1 (by rw [ht]; decide)
    · exact fin 2 (by rw [ht]; decide)
    · exact fin 4 (by rw [ht]; decide)
    · exact fin 8 (by rw [ht]; decide)
def waitP (t : Int) : Int × Int := if t < 1 ∨ t > 1073741824 then (0, 1) else (longI t, 0)
theorem waitT_con (t : Int) : Con P 17 [Go.Rx.I t] (numE (waitP t)) [] := by
  obtain ⟨q, hq⟩ : ∃ q, q = waitP t := ⟨_, rfl⟩
  rw [← hq]
  unfold waitP at hq
  refine Con.of T_ok Tryz.func17 rfl (by kernel_rfl) (by kernel_rfl) (aw_of T_ok (by kernel_rfl) ?_)
  conv => whnf
  split <;> rename_i h1 <;> conv => whnf
  · have h1' : t < 1 := of_decide_eq_true h1
    exact finNE ⟨by rw [hq, if_pos (.inl h1')]⟩
  have h1' : ¬ t < 1 := of_decide_eq_false h1
  split <;> rename_i h2 <;> conv => whnf
  · have h2' : t > 1073741824 := of_decide_eq_true h2
    exact finNE ⟨by rw [hq, if_pos (.inr h2')]⟩
  have h2' : ¬ t > 1073741824 := of_decide_eq_false h2
  refine callS (long_con t (by omega) (by omega)) rfl ?_
  conv => whnf
  exact finNE ⟨by rw [hq, if_neg (by omega)]⟩
theorem copyRecsP_con (l : List Rec) (hl : l.length * 80 ≤ 140737488351232) (hr : ∀ r ∈ l, r.Ok) : Con P 5 [.lf (.pv (encRecs l))] (.lf (.pv (encRecs l))) [] :=
  Con.stay1 (copyRecsO_con l hl hr) (fun ts h => by cases h) ⟨List.length_map .., [.lf (.pv (encRecs l))], wk_refl _, rfl⟩
abbrev rowRs (L : List (List Rec)) : List (List PV) := L.map fun l => [encRecs l]
/-- The lists of sagas: none, those given, those told. -/
abbrev rowSs (L : List (List Saga)) : List (List PV) := [.sc (.slice none 0 0)] :: L.map fun l => [encSagas l]
def wantP : Option (List Saga) → PV
  | none => .sc (.slice none 0 0)
  | some x => encSagas x
structure SgOk (l : List Saga) : Prop where
  len : l.length * 96 ≤ 140737488351232
  ok : ∀ s ∈ l, s.Ok
theorem sgs_ok {x : List Saga} (h : Sgs x) : SgOk x := ⟨sg_small h, fun s hs => by
  obtain ⟨j, hj, rfl⟩ := List.mem_iff_getElem.1 hs
  exact (h.sg j _ (List.getElem?_eq_getElem hj)).ok⟩
/-- The list at a place, as what is told of it. -/
def sgAt (L : List (List Saga)) : Nat → List Saga
  | 0 => []
  | i + 1 => (L[i]?).getD []
def sgPV (L : List (List Saga)) : Nat → PV
  | 0 => .sc (.slice none 0 0)
  | i + 1 => encSagas ((L[i]?).getD [])
theorem sgRow {L : List (List Saga)} {i : Nat} (h : i < L.length + 1) : (rowSs L)[i]? = some [sgPV L i] := by
  cases i with
  | zero => rfl
  | succ i =>
    have hi : i < L.length := by omega
    show (L.map fun l => [encSagas l])[i]? = some [encSagas ((L[i]?).getD [])]
    rw [List.getElem?_map, List.getElem?_eq_getElem hi]
    rfl
theorem sgWk (L : List (List Saga)) (i : Nat) : WkL (.pv (sgPV L i)) (.pv (encSagas (sgAt L i))) := by
  cases i with
  | zero => exact wkN 9
  | succ i => exact .inl rfl
theorem sgAt_ok {L : List (List Saga)} (h : ∀ l ∈ L, SgOk l) (i : Nat) : SgOk (sgAt L i) := by
  cases i with
  | zero => exact ⟨by show 0 * 96 ≤ _; decide, fun s hs => by cases hs⟩
  | succ i =>
    show SgOk ((L[i]?).getD [])
    cases hi : L[i]? with
    | none => exact ⟨by show 0 * 96 ≤ _; decide, fun s hs => by cases hs⟩
    | some l => exact h l (List.mem_of_getElem? hi)
def nsL : List Int := [-1, 0, 1, 2, 3, 4, 5, 64, 65, 1073741824, 1073741825]
theorem ofP_cases (l : List Rec) : (l.all recB = false ∧ ofP l = ([], 1)) ∨ (l.all recB = true ∧ foldP l = ([], false) ∧ ofP l = ([], 10)) ∨ ∃ x, l.all recB = true ∧ foldP l = (x, true) ∧ ofP l = (x, 0) := by
  unfold ofP foldP
  cases ha : l.all recB with
  | false => exact .inl ⟨rfl, rfl⟩
  | true =>
    cases hx : foldL [] l with
    | none => exact .inr (.inl ⟨rfl, rfl, rfl⟩)
    | some x => exact .inr (.inr ⟨x, rfl, rfl, rfl⟩)
theorem wantWk (w : Option (List Saga)) : WkL (.pv (wantP w)) (.pv (encSagas (w.getD []))) := by
  cases w with
  | none => exact wkN 9
  | some x => exact .inl rfl
set_option maxHeartbeats 2000000 in
set_option maxRecDepth 100000 in
theorem replayOf_con (R : List Rec) (S : List ByteArray) (N : List Int) (G : List Saga) (L : List (List Rec)) (h : AskOk R S N G) (hL : RowsOk L) : Con P 3 [encAsk15 R S N G L] (Bl true) [] := by
  obtain ⟨hv, hheavy⟩ := heavy15_con R S N G L h hL
  have hlen := hL.len
  obtain ⟨W, hW⟩ : ∃ W, W = R :: L := ⟨_, rfl⟩
  have hWl : W.length = L.length + 1 := by rw [hW]; rfl
  have hWm : (rowRs W).length = W.length := List.length_map ..
  have hWok : ∀ l ∈ W, l.length * 80 ≤ 140737488351232 ∧ ∀ r ∈ l, r.Ok := fun l hl => by
    rw [hW] at hl
    rcases List.mem_cons.1 hl with rfl | hl
    · exact ⟨h.hR, h.hRs⟩
    · exact hL.row l hl
  refine Con.of T_ok Tryz.func3 rfl (by kernel_rfl) (by kernel_rfl) (aw_ofC T_ok 1005 (by kernel_rfl) ?_)
  conv => whnf
  refine callS hheavy rfl ?_
  conv => whnf
  split <;> rename_i hh <;> conv => whnf
  · exact finB ⟨rfl⟩
  refine ⟨_, .inl rfl, ?_⟩
  conv => whnf
  refine ⟨rfl, by show (1 + (L.map fun l => [encRecs l]).length) * 24 ≤ _; rw [List.length_map]; omega, ?_⟩
  conv => whnf
  refine ⟨rfl, _, .inl rfl, ?_⟩
  conv => whnf
  refine ⟨rfl, by show (1 + 1) * 24 ≤ _; omega, ?_⟩
  conv => whnf
  refine AW.cut (fun A : List (List Saga) => (∀ l ∈ A, SgOk l) ∧ A.length ≤ L.length + 2) (fun A => [(4, .lf (.own 2 (A.length + 1)))]) (fun A => [ask15V R S N G L, .arr 22 1 (rowRs W), .arr 29 1 (rowSs A)]) [] ?_ ?_
  · refine aw_of T_ok (by kernel_rfl) ?_
    conv => whnf
    refine AW.loop (fun p : Nat × List (List Saga) => p.1 ≤ W.length ∧ (∀ l ∈ p.2, SgOk l) ∧ p.2.length ≤ p.1 + 1) (fun p => [(1, .lf (.ptr 0 0)), (3, .lf (.own 1 W.length)), (4, .lf (.own 2 (p.2.length + 1))), (5, Go.Rx.I p.1)]) (fun p => [ask15V R S N G L, .arr 22 1 (rowRs W), .arr 29 1 (rowSs p.2)]) (fun p => W.length - p.1) [] ?_ ?_
    · refine ⟨(0, [G]), ⟨Nat.zero_le _, fun l hl => ?_, Nat.le_refl _⟩, ⟨rfl, ?_, rfl, rfl, trivial⟩, ⟨[?yb], ?yc⟩, rfl, rfl⟩
      · obtain rfl : l = G := by simpa using hl
        exact ⟨h.hG, h.hGs⟩
      · show AV.lf (.own 1 (1 + (L.map fun l => [encRecs l]).length)) = _
        rw [hWl, List.length_map, Nat.add_comm]
      case yc => rw [hW]; rfl
    rintro ⟨i, A⟩ ⟨hi, hA, hAl⟩
    simp only at hi hA hAl
    have wi : IntKind.i64.wrap ((i : Int) + 1) = ((i + 1 : Nat) : Int) := wrapI (by omega)
    refine aw_ofC T_ok 1017 (by kernel_rfl) ?_
    conv => whnf
    refine ⟨hWm, ?_⟩
    conv => whnf
    split <;> rename_i hlt <;> conv => whnf
    rotate_left
    · exact ⟨A, ⟨hA, by omega⟩, ⟨rfl, trivial⟩, ⟨[], rfl⟩, rfl, rfl⟩
    have hiW : i < W.length := by have := of_decide_eq_true hlt; omega
    split <;> rename_i h12 <;> conv => whnf
    rotate_left
    · exact ⟨A, ⟨hA, by omega⟩, ⟨rfl, trivial⟩, ⟨[], rfl⟩, rfl, rfl⟩
    have hrow : (rowRs W)[i]? = some [encRecs W[i]] := by unfold rowRs; simp [hiW]
    obtain ⟨hll, hlo⟩ := hWok _ (List.getElem_mem hiW)
    generalize W[i] = l at hrow hll hlo
    have hlm : (l.map Rec.enc).length = l.length := List.length_map ..
    have hsg := of_sgs hlo
    have herr := of_err l
    have hcs := ofP_cases l
    have co := ofF_con l (by omega) hlo
    have cq := lookSagas_con (ofP l).1 (ofP l).1 (sg_small hsg) (fun s hs => by
      obtain ⟨j, hj, rfl⟩ := List.mem_iff_getElem.1 hs
      exact (hsg.sg j _ (List.getElem?_eq_getElem hj)).ok.steps.len)
    rw [decide_eq_true rfl] at cq
    have cs := spoilSagas_con (ofP l).1 (sg_small hsg) (fun s hs => by
      obtain ⟨j, hj, rfl⟩ := List.mem_iff_getElem.1 hs
      exact (hsg.sg j _ (List.getElem?_eq_getElem hj)).ok.steps.len)
    have hxo := sgs_ok hsg
    have ce := eqRecs_con l l hll (fun r hr => (hlo r hr).steps.len)
    rw [decide_eq_true rfl] at ce
    generalize ofP l = q at co herr hcs cq cs hxo
    obtain ⟨x, e⟩ := q
    simp only at herr hcs cq cs hxo
    clear hsg
    refine ⟨hWm, by omega, by omega, ?_⟩
    conv => whnf
    refine ⟨rfl, hWm, _, hrow, ?_⟩
    conv => whnf
    refine callU (copyRecsP_con l hll hlo) (fun _ => rfl) ?_
    conv => whnf
    refine callH co (wk_refl _) ?nh ?fh ?_
    case nh => intro y hy; obtain rfl : y = .lf (.pv (encRecs l)) := by simpa using hy
               exact noRecs l
    case fh => intro y hy
               simp only [List.mem_cons, List.not_mem_nil, or_false] at hy
               rcases hy with rfl | rfl
               · exact frSagas x
               · exact FrP.sc _
    conv => whnf
    refine AW.loop (fun k : Nat => k ≤ l.length) (fun k => [(1, .lf (.ptr 0 0)), (3, .lf (.own 1 W.length)), (4, .lf (.own 2 (A.length + 1))), (5, Go.Rx.I i), (6, .lf (.pv (encRecs l))), (7, .lf (.frs 3 (encSgsF x))), (8, Go.Rx.I e), (9, Go.Rx.I (if (l.take k).all recB then 0 else 1)), (10, Go.Rx.I k)]) (fun _ => [ask15V R S N G L, .arr 22 1 (rowRs W), .arr 29 1 (rowSs A), .hp]) (fun k => l.length - k) [] ?_ ?_
    · exact ⟨0, Nat.zero_le _, ⟨rfl, rfl, rfl, rfl, rfl, rfl, rfl, rfl, rfl, trivial⟩, ⟨[], rfl⟩, rfl, rfl⟩
    intro k hk
    refine aw_ofC T_ok 1017 (by kernel_rfl) ?_
    conv => whnf
    split <;> rename_i hkl <;> conv => whnf
    · have hk2 : k < l.length := by have : (k : Int) < ((l.map Rec.enc).length : Nat) := of_decide_eq_true hkl
                                    omega
      have wk : IntKind.i64.wrap ((k : Int) + 1) = ((k + 1 : Nat) : Int) := wrapI (by omega)
      have hrk : (l.map Rec.enc)[k]? = some (l[k]).enc := by simp [hk2]
      have hok := hlo _ (List.getElem_mem hk2)
      have hall : (l.take (k + 1)).all recB = ((l.take k).all recB && recB l[k]) := by rw [take_succ' hk2, List.all_append]; simp
      generalize l[k] = r at hrk hok hall
      refine ⟨by omega, r.enc, hrk, ?_⟩
      conv => whnf
      refine callS (rec9_con r hok) rfl ?_
      conv => whnf
      cases hr : recB r with
      | false =>
        conv => whnf
        exact ⟨k + 1, ⟨hk2, by omega⟩, ⟨rfl, rfl, rfl, rfl, rfl, rfl, rfl, by rw [hall, hr, Bool.and_false]; rfl, congrArg Go.Rx.I wk, trivial⟩, ⟨[], rfl⟩, rfl, rfl⟩
      | true =>
        conv => whnf
        exact ⟨k + 1, ⟨hk2, by omega⟩, ⟨rfl, rfl, rfl, rfl, rfl, rfl, rfl, by rw [hall, hr, Bool.and_true]; rfl, congrArg Go.Rx.I wk, trivial⟩, ⟨[], rfl⟩, rfl, rfl⟩
    have hk3 : k = l.length := by have : ¬ (k : Int) < ((l.map Rec.enc).length : Nat) := of_decide_eq_false hkl
                                  omega
    have htk : l.take k = l := by rw [hk3, List.take_length]
    refine AW.cut (fun w : Option (List Saga) => w.getD [] = x) (fun w => [(1, .lf (.ptr 0 0)), (3, .lf (.own 1 W.length)), (4, .lf (.own 2 ((A ++ w.toList).length + 1))), (5, Go.Rx.I i), (6, .lf (.pv (encRecs l))), (7, .lf (.frs 3 (encSgsF x))), (8, Go.Rx.I e), (9, Go.Rx.I e), (11, .lf (.pv (wantP w)))]) (fun w => [ask15V R S N G L, .arr 22 1 (rowRs W), .arr 29 1 (rowSs (A ++ w.toList)), .hp]) [] ?_ ?_
    · refine aw_of T_ok (by kernel_rfl) ?_
      conv => whnf
      rw [htk]
      rcases hcs with ⟨ha, hq⟩ | ⟨ha, hf, hq⟩ | ⟨y, ha, hf, hq⟩
      · rw [ha]
        simp only [Prod.mk.injEq] at hq
        obtain ⟨rfl, rfl⟩ := hq
        conv => whnf
        exact ⟨none, rfl, ⟨rfl, rfl, by show _ = AV.lf (.own 2 ((A ++ []).length + 1)); rw [List.append_nil]; rfl, rfl, rfl, rfl, rfl, rfl, rfl, trivial⟩, ⟨[], congrArg (fun a => [ask15V R S N G L, Blk.arr 22 1 (rowRs W), Blk.arr 29 1 (rowSs a), Blk.hp]) (List.append_nil A).symm⟩, rfl, rfl⟩
      · rw [ha]
        simp only [Prod.mk.injEq] at hq
        obtain ⟨rfl, rfl⟩ := hq
        have cf := fold9_con l (by omega) hlo ha
        rw [hf] at cf
        conv => whnf
        refine callU cf (fun _ => rfl) ?_
        conv => whnf
        exact ⟨none, rfl, ⟨rfl, rfl, by show _ = AV.lf (.own 2 ((A ++ []).length + 1)); rw [List.append_nil]; rfl, rfl, rfl, rfl, rfl, rfl, rfl, trivial⟩, ⟨[], congrArg (fun a => [ask15V R S N G L, Blk.arr 22 1 (rowRs W), Blk.arr 29 1 (rowSs a), Blk.hp]) (List.append_nil A).symm⟩, rfl, rfl⟩
      · rw [ha]
        simp only [Prod.mk.injEq] at hq
        obtain ⟨rfl, rfl⟩ := hq
        have cf := fold9_con l (by omega) hlo ha
        rw [hf] at cf
        conv => whnf
        refine callU cf (fun _ => rfl) ?_
        conv => whnf
        refine ⟨rfl, _, .inl rfl, ?_⟩
        conv => whnf
        have hAm : (rowSs A).length = A.length + 1 := by rw [rowSs, List.length_cons, List.length_map]
        refine ⟨hAm, by show (A.length + 1 + 1) * 24 ≤ _; omega, ?_⟩
        conv => whnf
        refine ⟨some x, rfl, ⟨rfl, rfl, by show AV.lf (.own 2 (A.length + 1 + 1)) = AV.lf (.own 2 ((A ++ [x]).length + 1)); rw [List.length_append]; rfl, rfl, rfl, rfl, rfl, rfl, rfl, trivial⟩, ⟨[?zr], ?ze⟩, rfl, rfl⟩
        case ze =>
          show _ = [_, _, Blk.arr _ 1 ((PV.sc (.slice none 0 0) :: []) :: (A ++ [x]).map fun l => [encSagas l]), _] ++ [_]
          rw [List.map_append]
          rfl
    intro w hw
    have hAw : ∀ l ∈ A ++ w.toList, SgOk l := fun l hl => by
      rcases List.mem_append.1 hl with hl | hl
      · exact hA l hl
      · cases w with
        | none => cases hl
        | some y =>
          obtain rfl : l = y := by simpa using hl
          obtain rfl : l = x := hw
          exact hxo
    have hAwl : (A ++ w.toList).length ≤ i + 1 + 1 := by
      rw [List.length_append]
      cases w <;> simp <;> omega
    have hwk : Fa WkA [.lf (.frs 0 (encSgsF x)), .lf (.pv (wantP w))] [.lf (.frs 0 (encSgsF x)), .lf (.pv (encSagas x))] := ⟨.inl rfl, .inr (.inl ⟨_, _, rfl, rfl, by rw [← hw]; exact wantWk w⟩), trivial⟩
    refine aw_of T_ok (by kernel_rfl) ?_
    conv => whnf
    refine callS (num_con e herr) rfl ?_
    conv => whnf
    split <;> rename_i t1 <;> conv => whnf
    · have t1' : (e != e) = true := t1
      rw [bne_self_eq_false] at t1'; cases t1'
    refine ⟨[3], _, _, _, _, _, nodupB_ok rfl, rfl, rfl, hwk, cq, ?_⟩
    conv => whnf
    refine ⟨hWm, by omega, by omega, ?_⟩
    conv => whnf
    refine ⟨rfl, hWm, _, hrow, ?_⟩
    conv => whnf
    refine callS ce rfl ?_
    conv => whnf
    refine ⟨[3], _, _, _, _, _, nodupB_ok rfl, rfl, rfl, wk_refl _, cs, ?_⟩
    conv => whnf
    refine ⟨hWm, by omega, by omega, ?_⟩
    conv => whnf
    refine ⟨rfl, hWm, _, hrow, ?_⟩
    conv => whnf
    refine callS ce rfl ?_
    conv => whnf
    exact ⟨(i + 1, A ++ w.toList), ⟨⟨hiW, hAw, hAwl⟩, by show W.length - (i + 1) < W.length - i; omega⟩, ⟨rfl, rfl, rfl, congrArg Go.Rx.I wi, trivial⟩, ⟨_, rfl⟩, rfl, rfl⟩
  rintro A ⟨hA, hAl⟩
  have hAm : (rowSs A).length = A.length + 1 := by rw [rowSs, List.length_cons, List.length_map]
  clear hW hWl hWm hWok
  refine aw_ofC T_ok 1028 (by kernel_rfl) ?_
  conv => whnf
  refine AW.cut (fun _ : Unit => True) (fun _ => []) (fun _ => []) [] ?_ ?_
  · refine aw_of T_ok (by kernel_rfl) ?_
    conv => whnf
    refine AW.loop (fun i : Nat => i ≤ A.length + 1) (fun i => [(4, .lf (.own 2 (A.length + 1))), (14, Go.Rx.I i)]) (fun _ => [ask15V R S N G L, .arr 22 1 (rowRs W), .arr 29 1 (rowSs A)]) (fun i => A.length + 1 - i) [] ?_ ?_
    · exact ⟨0, Nat.zero_le _, ⟨rfl, rfl, trivial⟩, ⟨[], rfl⟩, rfl, rfl⟩
    intro i hi
    have wi : IntKind.i64.wrap ((i : Int) + 1) = ((i + 1 : Nat) : Int) := wrapI (by omega)
    refine aw_ofC T_ok 1035 (by kernel_rfl) ?_
    conv => whnf
    refine ⟨hAm, ?_⟩
    conv => whnf
    split <;> rename_i hlt <;> conv => whnf
    rotate_left
    · exact ⟨(), trivial, trivial, ⟨_, rfl⟩, rfl, rfl⟩
    have hiA : i < A.length + 1 := by have := of_decide_eq_true hlt; omega
    have hrow := sgRow hiA
    have hwk := sgWk A i
    have hok := sgAt_ok hA i
    have hpv : (sgPV A i = .sc (.slice none 0 0) ∧ sgAt A i = []) ∨ sgPV A i = encSagas (sgAt A i) := by
      cases i with
      | zero => exact .inl ⟨rfl, rfl⟩
      | succ i => exact .inr rfl
    generalize sgPV A i = pv at hrow hwk hpv
    generalize sgAt A i = l at hwk hok hpv
    have c9 := sagas9_con l hok.len hok.ok
    have cc := replayCheck_con l hok.len hok.ok
    have cf := fun x => replayFind_con l x hok.len hok.ok
    have hwA : ∀ y : AV, WkA (.lf (.pv pv)) (.lf (.pv (encSagas l))) := fun _ => .inr (.inl ⟨_, _, rfl, rfl, hwk⟩)
    have hid : togB l = true → ∀ (j : Nat) (s : Saga), l[j]? = some s → s.id = j + 1 := fun ht j s hs => ((sgs_tog hok.ok ht).sg j s hs).id
    obtain ⟨tb, htb⟩ : ∃ tb, tb = togB l := ⟨_, rfl⟩
    rw [← htb] at c9 cc
    have hfp : ∀ x, findP l x = if tb then (if keyI l x < 0 then (0, 3) else (keyI l x + 1, 0)) else (0, 1) := fun x => by rw [htb]; rfl
    refine ⟨hAm, by omega, by omega, ?_⟩
    conv => whnf
    refine ⟨rfl, hAm, _, hrow, ?_⟩
    conv => whnf
    refine callW c9 ⟨hwA .un, trivial⟩ rfl ?_
    conv => whnf
    refine ⟨hAm, by omega, by omega, ?_⟩
    conv => whnf
    refine ⟨rfl, hAm, _, hrow, ?_⟩
    conv => whnf
    refine callW cc ⟨hwA .un, trivial⟩ rfl ?_
    conv => whnf
    refine callS (num_con (if tb then 0 else 1) (by cases tb <;> decide)) rfl ?_
    conv => whnf
    split <;> rename_i t1 <;> conv => whnf
    · exfalso
      cases tb <;> cases t1
    refine AW.cut (fun ks : List ByteArray => ks.length ≤ 7) (fun ks => [(4, .lf (.own 2 (A.length + 1))), (14, Go.Rx.I i), (15, Bl tb), (16, .lf (.own 3 ks.length))]) (fun ks => [ask15V R S N G L, .arr 22 1 (rowRs W), .arr 29 1 (rowSs A), .arr 9 1 (ks.map fun s => [pS s])]) [] ?_ ?_
    · refine aw_of T_ok (by kernel_rfl) ?_
      conv => whnf
      rcases hpv with ⟨rfl, rfl⟩ | rfl
      · refine AW.loop (fun _ : Unit => True) (fun _ => [(4, .lf (.own 2 (A.length + 1))), (14, Go.Rx.I i), (15, Bl tb), (16, .lf (.own 3 3)), (17, Go.Rx.I 0)]) (fun _ => [ask15V R S N G L, .arr 22 1 (rowRs W), .arr 29 1 (rowSs A), .arr 9 1 [[pS ⟨#[107]⟩], [pS ⟨#[]⟩], [pS ⟨#[97]⟩]]]) (fun _ => 0) [] ?_ ?_
        · exact ⟨(), trivial, ⟨rfl, rfl, rfl, rfl, rfl, trivial⟩, ⟨[], rfl⟩, rfl, rfl⟩
        intro _ _
        refine aw_of T_ok (by kernel_rfl) ?_
        conv => whnf
        refine ⟨hAm, by omega, by omega, ?_⟩
        conv => whnf
        refine ⟨rfl, hAm, _, hrow, ?_⟩
        conv => whnf
        exact ⟨[⟨#[107]⟩, ⟨#[]⟩, ⟨#[97]⟩], by decide, ⟨rfl, rfl, rfl, rfl, trivial⟩, ⟨[], rfl⟩, rfl, rfl⟩
      · have hlm : (l.map Saga.enc).length = l.length := List.length_map ..
        have hll := hok.len
        refine AW.loop (fun p : Nat × List ByteArray => p.1 ≤ 4 ∧ p.1 ≤ l.length ∧ p.2.length ≤ p.1 + 3) (fun p => [(4, .lf (.own 2 (A.length + 1))), (14, Go.Rx.I i), (15, Bl tb), (16, .lf (.own 3 p.2.length)), (17, Go.Rx.I p.1)]) (fun p => [ask15V R S N G L, .arr 22 1 (rowRs W), .arr 29 1 (rowSs A), .arr 9 1 (p.2.map fun s => [pS s])]) (fun p => 4 - p.1) [] ?_ ?_
        · exact ⟨(0, [⟨#[107]⟩, ⟨#[]⟩, ⟨#[97]⟩]), ⟨by decide, Nat.zero_le _, by decide⟩, ⟨rfl, rfl, rfl, rfl, rfl, trivial⟩, ⟨[], rfl⟩, rfl, rfl⟩
        rintro ⟨k, ks⟩ ⟨hk4, hkl, hks⟩
        simp only at hk4 hkl hks
        have hkm : (ks.map fun s => [pS s]).length = ks.length := List.length_map ..
        refine aw_of T_ok (by kernel_rfl) ?_
        conv => whnf
        refine ⟨hAm, by omega, by omega, ?_⟩
        conv => whnf
        refine ⟨rfl, hAm, _, hrow, ?_⟩
        conv => whnf
        have stop : ∃ j : List ByteArray, j.length ≤ 7 ∧ j = ks := ⟨ks, by omega, rfl⟩
        split <;> rename_i t2 <;> conv => whnf
        rotate_left
        · exact ⟨ks, by omega, ⟨rfl, rfl, rfl, rfl, trivial⟩, ⟨[], rfl⟩, rfl, rfl⟩
        split <;> rename_i t3 <;> conv => whnf
        rotate_left
        · exact ⟨ks, by omega, ⟨rfl, rfl, rfl, rfl, trivial⟩, ⟨[], rfl⟩, rfl, rfl⟩
        have t2' : (k : Int) < ((l.map Saga.enc).length : Nat) := of_decide_eq_true t2
        have t3' : (k : Int) < 4 := of_decide_eq_true t3
        have hk2 : k < l.length := by omega
        have hrk : (l.map Saga.enc)[k]? = some (l[k]).enc := by simp [hk2]
        generalize l[k] = s at hrk
        refine ⟨hAm, by omega, by omega, ?_⟩
        conv => whnf
        refine ⟨rfl, hAm, _, hrow, ?_⟩
        conv => whnf
        refine ⟨by omega, s.enc, hrk, ?_⟩
        conv => whnf
        refine ⟨rfl, _, .inl rfl, ?_⟩
        conv => whnf
        refine ⟨hkm, by show (ks.length + 1) * 16 ≤ _; omega, ?_⟩
        conv => whnf
        refine ⟨(k + 1, ks ++ [s.key]), ⟨⟨by show k + 1 ≤ 4; omega, hk2, by show (ks ++ [s.key]).length ≤ k + 1 + 3; rw [List.length_append]; simp; omega⟩, by show 4 - (k + 1) < 4 - k; omega⟩, ⟨rfl, rfl, rfl, by show AV.lf (.own 3 (ks.length + 1)) = AV.lf (.own 3 (ks ++ [s.key]).length); rw [List.length_append]; rfl, congrArg Go.Rx.I (wrapI (by omega)), trivial⟩, ⟨[?zk], ?zl⟩, rfl, rfl⟩
        case zl =>
          show _ = [_, _, _, Blk.arr _ 1 ((ks ++ [s.key]).map fun s => [pS s])] ++ [_]
          rw [List.map_append]
          rfl
    intro ks hks
    have hkm : (ks.map fun s => [pS s]).length = ks.length := List.length_map ..
    refine aw_of T_ok (by kernel_rfl) ?_
    conv => whnf
    refine AW.loop (fun k : Nat => k ≤ ks.length) (fun k => [(4, .lf (.own 2 (A.length + 1))), (14, Go.Rx.I i), (15, Bl tb), (16, .lf (.own 3 ks.length)), (18, Go.Rx.I k)]) (fun _ => [ask15V R S N G L, .arr 22 1 (rowRs W), .arr 29 1 (rowSs A), .arr 9 1 (ks.map fun s => [pS s])]) (fun k => ks.length - k) [] ?_ ?_
    · exact ⟨0, Nat.zero_le _, ⟨rfl, rfl, rfl, rfl, rfl, trivial⟩, ⟨[], rfl⟩, rfl, rfl⟩
    intro k hk
    have wk : IntKind.i64.wrap ((k : Int) + 1) = ((k + 1 : Nat) : Int) := wrapI (by omega)
    refine aw_ofC T_ok 2042 (by kernel_rfl) ?_
    conv => whnf
    refine ⟨hkm, ?_⟩
    conv => whnf
    split <;> rename_i t2 <;> conv => whnf
    rotate_left
    · exact ⟨i + 1, ⟨hiA, by omega⟩, ⟨rfl, congrArg Go.Rx.I wi, trivial⟩, ⟨_, rfl⟩, rfl, rfl⟩
    have hk2 : k < ks.length := by have t2' : (k : Int) < (ks.length : Nat) := of_decide_eq_true t2
                                   omega
    have hrk : (ks.map fun s => [pS s])[k]? = some [pS ks[k]] := by simp [hk2]
    generalize ks[k] = x at hrk
    have cfx := cf x
    have hfx := hfp x
    have hge : -1 ≤ keyI l x := idx_ge _ _
    generalize findP l x = q at cfx hfx
    obtain ⟨n, e⟩ := q
    have he : -9223372036854775808 ≤ e ∧ e ≤ 9223372036854775807 := by
      cases tb with
      | false => simp only [Bool.false_eq_true, if_false, Prod.mk.injEq] at hfx; omega
      | true =>
        rw [if_pos rfl] at hfx
        split at hfx <;> (simp only [Prod.mk.injEq] at hfx; omega)
    refine AW.cut (fun _ : Unit => True) (fun _ => [(4, .lf (.own 2 (A.length + 1))), (14, Go.Rx.I i), (15, Bl tb), (16, .lf (.own 3 ks.length)), (18, Go.Rx.I k), (19, Go.Rx.I n), (20, Go.Rx.I e)]) (fun _ => [ask15V R S N G L, .arr 22 1 (rowRs W), .arr 29 1 (rowSs A), .arr 9 1 (ks.map fun s => [pS s])]) [] ?_ ?_
    · refine AW.draw T_ok rfl (seqPl 0 14) (by kernel_rfl) (by kernel_rfl) ?_
      conv => whnf
      refine ⟨hAm, by omega, by omega, ?_⟩
      conv => whnf
      refine ⟨rfl, hAm, _, hrow, ?_⟩
      conv => whnf
      refine ⟨hkm, by omega, by omega, ?_⟩
      conv => whnf
      refine ⟨rfl, hkm, _, hrk, ?_⟩
      conv => whnf
      refine callW cfx ⟨hwA .un, .inl rfl, trivial⟩ rfl ?_
      conv => whnf
      exact ⟨(), trivial, ⟨rfl, rfl, rfl, rfl, rfl, rfl, rfl, trivial⟩, ⟨[], rfl⟩, rfl, rfl⟩
    intro _ _
    have bne : ∀ z : Int, (z != z) = true → False := fun z hz => by rw [bne_self_eq_false] at hz; cases hz
    refine aw_of T_ok (by kernel_rfl) ?_
    cases tb with
    | false =>
      simp only [Bool.false_eq_true, if_false, Prod.mk.injEq] at hfx
      obtain ⟨rfl, rfl⟩ := hfx
      conv => whnf
      refine callS (num_con 1 (by decide)) rfl ?_
      conv => whnf
      exact ⟨k + 1, ⟨hk2, by omega⟩, ⟨rfl, rfl, rfl, rfl, congrArg Go.Rx.I wk, trivial⟩, ⟨[], rfl⟩, rfl, rfl⟩
    | true =>
      rw [if_pos rfl] at hfx
      conv => whnf
      refine AW.draw T_ok rfl (seqPl 0 11) (by kernel_rfl) (by kernel_rfl) ?_
      conv => whnf
      refine ⟨hAm, by omega, by omega, ?_⟩
      conv => whnf
      refine ⟨rfl, hAm, _, hrow, ?_⟩
      conv => whnf
      refine ⟨hkm, by omega, by omega, ?_⟩
      conv => whnf
      refine ⟨rfl, hkm, _, hrk, ?_⟩
      conv => whnf
      refine callW (find9_con l x hok.len (hid htb.symm)) ⟨hwA .un, .inl rfl, trivial⟩ rfl ?_
      conv => whnf
      split <;> rename_i t4 <;> conv => whnf
      · have t4' : keyI l x + 1 > 0 := of_decide_eq_true t4
        rw [if_neg (by omega)] at hfx
        simp only [Prod.mk.injEq] at hfx
        obtain ⟨rfl, rfl⟩ := hfx
        refine callS (num_con 0 (by decide)) rfl ?_
        conv => whnf
        split <;> rename_i t5 <;> conv => whnf
        · exact (bne _ t5).elim
        exact ⟨k + 1, ⟨hk2, by omega⟩, ⟨rfl, rfl, rfl, rfl, congrArg Go.Rx.I wk, trivial⟩, ⟨[], rfl⟩, rfl, rfl⟩
      · have t4' : ¬ keyI l x + 1 > 0 := of_decide_eq_false t4
        rw [if_pos (by omega)] at hfx
        simp only [Prod.mk.injEq] at hfx
        obtain ⟨rfl, rfl⟩ := hfx
        have hk0 : keyI l x + 1 = 0 := by omega
        refine callS (num_con 3 (by decide)) rfl ?_
        conv => whnf
        split <;> rename_i t5 <;> conv => whnf
        · have t5' : ((0 : Int) != keyI l x + 1) = true := t5
          rw [hk0] at t5'
          exact (bne _ t5').elim
        exact ⟨k + 1, ⟨hk2, by omega⟩, ⟨rfl, rfl, rfl, rfl, congrArg Go.Rx.I wk, trivial⟩, ⟨[], rfl⟩, rfl, rfl⟩
  intro _ _
  clear hA hAl hAm A
  refine aw_of T_ok (by kernel_rfl) ?_
  conv => whnf
  refine AW.loop (fun k : Nat => k ≤ 11) (fun k => [(23, .lf (.own 0 11)), (24, Go.Rx.I k)]) (fun _ => [.arr 3 1 (nsL.map fun n => [pI n])]) (fun k => 11 - k) [] ?_ ?_
  · exact ⟨0, Nat.zero_le _, ⟨rfl, rfl, trivial⟩, ⟨[], rfl⟩, rfl, rfl⟩
  intro k hk
  have hnl : (nsL.map fun n => [pI n]).length = 11 := rfl
  have wk : IntKind.i64.wrap ((k : Int) + 1) = ((k + 1 : Nat) : Int) := wrapI (by omega)
  refine aw_of T_ok (by kernel_rfl) ?_
  conv => whnf
  refine ⟨hnl, ?_⟩
  conv => whnf
  split <;> rename_i t1 <;> conv => whnf
  rotate_left
  · refine callS wakes15_con rfl ?_
    conv => whnf
    exact finB ⟨rfl⟩
  have hk2 : k < 11 := by have t1' : (k : Int) < ((11 : Nat) : Int) := of_decide_eq_true t1
                          omega
  have hkn : k < nsL.length := hk2
  have hrk : (nsL.map fun n => [pI n])[k]? = some [pI nsL[k]] := by rw [List.getElem?_map, List.getElem?_eq_getElem hkn]; rfl
  generalize nsL[k] = t at hrk
  have cw := waitT_con t
  have hw : waitP t = if t < 1 ∨ t > 1073741824 then (0, 1) else (longI t, 0) := rfl
  generalize waitP t = q at cw hw
  obtain ⟨n, e⟩ := q
  have bne : ∀ z : Int, (z != z) = true → False := fun z hz => by rw [bne_self_eq_false] at hz; cases hz
  refine ⟨hnl, by omega, by omega, ?_⟩
  conv => whnf
  refine ⟨rfl, hnl, _, hrk, ?_⟩
  conv => whnf
  refine callS cw rfl ?_
  conv => whnf
  refine ⟨hnl, by omega, by omega, ?_⟩
  conv => whnf
  refine ⟨rfl, hnl, _, hrk, ?_⟩
  conv => whnf
  refine callS (between_con t 1 1073741824) rfl ?_
  conv => whnf
  by_cases ht : t < 1 ∨ t > 1073741824
  · rw [if_pos ht] at hw
    simp only [Prod.mk.injEq] at hw
    obtain ⟨rfl, rfl⟩ := hw
    have hb : (decide (1 ≤ t) && decide (t ≤ 1073741824)) = false := by
      rcases ht with ht | ht
      · rw [decide_eq_false (by omega)]; rfl
      · rw [decide_eq_false (show ¬ t ≤ 1073741824 by omega), Bool.and_false]
    rw [hb]
    conv => whnf
    refine callS (num_con 1 (by decide)) rfl ?_
    conv => whnf
    exact ⟨k + 1, ⟨hk2, by omega⟩, ⟨rfl, congrArg Go.Rx.I wk, trivial⟩, ⟨[], rfl⟩, rfl, rfl⟩
  · rw [if_neg ht] at hw
    simp only [Prod.mk.injEq] at hw
    obtain ⟨rfl, rfl⟩ := hw
    have hb : (decide (1 ≤ t) && decide (t ≤ 1073741824)) = true := by
      rw [decide_eq_true (by omega), decide_eq_true (by omega)]; rfl
    rw [hb]
    conv => whnf
    refine ⟨hnl, by omega, by omega, ?_⟩
    conv => whnf
    refine ⟨rfl, hnl, _, hrk, ?_⟩
    conv => whnf
    refine callS (wait9_con t (by omega) (by omega)) rfl ?_
    conv => whnf
    refine callS (num_con 0 (by decide)) rfl ?_
    conv => whnf
    split <;> rename_i t5 <;> conv => whnf
    · exact (bne _ t5).elim
    exact ⟨k + 1, ⟨hk2, by omega⟩, ⟨rfl, congrArg Go.Rx.I wk, trivial⟩, ⟨[], rfl⟩, rfl, rfl⟩
end Go.Proofs.YtnhheglbcphklaaGreat.Rx
