/- A contract of a function that blocks are lent to, out of its body. -/
import Derived.Test.YtooiiihaijpbaaaRx14
set_option linter.unusedVariables false
set_option linter.unusedSimpArgs false
namespace Go.Rx
open Go.RowKit
/-- The first so many places are the same. -/
def heads : Nat → List Nat → Bool
  | _, [] => true
  | k, b :: l => Nat.beq b k && heads (k + 1) l
theorem heads_get : ∀ {l : List Nat} {k p b : Nat}, heads k l = true → l[p]? = some b → b = k + p
  | [], k, p, b, _, h => by simp at h
  | c :: l, k, p, b, h, hp => by
    simp only [heads, Bool.and_eq_true] at h
    cases p with
    | zero => simp at hp; subst hp; have := Nat.eq_of_beq_eq_true h.1; omega
    | succ p => have := heads_get h.2 (by simpa using hp : l[p]? = some b); omega
def nodupB : List Nat → Bool
  | [] => true
  | b :: l => !(l.any (Nat.beq b)) && nodupB l
theorem nodupB_ok : ∀ {l : List Nat}, nodupB l = true → l.Nodup
  | [], _ => List.nodup_nil
  | b :: l, h => by
    simp only [nodupB, Bool.and_eq_true, Bool.not_eq_true'] at h
    refine List.nodup_cons.2 ⟨fun hb => ?_, nodupB_ok h.2⟩
    have := List.any_eq_false.1 h.1 b hb
    exact this (Nat.beq_refl b)
section
variable {P : Program} {T : Tab} {C : Ctx} {G : Gh} {bk : List Blk} {w : World} {idx : List Nat}
/-- Only these blocks are kept in view. -/
theorem Mem.sel (h : Mem C G bk w) (hnd : idx.Nodup) {B : List Blk} (hB : pickB idx bk idx = some B) (hm : C.m ≤ idx.length) (hh : heads 0 (idx.take C.m) = true) :
    Mem C (G.pick idx) B w ∧ ∀ l l' v, renL idx l = some l' → RepL G bk w l v → RepL (G.pick idx) B w l' v := by
  obtain ⟨m1, rep⟩ := h.pick hnd hB 0
  obtain ⟨hlen, hget⟩ := pickB_get hB
  have hid : ∀ p, p < C.m → idx[p]? = some p := fun p hp => by
    have h1 : (idx.take C.m)[p]? = some (idx[p]'(by omega)) := by rw [List.getElem?_take_of_lt hp]; exact List.getElem?_eq_getElem _
    have h2 := heads_get hh h1
    rw [List.getElem?_eq_getElem (by omega), h2, Nat.zero_add]
  have hat : ∀ p, p < B.length → ∃ b, idx[p]? = some b ∧ b < bk.length := fun p hp => by
    have hp' : p < idx.length := by rw [hlen] at hp; exact hp
    obtain ⟨X, Y, h1, _, _⟩ := hget p idx[p] (List.getElem?_eq_getElem hp')
    exact ⟨idx[p], List.getElem?_eq_getElem hp', (List.getElem?_eq_some_iff.1 h1).1⟩
  have hM : ∀ p b, idx[p]? = some b → (G.pick idx).M p = G.M b := fun p b hp => by simp [Gh.pick, hp]
  have hcp : ∀ p b, idx[p]? = some b → (G.pick idx).cp p = G.cp b := fun p b hp => by simp [Gh.pick, hp]
  have hrows : ∀ p b, idx[p]? = some b → rowsOf B p = rowsOf bk b := fun p b hp => by
    obtain ⟨X, Y, h1, h2, h3⟩ := hget p b hp
    unfold rowsOf
    rw [h1, h3]
    cases X with
    | var cells => simp [renB] at h2; obtain ⟨c, _, rfl⟩ := h2; rfl
    | _ => simp [renB] at h2; subst h2; rfl
  have hlt0 : ∀ b x, rowsOf C.B0 b = some x → b < C.m := fun b x h => by
    unfold rowsOf at h
    rcases Nat.lt_or_ge b C.B0.length with hl | hl
    · exact hl
    · rw [List.getElem?_eq_none hl] at h; cases h
  refine ⟨⟨m1.blk, m1.inj, m1.sdis, m1.slt, m1.mlt, fun p g hp e => ?_, h.s0, h.snew, h.os, h.tape, h.output, h.size, h.block, by rw [hlen]; exact hm, ⟨h.t0.S, h.t0.cell, by rw [hlen]; exact hm, fun b hb hr => ?_, fun b sz rows hr => ?_⟩⟩, rep⟩
  · obtain ⟨b, hpb, hb⟩ := hat p hp
    rw [hM p b hpb] at e
    exact h.new b g hb e
  · have hi := hid b hb
    obtain ⟨h1, h2⟩ := h.t0.var b hb hr
    exact ⟨by rw [hrows b b hi]; exact h1, by rw [hM b b hi]; exact h2⟩
  · have hi := hid b (hlt0 b _ hr)
    obtain ⟨rows', h1, h2, h3⟩ := h.t0.row b sz rows hr
    exact ⟨rows', by rw [hrows b b hi]; exact h1, h2, fun e => by rw [hM b b hi, hcp b b hi]; exact h3 e⟩
def renT (idx : List Nat) : TC → Option TC
  | .lf l => (renL idx l).map .lf
  | .agg l => (renLs idx l).map .agg
def renTs (idx : List Nat) : List TC → Option (List TC)
  | [] => some []
  | l :: ls => match renT idx l, renTs idx ls with | some x, some xs => some (x :: xs) | _, _ => none
/-- Behind the body r is returned, and these blocks are there: idx says which of the call's they are; slices that are nil may become the call's own first. -/
def RetG (T : Tab) (m : Nat) (rs : List ResultVar) (r : AV) (B1 : List Blk) : Post
  | .ret, sl, bk => ∃ l, nilsK l sl bk fun sl bk => resK T rs sl bk fun xs => ∃ idx zs ys, (nodupB idx && (Nat.ble m idx.length && heads 0 (idx.take m))) = true ∧ pickB idx bk idx = some B1 ∧ renAs idx xs = some ys ∧ Fa WkA ys zs ∧ pack zs = some r
  | .normal, sl, bk => ∃ l, nilsK l sl bk fun sl bk => resK T rs sl bk fun xs => ∃ idx zs ys, (nodupB idx && (Nat.ble m idx.length && heads 0 (idx.take m))) = true ∧ pickB idx bk idx = some B1 ∧ renAs idx xs = some ys ∧ Fa WkA ys zs ∧ pack zs = some r
  | _, _, _ => False
theorem pack_repG {B : List Blk} {zs : List AV} {vs : List Value} {r : AV} (h : Fa (RepA G B w) zs vs) (hp : pack zs = some r) :
    RepA G B w r (if h : vs.toArray.size = 1 then vs.toArray[0] else .tuple vs.toArray) := by
  have tc : ∀ {zs : List AV} {vs : List Value} {ts : List TC}, Fa (RepA G B w) zs vs → zs.mapM toTC = some ts → Fa (RepT G B w) ts vs := fun {zs} => by
    induction zs with
    | nil => intro vs ts h hm; simp at hm; subst hm; cases vs <;> exact h
    | cons z zs ih =>
      intro vs ts h hm
      cases vs with
      | nil => exact h.elim
      | cons v vs =>
        rw [List.mapM_cons] at hm
        cases z with
        | lf l =>
          simp only [toTC, Option.bind_eq_bind, Option.bind_some] at hm
          cases hq : zs.mapM toTC with
          | none => rw [hq] at hm; simp at hm
          | some l' => rw [hq] at hm; simp at hm; subst hm; exact ⟨h.1, ih h.2 hq⟩
        | agg l =>
          simp only [toTC, Option.bind_eq_bind, Option.bind_some] at hm
          cases hq : zs.mapM toTC with
          | none => rw [hq] at hm; simp at hm
          | some l' => rw [hq] at hm; simp at hm; subst hm; exact ⟨h.1, ih h.2 hq⟩
        | _ => simp [toTC] at hm
  cases zs with
  | nil => cases vs with
    | nil => simp [pack] at hp; subst hp; exact ⟨[], rfl, trivial⟩
    | cons v vs => exact h.elim
  | cons z zs => cases zs with
    | nil => cases vs with
      | nil => exact h.elim
      | cons v vs => cases vs with
        | nil => simp [pack] at hp; subst hp; exact h.1
        | cons v' vs => exact h.2.elim
    | cons z' zs => cases vs with
      | nil => exact h.elim
      | cons v vs => cases vs with
        | nil => exact h.2.elim
        | cons v' vs =>
          simp only [pack, Option.map_eq_some_iff] at hp
          obtain ⟨ts, h1, rfl⟩ := hp
          rw [dif_neg (by simp)]
          exact ⟨_, rfl, tc h h1⟩
theorem ConG.of {f : FuncId} {fn : Func} {c : Code} {B0 B1 : List Blk} {args : List AV} {r : AV} (hT : TabOK P T) (hf : P.funcs[f]? = some fn) (hb : fn.body = some c) (hn : fnOK P f = true)
    (hsz : Nat.ble args.length fn.ntmps = true)
    (h : AW P ⟨fn.ntmps, B0.length⟩ c (RetG T B0.length fn.results.toList r B1) (mkS (args.zipIdx.map fun p => (p.2, p.1))) B0) : ConG P f B0 args r B1 := by
  refine ⟨hn, fun w G0 us hm0 hargs => ?_⟩
  refine calls_of_wp hf hb ?_
  have hlen := hargs.length
  have hsz' := Nat.le_of_ble_eq_true hsz
  have hrel : Rel ⟨w, G0, B0, fn.ntmps⟩ G0 (mkS (args.zipIdx.map fun p => (p.2, p.1))) B0 { tmps := us.toArray ++ Array.replicate (fn.ntmps - us.toArray.size) undef, defers := [] } w := by
    refine ⟨?_, rfl, fun t => ?_, ⟨hm0.blk, hm0.inj, hm0.sdis, hm0.slt, hm0.mlt, hm0.new, hm0.s0, hm0.snew, hm0.os, hm0.tape, hm0.output, hm0.size, hm0.block, hm0.mle, hm0.t0⟩⟩
    · simp; omega
    · have hmk : mkS (args.zipIdx.map fun p => (p.2, p.1)) t = (args[t]?).getD .un := by
        unfold mkS
        have gen : ∀ (l : List AV) (k : Nat), ((l.zipIdx k).map fun p => (p.2, p.1)).lookup t = if t < k then none else l[t - k]? := fun l => by
          induction l with
          | nil => intro k; simp
          | cons x l ih =>
            intro k
            rw [List.zipIdx_cons, List.map_cons, List.lookup]
            by_cases e : t = k
            · subst e; simp
            · have hb : (t == k) = false := by simpa using e
              rw [hb, ih (k + 1)]
              by_cases hlt : t < k
              · rw [if_pos (by omega), if_pos hlt]
              · rw [if_neg (by omega), if_neg hlt]
                have : t - k = (t - (k + 1)) + 1 := by omega
                rw [this]; simp
        have := gen args 0
        simp at this
        simp [this]
      rw [hmk]
      rcases Nat.lt_or_ge t args.length with hl | hl
      · obtain ⟨v, hv, hrv⟩ := hargs.get (List.getElem?_eq_getElem hl)
        rw [List.getElem?_eq_getElem hl, Option.getD_some]
        have e1 : (us.toArray ++ Array.replicate (fn.ntmps - us.toArray.size) undef).getD t undef = v := by
          simp [Array.getElem?_append_left (show t < us.toArray.size by simp; omega), hv]
        rw [e1]
        exact hrv
      · rw [List.getElem?_eq_none hl]
        trivial
  refine wp_mono (h.out ⟨w, G0, B0, fn.ntmps⟩ _ _ w ⟨rfl, rfl⟩ hrel) fun e a' w' ⟨G', sl', bk', hq, hr'⟩ => ?_
  have fin : (∃ l, nilsK l sl' bk' fun sl' bk' => resK T fn.results.toList sl' bk' fun xs => ∃ idx zs ys, (nodupB idx && (Nat.ble B0.length idx.length && heads 0 (idx.take B0.length))) = true ∧ pickB idx bk' idx = some B1 ∧ renAs idx xs = some ys ∧ Fa WkA ys zs ∧ pack zs = some r) →
      a'.defers = [] ∧ ∃ v, (results fn a'.tmps).run P w' = .ok v w' ∧ ∃ u G'', Ending.returned v = .returned u ∧ RepA G'' B1 w' r u ∧ Mem ⟨w, G0, B0, 0⟩ G'' B1 w' := fun hq => by
    obtain ⟨l, hq⟩ := hq
    obtain ⟨G', sl', bk', hq, hr'⟩ := nilsK_sound hr' hq
    obtain ⟨xs, vs, h1, h2, idx, zs, ys, hx, hB, hys, hwk, hpk⟩ := resK_sound hT hr' hq
    simp only [Bool.and_eq_true] at hx
    obtain ⟨m2, rep⟩ := hr'.mem.sel (nodupB_ok hx.1) hB (Nat.le_of_ble_eq_true hx.2.1) hx.2.2
    refine ⟨hr'.dfr, _, ?_, _, G'.pick idx, rfl, pack_repG (wks_rep hwk (renAs_rep rep hys h2)) hpk, ?_⟩
    · unfold results
      rw [Sem.run_bind, Array.mapM_eq_mapM_toList, Sem.run_map]
      exact congrArg (fun r : Result (List Value) => Result.andThen (Result.andThen r fun a w' => Result.ok a.toArray w') fun a w' => Sem.run P (pure (if h : a.size = 1 then a[0] else Value.tuple a)) w') h1
    · exact ⟨m2.blk, m2.inj, m2.sdis, m2.slt, m2.mlt, m2.new, m2.s0, m2.snew, m2.os, m2.tape, m2.output, m2.size, m2.block, m2.mle, m2.t0⟩
  cases e with
  | normal => exact fin hq
  | ret => exact fin hq
  | _ => exact hq.elim
/-- A contract without lent blocks, whose result holds rows of its own. -/
theorem ConG.con {f : FuncId} {args : List AV} {r : AV} {nb : List Blk} (h : ConG P f [] args r nb) (hn : nb.all isArr = true) : Con P f args r nb := by
  refine ⟨h.1, hn, fun w S us hS hargs => h.2 w (Gh.base S) us ?_ hargs⟩
  exact ⟨fun b B hb => by simp at hb, fun b b' g hb => by simp at hb, fun g o b hs ha => absurd (alive_lt ha) (by simp), hS, fun b g hb => by simp at hb, fun b g hb => by simp at hb, fun g o hs => hs, fun g o hs => .inl hs, rfl, rfl, rfl, Nat.le_refl _, fun _ _ _ => rfl, Nat.le_refl _, Trn.refl _ _ _⟩
end
end Go.Rx
