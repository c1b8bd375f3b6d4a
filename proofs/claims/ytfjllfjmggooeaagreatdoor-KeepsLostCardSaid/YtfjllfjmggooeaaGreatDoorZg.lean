/- The texts of the proof, part 7, in order. -/
import Derived.Test.YtfjllfjmggooeaaGreatDoorZf
import Derived.Test.YtfjllfjmggooeaaGreatDoorZd
import Derived.Test.YtfjllfjmggooeaaGreatDoorZe
import Derived.Tactics
import Derived.WalkKit
import Derived.Lib.Strings
import Derived.Lib.Walk
import Derived.Lib.Builder
import Derived.Lib.UnsafeStr
import Derived.Laws.Externs
import Derived.Lib.Hide
import Derived.WalkSpells
import Derived.Below
import Derived.Shelf.Strings.BuilderF
import Derived.KernelRfl
/- One record behind sagas: the program's step, on a slice of the call's own. -/
set_option linter.unusedVariables false
set_option linter.unusedSimpArgs false
namespace Go.Rx
theorem begin_new {r : Rec} (h : recB r = true) (k : r.kind = 1) : beginS r = (newS r, 0) := by
  rw [beginS, if_neg (by rw [h, k]; decide)]; rfl
theorem key_neg {l : List Saga} {r : Rec} (h : ∀ s ∈ l, s.key ≠ r.key) : ¬ 0 ≤ keyI l r.key := by
  have : keyI l r.key < 0 := idx_neg.2 fun x hx => by simpa using h x hx
  omega
end Go.Rx
namespace Go.Proofs.YtfjllfjmggooeaaGreatDoor.Rx
open Go.Rx Go.Proofs Go.Proofs.YtfjllfjmggooeaaGreatDoor.RxH
abbrev sgB (l : List Saga) : Blk := .arr 40 9 (l.map Saga.enc)

set_option maxHeartbeats 1000000 in
theorem step_yes (l : List Saga) (r : Rec) (hl : Sgs l) (hr : recB r = true) (hok : r.Ok) (hg : goesB l r = true) :
    ConG P 102 [sgB l] [.lf (.own 0 l.length), encRec r] (.tup [.lf (.own 0 (stepL l r).length), .lf (.pv (pB true))]) [sgB (stepL l r)] := by
  have hm : (l.map Saga.enc).length = l.length := List.length_map ..
  have hlen := hl.len
  have hsm := sg_small hl
  have hid := rec_id hr
  refine ConG.of T_ok Tryz.func102 rfl (by kernel_rfl) (by kernel_rfl) (aw_of T_ok (by kernel_rfl) ?_)
  conv => whnf
  split <;> rename_i k1 <;> conv => whnf
  · have k : r.kind = 1 := by simpa using k1
    obtain ⟨h1, h2⟩ := goes_begin hg k
    refine ⟨hm, ?_⟩
    conv => whnf
    split <;> rename_i k2 <;> conv => whnf
    · exfalso
      have : (r.id != IntKind.i64.wrap ((l.length : Int) + 1)) = true := k2
      rw [wrapI (by omega), h1] at this
      simp at this
    refine ⟨hm, ?_⟩
    conv => whnf
    refine callS (keyed_con l r.key hsm) rfl ?_
    conv => whnf
    split <;> rename_i k3 <;> conv => whnf
    · exact absurd (of_decide_eq_true k3) (key_neg h2)
    have cb := beginTop_con r hok
    rw [begin_new hr k] at cb
    refine callU cb (fun _ => rfl) ?_
    conv => whnf
    refine ⟨rfl, _, .inl rfl, ?_⟩
    conv => whnf
    refine ⟨hm, by show (l.length + 1) * 96 ≤ _; omega, ?_⟩
    conv => whnf
    have es : stepL l r = l ++ [newS r] := by rw [stepL, if_pos k]
    rw [es]
    refine ⟨[], [0], [.lf (.own 0 (l.length + 1)), Bl true], [.lf (.own 0 (l.length + 1)), Bl true], rfl, ?_, rfl, wk_refl _, ?_⟩
    · show some [Blk.arr _ 9 (l.map Saga.enc ++ [_])] = some [Blk.arr _ 9 ((l ++ [newS r]).map Saga.enc)]
      rw [List.map_append]; rfl
    · rw [List.length_append]; rfl
  · have k : ¬ r.kind = 1 := by simpa using k1
    obtain ⟨s, h1, h2, h3, h4⟩ := goes_on hg k
    have hs := hl.sg _ _ h1
    have hsl := (List.getElem?_eq_some_iff.1 h1).1
    have w1 : IntKind.i64.wrap (r.id - 1) = r.id - 1 := wrapI (by omega)
    have hrow : (l.map Saga.enc)[(IntKind.i64.wrap (r.id - 1)).toNat]? = some s.enc := by rw [w1, List.getElem?_map, h1]; rfl
    refine AW.draw T_ok rfl (seqPl 0 16) (by kernel_rfl) (by kernel_rfl) ?_
    conv => whnf
    refine ⟨hm, ?_⟩
    conv => whnf
    split <;> rename_i k2 <;> conv => whnf
    · exact absurd (of_decide_eq_true k2) (by omega)
    have hix : 0 ≤ IntKind.i64.wrap (r.id - 1) ∧ IntKind.i64.wrap (r.id - 1) < (l.length : Int) := by rw [w1]; omega
    refine ⟨hm, hix.1, hix.2, ?_⟩
    conv => whnf
    refine ⟨rfl, hm, s.enc, hrow, ?_⟩
    conv => whnf
    refine callS (fitsTop_con s r) rfl ?_
    conv => whnf
    split <;> rename_i k3 <;> conv => whnf
    · exfalso
      rw [show (r.id == s.id && (s.status == 0 && fitsB s r)) = true by simp [h2, h3, h4]] at k3
      cases k3
    refine AW.draw T_ok rfl (seqPl 0 14) (by kernel_rfl) (by kernel_rfl) ?_
    conv => whnf
    refine ⟨hm, hix.1, hix.2, ?_⟩
    conv => whnf
    refine ⟨rfl, hm, s.enc, hrow, ?_⟩
    conv => whnf
    refine callU (next_con s r hs.ok.steps.len) (fun _ => rfl) ?_
    conv => whnf
    refine ⟨hm, hix.1, hix.2, ?_⟩
    conv => whnf
    refine ⟨rfl, hm, s.enc, hrow, ?_⟩
    conv => whnf
    refine ⟨by decide, ?_⟩
    conv => whnf
    have es : stepL l r = l.set (r.id - 1).toNat (nextS s r) := by rw [stepL, if_neg k, h1]
    rw [es]
    refine ⟨[], [0], [.lf (.own 0 l.length), Bl true], [.lf (.own 0 l.length), Bl true], rfl, ?_, rfl, wk_refl _, ?_⟩
    · show some [Blk.arr _ 9 ((l.map Saga.enc).set (IntKind.i64.wrap (r.id - 1)).toNat (nextS s r).enc)] = some [Blk.arr _ 9 ((l.set (r.id - 1).toNat (nextS s r)).map Saga.enc)]
      rw [w1, List.map_set]
    · rw [List.length_set]; rfl
theorem step_no (l : List Saga) (r : Rec) (hl : Sgs l) (hr : recB r = true) (hok : r.Ok) (hg : goesB l r = false) :
    ConG P 102 [sgB l] [.lf (.own 0 l.length), encRec r] (.tup [.lf (.pv (.sc (.slice none 0 0))), .lf (.pv (pB false))]) [sgB l] := by
  have hm : (l.map Saga.enc).length = l.length := List.length_map ..
  have hlen := hl.len
  have hsm := sg_small hl
  have hid := rec_id hr
  refine ConG.of T_ok Tryz.func102 rfl (by kernel_rfl) (by kernel_rfl) (aw_of T_ok (by kernel_rfl) ?_)
  conv => whnf
  split <;> rename_i k1 <;> conv => whnf
  · have k : r.kind = 1 := by simpa using k1
    rw [goesB, if_pos k] at hg
    refine ⟨hm, ?_⟩
    conv => whnf
    split <;> rename_i k2 <;> conv => whnf
    · exact ⟨[], [0], _, _, rfl, rfl, rfl, wk_refl _, rfl⟩
    have k2' : r.id = ((l.length + 1 : Nat) : Int) := by
      have : (r.id != IntKind.i64.wrap ((l.length : Int) + 1)) = false := k2
      rw [wrapI (by omega)] at this
      simpa using this
    refine ⟨hm, ?_⟩
    conv => whnf
    refine callS (keyed_con l r.key hsm) rfl ?_
    conv => whnf
    split <;> rename_i k3 <;> conv => whnf
    · exact ⟨[], [0], _, _, rfl, rfl, rfl, wk_refl _, rfl⟩
    exfalso
    have k3' : decide (0 ≤ keyI l r.key) = false := k3
    rw [k2', k3'] at hg
    simp at hg
  · have k : ¬ r.kind = 1 := by simpa using k1
    rw [goesB, if_neg k] at hg
    have w1 : IntKind.i64.wrap (r.id - 1) = r.id - 1 := wrapI (by omega)
    refine AW.draw T_ok rfl (seqPl 0 16) (by kernel_rfl) (by kernel_rfl) ?_
    conv => whnf
    refine ⟨hm, ?_⟩
    conv => whnf
    split <;> rename_i k2 <;> conv => whnf
    · exact ⟨[], [0], _, _, rfl, rfl, rfl, wk_refl _, rfl⟩
    have k2' : r.id ≤ l.length := by have := of_decide_eq_false k2; omega
    have hsl : (r.id - 1).toNat < l.length := by omega
    have h1 := List.getElem?_eq_getElem hsl
    generalize l[(r.id - 1).toNat] = s at h1
    rw [h1] at hg
    simp only at hg
    have hrow : (l.map Saga.enc)[(IntKind.i64.wrap (r.id - 1)).toNat]? = some s.enc := by rw [w1, List.getElem?_map, h1]; rfl
    have hix : 0 ≤ IntKind.i64.wrap (r.id - 1) ∧ IntKind.i64.wrap (r.id - 1) < (l.length : Int) := by rw [w1]; omega
    refine ⟨hm, hix.1, hix.2, ?_⟩
    conv => whnf
    refine ⟨rfl, hm, s.enc, hrow, ?_⟩
    conv => whnf
    have cf := fitsTop_con s r
    rw [hg] at cf
    refine callS cf rfl ?_
    conv => whnf
    exact ⟨[], [0], _, _, rfl, rfl, rfl, wk_refl _, rfl⟩
end Go.Proofs.YtfjllfjmggooeaaGreatDoor.Rx

/- A call's own result, taken as rows that stay. -/
set_option linter.unusedVariables false
set_option linter.unusedSimpArgs false
namespace Go.Rx
open Go.RowKit
def ofTC : TC → AV
  | .lf l => .lf l
  | .agg l => .agg l
theorem ofTC_rep {G : Gh} {bk : List Blk} {w : World} : ∀ {ts : List TC} {us : List Value}, Fa (RepT G bk w) ts us → Fa (RepA G bk w) (ts.map ofTC) us
  | [], [], _ => trivial
  | t :: ts, u :: us, h => ⟨by cases t <;> exact h.1, ofTC_rep h.2⟩
  | [], _ :: _, h => h.elim
  | _ :: _, [], h => h.elim
theorem Con.stays {P : Program} {f : FuncId} {args : List AV} {ts : List TC} {r : AV} {nb : List Blk} (h : Con P f args (.tup ts) nb) (h2 : 2 ≤ ts.length)
    (hk : argsK nb (ts.map ofTC) fun _ ys => ∃ zs, Fa WkA ys zs ∧ pack zs = some r) : Con P f args r [] := by
  refine ⟨h.1, rfl, fun w S us hS hargs => (h.2.2 w S us hS hargs).mono fun e w' ⟨u, G', he, hr, hm⟩ => ?_⟩
  obtain ⟨vs, rfl, hvs⟩ := hr
  obtain ⟨G2, b2, ys, t2, m2, hys, zs, hwk, hpk⟩ := argsK_sound hm (ofTC_rep hvs) hk
  have hp := pack_rep (wks_rep hwk hys) hpk
  have hl : vs.toArray.size ≠ 1 := by have := hvs.length; simp; omega
  rw [dif_neg hl] at hp
  exact ⟨_, Gh.base G2.S, he, hp, fun b B hb => by simp at hb, fun b b' g hb => by simp at hb, fun g o b hs ha => absurd (alive_lt ha) (by simp), m2.slt, fun b g hb => by simp at hb, fun b g hb => by simp at hb, m2.s0, m2.snew, m2.os, m2.tape, m2.output, m2.size, m2.block, Nat.le_refl _, ⟨m2.t0.S, m2.t0.cell, Nat.le_refl _, fun b hb => absurd hb (Nat.not_lt_zero _), fun b sz rows h => (by unfold rowsOf at h; simp [Ctx.base] at h)⟩⟩
end Go.Rx

/- All sagas of records: the program's, and the page's. -/
set_option linter.unusedVariables false
set_option linter.unusedSimpArgs false
namespace Go.Rx
theorem any_all (l : List Rec) : (l.any fun r : Rec => !(recB r)) = !(l.all recB) := by
  induction l with
  | nil => rfl
  | cons r l ih => simp only [List.any_cons, List.all_cons, ih, Bool.not_and]
theorem fold_drop {l : List Rec} {k : Nat} (h : k < l.length) (x : List Saga) : foldL x (l.drop k) = if goesB x l[k] then foldL (stepL x l[k]) (l.drop (k + 1)) else none := by
  rw [List.drop_eq_getElem_cons h, foldL]
theorem fold_end {l : List Rec} {k : Nat} (h : l.length ≤ k) (x : List Saga) : foldL x (l.drop k) = some x := by
  rw [List.drop_of_length_le h, foldL]
end Go.Rx
namespace Go.Proofs.YtfjllfjmggooeaaGreatDoor.Rx
open Go.Rx Go.Proofs Go.Proofs.YtfjllfjmggooeaaGreatDoor.RxH

abbrev noSg (e : Int) : AV := .tup [.lf (.pv (.sc (.slice none 0 0))), .lf (.pv (pI e))]
set_option maxHeartbeats 1000000 in
theorem of_ok (l : List Rec) (x : List Saga) (hl : l.length * 80 ≤ 140737488355328) (hr : ∀ r ∈ l, r.Ok) (ha : l.all recB = true) (hx : foldL [] l = some x) :
    Con P 59 [.lf (.pv (encRecs l))] (.tup [.lf (.own 0 x.length), .lf (.pv (pI 0))]) [sgB x] := by
  have hm : (l.map Rec.enc).length = l.length := List.length_map ..
  refine ConG.con (ConG.of T_ok Tryz.func59 rfl (by kernel_rfl) (by kernel_rfl) (aw_of T_ok (by kernel_rfl) ?_)) rfl
  conv => whnf
  have cany := anyRec_con l hl hr
  rw [any_all, ha] at cany
  refine callS cany rfl ?_
  conv => whnf
  refine AW.loop (fun p : Nat × List Saga => p.1 ≤ l.length ∧ Sgs p.2 ∧ foldL p.2 (l.drop p.1) = some x) (fun p => [(4, .lf (.own 0 p.2.length)), (5, Bl true), (10, .lf (.pv (encRecs l))), (11, Go.Rx.I l.length), (12, Go.Rx.I p.1)]) (fun p => [sgB p.2]) (fun p => l.length - p.1) [.slot 4 40 9] ?_ ?_
  · exact ⟨rfl, (0, []), ⟨Nat.zero_le _, sgs_nil, hx⟩, ⟨rfl, rfl, rfl, congrArg (fun n : Nat => Go.Rx.I (n : Int)) hm, rfl, trivial⟩, ⟨[], rfl⟩, rfl, rfl⟩
  rintro ⟨k, y⟩ ⟨hk, hy, hf⟩
  simp only at hk hy hf
  refine aw_of T_ok (by kernel_rfl) ?_
  conv => whnf
  split <;> rename_i hlt <;> conv => whnf
  · have hkl : k < l.length := by simpa using hlt
    have hrow : (l.map Rec.enc)[k]? = some (l[k]).enc := by simp [hkl]
    rw [fold_drop hkl] at hf
    have hrm := List.all_eq_true.1 ha _ (List.getElem_mem hkl)
    have hrk := hr _ (List.getElem_mem hkl)
    generalize l[k] = r at hrow hf hrm hrk
    cases hg : goesB y r with
    | false => rw [hg] at hf; cases hf
    | true =>
    rw [hg, if_pos rfl] at hf
    refine ⟨by omega, r.enc, hrow, ?_⟩
    conv => whnf
    refine ⟨[0], _, _, _, _, _, nodupB_ok rfl, rfl, rfl, wk_refl _, step_yes y r hy hrm hrk hg, ?_⟩
    conv => whnf
    exact ⟨(k + 1, stepL y r), ⟨⟨hkl, sgs_step hy hrm hrk hg, hf⟩, by show _ - (k + 1) < _ - k; omega⟩, ⟨rfl, rfl, rfl, rfl, congrArg Go.Rx.I (wrapI (by omega)), trivial⟩, ⟨_, rfl⟩, rfl, rfl⟩
  · have hkl : l.length ≤ k := by simpa using hlt
    rw [fold_end hkl] at hf
    cases hf
    exact ⟨[], [0], _, _, rfl, rfl, rfl, wk_refl _, rfl⟩
theorem of_bad (l : List Rec) (hl : l.length * 80 ≤ 140737488355328) (hr : ∀ r ∈ l, r.Ok) (hx : l.all recB = false ∨ (l.all recB = true ∧ foldL [] l = none)) :
    Con P 59 [.lf (.pv (encRecs l))] (noSg (ofP l).2) [] := by
  have hm : (l.map Rec.enc).length = l.length := List.length_map ..
  obtain ⟨e, he⟩ : ∃ e, e = (ofP l).2 := ⟨_, rfl⟩
  rw [← he]
  refine Con.of T_ok Tryz.func59 rfl (by kernel_rfl) (by kernel_rfl) (aw_of T_ok (by kernel_rfl) ?_)
  conv => whnf
  have cany := anyRec_con l hl hr
  rw [any_all] at cany
  refine callS cany rfl ?_
  conv => whnf
  split <;> rename_i h1 <;> conv => whnf
  · have ha : l.all recB = false := by simpa using h1
    rw [ofP, if_neg (by rw [ha]; decide)] at he
    subst he
    exact finA ⟨rfl⟩
  have ha : l.all recB = true := by simpa using h1
  have hx2 : foldL [] l = none := by
    rcases hx with hx | hx
    · rw [ha] at hx; cases hx
    · exact hx.2
  rw [ofP, if_pos ha, hx2] at he
  subst he
  refine AW.loop (fun p : Nat × List Saga => p.1 ≤ l.length ∧ Sgs p.2 ∧ foldL p.2 (l.drop p.1) = none) (fun p => [(4, .lf (.own 0 p.2.length)), (5, Bl true), (10, .lf (.pv (encRecs l))), (11, Go.Rx.I l.length), (12, Go.Rx.I p.1)]) (fun p => [sgB p.2]) (fun p => l.length - p.1) [.slot 4 40 9] ?_ ?_
  · exact ⟨rfl, (0, []), ⟨Nat.zero_le _, sgs_nil, hx2⟩, ⟨rfl, rfl, rfl, congrArg (fun n : Nat => Go.Rx.I (n : Int)) hm, rfl, trivial⟩, ⟨[], rfl⟩, rfl, rfl⟩
  rintro ⟨k, y⟩ ⟨hk, hy, hf⟩
  simp only at hk hy hf
  refine aw_of T_ok (by kernel_rfl) ?_
  conv => whnf
  split <;> rename_i hlt <;> conv => whnf
  · have hkl : k < l.length := by simpa using hlt
    have hrow : (l.map Rec.enc)[k]? = some (l[k]).enc := by simp [hkl]
    rw [fold_drop hkl] at hf
    have hrm := List.all_eq_true.1 ha _ (List.getElem_mem hkl)
    have hrk := hr _ (List.getElem_mem hkl)
    generalize l[k] = r at hrow hf hrm hrk
    cases hg : goesB y r with
    | true =>
      rw [hg, if_pos rfl] at hf
      refine ⟨by omega, r.enc, hrow, ?_⟩
      conv => whnf
      refine ⟨[0], _, _, _, _, _, nodupB_ok rfl, rfl, rfl, wk_refl _, step_yes y r hy hrm hrk hg, ?_⟩
      conv => whnf
      exact ⟨(k + 1, stepL y r), ⟨⟨hkl, sgs_step hy hrm hrk hg, hf⟩, by show _ - (k + 1) < _ - k; omega⟩, ⟨rfl, rfl, rfl, rfl, congrArg Go.Rx.I (wrapI (by omega)), trivial⟩, ⟨_, rfl⟩, rfl, rfl⟩
    | false =>
      refine ⟨by omega, r.enc, hrow, ?_⟩
      conv => whnf
      refine ⟨[0], _, _, _, _, _, nodupB_ok rfl, rfl, rfl, wk_refl _, step_no y r hy hrm hrk hg, ?_⟩
      conv => whnf
      exact finA ⟨rfl⟩
  · have hkl : l.length ≤ k := by simpa using hlt
    rw [fold_end hkl] at hf
    cases hf
theorem of_con (l : List Rec) (hl : l.length * 80 ≤ 140737488355328) (hr : ∀ r ∈ l, r.Ok) : Con P 59 [.lf (.pv (encRecs l))] (sagasE (ofP l)) [] := by
  cases ha : l.all recB with
  | false =>
    have e : ofP l = ([], 1) := by rw [ofP, if_neg (by rw [ha]; decide)]
    have h := of_bad l hl hr (.inl ha)
    rw [e] at h ⊢
    exact Con.stays h (by decide) ⟨[.lf (.pv (encSagas [])), Go.Rx.I 1], ⟨.inr (.inl ⟨_, _, rfl, rfl, wkN 9⟩), .inl rfl, trivial⟩, rfl⟩
  | true =>
    cases hx : foldL [] l with
    | none =>
      have e : ofP l = ([], 10) := by rw [ofP, if_pos ha, hx]
      have h := of_bad l hl hr (.inr ⟨ha, hx⟩)
      rw [e] at h ⊢
      exact Con.stays h (by decide) ⟨[.lf (.pv (encSagas [])), Go.Rx.I 10], ⟨.inr (.inl ⟨_, _, rfl, rfl, wkN 9⟩), .inl rfl, trivial⟩, rfl⟩
    | some x =>
      have e : ofP l = (x, 0) := by rw [ofP, if_pos ha, hx]
      have h := of_ok l x hl hr ha hx
      rw [e]
      exact Con.stays h (Nat.le_refl 2) ⟨List.length_map .., [.lf (.pv (encSagas x)), Go.Rx.I 0], wk_refl _, rfl⟩
end Go.Proofs.YtfjllfjmggooeaaGreatDoor.Rx

/- May sagas be together? How much a script of records is; what the laws share. -/
set_option linter.unusedVariables false
set_option linter.unusedSimpArgs false
namespace Go.Rx
def togAt (l : List Saga) (i : Nat) : Bool := match l[i]? with | some s => sagaB s && (s.id == ((i + 1 : Nat) : Int) && !(decide (0 ≤ keyI (l.take i) s.key))) | none => true
def togA (l : List Saga) : Bool := (List.range l.length).all (togAt l)
def togB (l : List Saga) : Bool := togA l && decide (l.length ≤ 20)
theorem togAt_eq {l : List Saga} {i : Nat} (h : i < l.length) : togAt l i = (sagaB l[i] && (l[i].id == ((i + 1 : Nat) : Int) && !(decide (0 ≤ keyI (l.take i) l[i].key)))) := by
  unfold togAt; rw [List.getElem?_eq_getElem h]
theorem tog_yes {l : List Saga} (h : ∀ j, j < l.length → togAt l j = true) : togA l = true := by
  rw [togA, List.all_eq_true]
  intro j hj
  exact h j (List.mem_range.1 hj)
theorem tog_no {l : List Saga} {k : Nat} (hk : k < l.length) (h : togAt l k = false) : togA l = false := by
  rw [togA, List.all_eq_false]
  exact ⟨k, List.mem_range.2 hk, by rw [h]; decide⟩
theorem tog_sgs {l : List Saga} (h : Sgs l) : togB l = true := by
  rw [togB, decide_eq_true h.len, Bool.and_true]
  refine tog_yes fun j hj => ?_
  have hs := h.sg j l[j] (List.getElem?_eq_getElem hj)
  rw [togAt_eq hj, hs.may, Bool.true_and, Bool.and_eq_true]
  refine ⟨by rw [hs.id]; simp, ?_⟩
  have : keyI (l.take j) l[j].key < 0 := idx_neg.2 fun x hx => by
    obtain ⟨i, hi, rfl⟩ := List.mem_iff_getElem.1 hx
    have hi' : i < j := by rw [List.length_take] at hi; omega
    have := hs.key i l[i] hi' (List.getElem?_eq_getElem (by omega))
    simpa using this
  simp; omega
theorem sgs_tog {l : List Saga} (hok : ∀ s ∈ l, s.Ok) (h : togB l = true) : Sgs l := by
  rw [togB, Bool.and_eq_true] at h
  have hat : ∀ (i : Nat) (s : Saga), l[i]? = some s → sagaB s = true ∧ s.id = ((i + 1 : Nat) : Int) ∧ keyI (l.take i) s.key < 0 := fun i s hs => by
    have hi := (List.getElem?_eq_some_iff.1 hs).1
    have h1 := List.all_eq_true.1 h.1 i (List.mem_range.2 hi)
    unfold togAt at h1
    rw [hs] at h1
    simp only [Bool.and_eq_true, Bool.not_eq_true', decide_eq_false_iff_not, beq_iff_eq] at h1
    exact ⟨h1.1, h1.2.1, by omega⟩
  refine ⟨of_decide_eq_true h.2, fun i s hs => ?_⟩
  obtain ⟨h1, h2, h3⟩ := hat i s hs
  refine ⟨hok s (List.mem_of_getElem? hs), h1, by rw [h2]; rfl, fun j x hj hx => ?_⟩
  have := idx_neg.1 h3 x (List.mem_of_getElem? (by rw [List.getElem?_take_of_lt hj]; exact hx))
  simpa using this
end Go.Rx
namespace Go.Proofs.YtfjllfjmggooeaaGreatDoor.Rx
open Go.Rx Go.Proofs Go.Proofs.YtfjllfjmggooeaaGreatDoor.RxH

theorem replayMay_con (l : List Saga) (hl : l.length * 96 ≤ 140737488351232) (hs : ∀ s ∈ l, s.Ok) : Con P 87 [.lf (.pv (encSagas l))] (Bl (togB l)) [] := by
  have hm : (l.map Saga.enc).length = l.length := List.length_map ..
  refine Con.of T_ok Tryz.func87 rfl (by kernel_rfl) (by kernel_rfl) (aw_of T_ok (by kernel_rfl) ?_)
  conv => whnf
  refine AW.loop (fun k : Nat => k ≤ l.length ∧ ∀ j, j < k → togAt l j = true) (fun k => [(0, .lf (.pv (encSagas l))), (5, .lf (.pv (encSagas l))), (6, Go.Rx.I l.length), (7, Go.Rx.I k)]) (fun _ => []) (fun k => l.length - k) [] ?_ ?_
  · exact ⟨0, ⟨Nat.zero_le _, fun j hj => absurd hj (Nat.not_lt_zero _)⟩, ⟨rfl, rfl, congrArg (fun n : Nat => Go.Rx.I (n : Int)) hm, rfl, trivial⟩, ⟨[], rfl⟩, rfl, rfl⟩
  rintro k ⟨hk, hpre⟩
  refine aw_of T_ok (by kernel_rfl) ?_
  conv => whnf
  split <;> rename_i hlt <;> conv => whnf
  · have hkl : k < l.length := by simpa using hlt
    have hrow : (l.map Saga.enc)[k]? = some (l[k]).enc := by simp [hkl]
    have hat := togAt_eq hkl
    have hsk := hs _ (List.getElem_mem hkl)
    generalize l[k] = s at hrow hat hsk
    have no : togAt l k = false → false = togB l := fun h => by rw [togB, tog_no hkl h]; rfl
    refine ⟨by omega, s.enc, hrow, ?_⟩
    conv => whnf
    refine AW.draw T_ok rfl (listPl [0, 1, 2, 3, 4, 5, 6, 7, 8, 9, 10, 11, 12, 14, 15, 13, 16, 17, 18]) (by kernel_rfl) (by kernel_rfl) ?_
    conv => whnf
    refine callS (sagaMay_con s hsk) rfl ?_
    conv => whnf
    split <;> rename_i h1 <;> conv => whnf
    · exact finB ⟨no (by rw [hat, show sagaB s = false by simpa using h1]; rfl)⟩
    have w1 : IntKind.i64.wrap ((k : Int) + 1) = ((k + 1 : Nat) : Int) := wrapI (by omega)
    split <;> rename_i h2 <;> conv => whnf
    · refine finB ⟨no ?_⟩
      have h2' : (s.id != IntKind.i64.wrap ((k : Int) + 1)) = true := h2
      rw [w1] at h2'
      rw [hat, show (s.id == ((k + 1 : Nat) : Int)) = false by simpa using h2']
      simp
    have h2' : (s.id == ((k + 1 : Nat) : Int)) = true := by
      have h2' : (s.id != IntKind.i64.wrap ((k : Int) + 1)) = false := h2
      rw [w1] at h2'
      simpa using h2'
    refine ⟨by decide, by omega, by rw [hm]; omega, ?_⟩
    conv => whnf
    have ck := keyed_con (l.take k) s.key (by rw [List.length_take]; omega)
    rw [show encSagas (l.take k) = .sl 9 ((l.map Saga.enc).take k) by rw [encSagas, List.map_take]] at ck
    refine callS ck rfl ?_
    conv => whnf
    split <;> rename_i h3 <;> conv => whnf
    · refine finB ⟨no ?_⟩
      rw [hat, show decide (0 ≤ keyI (l.take k) s.key) = true from h3]
      simp
    refine ⟨k + 1, ⟨⟨by omega, fun j hj => ?_⟩, by omega⟩, ⟨rfl, rfl, rfl, congrArg Go.Rx.I w1, trivial⟩, ⟨_, rfl⟩, rfl, rfl⟩
    rcases Nat.lt_or_ge j k with hjk | hjk
    · exact hpre j hjk
    · obtain rfl : j = k := by omega
      rw [hat, show sagaB s = true by simpa using h1, h2', show decide (0 ≤ keyI (l.take j) s.key) = false from h3]
      rfl
  · have hkl : k = l.length := by have : ¬ ((k : Int) < (l.length : Int)) := by simpa using hlt
                                  omega
    refine finB ⟨?_⟩
    rw [togB, tog_yes (fun j hj => hpre j (by omega)), Bool.true_and, hm]
    simp
    omega
end Go.Proofs.YtfjllfjmggooeaaGreatDoor.Rx

/- strings.Builder: its functions as contracts of functions that blocks are lent to. -/
set_option linter.unusedVariables false
set_option linter.unusedSimpArgs false
namespace Go.Proofs.YtfjllfjmggooeaaGreatDoor.RxB
open Go.RowKit Go.Proofs
theorem hb_size : (Tryz.prog.info? 243).map (·.size) = some 2 := by kernel_rfl
theorem hb_byte : (Tryz.prog.info? 5).map (fun i => (i.zero, i.size, i.bytes)) = some (some (.int .u8 0), 1, 1) := by kernel_rfl
/-- A builder lies at the begin of a variable of this type. -/
def Lies (T : TypeId) : Prop := liesAt Tryz.prog Tryz.prog.depth T (2 / Tryz.prog.cellsOf T) 0 243 1 = true
set_option maxHeartbeats 1000000 in
set_option maxRecDepth 100000 in
theorem copyCheck_used (b : Nat) (w : World) (h0 : w.cell? ⟨b, 0, none⟩ = some (.pointer (some ⟨b, 0, none⟩))) :
    Calls Tryz.prog 214 #[.pointer (some ⟨b, 0, none⟩)] w fun e w' => e = .returned (.tuple #[]) ∧ w' = w := by
  obtain ⟨j, hj, _⟩ := Option.map_eq_some_iff.1 hb_size
  go_enter Tryz.func214, Tryz.ntmps214
  go_wp2
  rw [Lib.run_neq_ptr_same w _ Tryz.underlying241 hj]
  go_wp2
  go_end0
  exact ⟨rfl, rfl⟩
set_option maxHeartbeats 1000000 in
set_option maxRecDepth 100000 in
theorem copyCheck_fresh (b : Nat) (T : TypeId) (hT : Lies T) (w : World) (h0 : w.cell? ⟨b, 0, none⟩ = some (.pointer none)) (hsh : w.shape? b = some (T, 2)) (hfz : w.frozen? ⟨b, 0, none⟩ = false) :
    Calls Tryz.prog 214 #[.pointer (some ⟨b, 0, none⟩)] w fun e w' => e = .returned (.tuple #[]) ∧ w' = w.setCell ⟨b, 0, none⟩ (.pointer (some ⟨b, 0, none⟩)) := by
  obtain ⟨j, hj, hjs⟩ := Option.map_eq_some_iff.1 hb_size
  go_enter Tryz.func214, Tryz.ntmps214
  go_wp2
  rw [Lib.run_to_unsafe w ⟨b, 0, none⟩ Tryz.underlying241 Tryz.underlying183 hj (by rw [hjs]; decide) hsh (Nat.zero_lt_succ 1)]
  simp only [Result.andThen]
  rw [Oper.upon_value]
  go_wp2
  rw [run_callFunc_extern Tryz.func225 (by kernel_rfl) (by kernel_rfl) (by kernel_rfl) (e := Extern.AbiNoEscape.same) (by kernel_rfl)]
  rw [Lib.run_noEscape]
  simp only [Result.andThen]
  rw [Oper.upon_value]
  go_wp2
  rw [Lib.run_from_unsafe w ⟨b, 0, none⟩ Tryz.underlying183 Tryz.underlying241 hj hsh hT]
  simp only [Result.andThen]
  rw [Oper.upon_value]
  go_wp2
  go_end0
  exact ⟨rfl, rfl⟩
set_option maxHeartbeats 2000000 in
set_option maxRecDepth 100000 in
/-- The text of a builder that holds some bytes: they are frozen in its rows. -/
theorem string_some (b g cap : Nat) (cs cur : Array Value) (T : TypeId) (l : List UInt8) (w : World) (h0 : l ≠ []) (hcap : cap ≠ 0) (hb : w.heap[b]? = some (.cells cs T (0, 0))) (hc : cs[1]? = some (.slice (some ⟨g, 0, none⟩) l.length cap))
    {fz : Nat × Nat} (hg : w.heap[g]? = some (.cells cur 5 fz)) (hl : l.length ≤ cur.size) (h63 : l.length ≤ 9223372036854775807) (hcell : ∀ (j : Nat) (x : UInt8), l[j]? = some x → cur[j]? = some (Value.int .u8 x.toNat)) :
    Calls Tryz.prog 187 #[.pointer (some ⟨b, 0, none⟩)] w fun e w' => e = .returned (.string ⟨l.toArray⟩) ∧ w' = w.drew.freeze ⟨g, 0, none⟩ l.length := by
  have c1 : w.drew.cell? ⟨b, 1, none⟩ = some (.slice (some ⟨g, 0, none⟩) l.length cap) := by
    have : w.drew.heap[b]? = some (.cells cs T (0, 0)) := hb
    rw [Lib.cell_of_heap this]; exact hc
  have hSD : (Builtin.unsafeSliceData_ #[100] 261 #[.slice (some ⟨g, 0, none⟩) l.length cap]).run Tryz.prog w.drew = .ok (.pointer (some ⟨g, 0, none⟩)) w.drew :=
    Lib.run_unsafeSliceData_row _ _ _ _ _ _ hcap
  have hUS : (Builtin.unsafeString_ #[261, 3] 9 #[.pointer (some ⟨g, 0, none⟩), .int .i64 l.length]).run Tryz.prog w.drew = .ok (.string ⟨l.toArray⟩) (w.drew.freeze ⟨g, 0, none⟩ l.length) := by
    have hg' : w.drew.heap[g]? = some (.cells cur 5 fz) := hg
    refine Lib.run_unsafeString_row w.drew 261 3 9 5 Tryz.underlying261 (by kernel_rfl) g cur.size (by simp [World.shape?, hg']) l h0 hl h63 ?_
    intro j x hx
    rw [Addr.add_lit, Lib.cell_of_heap hg', Nat.zero_add]
    exact hcell j x hx
  have mixed : Tryz.prog.follows Departure.mixedOrders = true := by kernel_rfl
  go_enter Tryz.func187, Tryz.ntmps187
  go_wp2
  go_region_o
  all_goals (go_wp2; go_ret; exact ⟨rfl, rfl⟩)
end Go.Proofs.YtfjllfjmggooeaaGreatDoor.RxB
namespace Go.Rx
open Go.RowKit
section
variable {C : Ctx} {G : Gh} {bk : List Blk} {w w' : World}
/-- Rows of the call's own are given up; their block may turn. -/
theorem Mem.lose (h : Mem C G bk w) {b e sz : Nat} {rows : List (List PV)} (hb : bk[b]? = some (.arr e sz rows)) (hoth : ∀ g, G.M b ≠ some g → w'.heap[g]? = w.heap[g]?) (hsz : w'.heap.size = w.heap.size) (hos : w'.os = w.os) (htp : w'.tape = w.tape) (hou : w'.output = w.output) :
    ∃ G', Trn G bk w G' (bk.set b (.lost sz (rows ++ [[]]))) w' ∧ Mem C G' (bk.set b (.lost sz (rows ++ [[]]))) w' := by
  have hbl : b < bk.length := (List.getElem?_eq_some_iff.1 hb).1
  have hrb : rowsOf bk b = some (sz, rows) := by unfold rowsOf; rw [hb]
  let G' : Gh := { M := fun i => if i = b then none else G.M i, S := G.S, cp := G.cp }
  have hlen : (bk.set b (.lost sz (rows ++ [[]]))).length = bk.length := by simp
  have g0 : ∀ i, i ≠ b → (bk.set b (.lost sz (rows ++ [[]])))[i]? = bk[i]? := fun i hn => List.getElem?_set_ne (Ne.symm hn)
  have gb : (bk.set b (.lost sz (rows ++ [[]])))[b]? = some (.lost sz (rows ++ [[]])) := List.getElem?_set_self hbl
  have hM : ∀ i, i ≠ b → G'.M i = G.M i := fun i hn => if_neg hn
  have hMb : G'.M b = none := if_pos rfl
  have hro : ∀ i, i ≠ b → rowsOf (bk.set b (.lost sz (rows ++ [[]]))) i = rowsOf bk i := fun i hn => by unfold rowsOf; rw [g0 i hn]
  have hrlost : rowsOf (bk.set b (.lost sz (rows ++ [[]]))) b = some (sz, rows ++ [[]]) := by unfold rowsOf; rw [gb]
  have ab : Alive bk b := by unfold Alive; rw [hb]; trivial
  have hne : ∀ g o, G.S g o → G.M b ≠ some g := fun g o hs => h.sdis g o b hs ab
  have t : Trn G bk w G' (bk.set b (.lost sz (rows ++ [[]]))) w' := by
    refine ⟨fun _ _ h => h, fun g o hs => World.cell?_of_block (a := ⟨g, o, none⟩) (hoth g (hne g o hs)), by rw [hlen]; exact Nat.le_refl _, fun i hi hr => ?_, fun i s r hr => ?_⟩
    · have hn : i ≠ b := fun e => by subst e; rw [hrb] at hr; cases hr
      exact ⟨by rw [hro i hn]; exact hr, hM i hn⟩
    · by_cases hn : i = b
      · subst hn
        rw [hrb] at hr
        cases hr
        refine ⟨_, hrlost, by simp, fun h => ?_⟩
        simp at h
      · exact ⟨r, by rw [hro i hn]; exact hr, Nat.le_refl _, fun _ => ⟨hM i hn, rfl⟩⟩
  have oth : ∀ i g, i < bk.length → i ≠ b → G.M i = some g → w'.heap[g]? = w.heap[g]? := fun i g hi hn hg => hoth g fun e => hn (h.inj i b g hi hbl hg e)
  refine ⟨G', t, ⟨fun i B hB => ?_, fun i j g hi hj e1 e2 => ?_, fun g o i hs ha e1 => ?_, fun g o hs => by rw [hsz]; exact h.slt g o hs, fun i g hi e1 => ?_, fun i g hi e1 => ?_, h.s0, h.snew, hos.trans h.os, htp.trans h.tape, hou.trans h.output, by rw [hsz]; exact h.size, fun g hg hn => ?_, by rw [hlen]; exact h.mle, h.t0.trans t⟩⟩
  · by_cases hn : i = b
    · subst hn
      rw [gb] at hB
      cases hB
      exact hMb
    · rw [g0 i hn] at hB
      exact RepB.step t (hM i hn) rfl (fun g hg => oth i g (List.getElem?_eq_some_iff.1 hB).1 hn hg) (h.blk i B hB)
  · rw [hlen] at hi hj
    by_cases hn : i = b
    · subst hn; rw [hMb] at e1; cases e1
    · by_cases hn2 : j = b
      · subst hn2; rw [hMb] at e2; cases e2
      · rw [hM i hn] at e1; rw [hM j hn2] at e2; exact h.inj i j g hi hj e1 e2
  · by_cases hn : i = b
    · subst hn; rw [hMb] at e1; cases e1
    · rw [hM i hn] at e1
      exact h.sdis g o i hs (by unfold Alive at ha ⊢; rw [g0 i hn] at ha; exact ha) e1
  · rw [hlen] at hi
    by_cases hn : i = b
    · subst hn; rw [hMb] at e1; cases e1
    · rw [hM i hn] at e1; rw [hsz]; exact h.mlt i g hi e1
  · rw [hlen] at hi
    by_cases hn : i = b
    · subst hn; rw [hMb] at e1; cases e1
    · rw [hM i hn] at e1; exact h.new i g hi e1
  · rw [hoth g fun e => ?_]
    · exact h.block g hg hn
    · rcases h.new b g hbl e with h1 | ⟨b', h1, h2⟩
      · omega
      · exact hn b' h1 h2
end
end Go.Rx
namespace Go.Proofs.YtfjllfjmggooeaaGreatDoor.Rx
open Go.Rx Go.Proofs Go.RowKit Go.Proofs.YtfjllfjmggooeaaGreatDoor.RxB

theorem copyCheck_con (t : TypeId) (ht : Lies t) (x : Lf) (rest : List Blk) : ConG P 214 (.var [.bad 0 t, x] :: rest) [.lf (.ptr 0 0)] (.tup []) (.var [.bad 0 t, x] :: rest) := by
  refine ⟨by kernel_rfl, fun w G0 us hm hargs => ?_⟩
  cases us with
  | nil => exact hargs.elim
  | cons v us =>
    cases us with
    | cons _ _ => exact hargs.2.elim
    | nil =>
      obtain ⟨⟨⟨g, hg, rfl⟩, _, hro⟩, _⟩ := hargs
      obtain ⟨g', cur, ty, hg', ⟨hb, hbad⟩, hf⟩ := hm.blk 0 (.var [.bad 0 t, x]) rfl
      rw [hg] at hg'
      cases hg'
      have hty : ty = t := hbad t (by simp)
      subst hty
      cases cur with
      | nil => exact hf.elim
      | cons a cur =>
        cases cur with
        | nil => exact hf.2.elim
        | cons xv cur =>
          cases cur with
          | cons _ _ => exact hf.2.2.elim
          | nil =>
            obtain ⟨⟨ha, _⟩, hx, _⟩ := hf
            rcases ha with rfl | ⟨g2, hg2, rfl⟩
            · refine (copyCheck_fresh g ty ht w (by rw [Lib.cell_of_heap hb]; rfl) (by simp [World.shape?, hb]) (Lib.frozen_of_heap hb 0)).mono ?_
              rintro e w' ⟨rfl, rfl⟩
              have hb2 : (w.setCell ⟨g, 0, none⟩ (.pointer (some ⟨g, 0, none⟩))).heap[g]? = some (.cells #[.pointer (some ⟨g, 0, none⟩), xv] ty (0, 0)) := by
                simp [World.setCell, Array.getElem?_modify, hb]
              have hal : Alive (.var [.bad 0 ty, x] :: rest) 0 := trivial
              obtain ⟨t1, m1⟩ := hm.setb (w' := w.setCell ⟨g, 0, none⟩ (.pointer (some ⟨g, 0, none⟩))) 0 hal (.var [.bad 0 ty, x]) hal (.inl ⟨rfl, rfl⟩)
                (fun k hk => by
                  have : k ≠ g := fun e => hk (by rw [hg, e])
                  simp only [World.setCell, Array.getElem?_modify]
                  rw [if_neg (by simpa using (Ne.symm this))])
                (by simp [World.setCell]) rfl rfl rfl
                (fun t1 => ⟨g, [.pointer (some ⟨g, 0, none⟩), xv], ty, hg, ⟨hb2, hbad⟩, ⟨.inr ⟨g, hg, rfl⟩, by simp, rfl⟩, t1.repL hx, trivial⟩)
              exact ⟨_, G0, rfl, ⟨[], rfl, trivial⟩, m1⟩
            · rw [hg] at hg2
              cases hg2
              refine (copyCheck_used g w (by rw [Lib.cell_of_heap hb]; rfl)).mono ?_
              rintro e w' ⟨rfl, rfl⟩
              exact ⟨_, G0, rfl, ⟨[], rfl, trivial⟩, hm⟩
theorem bldString_con (t : TypeId) (z : ByteArray) (h0 : 1 ≤ z.size) (h63 : z.size ≤ 9223372036854775807) :
    ConG P 187 [.var [.bad 0 t, .own 1 z.size], .arr 5 1 (byteRows z)] [.lf (.ptr 0 0)] (Sx z) [.var [.bad 0 t, .own 1 z.size], .lost 1 (byteRows z ++ [[]])] := by
  refine ⟨by kernel_rfl, fun w G0 us hm hargs => ?_⟩
  cases us with
  | nil => exact hargs.elim
  | cons v us =>
    cases us with
    | cons _ _ => exact hargs.2.elim
    | nil =>
      obtain ⟨⟨⟨g, hg, rfl⟩, _, hro⟩, _⟩ := hargs
      obtain ⟨g', cur, ty, hg', ⟨hb, hbad⟩, hf⟩ := hm.blk 0 _ rfl
      rw [hg] at hg'
      cases hg'
      have hrl : (byteRows z).length = z.size := by simp [byteRows]
      have hll : z.data.toList.length = z.size := by simp
      cases cur with
      | nil => exact hf.elim
      | cons a cur =>
        cases cur with
        | nil => exact hf.2.elim
        | cons xv cur =>
          cases cur with
          | cons _ _ => exact hf.2.2.elim
          | nil =>
            obtain ⟨_, hx, _⟩ := hf
            obtain ⟨_, sz, rows, hrows, _, hx4⟩ := hx
            have hr1 : rowsOf [Blk.var [.bad 0 t, .own 1 z.size], .arr 5 1 (byteRows z)] 1 = some (1, byteRows z) := rfl
            rw [hr1] at hrows
            cases hrows
            rcases hx4 hrl with ⟨g2, hg2, rfl⟩ | ⟨_, hz, _⟩
            · rcases hm.blk 1 _ rfl with ⟨hq, _⟩ | ⟨g3, c2, hg3, ⟨fz, h1, _⟩, h2, h3, h4, h5⟩
              · rw [hg2] at hq; cases hq
              rw [hg2] at hg3
              cases hg3
              have hcs : z.data.toList.length ≤ c2.size := by rw [hll, h3, Nat.mul_one, ← hrl]; exact h4
              refine (string_some g g2 (G0.cp 1) #[a, .slice (some ⟨g2, 0, none⟩) z.size (G0.cp 1)] c2 ty z.data.toList w (by intro e; rw [e] at hll; simp at hll; omega) (by omega) hb (by rw [hll]; rfl) h1 hcs (by rw [hll]; exact h63) (fun j x hj => ?_)).mono ?_
              · obtain ⟨_, hc⟩ := h5 j [.sc (.int .u8 x.toNat)] (by unfold byteRows; rw [List.getElem?_map, hj]; rfl)
                obtain ⟨u, hu, hru⟩ := hc 0 _ rfl
                rw [Nat.mul_one, Nat.add_zero] at hu
                have : u = .int .u8 x.toNat := by cases hru; rfl
                rw [hu, this]
              · rintro e w' ⟨rfl, rfl⟩
                have hfz : ∀ k, k ≠ g2 → (w.drew.freeze ⟨g2, 0, none⟩ z.data.toList.length).heap[k]? = w.heap[k]? := fun k hk => by
                  unfold World.freeze
                  split
                  · rfl
                  · simp only [Array.getElem?_modify]
                    rw [if_neg (by simpa using Ne.symm hk)]
                    rfl
                have hfs : (w.drew.freeze ⟨g2, 0, none⟩ z.data.toList.length).heap.size = w.heap.size := by
                  unfold World.freeze
                  split
                  · rfl
                  · show (w.drew.heap.modify _ _).size = _
                    rw [Array.size_modify]; rfl
                have hfo : (w.drew.freeze ⟨g2, 0, none⟩ z.data.toList.length).os = w.os ∧ (w.drew.freeze ⟨g2, 0, none⟩ z.data.toList.length).tape = w.tape ∧ (w.drew.freeze ⟨g2, 0, none⟩ z.data.toList.length).output = w.output := by
                  unfold World.freeze
                  split <;> exact ⟨rfl, rfl, rfl⟩
                obtain ⟨G', t1, m1⟩ := hm.lose (w' := w.drew.freeze ⟨g2, 0, none⟩ z.data.toList.length) (b := 1) rfl (fun k hk => hfz k fun e => hk (by rw [hg2, e])) hfs hfo.1 hfo.2.1 hfo.2.2
                exact ⟨_, G', rfl, RepP.sc _ rfl, m1⟩
            · omega
theorem write_con (t : TypeId) (ht : Lies t) (n k : Nat) (rows prow : List (List PV)) (hn : rows.length = n) (hk : prow.length = k) (hb : n + k ≤ 140737488355328) :
    ConG P 202 [.var [.bad 0 t, .own 1 n], .arr 5 1 rows, .arr 5 1 prow] [.lf (.ptr 0 0), .lf (.own 2 k)] (.tup [.lf (.pv (pI k)), .lf (.pv (.sc .nilIface))]) [.var [.bad 0 t, .own 1 (n + k)], .arr 5 1 (rows ++ prow), .frz 1 prow] := by
  refine ConG.of T_ok Tryz.func202 rfl (by kernel_rfl) (by kernel_rfl) (aw_of T_ok (by kernel_rfl) ?_)
  conv => whnf
  refine ⟨[0, 1], _, _, _, _, _, nodupB_ok rfl, rfl, rfl, wk_refl _, copyCheck_con t ht _ _, ?_⟩
  conv => whnf
  refine ⟨hk, prow, .inl rfl, ?_⟩
  conv => whnf
  refine ⟨hn, by show (n + prow.length) * 1 ≤ _; omega, ?_⟩
  conv => whnf
  refine ⟨hk, ?_⟩
  conv => whnf
  subst hk
  exact ⟨[], [0, 1, 2], _, _, rfl, rfl, rfl, wk_refl _, rfl⟩
theorem writeString_con (t : TypeId) (ht : Lies t) (n : Nat) (rows : List (List PV)) (s : ByteArray) (hn : rows.length = n) (hb : n + s.size ≤ 140737488355328) :
    ConG P 203 [.var [.bad 0 t, .own 1 n], .arr 5 1 rows] [.lf (.ptr 0 0), Sx s] (.tup [.lf (.pv (pI s.size)), .lf (.pv (.sc .nilIface))]) [.var [.bad 0 t, .own 1 (n + s.size)], .arr 5 1 (rows ++ byteRows s)] := by
  refine ConG.of T_ok Tryz.func203 rfl (by kernel_rfl) (by kernel_rfl) (aw_of T_ok (by kernel_rfl) ?_)
  conv => whnf
  refine ⟨[0, 1], _, _, _, _, _, nodupB_ok rfl, rfl, rfl, wk_refl _, copyCheck_con t ht _ _, ?_⟩
  conv => whnf
  refine ⟨hn, by show (n + s.size) * 1 ≤ _; omega, ?_⟩
  conv => whnf
  exact ⟨[], [0, 1], _, _, rfl, rfl, rfl, wk_refl _, rfl⟩
end Go.Proofs.YtfjllfjmggooeaaGreatDoor.Rx

/- A record's bytes: numbers and texts that are added to a builder. -/
set_option linter.unusedVariables false
set_option linter.unusedSimpArgs false
namespace Go.Rx
/-- A number's lowest byte. -/
def byteZ (x : Int) : UInt8 := UInt8.ofNat (x % 256).toNat
theorem u8_wrap (x : Int) : IntKind.u8.wrap x = x % 256 := by
  have h : ∀ y : Int, IntKind.u8.wrap y = y % 256 := fun y => by
    simp [IntKind.wrap, IntKind.bits, IntKind.signed]
  exact h x
theorem byteZ_nat (x : Int) : ((byteZ x).toNat : Int) = x % 256 := by
  unfold byteZ
  have h0 : 0 ≤ x % 256 := Int.emod_nonneg _ (by decide)
  have h1 : x % 256 < 256 := Int.emod_lt_of_pos _ (by decide)
  have : (UInt8.ofNat (x % 256).toNat).toNat = (x % 256).toNat := by
    rw [UInt8.toNat_ofNat']
    omega
  rw [this]; omega
theorem byteZ_wrap (x : Int) : IntKind.u8.wrap x = ((byteZ x).toNat : Int) := by rw [u8_wrap, byteZ_nat]
/-- Four bytes of a number, the highest first. -/
def be4 (x : Int) : List UInt8 := [byteZ (x.fdiv 16777216), byteZ (x.fdiv 65536), byteZ (x.fdiv 256), byteZ x]
def bytesOf (l : List UInt8) : ByteArray := ⟨l.toArray⟩
def numsL (l : List Int) : List UInt8 := l.flatMap be4
theorem nums_snoc (l : List Int) (x : Int) : numsL (l ++ [x]) = numsL l ++ be4 x := by rw [numsL, List.flatMap_append]; simp [numsL]
theorem nums_len (l : List Int) : (numsL l).length = 4 * l.length := by
  induction l with
  | nil => rfl
  | cons x l ih => rw [numsL, List.flatMap_cons, List.length_append]; show (be4 x).length + (numsL l).length = _; rw [ih]; simp [be4]; omega
def rowsB (l : List UInt8) : List (List PV) := l.map fun c => [.sc (.int .u8 c.toNat)]
theorem rowsB_append (a b : List UInt8) : rowsB (a ++ b) = rowsB a ++ rowsB b := List.map_append
theorem rowsB_len (a : List UInt8) : (rowsB a).length = a.length := List.length_map ..
theorem rowsB_of (s : ByteArray) : byteRows s = rowsB s.data.toList := rfl
end Go.Rx
namespace Go.Proofs.YtfjllfjmggooeaaGreatDoor.Rx
open Go.Rx Go.Proofs Go.Proofs.YtfjllfjmggooeaaGreatDoor.RxB

theorem writer_lies : Lies 245 := by unfold Lies; kernel_rfl
abbrev intB (l : List Int) : Blk := .arr 3 1 (l.map fun n => [pI n])
abbrev bldB (l : List UInt8) : List Blk := [.var [.bad 0 245, .own 1 l.length], .arr 5 1 (rowsB l)]
theorem numbers_con (b : List UInt8) (l : List Int) (hb : b.length + 4 * l.length ≤ 140737488355328) (hl : l.length ≤ 140737488355328) :
    ConG P 186 (bldB b ++ [intB l]) [.lf (.ptr 0 0), .lf (.own 2 l.length)] (.tup []) (bldB (b ++ numsL l) ++ [intB l]) := by
  have hm : (l.map fun n => [pI n]).length = l.length := List.length_map ..
  refine ConG.of T_ok Tryz.func186 rfl (by kernel_rfl) (by kernel_rfl) (aw_of T_ok (by kernel_rfl) ?_)
  conv => whnf
  refine ⟨hm, ?_⟩
  conv => whnf
  refine AW.loop (fun k : Nat => k ≤ l.length) (fun k => [(0, .lf (.ptr 0 0)), (6, .lf (.own 2 l.length)), (7, Go.Rx.I l.length), (8, Go.Rx.I k)]) (fun k => bldB (b ++ numsL (l.take k)) ++ [intB l]) (fun k => l.length - k) [] ?_ ?_
  · exact ⟨0, Nat.zero_le _, ⟨rfl, rfl, rfl, rfl, trivial⟩, ⟨[], congrArg (fun c => bldB c ++ [intB l]) (List.append_nil b).symm⟩, rfl, rfl⟩
  intro k hk
  have wk : IntKind.i64.wrap ((k : Int) + 1) = ((k + 1 : Nat) : Int) := wrapI (by omega)
  have hbl : (rowsB (b ++ numsL (l.take k))).length = (b ++ numsL (l.take k)).length := rowsB_len _
  have hln : (b ++ numsL (l.take k)).length = b.length + 4 * k := by rw [List.length_append, nums_len, List.length_take]; omega
  refine aw_of T_ok (by kernel_rfl) ?_
  conv => whnf
  split <;> rename_i hlt <;> conv => whnf
  · have hkl : k < l.length := by have : (k : Int) < (l.length : Int) := of_decide_eq_true hlt
                                  omega
    have hrow : (l.map fun n => [pI n])[k]? = some [pI l[k]] := by simp [hkl]
    have hnx : numsL (l.take (k + 1)) = numsL (l.take k) ++ be4 l[k] := by rw [take_succ' hkl, nums_snoc]
    generalize l[k] = x at hrow hnx
    refine ⟨hm, by omega, by omega, ?_⟩
    conv => whnf
    refine ⟨rfl, hm, _, hrow, ?_⟩
    conv => whnf
    refine ⟨by decide, ?_⟩
    conv => whnf
    refine ⟨by decide, ?_⟩
    conv => whnf
    refine ⟨by decide, ?_⟩
    conv => whnf
    refine ⟨[0, 1, 3], _, _, _, _, _, nodupB_ok rfl, rfl, rfl, wk_refl _, write_con 245 writer_lies (b ++ numsL (l.take k)).length 4 _ _ hbl rfl (by omega), ?_⟩
    conv => whnf
    have er : rowsB (b ++ numsL (l.take k)) ++ [[PV.sc (.int .u8 (IntKind.u8.wrap (x.fdiv 16777216)))], [PV.sc (.int .u8 (IntKind.u8.wrap (x.fdiv 65536)))], [PV.sc (.int .u8 (IntKind.u8.wrap (x.fdiv 256)))], [PV.sc (.int .u8 (IntKind.u8.wrap x))]] = rowsB (b ++ numsL (l.take (k + 1))) := by
      rw [byteZ_wrap, byteZ_wrap, byteZ_wrap, byteZ_wrap, hnx, ← List.append_assoc, rowsB_append (b ++ numsL (l.take k))]
      rfl
    have el : (b ++ numsL (l.take k)).length + 4 = (b ++ numsL (l.take (k + 1))).length := by rw [hnx, ← List.append_assoc, List.length_append (bs := be4 x)]; rfl
    refine ⟨k + 1, ⟨hkl, by omega⟩, ⟨rfl, rfl, rfl, congrArg Go.Rx.I wk, trivial⟩, ⟨[?r1], ?e1⟩, rfl, rfl⟩
    case e1 =>
      show _ = [Blk.var [.bad 0 245, .own 1 (b ++ numsL (l.take (k + 1))).length], .arr 5 1 (rowsB (b ++ numsL (l.take (k + 1)))), intB l] ++ [_]
      rw [← er, ← el]
      rfl
  · have hkl : k = l.length := by have : ¬ ((k : Int) < (l.length : Int)) := of_decide_eq_false hlt
                                  omega
    refine ⟨[], [0, 1, 2], [], [], rfl, ?_, rfl, wk_refl _, rfl⟩
    rw [hkl, List.take_length]
    rfl
end Go.Proofs.YtfjllfjmggooeaaGreatDoor.Rx

/- A record's bytes, without their frame. -/
set_option linter.unusedVariables false
set_option linter.unusedSimpArgs false
namespace Go.Rx
def txtL (s : ByteArray) : List UInt8 := be4 s.size ++ s.data.toList
def stepL1 (x : Step) : List UInt8 := txtL x.nm ++ be4 x.service ++ txtL x.op ++ txtL x.undo ++ txtL x.who ++ be4 x.n
def headL (r : Rec) : List UInt8 := numsL [r.kind, r.id, r.n, 0]
def moreL (r : Rec) : List UInt8 := txtL r.key ++ txtL r.body ++ be4 r.steps.length
def plainL (r : Rec) : List UInt8 := if r.kind = 1 then headL r ++ moreL r ++ r.steps.flatMap stepL1 else headL r
theorem be4_len (x : Int) : (be4 x).length = 4 := rfl
theorem txt_len (s : ByteArray) : (txtL s).length = 4 + s.size := by rw [txtL, List.length_append, be4_len]; rfl
theorem head_len (r : Rec) : (headL r).length = 16 := rfl
structure SmallR (r : Rec) : Prop where
  key : r.key.size ≤ 100
  body : r.body.size ≤ 4000
  len : r.steps.length ≤ 5
  st : ∀ x ∈ r.steps, x.nm.size ≤ 100 ∧ x.op.size ≤ 100 ∧ x.undo.size ≤ 100 ∧ x.who.size ≤ 100
theorem step_len {x : Step} (h : x.nm.size ≤ 100 ∧ x.op.size ≤ 100 ∧ x.undo.size ≤ 100 ∧ x.who.size ≤ 100) : (stepL1 x).length ≤ 424 := by
  simp only [stepL1, List.length_append, txt_len, be4_len]; omega
theorem steps_len {l : List Step} (h : ∀ x ∈ l, x.nm.size ≤ 100 ∧ x.op.size ≤ 100 ∧ x.undo.size ≤ 100 ∧ x.who.size ≤ 100) : (l.flatMap stepL1).length ≤ 424 * l.length := by
  induction l with
  | nil => exact Nat.le_refl _
  | cons x l ih =>
    rw [List.flatMap_cons, List.length_append]
    have := ih fun y hy => h y (by simp [hy])
    have := step_len (h x (by simp))
    simp only [List.length_cons]
    omega
theorem more_len {r : Rec} (h : SmallR r) : (moreL r).length ≤ 4112 := by
  have := h.key; have := h.body
  simp only [moreL, List.length_append, txt_len, be4_len]; omega
theorem name_small {s : ByteArray} (h : nameB s = true) : s.size ≤ 12 := by
  unfold nameB at h
  split at h
  · rw [Bool.and_eq_true] at h
    have h2 := eq_of_beq h.2
    unfold wordL at h2
    split at h2 <;> omega
  · cases h
theorem ops_small {n : Int} {s : ByteArray} (h : (opsS n).any (s == ·) = true) : s.size ≤ 6 := by
  obtain ⟨y, hy, e⟩ := List.any_eq_true.1 h
  have := eq_of_beq e
  subst this
  unfold opsS at hy
  repeat' split at hy
  all_goals
    simp only [List.mem_cons, List.not_mem_nil, or_false] at hy
  all_goals (rcases hy with rfl | rfl <;> decide)
theorem small_of {r : Rec} (h : recB r = true) : SmallR r := by
  unfold recB at h
  rw [Bool.and_eq_true] at h
  by_cases k : r.kind = 1
  · have h2 := h.2
    rw [if_pos k] at h2
    unfold begB at h2
    simp only [Bool.and_eq_true, decide_eq_true_eq, shortB, stepsB] at h2
    refine ⟨by have := h2.2.2.1.2; omega, by have := h2.2.2.2.2.1; omega, h2.2.2.2.2.2.2.2, fun x hx => ?_⟩
    obtain ⟨j, hj, rfl⟩ := List.mem_iff_getElem.1 hx
    have h3 := List.all_eq_true.1 h2.2.2.2.2.2.1 j (List.mem_range.2 hj)
    rw [okAt_eq hj] at h3
    simp only [Bool.and_eq_true, okStep, pairB, shortB, decide_eq_true_eq] at h3
    have a1 := name_small h3.1.1.1.1
    have a2 := ops_small h3.1.1.1.2.1.1
    have a3 := ops_small h3.1.1.1.2.1.2
    have a4 := h3.1.1.2.2
    exact ⟨by omega, by omega, by omega, by omega⟩
  · have h2 := h.2
    rw [if_neg k] at h2
    simp only [Bool.and_eq_true, bareB, beq_iff_eq, decide_eq_true_eq] at h2
    have e := List.eq_nil_of_length_eq_zero h2.1.2
    exact ⟨by rw [h2.1.1.1]; decide, by rw [h2.1.1.2]; decide, by rw [e]; decide, by rw [e]; intro x hx; cases hx⟩
end Go.Rx
namespace Go.Proofs.YtfjllfjmggooeaaGreatDoor.Rx
open Go.Rx Go.Proofs Go.Proofs.YtfjllfjmggooeaaGreatDoor.RxB

theorem text_con' (b : List UInt8) (s : ByteArray) (hb : b.length + 4 + s.size ≤ 140737488355328) :
    ConG P 188 (bldB b) [.lf (.ptr 0 0), Sx s] (.tup []) (bldB (b ++ txtL s)) := by
  refine ConG.of T_ok Tryz.func188 rfl (by kernel_rfl) (by kernel_rfl) (aw_of T_ok (by kernel_rfl) ?_)
  conv => whnf
  refine ⟨[0, 1, 2], _, _, _, _, _, nodupB_ok rfl, rfl, rfl, wk_refl _, numbers_con b [(s.size : Int)] (by show b.length + 4 * 1 ≤ _; omega) (by show (1 : Nat) ≤ _; omega), ?_⟩
  conv => whnf
  have hl : (b ++ numsL [(s.size : Int)]).length = b.length + 4 := by rw [List.length_append, nums_len]; rfl
  refine ⟨[0, 1], _, _, _, _, _, nodupB_ok rfl, rfl, rfl, wk_refl _, writeString_con 245 writer_lies (b ++ numsL [(s.size : Int)]).length (rowsB (b ++ numsL [(s.size : Int)])) s (rowsB_len _) (by omega), ?_⟩
  conv => whnf
  refine ⟨[], [0, 1], [], [], rfl, ?_, rfl, wk_refl _, rfl⟩
  have e1 : rowsB (b ++ numsL [(s.size : Int)]) ++ byteRows s = rowsB (b ++ txtL s) := by
    rw [rowsB_of, ← rowsB_append, List.append_assoc]; rfl
  have e2 : (b ++ numsL [(s.size : Int)]).length + s.size = (b ++ txtL s).length := by
    rw [hl, List.length_append, txt_len]; omega
  show some [Blk.var [.bad 0 245, .own 1 ((b ++ numsL [(s.size : Int)]).length + s.size)], .arr 5 1 (rowsB (b ++ numsL [(s.size : Int)]) ++ byteRows s)] = some (bldB (b ++ txtL s))
  rw [e1, e2]
abbrev recBlk (r : Rec) : Blk := .var [.pv (pI r.kind), .pv (pI r.id), .pv (pI r.n), .pv (pS r.key), .pv (pS r.body), .pv (encSteps r.steps)]
abbrev stepBlk (x : Step) : Blk := .var [.pv (pS x.nm), .pv (pI x.service), .pv (pS x.op), .pv (pS x.undo), .pv (pS x.who), .pv (pI x.n)]
abbrev bldAt (l : List UInt8) : List Blk := [.var [.bad 1 245, .own 2 l.length], .arr 5 1 (rowsB l)]
theorem numbers_to {b c : List UInt8} {l : List Int} (e : b ++ numsL l = c) (hb : b.length + 4 * l.length ≤ 140737488355328) (hl : l.length ≤ 140737488355328) :
    ConG P 186 (bldB b ++ [intB l]) [.lf (.ptr 0 0), .lf (.own 2 l.length)] (.tup []) (bldB c ++ [intB l]) := e ▸ numbers_con b l hb hl
theorem text_to {b c : List UInt8} {s : ByteArray} (e : b ++ txtL s = c) (hb : b.length + 4 + s.size ≤ 140737488355328) :
    ConG P 188 (bldB b) [.lf (.ptr 0 0), Sx s] (.tup []) (bldB c) := e ▸ text_con' b s hb
theorem bldStr_to {c : List UInt8} {s : ByteArray} (e : bytesOf c = s) (h1 : 1 ≤ c.length) (h2 : c.length ≤ 9223372036854775807) :
    ConG P 187 (bldB c) [.lf (.ptr 0 0)] (Sx s) [.var [.bad 0 245, .own 1 c.length], .lost 1 (rowsB c ++ [[]])] := by subst e; exact bldString_con 245 (bytesOf c) h1 h2
set_option maxHeartbeats 1000000 in
theorem spell_con (r : Rec) (h : SmallR r) : Con P 161 [encRec r] (Sx (bytesOf (plainL r))) [] := by
  have hl := h.len
  have hkey := h.key
  have hbody := h.body
  have hm : (r.steps.map Step.enc).length = r.steps.length := List.length_map ..
  have hml := more_len h
  obtain ⟨c0, hc0⟩ : ∃ c, [] ++ numsL [r.kind, r.id, r.n, 0] = c := ⟨_, rfl⟩
  obtain ⟨c1, hc1⟩ : ∃ c, c0 ++ txtL r.key = c := ⟨_, rfl⟩
  obtain ⟨c2, hc2⟩ : ∃ c, c1 ++ txtL r.body = c := ⟨_, rfl⟩
  obtain ⟨W, hW⟩ : ∃ W : Nat → List UInt8, ∀ k, W k = headL r ++ moreL r ++ (r.steps.take k).flatMap stepL1 := ⟨_, fun _ => rfl⟩
  have e00 : c0 = headL r := hc0.symm
  have hc3 : c2 ++ numsL [((r.steps.map Step.enc).length : Int)] = W 0 := by
    rw [hW, hm, ← hc2, ← hc1, e00, moreL]; simp [numsL]
  have l0 : c0.length = 16 := e00 ▸ rfl
  have l1 : c1.length = 20 + r.key.size := by rw [← hc1, List.length_append, txt_len]; omega
  have l2 : c2.length = 24 + r.key.size + r.body.size := by rw [← hc2, List.length_append, txt_len]; omega
  obtain ⟨p, hp⟩ : ∃ p, bytesOf (plainL r) = p := ⟨_, rfl⟩
  rw [hp]
  refine Con.of T_ok Tryz.func161 rfl (by kernel_rfl) (by kernel_rfl) (aw_ofC T_ok 2002 (by kernel_rfl) ?_)
  conv => whnf
  refine AW.meet (fun _ : Unit => True) (fun _ => [(1, .lf (.ptr 0 0)), (3, .lf (.ptr 1 0))]) (fun _ => [recBlk r, .var [.bad 1 245, .own 2 0], .arr 5 1 []]) [.cell 1 1 5 1] ?_ ?_
  · exact ⟨rfl, (), trivial, ⟨rfl, rfl, trivial⟩, ⟨[], rfl⟩, rfl, rfl⟩
  rintro _ _
  refine aw_of T_ok (by kernel_rfl) ?_
  conv => whnf
  refine ⟨[1, 2, 3], _, _, _, _, _, nodupB_ok rfl, rfl, rfl, wk_refl _, numbers_to (b := []) (l := [r.kind, r.id, r.n, 0]) hc0 (by show 0 + 4 * 4 ≤ _; omega) (by show (4 : Nat) ≤ _; omega), ?_⟩
  conv => whnf
  split <;> rename_i hk <;> conv => whnf
  · have hk1 : ¬ r.kind = 1 := by simpa using hk
    have hp2 : bytesOf c0 = p := by rw [← hp, plainL, if_neg hk1, e00]
    refine ⟨[1, 2], _, _, _, _, _, nodupB_ok rfl, rfl, rfl, wk_refl _, bldStr_to hp2 (by omega) (by omega), ?_⟩
    conv => whnf
    exact finA ⟨rfl⟩
  have hk1 : r.kind = 1 := by simpa using hk
  have hp2 : bytesOf (W r.steps.length) = p := by rw [← hp, plainL, if_pos hk1, hW, List.take_length]
  refine ⟨[1, 2], _, _, _, _, _, nodupB_ok rfl, rfl, rfl, wk_refl _, text_to hc1 (by omega), ?_⟩
  conv => whnf
  refine ⟨[1, 2], _, _, _, _, _, nodupB_ok rfl, rfl, rfl, wk_refl _, text_to hc2 (by omega), ?_⟩
  conv => whnf
  refine ⟨[1, 2, 4], _, _, _, _, _, nodupB_ok rfl, rfl, rfl, wk_refl _, numbers_to (l := [((r.steps.map Step.enc).length : Int)]) hc3 (by show _ + 4 * 1 ≤ _; omega) (by show (1 : Nat) ≤ _; omega), ?_⟩
  conv => whnf
  refine AW.loop (fun k : Nat => k ≤ r.steps.length) (fun k => [(1, .lf (.ptr 0 0)), (3, .lf (.ptr 1 0)), (31, .lf (.pv (encSteps r.steps))), (32, Go.Rx.I (r.steps.map Step.enc).length), (33, Go.Rx.I k)]) (fun k => recBlk r :: bldAt (W k)) (fun k => r.steps.length - k) [] ?_ ?_
  · exact ⟨0, Nat.zero_le _, ⟨rfl, rfl, rfl, rfl, rfl, trivial⟩, ⟨[_, _], rfl⟩, rfl, rfl⟩
  intro k hk
  have wk : IntKind.i64.wrap ((k : Int) + 1) = ((k + 1 : Nat) : Int) := wrapI (by omega)
  have hbl : (W k).length ≤ 4128 + 424 * k := by
    have := steps_len (l := r.steps.take k) fun x hx => h.st x (List.mem_of_mem_take hx)
    rw [hW]
    simp only [List.length_append] at this ⊢
    rw [List.length_take] at this
    have : 424 * min k r.steps.length = 424 * k := by omega
    have := head_len r
    omega
  have hbl2 : 16 ≤ (W k).length := by
    rw [hW, List.length_append, List.length_append]; have := head_len r; omega
  have hx0 := h.st
  refine aw_ofC T_ok 2012 (by kernel_rfl) ?_
  conv => whnf
  split <;> rename_i hlt <;> conv => whnf
  · have hkl : k < r.steps.length := by have : (k : Int) < ((r.steps.map Step.enc).length : Int) := of_decide_eq_true hlt
                                        omega
    have hrow : (r.steps.map Step.enc)[k]? = some r.steps[k].enc := by simp [hkl]
    have hnx : W (k + 1) = W k ++ stepL1 r.steps[k] := by
      rw [hW, hW, take_succ' hkl, List.flatMap_append]; simp
    have hx := h.st r.steps[k] (List.getElem_mem _)
    generalize r.steps[k] = x at hrow hnx hx
    obtain ⟨d1, hd1⟩ : ∃ c, W k ++ txtL x.nm = c := ⟨_, rfl⟩
    obtain ⟨d2, hd2⟩ : ∃ c, d1 ++ numsL [x.service] = c := ⟨_, rfl⟩
    obtain ⟨d3, hd3⟩ : ∃ c, d2 ++ txtL x.op = c := ⟨_, rfl⟩
    obtain ⟨d4, hd4⟩ : ∃ c, d3 ++ txtL x.undo = c := ⟨_, rfl⟩
    obtain ⟨d5, hd5⟩ : ∃ c, d4 ++ txtL x.who = c := ⟨_, rfl⟩
    have hd6 : d5 ++ numsL [x.n] = W (k + 1) := by
      rw [hnx, ← hd5, ← hd4, ← hd3, ← hd2, ← hd1]; simp [numsL, stepL1]
    have m1 : d1.length = (W k).length + 4 + x.nm.size := by rw [← hd1, List.length_append, txt_len]; omega
    have m2 : d2.length = d1.length + 4 := by rw [← hd2, List.length_append, nums_len]; rfl
    have m3 : d3.length = d2.length + 4 + x.op.size := by rw [← hd3, List.length_append, txt_len]; omega
    have m4 : d4.length = d3.length + 4 + x.undo.size := by rw [← hd4, List.length_append, txt_len]; omega
    have m5 : d5.length = d4.length + 4 + x.who.size := by rw [← hd5, List.length_append, txt_len]; omega
    refine ⟨by omega, _, hrow, ?_⟩
    conv => whnf
    refine ⟨[1, 2], _, _, _, _, _, nodupB_ok rfl, rfl, rfl, wk_refl _, text_to hd1 (by omega), ?_⟩
    conv => whnf
    refine AW.meet (fun _ : Unit => True) (fun _ => [(1, .lf (.ptr 0 0)), (3, .lf (.ptr 1 0)), (31, .lf (.pv (encSteps r.steps))), (32, Go.Rx.I (r.steps.map Step.enc).length), (33, Go.Rx.I k), (5, .lf (.ptr 3 0))]) (fun _ => recBlk r :: bldAt d1 ++ [stepBlk x]) [] ⟨(), trivial, ⟨rfl, rfl, rfl, rfl, rfl, rfl, trivial⟩, ⟨[], rfl⟩, rfl, rfl⟩ ?_
    rintro _ _
    refine aw_ofC T_ok 2013 (by kernel_rfl) ?_
    conv => whnf
    refine ⟨[1, 2, 4], _, _, _, _, _, nodupB_ok rfl, rfl, rfl, wk_refl _, numbers_to (l := [x.service]) hd2 (by show _ + 4 * 1 ≤ _; omega) (by show (1 : Nat) ≤ _; omega), ?_⟩
    conv => whnf
    refine AW.meet (fun _ : Unit => True) (fun _ => [(1, .lf (.ptr 0 0)), (3, .lf (.ptr 1 0)), (31, .lf (.pv (encSteps r.steps))), (32, Go.Rx.I (r.steps.map Step.enc).length), (33, Go.Rx.I k), (5, .lf (.ptr 3 0))]) (fun _ => recBlk r :: bldAt d2 ++ [stepBlk x]) [] ⟨(), trivial, ⟨rfl, rfl, rfl, rfl, rfl, rfl, trivial⟩, ⟨[_], rfl⟩, rfl, rfl⟩ ?_
    rintro _ _
    refine aw_ofC T_ok 2014 (by kernel_rfl) ?_
    conv => whnf
    refine ⟨[1, 2], _, _, _, _, _, nodupB_ok rfl, rfl, rfl, wk_refl _, text_to hd3 (by omega), ?_⟩
    conv => whnf
    refine AW.meet (fun _ : Unit => True) (fun _ => [(1, .lf (.ptr 0 0)), (3, .lf (.ptr 1 0)), (31, .lf (.pv (encSteps r.steps))), (32, Go.Rx.I (r.steps.map Step.enc).length), (33, Go.Rx.I k), (5, .lf (.ptr 3 0))]) (fun _ => recBlk r :: bldAt d3 ++ [stepBlk x]) [] ⟨(), trivial, ⟨rfl, rfl, rfl, rfl, rfl, rfl, trivial⟩, ⟨[], rfl⟩, rfl, rfl⟩ ?_
    rintro _ _
    refine aw_ofC T_ok 2015 (by kernel_rfl) ?_
    conv => whnf
    refine ⟨[1, 2], _, _, _, _, _, nodupB_ok rfl, rfl, rfl, wk_refl _, text_to hd4 (by omega), ?_⟩
    conv => whnf
    refine AW.meet (fun _ : Unit => True) (fun _ => [(1, .lf (.ptr 0 0)), (3, .lf (.ptr 1 0)), (31, .lf (.pv (encSteps r.steps))), (32, Go.Rx.I (r.steps.map Step.enc).length), (33, Go.Rx.I k), (5, .lf (.ptr 3 0))]) (fun _ => recBlk r :: bldAt d4 ++ [stepBlk x]) [] ⟨(), trivial, ⟨rfl, rfl, rfl, rfl, rfl, rfl, trivial⟩, ⟨[], rfl⟩, rfl, rfl⟩ ?_
    rintro _ _
    refine aw_of T_ok (by kernel_rfl) ?_
    conv => whnf
    refine ⟨[1, 2], _, _, _, _, _, nodupB_ok rfl, rfl, rfl, wk_refl _, text_to hd5 (by omega), ?_⟩
    conv => whnf
    refine ⟨[1, 2, 4], _, _, _, _, _, nodupB_ok rfl, rfl, rfl, wk_refl _, numbers_to (l := [x.n]) hd6 (by show _ + 4 * 1 ≤ _; omega) (by show (1 : Nat) ≤ _; omega), ?_⟩
    conv => whnf
    exact ⟨k + 1, ⟨hkl, by omega⟩, ⟨rfl, rfl, rfl, rfl, congrArg Go.Rx.I wk, trivial⟩, ⟨[_, _], rfl⟩, rfl, rfl⟩
  · have hkl : k = r.steps.length := by have : ¬ ((k : Int) < ((r.steps.map Step.enc).length : Int)) := of_decide_eq_false hlt
                                        omega
    have hp3 : bytesOf (W k) = p := hkl ▸ hp2
    refine ⟨[1, 2], _, _, _, _, _, nodupB_ok rfl, rfl, rfl, wk_refl _, bldStr_to hp3 (by omega) (by omega), ?_⟩
    conv => whnf
    exact finA ⟨rfl⟩
end Go.Proofs.YtfjllfjmggooeaaGreatDoor.Rx

/- A record's bytes: the page's. -/
set_option linter.unusedVariables false
set_option linter.unusedSimpArgs false
namespace Go.Rx
theorem bytesOf_size (a : List UInt8) : (bytesOf a).size = a.length := rfl
theorem bytesOf_data (l : List UInt8) : (bytesOf l).data.toList = l := rfl
theorem be4_rows (x : Int) : [[PV.sc (.int .u8 (IntKind.u8.wrap (x.fdiv 16777216)))], [PV.sc (.int .u8 (IntKind.u8.wrap (x.fdiv 65536)))], [PV.sc (.int .u8 (IntKind.u8.wrap (x.fdiv 256)))], [PV.sc (.int .u8 (IntKind.u8.wrap x))]] = byteRows (bytesOf (be4 x)) := by
  rw [byteZ_wrap, byteZ_wrap, byteZ_wrap, byteZ_wrap]; rfl
theorem bytesOf_app (a b : List UInt8) : bytesOf (a ++ b) = bytesOf a ++ bytesOf b := by
  apply ByteArray.ext
  rw [ByteArray.data_append]
  simp [bytesOf]
/-- The check of bytes. -/
def chkF (h : Nat) (c : UInt8) : Nat := (h * 257 + c.toNat + 1) % 4294967291
def chk (l : List UInt8) : Nat := l.foldl chkF 7
theorem chk_lt (l : List UInt8) : chk l < 4294967291 := by
  have : ∀ (l : List UInt8) (h : Nat), h < 4294967291 → l.foldl chkF h < 4294967291 := by
    intro l
    induction l with
    | nil => intro h hh; exact hh
    | cons c l ih => intro h hh; exact ih _ (Nat.mod_lt _ (by decide))
  exact this l 7 (by decide)
theorem chk_snoc (l : List UInt8) (c : UInt8) : chk (l ++ [c]) = chkF (chk l) c := by rw [chk, List.foldl_append]; rfl
theorem wrapU64 {n : Int} (h0 : 0 ≤ n) (h : n < 18446744073709551616) : IntKind.u64.wrap n = n := by
  have e : ∀ y : Int, IntKind.u64.wrap y = y % 18446744073709551616 := fun y => by
    simp [IntKind.wrap, IntKind.bits, IntKind.signed]
  rw [e]; omega
theorem wrapU32 {n : Int} (h0 : 0 ≤ n) (h : n < 4294967296) : IntKind.u32.wrap n = n := by
  have e : ∀ y : Int, IntKind.u32.wrap y = y % 4294967296 := fun y => by
    simp [IntKind.wrap, IntKind.bits, IntKind.signed]
  rw [e]; omega
abbrev U64 (n : Nat) : AV := .lf (.pv (.sc (.int .u64 n)))
abbrev U32 (n : Nat) : AV := .lf (.pv (.sc (.int .u32 n)))
theorem chk_step {h : Nat} {c : UInt8} (hh : h < 4294967291) :
    (IntKind.u64.wrap (IntKind.u64.wrap (IntKind.u64.wrap ((h : Int) * 257) + IntKind.u64.wrap (c.toNat : Int)) + 1)) % 4294967291 = ((chkF h c : Nat) : Int) ∧ 0 ≤ IntKind.u64.wrap (IntKind.u64.wrap (IntKind.u64.wrap ((h : Int) * 257) + IntKind.u64.wrap (c.toNat : Int)) + 1) := by
  have hc : c.toNat < 256 := c.toNat_lt
  rw [wrapU64 (n := (c.toNat : Int)) (by omega) (by omega), wrapU64 (n := (h : Int) * 257) (by omega) (by omega), wrapU64 (n := (h : Int) * 257 + c.toNat) (by omega) (by omega), wrapU64 (by omega) (by omega)]
  rw [chkF]
  omega
end Go.Rx
namespace Go.Proofs.YtfjllfjmggooeaaGreatDoor.Rx
open Go.Rx Go.Proofs Go.Proofs.YtfjllfjmggooeaaGreatDoor.RxB

set_option maxHeartbeats 1000000 in
theorem ofSeal_con (s : ByteArray) (hs : s.size ≤ 1000000) : Con P 183 [Sx s] (U32 (chk s.data.toList)) [] := by
  refine Con.of T_ok Tryz.func183 rfl (by kernel_rfl) (by kernel_rfl) (aw_of T_ok (by kernel_rfl) ?_)
  conv => whnf
  refine AW.loop (fun k : Nat => k ≤ s.size) (fun k => [(0, Sx s), (3, U64 (chk (s.data.toList.take k))), (6, Go.Rx.I s.size), (7, Go.Rx.I k)]) (fun _ => []) (fun k => s.size - k) [] ?_ ?_
  · exact ⟨0, Nat.zero_le _, ⟨rfl, rfl, rfl, rfl, trivial⟩, ⟨[], rfl⟩, rfl, rfl⟩
  intro k hk
  have wk : IntKind.i64.wrap ((k : Int) + 1) = ((k + 1 : Nat) : Int) := wrapI (by omega)
  refine aw_of T_ok (by kernel_rfl) ?_
  conv => whnf
  split <;> rename_i hlt <;> conv => whnf
  · have hks : k < s.size := by simpa using hlt
    have hnx : chk (s.data.toList.take (k + 1)) = chkF (chk (s.data.toList.take k)) s[k] := by
      rw [take_succ' (l := s.data.toList) (k := k) (by simpa using hks), chk_snoc]; rfl
    have hcl := chk_lt (s.data.toList.take k)
    have hst := chk_step (c := s[k]) hcl
    refine ⟨by omega, s[k], atB hks, ?_⟩
    conv => whnf
    refine ⟨hst.2, by decide, ?_⟩
    conv => whnf
    exact ⟨k + 1, ⟨hks, by omega⟩, ⟨rfl, congrArg (fun n : Int => AV.lf (.pv (.sc (.int .u64 n)))) (hst.1.trans (congrArg Int.ofNat hnx.symm)), rfl, congrArg Go.Rx.I wk, trivial⟩, ⟨[], rfl⟩, rfl, rfl⟩
  · have hks : k = s.size := by have : ¬ ((k : Int) < (s.size : Int)) := of_decide_eq_false hlt
                                omega
    have hl : s.data.toList.take k = s.data.toList := List.take_of_length_le (by rw [hks]; exact Nat.le_refl _)
    have hcl := chk_lt s.data.toList
    rw [hl]
    exact finA ⟨congrArg (fun n : Int => some (AV.lf (.pv (.sc (.int .u32 n))))) (wrapU32 (n := (chk s.data.toList : Nat)) (by omega) (by omega))⟩
theorem snum_con (x : Nat) : Con P 198 [U32 x] (Sx (bytesOf (be4 x))) [] := by
  refine Con.of T_ok Tryz.func198 rfl (by kernel_rfl) (by kernel_rfl) (aw_of T_ok (by kernel_rfl) ?_)
  conv => whnf
  refine ⟨by decide, ?_⟩
  conv => whnf
  refine ⟨by decide, ?_⟩
  conv => whnf
  refine ⟨by decide, ?_⟩
  conv => whnf
  refine ⟨rfl, bytesOf (be4 x), be4_rows x, ?_⟩
  conv => whnf
  exact finA ⟨rfl⟩
end Go.Proofs.YtfjllfjmggooeaaGreatDoor.Rx

/- A record's bytes: the page's, and its frame. -/
set_option linter.unusedVariables false
set_option linter.unusedSimpArgs false
namespace Go.Proofs.YtfjllfjmggooeaaGreatDoor.Rx
open Go.Rx Go.Proofs Go.Proofs.YtfjllfjmggooeaaGreatDoor.RxB
end Go.Proofs.YtfjllfjmggooeaaGreatDoor.Rx

/- A record's frame, and its bytes. -/
set_option linter.unusedVariables false
set_option linter.unusedSimpArgs false
namespace Go.Rx
/-- A frame's head: the size, the check. -/
def frmL (l : List UInt8) : List UInt8 := be4 l.length ++ be4 (chk (be4 l.length ++ l)) ++ l
def frame (s : ByteArray) : ByteArray := if 4000 < s.size then ⟨#[]⟩ else bytesOf (frmL s.data.toList)
def plainS (r : Rec) : ByteArray := bytesOf (plainL r)
abbrev strI (p : ByteArray × Int) : AV := .tup [.lf (.pv (pS p.1)), .lf (.pv (pI p.2))]
def frmR (r : Rec) : ByteArray × Int := if 4000 < (plainS r).size then (⟨#[]⟩, 2) else (frame (plainS r), 0)
def bytesR (r : Rec) : ByteArray × Int := if recB r then frmR r else (⟨#[]⟩, 1)
theorem finSI {a : ByteArray} {n : Int} {q : ByteArray × Int} (h : q = (a, n)) : ∃ zs, Fa WkA [Sx a, Go.Rx.I n] zs ∧ pack zs = some (strI q) := ⟨_, wk_refl _, by rw [h]; rfl⟩
theorem frm_eq {s : ByteArray} : bytesOf (be4 s.size) ++ bytesOf (be4 (chk (bytesOf (be4 s.size) ++ s).data.toList)) ++ s = bytesOf (frmL s.data.toList) := by
  have e1 : (bytesOf (be4 s.size) ++ s).data.toList = be4 s.size ++ s.data.toList := by rw [ByteArray.data_append, Array.toList_append]; rfl
  have e2 : s.size = s.data.toList.length := rfl
  rw [e1, frmL, bytesOf_app, bytesOf_app, ← e2]
  rfl
end Go.Rx
namespace Go.Proofs.YtfjllfjmggooeaaGreatDoor.Rx
open Go.Rx Go.Proofs Go.Proofs.YtfjllfjmggooeaaGreatDoor.RxB
theorem add_con (s : ByteArray) : Con P 176 [Sx s] (Sx (frame s)) [] := by
  refine Con.of T_ok Tryz.func176 rfl (by kernel_rfl) (by kernel_rfl) (aw_of T_ok (by kernel_rfl) ?_)
  conv => whnf
  split <;> rename_i hs <;> conv => whnf
  · have hs1 : 4000 < s.size := by have := of_decide_eq_true hs; omega
    exact finA ⟨congrArg (fun b => some (Sx b)) (by rw [frame, if_pos hs1])⟩
  have hs1 : ¬ 4000 < s.size := by have : ¬ ((4000 : Int) < (s.size : Int)) := of_decide_eq_false hs
                                   omega
  have z : (bytesOf (be4 s.size) ++ s).size ≤ 5000 := by simp only [ByteArray.size_append, bytesOf_size, be4_len]; omega
  have e : bytesOf (be4 s.size) ++ bytesOf (be4 (chk (bytesOf (be4 s.size) ++ s).data.toList)) ++ s = frame s := by rw [frm_eq, frame, if_neg hs1]
  have wx : IntKind.u32.wrap (s.size : Int) = (s.size : Int) := wrapU32 (by omega) (by omega)
  have z4 : ∀ x : Int, (bytesOf (be4 x)).size = 4 := fun _ => rfl
  have cn : Con P 198 [.lf (.pv (.sc (.int .u32 (IntKind.u32.wrap (s.size : Int)))))] (Sx (bytesOf (be4 s.size))) [] := by rw [wx]; exact snum_con s.size
  refine callS cn rfl ?_
  conv => whnf
  refine ⟨by rw [z4]; omega, ?_⟩
  conv => whnf
  refine callS (ofSeal_con (bytesOf (be4 s.size) ++ s) (by omega)) rfl ?_
  conv => whnf
  refine callS (snum_con _) rfl ?_
  conv => whnf
  refine ⟨by rw [z4, z4]; omega, ?_⟩
  conv => whnf
  refine ⟨by rw [ByteArray.size_append, z4, z4]; omega, ?_⟩
  conv => whnf
  exact finA ⟨congrArg (fun b => some (Sx b)) e⟩
theorem rframe_con (r : Rec) (h : SmallR r) : Con P 144 [encRec r] (strI (frmR r)) [] := by
  refine Con.of T_ok Tryz.func144 rfl (by kernel_rfl) (by kernel_rfl) (aw_of T_ok (by kernel_rfl) ?_)
  conv => whnf
  refine callS (spell_con r h) rfl ?_
  conv => whnf
  split <;> rename_i hs <;> conv => whnf
  · have hs1 : 4000 < (plainS r).size := by have : (4000 : Int) < ((plainS r).size : Int) := of_decide_eq_true hs
                                            omega
    exact finSI (by rw [frmR, if_pos hs1])
  have hs1 : ¬ 4000 < (plainS r).size := by have : ¬ ((4000 : Int) < ((plainS r).size : Int)) := of_decide_eq_false hs
                                            omega
  refine callS (add_con (plainS r)) rfl ?_
  conv => whnf
  exact finSI (by rw [frmR, if_neg hs1])
theorem bytes_con (r : Rec) (h : r.Ok) : Con P 147 [encRec r] (strI (bytesR r)) [] := by
  refine Con.of T_ok Tryz.func147 rfl (by kernel_rfl) (by kernel_rfl) (aw_of T_ok (by kernel_rfl) ?_)
  conv => whnf
  refine callS (recMay_con r h) rfl ?_
  conv => whnf
  split <;> rename_i hs <;> conv => whnf
  · have hs1 : ¬ recB r = true := by simpa using hs
    exact finSI (by rw [bytesR, if_neg hs1])
  have hs1 : recB r = true := by simpa using hs
  refine callS (rframe_con r (small_of hs1)) rfl ?_
  conv => whnf
  exact finSI (by rw [bytesR, if_pos hs1])
end Go.Proofs.YtfjllfjmggooeaaGreatDoor.Rx

/- Readers of a record's bytes: the code's and the page's. -/
set_option linter.unusedVariables false
set_option linter.unusedSimpArgs false
namespace Go.Rx
theorem or_sum {w a b k : Nat} (hb : b < 2 ^ k) (hd : ∃ q, a = 2 ^ k * q) (hl : a + b < 2 ^ w) : (BitVec.ofInt w (a : Int) ||| BitVec.ofInt w (b : Int)).toNat = a + b := by
  obtain ⟨q, rfl⟩ := hd
  have h1 : (BitVec.ofInt w ((2 ^ k * q : Nat) : Int)) = BitVec.ofNat w (2 ^ k * q) := BitVec.ofInt_natCast ..
  have h2 : (BitVec.ofInt w ((b : Nat) : Int)) = BitVec.ofNat w b := BitVec.ofInt_natCast ..
  rw [h1, h2, BitVec.toNat_or, BitVec.toNat_ofNat, BitVec.toNat_ofNat, Nat.mod_eq_of_lt (by omega), Nat.mod_eq_of_lt (by omega), Nat.two_pow_add_eq_or_of_lt hb]
def num4 : List UInt8 → Nat
  | a :: b :: c :: d :: _ => ((a.toNat * 256 + b.toNat) * 256 + c.toNat) * 256 + d.toNat
  | _ => 0
theorem num4_lt (l : List UInt8) : num4 l < 4294967296 := by
  unfold num4
  split
  · rename_i a b c d _
    have := a.toNat_lt; have := b.toNat_lt; have := c.toNat_lt; have := d.toNat_lt
    omega
  · decide
theorem num4_u32 (a b c d : UInt8) :
    IntKind.u32.wrap ((BitVec.ofInt 32 (IntKind.u32.wrap ((BitVec.ofInt 32 (IntKind.u32.wrap ((BitVec.ofInt 32 (IntKind.u32.wrap (IntKind.u32.wrap (a.toNat : Int) * 16777216)) ||| BitVec.ofInt 32 (IntKind.u32.wrap (IntKind.u32.wrap (b.toNat : Int) * 65536))).toNat : Int)) ||| BitVec.ofInt 32 (IntKind.u32.wrap (IntKind.u32.wrap (c.toNat : Int) * 256))).toNat : Int)) ||| BitVec.ofInt 32 (IntKind.u32.wrap (d.toNat : Int))).toNat : Int) = (num4 [a, b, c, d] : Nat) := by
  have e0 : num4 [a, b, c, d] = ((a.toNat * 256 + b.toNat) * 256 + c.toNat) * 256 + d.toNat := rfl
  rw [e0]
  have ha := a.toNat_lt; have hb := b.toNat_lt; have hc := c.toNat_lt; have hd := d.toNat_lt
  generalize a.toNat = a at *; generalize b.toNat = b at *; generalize c.toNat = c at *; generalize d.toNat = d at *
  have e1 : IntKind.u32.wrap (IntKind.u32.wrap (a : Int) * 16777216) = ((a * 16777216 : Nat) : Int) := by rw [wrapU32 (n := (a : Int)) (by omega) (by omega), wrapU32 (by omega) (by omega)]; omega
  have e2 : IntKind.u32.wrap (IntKind.u32.wrap (b : Int) * 65536) = ((b * 65536 : Nat) : Int) := by rw [wrapU32 (n := (b : Int)) (by omega) (by omega), wrapU32 (by omega) (by omega)]; omega
  have e3 : IntKind.u32.wrap (IntKind.u32.wrap (c : Int) * 256) = ((c * 256 : Nat) : Int) := by rw [wrapU32 (n := (c : Int)) (by omega) (by omega), wrapU32 (by omega) (by omega)]; omega
  rw [e1, e2, e3, or_sum (k := 24) (by omega) ⟨a, by omega⟩ (by omega), wrapU32 (n := (d : Int)) (by omega) (by omega),
    wrapU32 (n := ((a * 16777216 + b * 65536 : Nat) : Int)) (by omega) (by omega),
    or_sum (k := 16) (by omega) ⟨a * 256 + b, by omega⟩ (by omega), wrapU32 (n := ((a * 16777216 + b * 65536 + c * 256 : Nat) : Int)) (by omega) (by omega),
    or_sum (k := 8) (by omega) ⟨a * 65536 + b * 256 + c, by omega⟩ (by omega), wrapU32 (by omega) (by omega)]
  omega
theorem num4_of {s : ByteArray} (h : 4 ≤ s.size) : num4 s.data.toList = num4 [s[0], s[1], s[2], s[3]] := by
  have e : s.data.toList = s[0] :: s[1] :: s[2] :: s[3] :: s.data.toList.drop 4 := by
    rw [← dropB s 3 (by omega), ← dropB s 2 (by omega), ← dropB s 1 (by omega), ← dropB s 0 (by omega), List.drop_zero]
  rw [e]; rfl
theorem ext_list (s : ByteArray) (i j : Nat) : (s.extract i j).data.toList = (s.data.toList.drop i).take (j - i) := by
  rw [ByteArray.data_extract, Array.toList_extract]
theorem num4_take (l : List UInt8) : num4 (l.take 4) = num4 l := by
  match l with
  | [] => rfl
  | [a] => rfl
  | [a, b] => rfl
  | [a, b, c] => rfl
  | a :: b :: c :: d :: t => rfl
abbrev rdr (q : ByteArray × Bool) : Blk := .var [.pv (pS q.1), .pv (.sc (.bool q.2))]
/-- Reading: so many bytes, a number, a text. -/
def rdB (q : ByteArray × Bool) (n : Int) : ByteArray × (ByteArray × Bool) :=
  if q.2 = true ∨ n < 0 ∨ (q.1.size : Int) < n then (⟨#[]⟩, (q.1, true)) else (q.1.extract 0 n.toNat, (q.1.extract n.toNat q.1.size, q.2))
def sgn (n : Nat) : Int := if 2147483648 ≤ n then (n : Int) - 4294967296 else n
def rdN (q : ByteArray × Bool) : Int × (ByteArray × Bool) := if (rdB q 4).2.2 then (0, (rdB q 4).2) else (sgn (num4 (rdB q 4).1.data.toList), (rdB q 4).2)
def rdT (q : ByteArray × Bool) : ByteArray × (ByteArray × Bool) := rdB (rdN q).2 (rdN q).1
end Go.Rx
namespace Go.Proofs.YtfjllfjmggooeaaGreatDoor.Rx
open Go.Rx Go.Proofs Go.Proofs.YtfjllfjmggooeaaGreatDoor.RxB
theorem sealnum_con (s : ByteArray) (h : 4 ≤ s.size) : Con P 182 [Sx s] (U32 (num4 s.data.toList)) [] := by
  refine Con.of T_ok Tryz.func182 rfl (by kernel_rfl) (by kernel_rfl) (aw_of T_ok (by kernel_rfl) ?_)
  conv => whnf
  refine AW.draw T_ok rfl (seqPl 0 19) (by kernel_rfl) (by kernel_rfl) ?_
  conv => whnf
  refine ⟨by decide, s[0], atB (by omega), ?_⟩
  conv => whnf
  refine ⟨by decide, ?_⟩
  conv => whnf
  refine ⟨by decide, s[1], atB (by omega), ?_⟩
  conv => whnf
  refine ⟨by decide, ?_⟩
  conv => whnf
  refine ⟨rfl, ?_⟩
  conv => whnf
  refine ⟨by decide, s[2], atB (by omega), ?_⟩
  conv => whnf
  refine ⟨by decide, ?_⟩
  conv => whnf
  refine ⟨rfl, ?_⟩
  conv => whnf
  refine ⟨by decide, s[3], atB (by omega), ?_⟩
  conv => whnf
  refine ⟨rfl, ?_⟩
  conv => whnf
  exact finA ⟨congrArg (fun n : Int => some (AV.lf (.pv (.sc (.int .u32 n))))) ((num4_u32 s[0] s[1] s[2] s[3]).trans (congrArg Int.ofNat (num4_of h).symm))⟩
theorem rdbytes_con (q : ByteArray × Bool) (n : Int) : ConG P 184 [rdr q] [.lf (.ptr 0 0), Go.Rx.I n] (Sx (rdB q n).1) [rdr (rdB q n).2] := by
  obtain ⟨s, bad⟩ := q
  cases bad
  · have eb : rdB (s, false) n = if n < 0 ∨ (s.size : Int) < n then (⟨#[]⟩, (s, true)) else (s.extract 0 n.toNat, (s.extract n.toNat s.size, false)) := by simp [rdB]
    rw [eb]
    refine ConG.of T_ok Tryz.func184 rfl (by kernel_rfl) (by kernel_rfl) (aw_of T_ok (by kernel_rfl) ?_)
    conv => whnf
    split <;> rename_i h1 <;> conv => whnf
    · have h1' : n < 0 := of_decide_eq_true h1
      rw [if_pos (Or.inl h1')]
      exact ⟨[], [0], _, _, rfl, rfl, rfl, wk_refl _, rfl⟩
    have h1' : ¬ n < 0 := of_decide_eq_false h1
    split <;> rename_i h2 <;> conv => whnf
    · have h2' : (s.size : Int) < n := of_decide_eq_true h2
      rw [if_pos (Or.inr h2')]
      exact ⟨[], [0], _, _, rfl, rfl, rfl, wk_refl _, rfl⟩
    have h2' : ¬ (s.size : Int) < n := of_decide_eq_false h2
    rw [if_neg (by omega)]
    refine ⟨by decide, by omega, by show n ≤ (s.size : Int); omega, ?_⟩
    conv => whnf
    refine ⟨by omega, by show n ≤ (s.size : Int); omega, Int.le_refl _, ?_⟩
    conv => whnf
    exact ⟨[], [0], _, _, rfl, rfl, rfl, wk_refl _, rfl⟩
  · have eb : rdB (s, true) n = (⟨#[]⟩, (s, true)) := by simp [rdB]
    rw [eb]
    refine ConG.of T_ok Tryz.func184 rfl (by kernel_rfl) (by kernel_rfl) (aw_of T_ok (by kernel_rfl) ?_)
    conv => whnf
    exact ⟨[], [0], _, _, rfl, rfl, rfl, wk_refl _, rfl⟩
theorem sgn_i32 {n : Nat} (h : n < 4294967296) : IntKind.i64.wrap (IntKind.i32.wrap n) = sgn n := by
  have e : ∀ y : Int, IntKind.i32.wrap y = if 2147483648 ≤ y % 4294967296 then y % 4294967296 - 4294967296 else y % 4294967296 := fun y => by
    simp [IntKind.wrap, IntKind.bits, IntKind.signed]
  rw [e, sgn]
  split <;> split <;> first | omega | rw [wrapI (by omega)]; omega
theorem rdB4 {q : ByteArray × Bool} (h : ¬ (rdB q 4).2.2 = true) : 4 ≤ (rdB q 4).1.size ∧ (rdB q 4).1.size ≤ 4 := by
  by_cases c : q.2 = true ∨ (4 : Int) < 0 ∨ (q.1.size : Int) < 4
  · rw [rdB, if_pos c] at h; simp at h
  · rw [rdB, if_neg c]
    show 4 ≤ (q.1.extract 0 4).size ∧ (q.1.extract 0 4).size ≤ 4
    rw [ByteArray.size_extract]
    have : ¬ (q.1.size : Int) < 4 := fun x => c (.inr (.inr x))
    omega
theorem rdnum_con (q : ByteArray × Bool) : ConG P 159 [rdr q] [.lf (.ptr 0 0)] (Go.Rx.I (rdN q).1) [rdr (rdN q).2] := by
  have h4 := rdB4 (q := q)
  have en : rdN q = if (rdB q 4).2.2 then (0, (rdB q 4).2) else (sgn (num4 (rdB q 4).1.data.toList), (rdB q 4).2) := rfl
  have hr := rdbytes_con q 4
  generalize rdB q 4 = x at en h4 hr
  obtain ⟨t, s, bad⟩ := x
  rw [en]
  cases bad
  · refine ConG.of T_ok Tryz.func159 rfl (by kernel_rfl) (by kernel_rfl) (aw_of T_ok (by kernel_rfl) ?_)
    conv => whnf
    refine ⟨[0], _, _, _, _, _, nodupB_ok rfl, rfl, rfl, wk_refl _, hr, ?_⟩
    conv => whnf
    refine callS (sealnum_con t (h4 (by simp)).1) rfl ?_
    conv => whnf
    exact ⟨[], [0], _, _, rfl, rfl, rfl, wk_refl _, congrArg (fun n => some (Go.Rx.I n)) (sgn_i32 (num4_lt t.data.toList))⟩
  · refine ConG.of T_ok Tryz.func159 rfl (by kernel_rfl) (by kernel_rfl) (aw_of T_ok (by kernel_rfl) ?_)
    conv => whnf
    refine ⟨[0], _, _, _, _, _, nodupB_ok rfl, rfl, rfl, wk_refl _, hr, ?_⟩
    conv => whnf
    exact ⟨[], [0], _, _, rfl, rfl, rfl, wk_refl _, rfl⟩
theorem rdtext_con (q : ByteArray × Bool) : ConG P 185 [rdr q] [.lf (.ptr 0 0)] (Sx (rdT q).1) [rdr (rdT q).2] := by
  refine ConG.of T_ok Tryz.func185 rfl (by kernel_rfl) (by kernel_rfl) (aw_of T_ok (by kernel_rfl) ?_)
  conv => whnf
  refine ⟨[0], _, _, _, _, _, nodupB_ok rfl, rfl, rfl, wk_refl _, rdnum_con q, ?_⟩
  conv => whnf
  refine ⟨[0], _, _, _, _, _, nodupB_ok rfl, rfl, rfl, wk_refl _, rdbytes_con (rdN q).2 (rdN q).1, ?_⟩
  conv => whnf
  exact ⟨[], [0], _, _, rfl, rfl, rfl, wk_refl _, rfl⟩
end Go.Proofs.YtfjllfjmggooeaaGreatDoor.Rx

/- A frame taken: the code's and the page's. -/
set_option linter.unusedVariables false
set_option linter.unusedSimpArgs false
namespace Go.Rx
def unf (s : ByteArray) : ByteArray × ByteArray × Bool :=
  if s.size < 8 ∨ 4000 < num4 s.data.toList ∨ s.size < num4 s.data.toList + 8 ∨ num4 (s.extract 4 s.size).data.toList ≠ chk (s.extract 0 4 ++ s.extract 8 (8 + num4 s.data.toList)).data.toList then (⟨#[]⟩, ⟨#[]⟩, false)
  else (s.extract 8 (8 + num4 s.data.toList), s.extract (8 + num4 s.data.toList) s.size, true)
theorem num_be4 (x : Int) : (num4 (be4 x) : Int) = x % 4294967296 := by
  have f1 : x.fdiv 16777216 = x / 16777216 := Int.fdiv_eq_ediv_of_nonneg _ (by decide)
  have f2 : x.fdiv 65536 = x / 65536 := Int.fdiv_eq_ediv_of_nonneg _ (by decide)
  have f3 : x.fdiv 256 = x / 256 := Int.fdiv_eq_ediv_of_nonneg _ (by decide)
  have b1 := byteZ_nat (x / 16777216)
  have b2 := byteZ_nat (x / 65536)
  have b3 := byteZ_nat (x / 256)
  have b4 := byteZ_nat x
  rw [be4, f1, f2, f3]
  show (((((byteZ (x / 16777216)).toNat * 256 + (byteZ (x / 65536)).toNat) * 256 + (byteZ (x / 256)).toNat) * 256 + (byteZ x).toNat : Nat) : Int) = _
  omega
theorem num4_inj {a b c d e f g h : UInt8} (x : num4 [a, b, c, d] = num4 [e, f, g, h]) : [a, b, c, d] = [e, f, g, h] := by
  have x' : ((a.toNat * 256 + b.toNat) * 256 + c.toNat) * 256 + d.toNat = ((e.toNat * 256 + f.toNat) * 256 + g.toNat) * 256 + h.toNat := x
  have := a.toNat_lt; have := b.toNat_lt; have := c.toNat_lt; have := d.toNat_lt
  have := e.toNat_lt; have := f.toNat_lt; have := g.toNat_lt; have := h.toNat_lt
  have e1 : a = e := UInt8.toNat_inj.1 (by omega)
  have e2 : b = f := UInt8.toNat_inj.1 (by omega)
  have e3 : c = g := UInt8.toNat_inj.1 (by omega)
  have e4 : d = h := UInt8.toNat_inj.1 (by omega)
  rw [e1, e2, e3, e4]
theorem be4_num (a b c d : UInt8) : be4 (num4 [a, b, c, d] : Nat) = [a, b, c, d] := by
  refine num4_inj ?_
  have h := num_be4 (num4 [a, b, c, d] : Nat)
  have := num4_lt [a, b, c, d]
  have e : num4 (be4 (num4 [a, b, c, d] : Nat)) = num4 [a, b, c, d] := by omega
  exact e
theorem num4_cons (a b c d : UInt8) (t : List UInt8) : num4 (a :: b :: c :: d :: t) = num4 [a, b, c, d] := rfl
theorem be4_nat {x : Nat} {e f g h : UInt8} (hx : x < 4294967296) : be4 x = [e, f, g, h] ↔ num4 [e, f, g, h] = x := by
  constructor
  · intro y
    rw [← y]
    have := num_be4 x
    omega
  · intro y
    rw [← y]
    exact be4_num e f g h
theorem list8 {s : ByteArray} (h : 8 ≤ s.size) : ∃ a b c d e f g i t, s.data.toList = a :: b :: c :: d :: e :: f :: g :: i :: t := by
  refine ⟨s[0], s[1], s[2], s[3], s[4], s[5], s[6], s[7], s.data.toList.drop 8, ?_⟩
  rw [← dropB s 7 (by omega), ← dropB s 6 (by omega), ← dropB s 5 (by omega), ← dropB s 4 (by omega), ← dropB s 3 (by omega), ← dropB s 2 (by omega), ← dropB s 1 (by omega), ← dropB s 0 (by omega), List.drop_zero]
theorem bytesOf_eq {s : ByteArray} {l : List UInt8} : bytesOf l = s ↔ l = s.data.toList := by
  constructor
  · intro h; rw [← h]; rfl
  · intro h; rw [h]; rfl
theorem frame_iff {s : ByteArray} (h8 : 8 ≤ s.size) {n : Nat} (hn : num4 s.data.toList = n) (h4 : n ≤ 4000) (hs : n + 8 ≤ s.size) :
    frame (s.extract 8 (8 + n)) = s.extract 0 (8 + n) ↔ num4 (s.extract 4 s.size).data.toList = chk (s.extract 0 4 ++ s.extract 8 (8 + n)).data.toList := by
  have x8 : (s.extract 8 (8 + n)).size = n := by rw [ByteArray.size_extract]; omega
  rw [frame, if_neg (by rw [x8]; omega), bytesOf_eq, frmL, ext_list, ext_list, ext_list, ByteArray.data_append, Array.toList_append, ext_list, ext_list]
  have hL : s.data.toList.length = s.size := rfl
  obtain ⟨a, b, c, d, e, f, g, i, t, hl⟩ := list8 h8
  have ht : t.length + 8 = s.size := by rw [← hL, hl]; rfl
  rw [hl] at hn ⊢
  rw [num4_cons] at hn
  have e1 : 8 + n - 8 = n := by omega
  have e2 : 8 + n - 0 = n + 8 := by omega
  have e3 : s.size - 4 = t.length + 4 := by omega
  rw [e1, e2, e3]
  simp only [List.drop_succ_cons, List.drop_zero, List.take_succ_cons, List.take_zero, Nat.sub_zero, List.cons_append, List.nil_append]
  have e4 : (List.take n t).length = n := by rw [List.length_take]; omega
  have e5 : be4 ((n : Nat) : Int) = [a, b, c, d] := by rw [← hn]; exact be4_num a b c d
  rw [e4, e5, num4_cons, ← be4_nat (by have := chk_lt (a :: b :: c :: d :: List.take n t); omega)]
  simp only [List.cons_append, List.nil_append]
  constructor
  · intro y
    simp only [List.cons.injEq, true_and] at y
    exact List.append_inj_left y rfl
  · intro y
    rw [y]; rfl
theorem bne_of {a b : ByteArray} (h : (a != b) = true) : a ≠ b := by simpa using h
theorem eq_of_bne {a b : ByteArray} (h : (a != b) = false) : a = b := by simpa using h
theorem bne_nat {a b : Nat} (h : ((a : Int) != (b : Int)) = false) : a = b := by
  have : (a : Int) = b := by simpa using h
  omega
abbrev tri (q : ByteArray × ByteArray × Bool) : AV := .tup [.lf (.pv (pS q.1)), .lf (.pv (pS q.2.1)), .lf (.pv (.sc (.bool q.2.2)))]
theorem finT {a b : ByteArray} {n : Bool} {q : ByteArray × ByteArray × Bool} (h : q = (a, b, n)) : ∃ zs, Fa WkA [Sx a, Sx b, Bl n] zs ∧ pack zs = some (tri q) := ⟨_, wk_refl _, by rw [h]; rfl⟩
end Go.Rx
namespace Go.Proofs.YtfjllfjmggooeaaGreatDoor.Rx
open Go.Rx Go.Proofs Go.Proofs.YtfjllfjmggooeaaGreatDoor.RxB
theorem stake_con (s : ByteArray) (hs : okS s) : Con P 158 [Sx s] (tri (unf s)) [] := by
  simp only [okS] at hs
  refine Con.of T_ok Tryz.func158 rfl (by kernel_rfl) (by kernel_rfl) (aw_of T_ok (by kernel_rfl) ?_)
  conv => whnf
  split <;> rename_i h1 <;> conv => whnf
  · have h1' : s.size < 8 := by have : (s.size : Int) < 8 := of_decide_eq_true h1
                                omega
    exact finT (by rw [unf, if_pos (.inl h1')])
  have h1' : ¬ s.size < 8 := by have : ¬ (s.size : Int) < 8 := of_decide_eq_false h1
                                omega
  have hc := sealnum_con s (by omega)
  have hu : unf s = if 4000 < num4 s.data.toList ∨ s.size < num4 s.data.toList + 8 ∨ num4 (s.extract 4 s.size).data.toList ≠ chk (s.extract 0 4 ++ s.extract 8 (8 + num4 s.data.toList)).data.toList then (⟨#[]⟩, ⟨#[]⟩, false)
      else (s.extract 8 (8 + num4 s.data.toList), s.extract (8 + num4 s.data.toList) s.size, true) := by rw [unf]; simp [h1']
  have hlt := num4_lt s.data.toList
  rw [hu]
  obtain ⟨n, hn⟩ : ∃ n, num4 s.data.toList = n := ⟨_, rfl⟩
  rw [hn] at hc hlt ⊢
  refine callS hc rfl ?_
  conv => whnf
  split <;> rename_i h2 <;> conv => whnf
  · have h2' : 4000 < n := by have : (4000 : Int) < (n : Int) := of_decide_eq_true h2
                              omega
    exact finT (by rw [if_pos (.inl h2')])
  have h2' : ¬ 4000 < n := by have : ¬ (4000 : Int) < (n : Int) := of_decide_eq_false h2
                              omega
  have w1 : IntKind.i64.wrap ((n : Nat) : Int) = (n : Int) := wrapI (by omega)
  have w2 : IntKind.i64.wrap ((s.size : Int) - 8) = (s.size : Int) - 8 := wrapI (by omega)
  split <;> rename_i h3 <;> conv => whnf
  · have h3' : s.size < n + 8 := by have : IntKind.i64.wrap ((s.size : Int) - 8) < IntKind.i64.wrap ((n : Nat) : Int) := of_decide_eq_true h3
                                    omega
    exact finT (by rw [if_pos (.inr (.inl h3'))])
  have h3' : ¬ s.size < n + 8 := by have : ¬ IntKind.i64.wrap ((s.size : Int) - 8) < IntKind.i64.wrap ((n : Nat) : Int) := of_decide_eq_false h3
                                    omega
  have w3 : IntKind.i64.wrap (8 + IntKind.i64.wrap ((n : Nat) : Int)) = ((8 + n : Nat) : Int) := by rw [w1, wrapI (by omega)]; omega
  have w4 : (IntKind.i64.wrap (8 + IntKind.i64.wrap ((n : Nat) : Int))).toNat = 8 + n := by rw [w3]; rfl
  refine AW.draw T_ok rfl (.one 0 (.one 1 (.one 2 (.one 3 (.one 5 (.one 6 (.one 7 (.one 8 (.pre 4 (.one 10 (.one 9 (.one 11 .done)))))))))))) (by kernel_rfl) (by kernel_rfl) ?_
  conv => whnf
  refine ⟨by decide, by rw [w3]; omega, by rw [w3]; omega, ?_⟩
  conv => whnf
  refine ⟨by rw [w3]; omega, by rw [w3]; omega, Int.le_refl _, ?_⟩
  conv => whnf
  refine AW.draw T_ok rfl (.one 0 (.one 3 (.one 5 (.pre 1 (.pre 4 (.one 6 (.one 2 (.one 7 (.one 8 .done))))))))) (by kernel_rfl) (by kernel_rfl) ?_
  conv => whnf
  have x4 : (s.extract 4 s.size).size = s.size - 4 := by rw [ByteArray.size_extract]; omega
  have x04 : (s.extract 0 4).size = 4 := by rw [ByteArray.size_extract]; omega
  have x8 : (s.extract 8 (IntKind.i64.wrap (8 + IntKind.i64.wrap ((n : Nat) : Int))).toNat).size = n := by rw [w4, ByteArray.size_extract]; omega
  refine ⟨by decide, by omega, Int.le_refl _, ?_⟩
  conv => whnf
  refine ⟨by decide, by decide, by omega, ?_⟩
  conv => whnf
  refine ⟨by show (s.extract 0 4).size + (s.extract 8 (IntKind.i64.wrap (8 + IntKind.i64.wrap ((n : Nat) : Int))).toNat).size ≤ _; rw [x04, x8]; omega, ?_⟩
  conv => whnf
  refine callS (sealnum_con (s.extract 4 s.size) (by rw [x4]; omega)) rfl ?_
  conv => whnf
  refine callS (ofSeal_con (s.extract 0 4 ++ s.extract 8 (IntKind.i64.wrap (8 + IntKind.i64.wrap ((n : Nat) : Int))).toNat) (by rw [ByteArray.size_append, x04, x8]; omega)) rfl ?_
  conv => whnf
  split <;> rename_i h4 <;> conv => whnf
  · have h4' : num4 (s.extract 4 s.size).data.toList ≠ chk (s.extract 0 4 ++ s.extract 8 (8 + n)).data.toList := by
      rw [← w4]
      intro e
      have : ((num4 (s.extract 4 s.size).data.toList : Int) != (chk (s.extract 0 4 ++ s.extract 8 (IntKind.i64.wrap (8 + IntKind.i64.wrap ((n : Nat) : Int))).toNat).data.toList : Int)) = true := h4
      rw [e] at this
      simp at this
    exact finT (by rw [if_pos (.inr (.inr h4'))])
  · have h4' : num4 (s.extract 4 s.size).data.toList = chk (s.extract 0 4 ++ s.extract 8 (8 + n)).data.toList := by
      rw [← w4]
      exact bne_nat h4
    have h5 : ¬ (4000 < n ∨ s.size < n + 8 ∨ num4 (s.extract 4 s.size).data.toList ≠ chk (s.extract 0 4 ++ s.extract 8 (8 + n)).data.toList) := by
      rintro (h | h | h) <;> first | omega | exact h h4'
    refine finT ?_
    rw [if_neg h5, ← w4]
    rfl
end Go.Proofs.YtfjllfjmggooeaaGreatDoor.Rx

/- A record read: the code's begin. -/
set_option linter.unusedVariables false
set_option linter.unusedSimpArgs false
namespace Go.Rx
abbrev RdS := ByteArray × Bool
def rdStep (q : RdS) : Step × RdS :=
  let a := rdT q; let b := rdN a.2; let c := rdT b.2; let d := rdT c.2; let e := rdT d.2; let f := rdN e.2
  (⟨a.1, b.1, c.1, d.1, e.1, f.1⟩, f.2)
def rdSteps : Nat → RdS → List Step × RdS
  | 0, q => ([], q)
  | k + 1, q => ((rdStep q).1 :: (rdSteps k (rdStep q).2).1, (rdSteps k (rdStep q).2).2)
def begP (q : RdS) : (ByteArray × ByteArray × List Step) × RdS :=
  let a := rdT q; let b := rdT a.2; let m := rdN b.2; let st := rdSteps (min m.1 5).toNat m.2
  ((a.1, b.1, st.1), st.2)
end Go.Rx
namespace Go.Proofs.YtfjllfjmggooeaaGreatDoor.Rx
open Go.Rx Go.Proofs Go.Proofs.YtfjllfjmggooeaaGreatDoor.RxB
set_option maxHeartbeats 1000000 in
theorem beginRd_con (q : RdS) (kind id n : Int) :
    ConG P 160 [rdr q, .var [.pv (pI kind), .pv (pI id), .pv (pI n), .pv (pS ⟨#[]⟩), .pv (pS ⟨#[]⟩), .own 2 0], .arr 99 6 []] [.lf (.ptr 0 0), .lf (.ptr 1 0)] (.tup [])
      [rdr (begP q).2, .var [.pv (pI kind), .pv (pI id), .pv (pI n), .pv (pS (begP q).1.1), .pv (pS (begP q).1.2.1), .own 2 (begP q).1.2.2.length], .arr 99 6 ((begP q).1.2.2.map Step.enc)] := by
  have hb : begP q = (((rdT q).1, (rdT (rdT q).2).1, (rdSteps (min (rdN (rdT (rdT q).2).2).1 5).toNat (rdN (rdT (rdT q).2).2).2).1), (rdSteps (min (rdN (rdT (rdT q).2).2).1 5).toNat (rdN (rdT (rdT q).2).2).2).2) := rfl
  rw [hb]
  have c1 := rdtext_con q
  generalize rdT q = x1 at c1 hb ⊢
  have c2 := rdtext_con x1.2
  generalize rdT x1.2 = x2 at c2 hb ⊢
  have c3 := rdnum_con x2.2
  generalize rdN x2.2 = x3 at c3 hb ⊢
  obtain ⟨m, q3⟩ := x3
  simp only at c3 ⊢
  refine ConG.of T_ok Tryz.func160 rfl (by kernel_rfl) (by kernel_rfl) (aw_of T_ok (by kernel_rfl) ?_)
  conv => whnf
  refine ⟨[0], _, _, _, _, _, nodupB_ok rfl, rfl, rfl, wk_refl _, c1, ?_⟩
  conv => whnf
  refine ⟨[0], _, _, _, _, _, nodupB_ok rfl, rfl, rfl, wk_refl _, c2, ?_⟩
  conv => whnf
  refine ⟨[0], _, _, _, _, _, nodupB_ok rfl, rfl, rfl, wk_refl _, c3, ?_⟩
  conv => whnf
  obtain ⟨c, hc⟩ : ∃ c, c = (if (5 : Int) < m then 5 else m) := ⟨_, rfl⟩
  obtain ⟨M, hM⟩ : ∃ M, M = (min m 5).toNat := ⟨_, rfl⟩
  have hcm : M = c.toNat ∧ c ≤ 5 := by rw [hM, hc]; split <;> omega
  rw [← hM] at hb ⊢
  refine AW.loop (fun p : Nat × List Step × RdS => p.1 ≤ M ∧ p.2.1.length = p.1 ∧ (p.2.1 ++ (rdSteps (M - p.1) p.2.2).1, (rdSteps (M - p.1) p.2.2).2) = rdSteps M q3) (fun p => [(0, .lf (.ptr 0 0)), (1, .lf (.ptr 1 0)), (17, Go.Rx.I c), (18, Go.Rx.I p.1)]) (fun p => [rdr p.2.2, .var [.pv (pI kind), .pv (pI id), .pv (pI n), .pv (pS x1.1), .pv (pS x2.1), .own 2 p.2.1.length], .arr 99 6 (p.2.1.map Step.enc)]) (fun p => M - p.1) [] ?_ ?_
  · exact ⟨(0, [], q3), ⟨Nat.zero_le _, rfl, rfl⟩, ⟨rfl, rfl, congrArg Go.Rx.I hc.symm, rfl, trivial⟩, ⟨[], rfl⟩, rfl, rfl⟩
  rintro ⟨k, l, q'⟩ ⟨hk, hl, hinv⟩
  simp only at hk hl hinv
  have wk : IntKind.i64.wrap ((k : Int) + 1) = ((k + 1 : Nat) : Int) := wrapI (by omega)
  have hs : rdStep q' = (⟨(rdT q').1, (rdN (rdT q').2).1, (rdT (rdN (rdT q').2).2).1, (rdT (rdT (rdN (rdT q').2).2).2).1, (rdT (rdT (rdT (rdN (rdT q').2).2).2).2).1, (rdN (rdT (rdT (rdT (rdN (rdT q').2).2).2).2).2).1⟩, (rdN (rdT (rdT (rdT (rdN (rdT q').2).2).2).2).2).2) := rfl
  have d1 := rdtext_con q'
  generalize rdT q' = y1 at d1 hs
  have d2 := rdnum_con y1.2
  generalize rdN y1.2 = y2 at d2 hs
  have d3 := rdtext_con y2.2
  generalize rdT y2.2 = y3 at d3 hs
  have d4 := rdtext_con y3.2
  generalize rdT y3.2 = y4 at d4 hs
  have d5 := rdtext_con y4.2
  generalize rdT y4.2 = y5 at d5 hs
  have d6 := rdnum_con y5.2
  generalize rdN y5.2 = y6 at d6 hs
  refine aw_ofC T_ok 2006 (by kernel_rfl) ?_
  conv => whnf
  split <;> rename_i hlt <;> conv => whnf
  · have hkM : k < M := by have : (k : Int) < c := of_decide_eq_true hlt
                           omega
    have hst : rdSteps (M - k) q' = ((rdStep q').1 :: (rdSteps (M - (k + 1)) (rdStep q').2).1, (rdSteps (M - (k + 1)) (rdStep q').2).2) := by
      rw [show M - k = (M - (k + 1)) + 1 by omega]; rfl
    rw [hst, hs] at hinv
    refine ⟨[0], _, _, _, _, _, nodupB_ok rfl, rfl, rfl, wk_refl _, d1, ?_⟩
    conv => whnf
    refine ⟨[0], _, _, _, _, _, nodupB_ok rfl, rfl, rfl, wk_refl _, d2, ?_⟩
    conv => whnf
    refine AW.meet (fun _ : Unit => True) (fun _ => [(0, .lf (.ptr 0 0)), (1, .lf (.ptr 1 0)), (17, Go.Rx.I c), (18, Go.Rx.I k), (4, .lf (.ptr 3 0))]) (fun _ => [rdr y2.2, .var [.pv (pI kind), .pv (pI id), .pv (pI n), .pv (pS x1.1), .pv (pS x2.1), .own 2 l.length], .arr 99 6 (l.map Step.enc), stepBlk ⟨y1.1, y2.1, ⟨#[]⟩, ⟨#[]⟩, ⟨#[]⟩, 0⟩]) [] ⟨(), trivial, ⟨rfl, rfl, rfl, rfl, rfl, trivial⟩, ⟨[], rfl⟩, rfl, rfl⟩ ?_
    rintro _ _
    refine aw_of T_ok (by kernel_rfl) ?_
    conv => whnf
    refine ⟨[0], _, _, _, _, _, nodupB_ok rfl, rfl, rfl, wk_refl _, d3, ?_⟩
    conv => whnf
    refine ⟨[0], _, _, _, _, _, nodupB_ok rfl, rfl, rfl, wk_refl _, d4, ?_⟩
    conv => whnf
    refine ⟨[0], _, _, _, _, _, nodupB_ok rfl, rfl, rfl, wk_refl _, d5, ?_⟩
    conv => whnf
    refine ⟨[0], _, _, _, _, _, nodupB_ok rfl, rfl, rfl, wk_refl _, d6, ?_⟩
    conv => whnf
    refine AW.meet (fun _ : Unit => True) (fun _ => [(0, .lf (.ptr 0 0)), (1, .lf (.ptr 1 0)), (17, Go.Rx.I c), (18, Go.Rx.I k), (4, .lf (.ptr 3 0))]) (fun _ => [rdr y6.2, .var [.pv (pI kind), .pv (pI id), .pv (pI n), .pv (pS x1.1), .pv (pS x2.1), .own 2 l.length], .arr 99 6 (l.map Step.enc), stepBlk ⟨y1.1, y2.1, y3.1, y4.1, y5.1, y6.1⟩]) [] ⟨(), trivial, ⟨rfl, rfl, rfl, rfl, rfl, trivial⟩, ⟨[], rfl⟩, rfl, rfl⟩ ?_
    rintro _ _
    refine AW.draw T_ok rfl (.one 1 (.one 2 (.one 3 (.one 4 (.one 5 (.pre 0 (.one 6 (.one 7 (.one 8 (.one 9 (.one 10 .done))))))))))) (by kernel_rfl) (by kernel_rfl) ?_
    conv => whnf
    refine ⟨rfl, _, .inl rfl, ?_⟩
    conv => whnf
    refine ⟨by rw [List.length_map], by show (l.length + 1) * 80 ≤ _; omega, ?_⟩
    conv => whnf
    have hM5 : M ≤ 5 := by omega
    refine ⟨(k + 1, l ++ [⟨y1.1, y2.1, y3.1, y4.1, y5.1, y6.1⟩], y6.2), ⟨⟨hkM, by rw [List.length_append, hl]; rfl, ?_⟩, by show M - (k + 1) < M - k; omega⟩, ⟨rfl, rfl, rfl, congrArg Go.Rx.I wk, trivial⟩, ⟨[?b1, ?b2], ?e⟩, rfl, rfl⟩
    case e =>
      show _ = [rdr y6.2, .var [.pv (pI kind), .pv (pI id), .pv (pI n), .pv (pS x1.1), .pv (pS x2.1), .own 2 (l ++ [(⟨y1.1, y2.1, y3.1, y4.1, y5.1, y6.1⟩ : Step)]).length], .arr 99 6 ((l ++ [(⟨y1.1, y2.1, y3.1, y4.1, y5.1, y6.1⟩ : Step)]).map Step.enc)] ++ [_, _]
      rw [List.length_append, List.map_append]
      rfl
    case h_1 =>
      rw [← hinv]
      simp only [List.append_assoc, List.cons_append, List.nil_append]
  · have hkM : k = M := by have : ¬ (k : Int) < c := of_decide_eq_false hlt
                           omega
    have h0 : (l, q') = rdSteps M q3 := by rw [← hinv, hkM, Nat.sub_self]; simp [rdSteps]
    refine ⟨[], [0, 1, 2], [], [], rfl, ?_, rfl, wk_refl _, rfl⟩
    simp only
    rw [← h0]
    rfl
end Go.Proofs.YtfjllfjmggooeaaGreatDoor.Rx

/- A record taken: the code's. -/
set_option linter.unusedVariables false
set_option linter.unusedSimpArgs false
namespace Go.Rx
def zeroR : Rec := ⟨0, 0, 0, ⟨#[]⟩, ⟨#[]⟩, []⟩
abbrev HeadS := (Int × Int × Int) × RdS
def headP (t : ByteArray) : HeadS :=
  let a := rdN (t, false); let b := rdN a.2; let c := rdN b.2; let d := rdN c.2
  ((a.1, b.1, c.1), d.2)
def bodyP (h : HeadS) : Rec × RdS :=
  if h.1.1 = 1 then (⟨h.1.1, h.1.2.1, h.1.2.2, (begP h.2).1.1, (begP h.2).1.2.1, (begP h.2).1.2.2⟩, (begP h.2).2) else (⟨h.1.1, h.1.2.1, h.1.2.2, ⟨#[]⟩, ⟨#[]⟩, []⟩, h.2)
/-- What is read is taken where it is a record and no other bytes stand for it. -/
def goodP (t : ByteArray) (x : Rec × RdS) : Bool := !x.2.2 && recB x.1 && (plainS x.1 == t)
def takeR (s : ByteArray) : Rec × ByteArray × Int :=
  if (unf s).2.2 = true then (if goodP (unf s).1 (bodyP (headP (unf s).1)) = true then ((bodyP (headP (unf s).1)).1, (unf s).2.1, 0) else (zeroR, ⟨#[]⟩, 10)) else (zeroR, ⟨#[]⟩, 10)
abbrev recOA (r : Rec) : List Lf := [.pv (pI r.kind), .pv (pI r.id), .pv (pI r.n), .pv (pS r.key), .pv (pS r.body), .own 0 r.steps.length]
abbrev takeO (p : Rec × ByteArray × Int) : AV := .tup [.agg (recOA p.1), .lf (.pv (pS p.2.1)), .lf (.pv (pI p.2.2))]
theorem rdB_le (q : RdS) (n : Int) : (rdB q n).1.size ≤ q.1.size ∧ (rdB q n).2.1.size ≤ q.1.size := by
  unfold rdB
  split
  · exact ⟨Nat.zero_le _, Nat.le_refl _⟩
  · exact ⟨by show (q.1.extract 0 n.toNat).size ≤ _; rw [ByteArray.size_extract]; omega, by show (q.1.extract n.toNat q.1.size).size ≤ _; rw [ByteArray.size_extract]; omega⟩
theorem rdN_le (q : RdS) : (rdN q).2.1.size ≤ q.1.size := by
  have := (rdB_le q 4).2
  unfold rdN
  split <;> exact this
theorem rdT_le (q : RdS) : (rdT q).1.size ≤ q.1.size ∧ (rdT q).2.1.size ≤ q.1.size := by
  have h1 := rdN_le q
  have h2 := rdB_le (rdN q).2 (rdN q).1
  exact ⟨Nat.le_trans h2.1 h1, Nat.le_trans h2.2 h1⟩
theorem rdStep_le {B : Nat} (hB : B ≤ 140737488351232) (q : RdS) (h : q.1.size ≤ B) : (rdStep q).1.Ok ∧ (rdStep q).2.1.size ≤ B := by
  have a := rdT_le q
  have b := rdN_le (rdT q).2
  have c := rdT_le (rdN (rdT q).2).2
  have d := rdT_le (rdT (rdN (rdT q).2).2).2
  have e := rdT_le (rdT (rdT (rdN (rdT q).2).2).2).2
  have f := rdN_le (rdT (rdT (rdT (rdN (rdT q).2).2).2).2).2
  refine ⟨⟨?_, ?_, ?_, ?_⟩, ?_⟩
  · show (rdT q).1.size ≤ _; omega
  · show (rdT (rdN (rdT q).2).2).1.size ≤ _; omega
  · show (rdT (rdT (rdN (rdT q).2).2).2).1.size ≤ _; omega
  · show (rdT (rdT (rdT (rdN (rdT q).2).2).2).2).1.size ≤ _; omega
  · show (rdN (rdT (rdT (rdT (rdN (rdT q).2).2).2).2).2).2.1.size ≤ _; omega
theorem rdSteps_le {B : Nat} (hB : B ≤ 140737488351232) : ∀ (k : Nat) (q : RdS), q.1.size ≤ B → (rdSteps k q).1.length = k ∧ (∀ x ∈ (rdSteps k q).1, x.Ok) ∧ (rdSteps k q).2.1.size ≤ B
  | 0, q, h => ⟨rfl, fun x hx => (List.not_mem_nil hx).elim, h⟩
  | k + 1, q, h => by
    have h1 := rdStep_le hB q h
    have h2 := rdSteps_le hB k (rdStep q).2 h1.2
    refine ⟨by show (rdSteps k (rdStep q).2).1.length + 1 = k + 1; rw [h2.1], fun x hx => ?_, h2.2.2⟩
    rcases List.mem_cons.1 hx with rfl | hx
    · exact h1.1
    · exact h2.2.1 x hx
theorem body_ok {t : ByteArray} (ht : okS t) : (bodyP (headP t)).1.Ok ∧ (bodyP (headP t)).1.steps.length ≤ 5 := by
  simp only [okS] at ht
  have a := rdN_le (t, false)
  have b := rdN_le (rdN (t, false)).2
  have c := rdN_le (rdN (rdN (t, false)).2).2
  have d := rdN_le (rdN (rdN (rdN (t, false)).2).2).2
  have hq : (headP t).2.1.size ≤ t.size := by
    show (rdN (rdN (rdN (rdN (t, false)).2).2).2).2.1.size ≤ _
    have : (t, false).1.size = t.size := rfl
    omega
  generalize headP t = h at hq
  unfold bodyP
  split
  · have e := rdT_le h.2
    have f := rdT_le (rdT h.2).2
    have g := rdN_le (rdT (rdT h.2).2).2
    have i := rdSteps_le ht (min (rdN (rdT (rdT h.2).2).2).1 5).toNat (rdN (rdT (rdT h.2).2).2).2 (by omega)
    refine ⟨⟨?_, ?_, ⟨?_, i.2.1⟩⟩, ?_⟩
    · show (rdT h.2).1.size ≤ _; omega
    · show (rdT (rdT h.2).2).1.size ≤ _; omega
    · show (rdSteps (min (rdN (rdT (rdT h.2).2).2).1 5).toNat (rdN (rdT (rdT h.2).2).2).2).1.length * 80 ≤ _
      rw [i.1]; omega
    · show (rdSteps (min (rdN (rdT (rdT h.2).2).2).1 5).toNat (rdN (rdT (rdT h.2).2).2).2).1.length ≤ _
      rw [i.1]; omega
  · exact ⟨⟨Nat.zero_le _, Nat.zero_le _, ⟨Nat.zero_le _, fun x hx => by cases hx⟩⟩, Nat.zero_le _⟩
theorem unf_ok {s : ByteArray} (h : okS s) : okS (unf s).1 := by
  simp only [okS] at h ⊢
  unfold unf
  split
  · exact Nat.zero_le _
  · show (s.extract 8 _).size ≤ _
    rw [ByteArray.size_extract]; omega
end Go.Rx
namespace Go.Proofs.YtfjllfjmggooeaaGreatDoor.Rx
open Go.Rx Go.Proofs Go.Proofs.YtfjllfjmggooeaaGreatDoor.RxB
set_option maxHeartbeats 4000000 in
theorem take_con (s : ByteArray) (hs : okS s) : Con P 127 [Sx s] (takeO (takeR s)) [.arr 99 6 ((takeR s).1.steps.map Step.enc)] := by
  have hu := stake_con s hs
  have ht : takeR s = if (unf s).2.2 = true then (if goodP (unf s).1 (bodyP (headP (unf s).1)) = true then ((bodyP (headP (unf s).1)).1, (unf s).2.1, 0) else (zeroR, ⟨#[]⟩, 10)) else (zeroR, ⟨#[]⟩, 10) := rfl
  rw [ht]
  have hto := unf_ok hs
  generalize unf s = u at hu hto
  obtain ⟨t, rest, ok⟩ := u
  cases ok
  · rw [if_neg (by simp)]
    refine ConG.con (ConG.of T_ok Tryz.func127 rfl (by kernel_rfl) (by kernel_rfl) (aw_of T_ok (by kernel_rfl) ?_)) rfl
    conv => whnf
    refine callS hu rfl ?_
    conv => whnf
    exact ⟨[.cell 0 5 99 6], rfl, [1], [.agg (recOA zeroR), Sx ⟨#[]⟩, Go.Rx.I 10], [.agg (recOA zeroR), Sx ⟨#[]⟩, Go.Rx.I 10], rfl, rfl, rfl, wk_refl _, rfl⟩
  rw [if_pos rfl]
  have hh : headP t = (((rdN (t, false)).1, (rdN (rdN (t, false)).2).1, (rdN (rdN (rdN (t, false)).2).2).1), (rdN (rdN (rdN (rdN (t, false)).2).2).2).2) := rfl
  have c1 := rdnum_con (t, false)
  generalize rdN (t, false) = x1 at c1 hh
  have c2 := rdnum_con x1.2
  generalize rdN x1.2 = x2 at c2 hh
  have c3 := rdnum_con x2.2
  generalize rdN x2.2 = x3 at c3 hh
  have c4 := rdnum_con x3.2
  generalize rdN x3.2 = x4 at c4 hh
  obtain ⟨kind, q1⟩ := x1
  obtain ⟨id, q2⟩ := x2
  obtain ⟨n, q3⟩ := x3
  obtain ⟨zz, q4⟩ := x4
  simp only at c1 c2 c3 c4 hh
  rw [hh]
  simp only
  obtain ⟨res, hres⟩ : ∃ res, (if goodP t (bodyP ((kind, id, n), q4)) = true then ((bodyP ((kind, id, n), q4)).1, rest, (0 : Int)) else (zeroR, ⟨#[]⟩, 10)) = res := ⟨_, rfl⟩
  rw [hres]
  refine ConG.con (ConG.of T_ok Tryz.func127 rfl (by kernel_rfl) (by kernel_rfl) (aw_ofC T_ok 1007 (by kernel_rfl) ?_)) rfl
  conv => whnf
  refine callS hu rfl ?_
  conv => whnf
  refine ⟨[1], _, _, _, _, _, nodupB_ok rfl, rfl, rfl, wk_refl _, c1, ?_⟩
  conv => whnf
  refine ⟨[1], _, _, _, _, _, nodupB_ok rfl, rfl, rfl, wk_refl _, c2, ?_⟩
  conv => whnf
  refine ⟨[1], _, _, _, _, _, nodupB_ok rfl, rfl, rfl, wk_refl _, c3, ?_⟩
  conv => whnf
  refine ⟨[1], _, _, _, _, _, nodupB_ok rfl, rfl, rfl, wk_refl _, c4, ?_⟩
  conv => whnf
  refine AW.meet (fun _ : Unit => True) (fun _ => [(2, .lf (.ptr 0 0)), (3, Sx rest), (4, Go.Rx.I 0), (5, Sx t), (7, .lf (.ptr 1 0))]) (fun _ => [.var [.pv (pI kind), .pv (pI id), .pv (pI n), .pv (pS ⟨#[]⟩), .pv (pS ⟨#[]⟩), .own 2 0], rdr q4, .arr 99 6 []]) [.cell 0 5 99 6] ⟨rfl, (), trivial, ⟨rfl, rfl, rfl, rfl, rfl, trivial⟩, ⟨[], rfl⟩, rfl, rfl⟩ ?_
  rintro _ _
  refine AW.cut (fun x : Rec × RdS => x = bodyP ((kind, id, n), q4)) (fun x => [(2, .lf (.ptr 0 0)), (3, Sx rest), (4, Go.Rx.I 0), (5, Sx t), (7, .lf (.ptr 1 0))]) (fun x => [.var [.pv (pI x.1.kind), .pv (pI x.1.id), .pv (pI x.1.n), .pv (pS x.1.key), .pv (pS x.1.body), .own 2 x.1.steps.length], rdr x.2, .arr 99 6 (x.1.steps.map Step.enc)]) [] ?_ ?_
  · refine aw_of T_ok (by kernel_rfl) ?_
    conv => whnf
    split <;> rename_i h1 <;> conv => whnf
    · have h1' : kind = 1 := eq_of_beq h1
      refine ⟨[1, 0, 2], _, _, _, _, _, nodupB_ok rfl, rfl, rfl, wk_refl _, beginRd_con q4 kind id n, ?_⟩
      conv => whnf
      exact ⟨_, rfl, ⟨rfl, rfl, rfl, rfl, rfl, trivial⟩, ⟨[], by rw [bodyP, if_pos h1']; rfl⟩, rfl, rfl⟩
    · have h1' : ¬ kind = 1 := by simpa using h1
      exact ⟨_, rfl, ⟨rfl, rfl, rfl, rfl, rfl, trivial⟩, ⟨[], by rw [bodyP, if_neg h1']; rfl⟩, rfl, rfl⟩
  rintro x hx
  have hbo := body_ok hto
  rw [hh, ← hx] at hbo
  rw [← hx] at hres
  obtain ⟨r, q, bad⟩ := x
  have hrl : (r.steps.map Step.enc).length = r.steps.length := List.length_map ..
  have no : ∀ b : Bool, b = false → (if b = true then (r, rest, (0 : Int)) else (zeroR, ⟨#[]⟩, 10)) = (zeroR, ⟨#[]⟩, 10) := fun b h => by rw [h]; rfl
  cases bad
  rotate_left
  · obtain rfl : (zeroR, ⟨#[]⟩, 10) = res := hres
    refine aw_of T_ok (by kernel_rfl) ?_
    conv => whnf
    exact ⟨[.cell 0 5 99 6], rfl, [3], [.agg (recOA zeroR), Sx ⟨#[]⟩, Go.Rx.I 10], [.agg (recOA zeroR), Sx ⟨#[]⟩, Go.Rx.I 10], rfl, rfl, rfl, wk_refl _, rfl⟩
  have hg : goodP t (r, q, false) = (recB r && (plainS r == t)) := rfl
  rw [hg] at hres
  by_cases hr : recB r = true
  rotate_left
  · obtain rfl : (zeroR, ⟨#[]⟩, 10) = res := (no _ (by simp [hr])).symm.trans hres
    refine aw_of T_ok (by kernel_rfl) ?_
    conv => whnf
    refine ⟨hrl, ?_⟩
    have hc := recMay_con r hbo.1
    rw [show recB r = false by simpa using hr] at hc
    refine callS hc rfl ?_
    conv => whnf
    exact ⟨[.cell 0 5 99 6], rfl, [3], [.agg (recOA zeroR), Sx ⟨#[]⟩, Go.Rx.I 10], [.agg (recOA zeroR), Sx ⟨#[]⟩, Go.Rx.I 10], rfl, rfl, rfl, wk_refl _, rfl⟩
  have hc := recMay_con r hbo.1
  rw [hr] at hc
  refine aw_of T_ok (by kernel_rfl) ?_
  conv => whnf
  refine ⟨hrl, ?_⟩
  refine callS hc rfl ?_
  conv => whnf
  refine ⟨hrl, ?_⟩
  refine callS (spell_con r (small_of hr)) rfl ?_
  conv => whnf
  split <;> rename_i h4 <;> conv => whnf
  · have h4' : plainS r ≠ t := bne_of h4
    obtain rfl : (zeroR, ⟨#[]⟩, 10) = res := (no _ (by simp [h4'])).symm.trans hres
    exact ⟨[.cell 0 5 99 6], rfl, [3], [.agg (recOA zeroR), Sx ⟨#[]⟩, Go.Rx.I 10], [.agg (recOA zeroR), Sx ⟨#[]⟩, Go.Rx.I 10], rfl, rfl, rfl, wk_refl _, rfl⟩
  · have h4' : plainS r = t := eq_of_bne h4
    obtain rfl : (r, rest, 0) = res := (if_pos (by rw [hr, h4']; simp)).symm.trans hres
    exact ⟨[], [2], [.agg (recOA r), Sx rest, Go.Rx.I 0], [.agg (recOA r), Sx rest, Go.Rx.I 0], rfl, rfl, rfl, wk_refl _, rfl⟩
end Go.Proofs.YtfjllfjmggooeaaGreatDoor.Rx

/- What is read: the page reads the same, and what was written is read as it. -/
set_option linter.unusedVariables false
set_option linter.unusedSimpArgs false
namespace Go.Rx
end Go.Rx

/- The page's reading is the code's. -/
set_option linter.unusedVariables false
set_option linter.unusedSimpArgs false
namespace Go.Rx
theorem good_iff {t : ByteArray} {x : Rec × RdS} : goodP t x = true ↔ x.2.2 = false ∧ recB x.1 = true ∧ plainS x.1 = t := by
  unfold goodP
  rw [Bool.and_eq_true, Bool.and_eq_true]
  constructor
  · rintro ⟨⟨h1, h2⟩, h3⟩; exact ⟨by simpa using h1, h2, eq_of_beq h3⟩
  · rintro ⟨h1, h2, h3⟩; exact ⟨⟨by rw [h1]; rfl, h2⟩, by rw [h3]; simp⟩
theorem body1 {h : HeadS} (k : h.1.1 = 1) : bodyP h = (⟨h.1.1, h.1.2.1, h.1.2.2, (begP h.2).1.1, (begP h.2).1.2.1, (begP h.2).1.2.2⟩, (begP h.2).2) := by rw [bodyP, if_pos k]
end Go.Rx

/- What was written is read as it. -/
set_option linter.unusedVariables false
set_option linter.unusedSimpArgs false
namespace Go.Rx
abbrev i32B (v : Int) : Prop := -2147483648 ≤ v ∧ v < 2147483648
theorem ext_bytes (l : List UInt8) (i j : Nat) : (bytesOf l).extract i j = bytesOf ((l.drop i).take (j - i)) := by
  symm
  rw [bytesOf_eq, ext_list]
  rfl
theorem rdB_put (a l : List UInt8) : rdB (bytesOf (a ++ l), false) a.length = (bytesOf a, (bytesOf l, false)) := by
  rw [rdB, if_neg]
  · show ((bytesOf (a ++ l)).extract 0 ((a.length : Int)).toNat, ((bytesOf (a ++ l)).extract ((a.length : Int)).toNat (bytesOf (a ++ l)).size, false)) = _
    have e : ((a.length : Int)).toNat = a.length := by omega
    have e2 : (bytesOf (a ++ l)).size = a.length + l.length := by rw [bytesOf_size, List.length_append]
    rw [e, e2, ext_bytes, ext_bytes, List.drop_zero, Nat.sub_zero, List.take_left', List.drop_left', List.take_of_length_le]
    · omega
    · rfl
    · rfl
  · rintro (h | h | h)
    · cases h
    · omega
    · have : ((bytesOf (a ++ l)).size : Int) < a.length := h
      rw [bytesOf_size, List.length_append] at this; omega
theorem rdN_put {v : Int} (hv : i32B v) (l : List UInt8) : rdN (bytesOf (be4 v ++ l), false) = (v, (bytesOf l, false)) := by
  have e : rdB (bytesOf (be4 v ++ l), false) 4 = (bytesOf (be4 v), (bytesOf l, false)) := rdB_put (be4 v) l
  have h1 := num_be4 v
  rw [rdN, e]
  show (sgn (num4 (be4 v)), _) = _
  have : sgn (num4 (be4 v)) = v := by
    obtain ⟨hv1, hv2⟩ := hv
    rw [sgn]; split <;> omega
  rw [this]
theorem rdT_put {s : ByteArray} (hs : s.size < 2147483648) (l : List UInt8) : rdT (bytesOf (txtL s ++ l), false) = (s, (bytesOf l, false)) := by
  have e : rdN (bytesOf (txtL s ++ l), false) = ((s.size : Int), (bytesOf (s.data.toList ++ l), false)) := by
    rw [txtL, List.append_assoc]; exact rdN_put (by constructor <;> omega) _
  rw [rdT, e]
  exact rdB_put s.data.toList l
structure StepR (x : Step) : Prop where
  sv : i32B x.service
  n : i32B x.n
  nm : x.nm.size < 2147483648
  op : x.op.size < 2147483648
  un : x.undo.size < 2147483648
  wh : x.who.size < 2147483648
theorem rdStep_put {x : Step} (h : StepR x) (l : List UInt8) : rdStep (bytesOf (stepL1 x ++ l), false) = (x, (bytesOf l, false)) := by
  have e : stepL1 x ++ l = txtL x.nm ++ (be4 x.service ++ (txtL x.op ++ (txtL x.undo ++ (txtL x.who ++ (be4 x.n ++ l))))) := by
    simp only [stepL1, List.append_assoc]
  rw [e]
  unfold rdStep
  simp only [rdT_put h.nm, rdN_put h.sv, rdT_put h.op, rdT_put h.un, rdT_put h.wh, rdN_put h.n]
theorem rdSteps_put : ∀ {s : List Step} (h : ∀ x ∈ s, StepR x) (l : List UInt8), rdSteps s.length (bytesOf (s.flatMap stepL1 ++ l), false) = (s, (bytesOf l, false))
  | [], h, l => rfl
  | x :: s, h, l => by
    have e : (x :: s).flatMap stepL1 ++ l = stepL1 x ++ (s.flatMap stepL1 ++ l) := by rw [List.flatMap_cons, List.append_assoc]
    rw [e]
    show ((rdStep (bytesOf (stepL1 x ++ (s.flatMap stepL1 ++ l)), false)).1 :: (rdSteps s.length (rdStep (bytesOf (stepL1 x ++ (s.flatMap stepL1 ++ l)), false)).2).1, _) = _
    rw [rdStep_put (h x (by simp)), rdSteps_put fun y hy => h y (by simp [hy])]
structure RecR (r : Rec) : Prop where
  kind : i32B r.kind
  id : i32B r.id
  n : i32B r.n
  key : r.key.size < 2147483648
  body : r.body.size < 2147483648
  len : r.steps.length ≤ 5
  st : ∀ x ∈ r.steps, StepR x
  bare : ¬ r.kind = 1 → r.key = ⟨#[]⟩ ∧ r.body = ⟨#[]⟩ ∧ r.steps = []
theorem ops_in {n : Int} {s : ByteArray} (h : (opsS n).any (s == ·) = true) : 1 ≤ n ∧ n ≤ 4 := by
  obtain ⟨y, hy, e⟩ := List.any_eq_true.1 h
  unfold opsS at hy
  repeat' split at hy
  all_goals first | (constructor <;> omega) | exact (List.not_mem_nil hy).elim
theorem rec_range {r : Rec} (h : recB r = true) : RecR r := by
  have sm := small_of h
  unfold recB at h
  rw [Bool.and_eq_true] at h
  obtain ⟨h1, h2⟩ := h
  simp only [Bool.and_eq_true, decide_eq_true_eq] at h1
  by_cases k : r.kind = 1
  · rw [if_pos k] at h2
    unfold begB at h2
    simp only [Bool.and_eq_true, decide_eq_true_eq, beq_iff_eq, stepsB] at h2
    have hb := sm.body
    have hk := sm.key
    refine ⟨by constructor <;> omega, by constructor <;> omega, by have := h2.1; constructor <;> omega, by omega, by omega, sm.len, fun x hx => ?_, fun c => absurd k c⟩
    have z := sm.st x hx
    obtain ⟨j, hj, rfl⟩ := List.mem_iff_getElem.1 hx
    have h3 := List.all_eq_true.1 h2.2.2.2.2.2.1 j (List.mem_range.2 hj)
    rw [okAt_eq hj] at h3
    simp only [Bool.and_eq_true, okStep, pairB, numB, decide_eq_true_eq] at h3
    have a2 := ops_in h3.1.1.1.2.1.1
    have a3 := h3.1.2
    exact ⟨by constructor <;> omega, by constructor <;> omega, by omega, by omega, by omega, by omega⟩
  · rw [if_neg k] at h2
    simp only [Bool.and_eq_true, bareB, beq_iff_eq, decide_eq_true_eq] at h2
    have e := List.eq_nil_of_length_eq_zero h2.1.2
    have h3 := h2.2
    unfold kindB at h3
    have hkn : i32B r.kind ∧ i32B r.n := by
      split at h3
      · rename_i c
        simp only [Bool.and_eq_true, decide_eq_true_eq] at h3
        constructor <;> constructor <;> omega
      · split at h3
        · simp only [beq_iff_eq] at h3
          constructor <;> constructor <;> omega
        · split at h3
          · simp only [Bool.and_eq_true, decide_eq_true_eq] at h3
            constructor <;> constructor <;> omega
          · cases h3
    exact ⟨hkn.1, by constructor <;> omega, hkn.2, by rw [h2.1.1.1]; decide, by rw [h2.1.1.2]; decide, by rw [e]; decide, (fun x hx => by rw [e] at hx; cases hx), fun _ => ⟨h2.1.1.1, h2.1.1.2, e⟩⟩
theorem head_put {r : Rec} (h : RecR r) (l : List UInt8) : headP (bytesOf (headL r ++ l)) = ((r.kind, r.id, r.n), (bytesOf l, false)) := by
  have e : headL r ++ l = be4 r.kind ++ (be4 r.id ++ (be4 r.n ++ (be4 0 ++ l))) := by
    rw [headL]; simp [numsL]
  rw [e]
  unfold headP
  simp only [rdN_put h.kind, rdN_put h.id, rdN_put h.n, rdN_put (v := 0) (by constructor <;> omega)]
theorem body_put {r : Rec} (h : RecR r) : bodyP (headP (plainS r)) = (r, (bytesOf [], false)) := by
  by_cases k : r.kind = 1
  · have e : plainS r = bytesOf (headL r ++ (moreL r ++ r.steps.flatMap stepL1)) := by rw [plainS, plainL, if_pos k, List.append_assoc]
    rw [e, head_put h, body1 k]
    have e2 : moreL r ++ r.steps.flatMap stepL1 = txtL r.key ++ (txtL r.body ++ (be4 r.steps.length ++ (r.steps.flatMap stepL1 ++ []))) := by
      rw [moreL]; simp
    have hl := h.len
    have m : (min (r.steps.length : Int) 5).toNat = r.steps.length := by omega
    have eb : begP (bytesOf (moreL r ++ r.steps.flatMap stepL1), false) = ((r.key, r.body, r.steps), (bytesOf [], false)) := by
      rw [e2]
      unfold begP
      simp only [rdT_put h.key, rdT_put h.body, rdN_put (v := (r.steps.length : Int)) (by constructor <;> omega), m, rdSteps_put h.st]
    rw [eb]
  · obtain ⟨b1, b2, b3⟩ := h.bare k
    have e : plainS r = bytesOf (headL r ++ []) := by rw [plainS, plainL, if_neg k, List.append_nil]
    rw [e, head_put h, bodyP, if_neg k]
    obtain ⟨kind, id, n, key, body, steps⟩ := r
    simp only at b1 b2 b3
    subst b1 b2 b3
    rfl
theorem good_put {r : Rec} (h : recB r = true) : goodP (plainS r) (bodyP (headP (plainS r))) = true := by
  rw [good_iff, body_put (rec_range h)]
  exact ⟨rfl, h, rfl⟩
/-- A frame that was made is taken apart. -/
theorem unf_put {p : ByteArray} (h : p.size ≤ 4000) (b : ByteArray) : unf (frame p ++ b) = (p, b, true) := by
  have e : frame p ++ b = bytesOf (be4 p.size ++ (be4 (chk (be4 p.size ++ p.data.toList)) ++ (p.data.toList ++ b.data.toList))) := by
    rw [frame, if_neg (by omega), frmL]
    have e1 : p.data.toList.length = p.size := rfl
    rw [e1]
    symm
    rw [bytesOf_eq, ByteArray.data_append, Array.toList_append]
    simp [bytesOf]
  have hp : p.data.toList.length = p.size := rfl
  have hb : b.data.toList.length = b.size := rfl
  generalize hc : chk (be4 p.size ++ p.data.toList) = c at e
  have hlt : c < 4294967291 := hc ▸ chk_lt _
  rw [e]
  have sz : (bytesOf (be4 p.size ++ (be4 (c : Int) ++ (p.data.toList ++ b.data.toList)))).size = 8 + p.size + b.size := by
    rw [bytesOf_size]; simp only [List.length_append, be4_len, hp, hb]; omega
  have n1 : num4 (bytesOf (be4 p.size ++ (be4 (c : Int) ++ (p.data.toList ++ b.data.toList)))).data.toList = p.size := by
    show num4 (be4 p.size ++ _) = _
    rw [← num4_take, List.take_left' (be4_len _)]
    have := num_be4 p.size
    omega
  have x8 : (bytesOf (be4 p.size ++ (be4 (c : Int) ++ (p.data.toList ++ b.data.toList)))).extract 8 (8 + p.size) = p := by
    rw [ext_bytes, ← List.append_assoc, List.drop_left' (by rw [List.length_append]; rfl), show 8 + p.size - 8 = p.size by omega, List.take_left' hp]; rfl
  have x9 : (bytesOf (be4 p.size ++ (be4 (c : Int) ++ (p.data.toList ++ b.data.toList)))).extract (8 + p.size) (8 + p.size + b.size) = b := by
    rw [ext_bytes, ← List.append_assoc, ← List.append_assoc, List.drop_left' (by rw [List.length_append, List.length_append]; rfl), List.take_of_length_le (by rw [hb]; omega)]; rfl
  have x04 : (bytesOf (be4 p.size ++ (be4 (c : Int) ++ (p.data.toList ++ b.data.toList)))).extract 0 4 = bytesOf (be4 p.size) := by
    rw [ext_bytes, List.drop_zero, List.take_left' (be4_len _)]
  have x4 : num4 ((bytesOf (be4 p.size ++ (be4 (c : Int) ++ (p.data.toList ++ b.data.toList)))).extract 4 (8 + p.size + b.size)).data.toList = c := by
    rw [ext_bytes, List.drop_left' (be4_len _), bytesOf_data]
    rw [← num4_take, List.take_take, show min 4 (8 + p.size + b.size - 4) = 4 by omega, List.take_left' (be4_len _)]
    have := num_be4 c
    omega
  rw [unf, sz, n1, x8, x9, x04, x4, if_neg]
  rintro (h1 | h1 | h1 | h1)
  · omega
  · omega
  · omega
  · apply h1
    rw [← hc, ByteArray.data_append, Array.toList_append]
    rfl
theorem take_put {r : Rec} (h : recB r = true) (hs : (plainS r).size ≤ 4000) (b : ByteArray) : takeR (frame (plainS r) ++ b) = (r, b, 0) := by
  rw [takeR, unf_put hs b, if_pos rfl, if_pos (good_put h), body_put (rec_range h)]
end Go.Rx

/- What was written is taken as it: the law's body. -/
set_option linter.unusedVariables false
set_option linter.unusedSimpArgs false
namespace Go.Rx
def behind : ByteArray := ⟨#[98, 101, 104, 105, 110, 100]⟩
theorem bytes_ok {r : Rec} (h : (bytesR r).2 = 0) : recB r = true ∧ (plainS r).size ≤ 4000 ∧ (bytesR r).1 = frame (plainS r) := by
  unfold bytesR at h ⊢
  by_cases c : recB r = true
  · rw [if_pos c] at h ⊢
    unfold frmR at h ⊢
    by_cases d : 4000 < (plainS r).size
    · rw [if_pos d] at h; cases h
    · rw [if_neg d]; exact ⟨c, by omega, rfl⟩
  · rw [if_neg c] at h; cases h
theorem frame_size {p : ByteArray} (h : p.size ≤ 4000) : (frame p).size = p.size + 8 := by
  rw [frame, if_neg (by omega), bytesOf_size, frmL]
  have : p.data.toList.length = p.size := rfl
  simp only [List.length_append, be4_len, this]; omega
end Go.Rx
namespace Go.Proofs.YtfjllfjmggooeaaGreatDoor.Rx
open Go.Rx Go.Proofs Go.Proofs.YtfjllfjmggooeaaGreatDoor.RxB
end Go.Proofs.YtfjllfjmggooeaaGreatDoor.Rx

/- A record taken: the page's. -/
set_option linter.unusedVariables false
set_option linter.unusedSimpArgs false
namespace Go.Rx
end Go.Rx
namespace Go.Proofs.YtfjllfjmggooeaaGreatDoor.Rx
open Go.Rx Go.Proofs Go.Proofs.YtfjllfjmggooeaaGreatDoor.RxB
end Go.Proofs.YtfjllfjmggooeaaGreatDoor.Rx

/- Records as bytes, and back; a byte another one: plain words, and what is kept free. -/
set_option linter.unusedVariables false
set_option linter.unusedSimpArgs false
namespace Go.Rx
abbrev strRows (L : List ByteArray) : List (List PV) := L.map fun s => [pS s]
theorem frame_le (p : ByteArray) : (frame p).size ≤ 4008 := by
  rw [frame]
  split
  · exact Nat.zero_le _
  · rw [bytesOf_size, frmL]
    have : p.data.toList.length = p.size := rfl
    simp only [List.length_append, be4_len, this]; omega
end Go.Rx
namespace Go.Proofs.YtfjllfjmggooeaaGreatDoor.Rx
open Go.Rx Go.Proofs Go.Proofs.YtfjllfjmggooeaaGreatDoor.RxB
end Go.Proofs.YtfjllfjmggooeaaGreatDoor.Rx

/- Records as bytes, and back: the law's body. -/
set_option linter.unusedVariables false
set_option linter.unusedSimpArgs false
namespace Go.Rx
end Go.Rx
namespace Go.Proofs.YtfjllfjmggooeaaGreatDoor.Rx
open Go.Rx Go.Proofs Go.Proofs.YtfjllfjmggooeaaGreatDoor.RxB
abbrev txtB (L : List ByteArray) : Blk := .arr 9 1 (strRows L)
end Go.Proofs.YtfjllfjmggooeaaGreatDoor.Rx
