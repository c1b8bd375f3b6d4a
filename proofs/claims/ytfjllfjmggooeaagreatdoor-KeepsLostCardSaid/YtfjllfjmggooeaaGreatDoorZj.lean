/- The texts of the proof, part 10, in order. -/
import Derived.Test.YtfjllfjmggooeaaGreatDoorZi
import Derived.Test.YtfjllfjmggooeaaGreatDoorZg
import Derived.Test.YtfjllfjmggooeaaGreatDoorZh
import Derived.Test.YtfjllfjmggooeaaGreatDoorZf
import Derived.LaidEql
import Derived.Stop.Asserts
import Derived.RowKitTokens
/- A step, whole. -/
set_option linter.unusedVariables false
set_option linter.unusedSimpArgs false
namespace Go.Rx
/-- A live may go on. -/
structure MoveOk (w : Wd) (v : Live) : Prop where
  file : w.file.Ok
  live : v.Ok
  tries : -1 ≤ v.tries ∧ v.tries ≤ 4611686018427387903
  call : v.write.kind = 0 → (!v.saga.back && (v.saga.done == (v.saga.steps.length : Int))) = false → (v.saga.back && (v.saga.left == 0)) = false → (!v.saga.back && !v.saga.out) = false → CallOk w v.saga
theorem due_go {c : Int} {l : List Live} {k : Nat} (h : k < l.length) : dueGo c (l.drop k) k = if dueB c l[k] then some k else dueGo c (l.drop (k + 1)) (k + 1) := by
  rw [List.drop_eq_getElem_cons h, dueGo]
theorem due_end {c : Int} {l : List Live} {k : Nat} (h : l.length ≤ k) : dueGo c (l.drop k) k = none := by rw [List.drop_of_length_le h, dueGo]
theorem dueGo_some {c : Int} : ∀ {l : List Live} {k i : Nat}, dueGo c l k = some i → k ≤ i ∧ ∃ v, l[i - k]? = some v ∧ dueB c v = true
  | [], k, i, h => by simp [dueGo] at h
  | v :: l, k, i, h => by
    rw [dueGo] at h
    split at h
    · rename_i hv
      cases h
      exact ⟨Nat.le_refl _, v, by simp, hv⟩
    · obtain ⟨h1, v', h2, h3⟩ := dueGo_some h
      refine ⟨by omega, v', ?_, h3⟩
      have : i - k = (i - (k + 1)) + 1 := by omega
      rw [this]; simpa using h2
theorem dueI_some {w : Wd} {i : Nat} (h : dueI w = some i) : ∃ v, w.lives[i]? = some v ∧ dueB w.clock v = true := by
  obtain ⟨_, v, h2, h3⟩ := dueGo_some h
  exact ⟨v, by simpa using h2, h3⟩
theorem nextW_lives (w : Wd) (v : Live) : (nextW w v).1.lives = w.lives := by
  rw [nextW]
  simp only
  split
  · rfl
  split
  · rfl
  split
  · rfl
  split <;> rfl
theorem writtenW_lives (w : Wd) (v : Live) : (writtenW w v).1.lives = w.lives := by
  rw [writtenW]
  split
  · rfl
  split <;> rfl
end Go.Rx
namespace Go.Proofs.YtfjllfjmggooeaaGreatDoor.Rx
open Go.Rx Go.Proofs Go.Proofs.YtfjllfjmggooeaaGreatDoor.RxH
theorem next_conW (w : Wd) (i : Nat) (v : Live) (hi : w.lives[i]? = some v) (h : MoveOk w v) (hw : v.write.kind = 0) (he : (nextW w v).2.2 = 0) :
    ConG P 105 (mvB w) [.lf (.ptr 0 0), .lf (.ept 2 w.lives.length i 18 0)] nilI (mvB (setLive (nextW w v).1 i (nextW w v).2.1)) := by
  have hc := h.call hw
  cases h1 : (!v.saga.back && (v.saga.done == (v.saga.steps.length : Int))) with
  | true =>
    have e : nextW w v = (w, { v with write := { zRec with kind := 6, id := v.saga.id, n := 1 } }, 0) := by rw [nextW]; simp only; rw [if_pos h1]
    rw [e]
    rw [Bool.and_eq_true] at h1
    exact nextR_con w i v 6 1 hi (.inl ⟨by simpa using h1.1, h1.2, rfl, rfl⟩)
  | false =>
  cases h2 : (v.saga.back && (v.saga.left == 0)) with
  | true =>
    have e : nextW w v = (w, { v with write := { zRec with kind := 6, id := v.saga.id, n := 2 } }, 0) := by rw [nextW]; simp only; rw [if_neg (by rw [h1]; decide), if_pos h2]
    rw [e]
    rw [Bool.and_eq_true] at h2
    exact nextR_con w i v 6 2 hi (.inr (.inl ⟨h2.1, h2.2, rfl, rfl⟩))
  | false =>
  cases h3 : (!v.saga.back && !v.saga.out) with
  | true =>
    have e : nextW w v = (w, { v with write := { zRec with kind := 2, id := v.saga.id, n := v.saga.done } }, 0) := by rw [nextW]; simp only; rw [if_neg (by rw [h1]; decide), if_neg (by rw [h2]; decide), if_pos h3]
    rw [e]
    simp only [Bool.and_eq_true, Bool.not_eq_true'] at h3
    rw [h3.1] at h1
    exact nextR_con w i v 2 v.saga.done hi (.inr (.inr ⟨h3.1, by simpa using h1, h3.2, rfl, rfl⟩))
  | false =>
  have hd : (doneAt w v.saga).2.2 = 0 := by
    rw [nextW] at he
    simp only at he
    rw [if_neg (by rw [h1]; decide), if_neg (by rw [h2]; decide), if_neg (by rw [h3]; decide)] at he
    split at he
    · assumption
    · exact he
  have e : (nextW w v).1 = calledW w v.saga := by
    rw [nextW]; simp only; rw [if_neg (by rw [h1]; decide), if_neg (by rw [h2]; decide), if_neg (by rw [h3]; decide), if_pos hd]
  rw [e]
  exact nextC_con w i v hi h.tries h1 h2 h3 (hc h1 h2 h3) hd
theorem written_conW (w : Wd) (i : Nat) (v : Live) (hi : w.lives[i]? = some v) (h : MoveOk w v) (he : (writtenW w v).2.2 = 0) :
    ConG P 106 (mvB w) [.lf (.ptr 0 0), .lf (.ept 2 w.lives.length i 18 0)] nilI (mvB (setLive (writtenW w v).1 i (writtenW w v).2.1)) := by
  cases hp : v.put with
  | true =>
    have e : writtenW w v = ({ w with file := (crashP w.file w.file.tail.size).1 }, ⟨nextS v.saga v.write, 0, w.clock, zRec, false⟩, 0) := by rw [writtenW, if_pos hp]
    rw [e]
    exact writtenS_con w i v hi h.file h.live hp
  | false =>
    have hd : (jappP w.file v.write).2 = 0 := by
      rw [writtenW, if_neg (by rw [hp]; decide)] at he
      split at he
      · assumption
      · exact he
    have e : writtenW w v = ({ w with file := (jappP w.file v.write).1 }, { v with put := true }, 0) := by rw [writtenW, if_neg (by rw [hp]; decide), if_pos hd]
    rw [e]
    exact writtenA_con w i v hi h.file h.live hp hd
abbrev idleI : AV := .lf (.pv (.sc (.iface 154 (.agg #[]))))
/-- What a step that does not fail tells: nil, or that there is none. -/
abbrev stepE (e : Int) : AV := .lf (.pv (.sc (if e = 0 then .nilIface else .iface 154 (.agg #[]))))
theorem stepM_con (w : Wd) (hl : w.lives.length * 200 ≤ 140737488351232) (h : ∀ v, v ∈ w.lives → dueB w.clock v = true → MoveOk w v) (he : (stepW w).2 = 0 ∨ dueI w = none) :
    ConG P 64 (mvB w) [.lf (.ptr 0 0)] (stepE (stepW w).2) (mvB (stepW w).1) := by
  have hml : (w.lives.map Live.enc).length = w.lives.length := List.length_map ..
  obtain ⟨r, hr⟩ : ∃ r, r = stepW w := ⟨_, rfl⟩
  have hd0 : dueI w = dueGo w.clock w.lives 0 := rfl
  rw [← hr] at he ⊢
  refine ConG.of T_ok Tryz.func64 rfl (by kernel_rfl) (by kernel_rfl) (aw_of T_ok (by kernel_rfl) ?_)
  conv => whnf
  refine ⟨hml, ?_⟩
  conv => whnf
  refine AW.loop (fun k : Nat => k ≤ w.lives.length ∧ dueI w = dueGo w.clock (w.lives.drop k) k) (fun k => [(0, .lf (.ptr 0 0)), (13, Go.Rx.I w.lives.length), (14, Go.Rx.I k)]) (fun _ => mvB w) (fun k => w.lives.length - k) [] ?_ ?_
  · exact ⟨0, ⟨Nat.zero_le _, rfl⟩, ⟨rfl, rfl, rfl, trivial⟩, ⟨[], rfl⟩, rfl, rfl⟩
  rintro k ⟨hk, hpre⟩
  refine aw_of T_ok (by kernel_rfl) ?_
  conv => whnf
  split <;> rename_i hlt <;> conv => whnf
  · have hkl : k < w.lives.length := by have := of_decide_eq_true hlt; omega
    have wk : IntKind.i64.wrap ((k : Int) + 1) = ((k + 1 : Nat) : Int) := wrapI (by omega)
    have hrow : (w.lives.map Live.enc)[k]? = some w.lives[k].enc := by simp [hkl]
    have hi : w.lives[k]? = some w.lives[k] := List.getElem?_eq_getElem hkl
    have hmem : w.lives[k] ∈ w.lives := List.getElem_mem hkl
    rw [due_go hkl] at hpre
    have hsw : dueB w.clock w.lives[k] = true → stepW w = if (moveW w w.lives[k]).2.2 = 0 then ({ (moveW w w.lives[k]).1 with lives := w.lives.set k (moveW w w.lives[k]).2.1 }, 0) else (w, (moveW w w.lives[k]).2.2) := fun hb => by
      rw [stepW, hpre, if_pos hb]
      simp only
      rw [hi]
    have hok := h _ hmem
    generalize w.lives[k] = v at hrow hi hpre hsw hok hmem
    refine ⟨hml, by omega, by omega, ?_⟩
    conv => whnf
    refine ⟨hml, hml, hml, rfl, hml, _, hrow, ?_⟩
    conv => whnf
    refine AW.draw T_ok rfl (seqPl 0 22) (by kernel_rfl) (by kernel_rfl) ?_
    conv => whnf
    refine ⟨hml, hml, hml, rfl, hml, _, hrow, ?_⟩
    conv => whnf
    split <;> rename_i h1 <;> conv => whnf
    · have hb : dueB w.clock v = false := by
        have h1' : (v.saga.status != 0) = true := h1
        have : (v.saga.status == 0) = false := by simpa using h1'
        rw [dueB, this]; rfl
      rw [if_neg (by rw [hb]; decide)] at hpre
      exact ⟨k + 1, ⟨⟨hkl, hpre⟩, by omega⟩, ⟨rfl, rfl, congrArg Go.Rx.I wk, trivial⟩, ⟨[], rfl⟩, rfl, rfl⟩
    · have h1' : (v.saga.status == 0) = true := by have h3 : (v.saga.status != 0) = false := h1; simpa using h3
      split <;> rename_i h2 <;> conv => whnf
      · have hk0 : v.write.kind = 0 := by have h3 : (!(v.write.kind != 0)) = true := h2; simpa using h3
        refine ⟨hml, hml, rfl, hml, _, hrow, ?_⟩
        conv => whnf
        split <;> rename_i h4 <;> conv => whnf
        · have hb : dueB w.clock v = false := by
            have h4' : decide (w.clock < v.due) = true := h4
            rw [dueB, h1', h4', hk0]; rfl
          rw [if_neg (by rw [hb]; decide)] at hpre
          exact ⟨k + 1, ⟨⟨hkl, hpre⟩, by omega⟩, ⟨rfl, rfl, congrArg Go.Rx.I wk, trivial⟩, ⟨[], rfl⟩, rfl, rfl⟩
        · have hb : dueB w.clock v = true := by
            have h4' : decide (w.clock < v.due) = false := h4
            rw [dueB, h1', h4', hk0]; rfl
          rw [if_pos hb] at hpre
          have hmv : moveW w v = nextW w v := by rw [moveW, if_neg (by rw [hk0]; decide)]
          have hs := hsw hb
          rw [hmv] at hs
          have he0 : (nextW w v).2.2 = 0 := by
            rcases he with he | he
            · rw [hr, hs] at he
              split at he
              · assumption
              · exact he
            · rw [he] at hpre; cases hpre
          rw [if_pos he0] at hs
          have c := next_conW w k v hi (hok hb) hk0 he0
          have hlv : setLive (nextW w v).1 k (nextW w v).2.1 = { (nextW w v).1 with lives := w.lives.set k (nextW w v).2.1 } := by rw [setLive, nextW_lives]
          rw [hlv] at c
          rw [hs] at hr
          subst hr
          split <;> rename_i h5 <;> conv => whnf
          · have h5' : (v.write.kind != 0) = true := h5
            rw [hk0] at h5'; cases h5'
          refine ⟨[0, 1, 2, 3], _, _, _, _, _, nodupB_ok rfl, rfl, rfl, wk_refl _, c, ?_⟩
          conv => whnf
          refine ⟨rfl, ?_⟩
          conv => whnf
          exact ⟨[], [0, 1, 2, 3], [nilI], [nilI], rfl, rfl, rfl, wk_refl _, rfl⟩
      · have hk0 : (v.write.kind != 0) = true := by have h3 : (!(v.write.kind != 0)) = false := h2; simpa using h3
        have hb : dueB w.clock v = true := by rw [dueB, h1', hk0]; rfl
        rw [if_pos hb] at hpre
        have hmv : moveW w v = writtenW w v := by rw [moveW, if_pos hk0]
        have hs := hsw hb
        rw [hmv] at hs
        have he0 : (writtenW w v).2.2 = 0 := by
          rcases he with he | he
          · rw [hr, hs] at he
            split at he
            · assumption
            · exact he
          · rw [he] at hpre; cases hpre
        rw [if_pos he0] at hs
        have c := written_conW w k v hi (hok hb) he0
        have hlv : setLive (writtenW w v).1 k (writtenW w v).2.1 = { (writtenW w v).1 with lives := w.lives.set k (writtenW w v).2.1 } := by rw [setLive, writtenW_lives]
        rw [hlv] at c
        rw [hs] at hr
        subst hr
        split <;> rename_i h5 <;> conv => whnf
        · refine ⟨[0, 1, 2, 3], _, _, _, _, _, nodupB_ok rfl, rfl, rfl, wk_refl _, c, ?_⟩
          conv => whnf
          refine ⟨rfl, ?_⟩
          conv => whnf
          exact ⟨[], [0, 1, 2, 3], [nilI], [nilI], rfl, rfl, rfl, wk_refl _, rfl⟩
        · have h5' : (v.write.kind != 0) = false := h5
          rw [hk0] at h5'; cases h5'
  · have hkl : w.lives.length ≤ k := by have := of_decide_eq_false hlt; omega
    rw [due_end hkl] at hpre
    have e : stepW w = (w, 3) := by rw [stepW, hpre]
    rw [e] at hr
    subst hr
    exact ⟨[], [0, 1, 2, 3], [idleI], [idleI], rfl, rfl, rfl, wk_refl _, rfl⟩
end Go.Proofs.YtfjllfjmggooeaaGreatDoor.Rx

/- A call, and its undoing. -/
set_option linter.unusedVariables false
set_option linter.unusedSimpArgs false
namespace Go.Rx
end Go.Rx
namespace Go.Proofs.YtfjllfjmggooeaaGreatDoor.Rx
open Go.Rx Go.Proofs Go.Proofs.YtfjllfjmggooeaaGreatDoor.RxH

end Go.Proofs.YtfjllfjmggooeaaGreatDoor.Rx

/- What happens to a ledger: the page's answer. -/
set_option linter.unusedVariables false
set_option linter.unusedSimpArgs false
namespace Go.Rx
end Go.Rx
namespace Go.Proofs.YtfjllfjmggooeaaGreatDoor.Rx
open Go.Rx Go.Proofs Go.Proofs.YtfjllfjmggooeaaGreatDoor.RxH

theorem copyNumbersO_con (l : List Int) (hl : l.length * 8 ≤ 140737488351232) : Con P 49 [.lf (.pv (encInts l))] (.lf (.own 0 l.length)) [.arr 3 1 (intRows l)] := by
  refine ConG.con (ConG.of T_ok Tryz.func49 rfl (by kernel_rfl) (by kernel_rfl) (aw_of T_ok (by kernel_rfl) ?_)) rfl
  conv => whnf
  refine AW.loop (fun k : Nat => k ≤ l.length) (fun k => [(0, .lf (.pv (encInts l))), (3, .lf (.own 0 k)), (4, Go.Rx.I k)]) (fun k => [.arr 3 1 (intRows (l.take k))]) (fun k => l.length - k) [.slot 3 3 1] ?_ ?_
  · exact ⟨rfl, 0, Nat.zero_le _, ⟨rfl, rfl, rfl, trivial⟩, ⟨[], rfl⟩, rfl, rfl⟩
  · intro k hk
    refine aw_of T_ok (by kernel_rfl) ?_
    conv => whnf
    split <;> rename_i hlt <;> conv => whnf
    · have hkl : k < l.length := by simp at hlt; omega
      refine ⟨by omega, [pI l[k]], by simp [hkl], ?_⟩
      conv => whnf
      refine ⟨rfl, _, .inl rfl, ?_⟩
      conv => whnf
      refine ⟨by simp; omega, by show (k + 1) * 8 ≤ _; omega, ?_⟩
      conv => whnf
      refine ⟨k + 1, ⟨by omega, by omega⟩, ⟨rfl, rfl, congrArg Go.Rx.I (wrapI (by omega)), trivial⟩, ⟨[?r], ?e⟩, rfl, rfl⟩
      case e => show _ = [Blk.arr _ _ (List.map (fun n => [pI n]) (l.take (k + 1)))] ++ [_]; rw [take_succ' hkl, List.map_append]; rfl
    · have hkl : k = l.length := by simp at hlt; omega
      subst hkl
      refine ⟨[], [0], [.lf (.own 0 l.length)], [.lf (.own 0 l.length)], rfl, ?_, rfl, wk_refl _, rfl⟩
      show some [Blk.arr _ 1 (intRows (l.take l.length))] = _
      rw [List.take_length]
end Go.Proofs.YtfjllfjmggooeaaGreatDoor.Rx

/- The two answers are one; what writes over a ledger. -/
set_option linter.unusedVariables false
set_option linter.unusedSimpArgs false
namespace Go.Rx
end Go.Rx
namespace Go.Proofs.YtfjllfjmggooeaaGreatDoor.Rx
open Go.Rx Go.Proofs Go.Proofs.YtfjllfjmggooeaaGreatDoor.RxH

end Go.Proofs.YtfjllfjmggooeaaGreatDoor.Rx

/- An act on both. -/
set_option linter.unusedVariables false
set_option linter.unusedSimpArgs false
namespace Go.Rx
structure LAct where
  kind : Int
  key : Int
  of' : Int
  op : Int
  n : Int
  out : Int
  who : ByteArray
abbrev LAct.enc (a : LAct) : List PV := [pI a.kind, pI a.key, pI a.of', pI a.op, pI a.n, pI a.out, pS a.who]
end Go.Rx
namespace Go.Proofs.YtfjllfjmggooeaaGreatDoor.Rx
open Go.Rx Go.Proofs Go.Proofs.YtfjllfjmggooeaaGreatDoor.RxH

end Go.Proofs.YtfjllfjmggooeaaGreatDoor.Rx

/- How much a script is; that something happens at all. -/
set_option linter.unusedVariables false
set_option linter.unusedSimpArgs false
namespace Go.Rx
structure LScript where
  g : Ledger
  service : Int
  l : List LAct
structure LScript.Ok (p : LScript) : Prop where
  g : p.g.Ok
  ll : p.l.length * 64 ≤ 140737488351232
  each : ∀ a ∈ p.l, okS a.who
def wW : ByteArray := ⟨#[119]⟩
end Go.Rx
namespace Go.Proofs.YtfjllfjmggooeaaGreatDoor.Rx
open Go.Rx Go.Proofs Go.Proofs.YtfjllfjmggooeaaGreatDoor.RxH

theorem ledgerWeight_con (g : Ledger) (h : g.Ok) : ∃ n, Con P 72 [encLedger g] (Go.Rx.I n) [] := by
  have hm : (g.entries.map Entry.enc).length = g.entries.length := List.length_map ..
  have hel := h.el
  obtain ⟨ws, hws⟩ : ∃ ws, ws = g.entries.map fun e => ((e.who.size : Int) / 8) := ⟨_, rfl⟩
  obtain ⟨n0, hn0⟩ : ∃ n0, n0 = IntKind.i64.wrap (((g.entries.map Entry.enc).length : Int) + ((g.known.map fun n => [pI n]).length : Nat)) := ⟨_, rfl⟩
  refine ⟨capSum ws n0, Con.of T_ok Tryz.func72 rfl (by kernel_rfl) (by kernel_rfl) (aw_of T_ok (by kernel_rfl) ?_)⟩
  conv => whnf
  refine AW.loop (fun p : Nat × Int => p.1 ≤ g.entries.length ∧ capSum (ws.drop p.1) p.2 = capSum ws n0) (fun p => [(1, .lf (.ptr 0 0)), (3, Go.Rx.I p.2), (4, Go.Rx.I p.1)]) (fun _ => [ledgerV g]) (fun p => g.entries.length - p.1) [] ?_ ?_
  · exact ⟨(0, n0), ⟨Nat.zero_le _, rfl⟩, ⟨rfl, by rw [hn0]; rfl, rfl, trivial⟩, ⟨[], rfl⟩, rfl, rfl⟩
  rintro ⟨k, n⟩ ⟨hk, hsum⟩
  simp only at hk hsum
  have hwl : ws.length = g.entries.length := by rw [hws]; simp
  refine aw_of T_ok (by kernel_rfl) ?_
  conv => whnf
  split <;> rename_i hlt <;> conv => whnf
  · have hkl : k < g.entries.length := by have := of_decide_eq_true hlt; simp only at this; omega
    split <;> rename_i h2 <;> conv => whnf
    · have h2' : n < 1048576 := of_decide_eq_true h2
      have hwho := (h.each _ (List.getElem_mem hkl)).who
      simp only [okS] at hwho
      refine ⟨by show (0 : Int) ≤ (k : Int); omega, (g.entries[k]).enc, by simp [hkl], ?_⟩
      conv => whnf
      refine ⟨by omega, by decide, by omega, ?_⟩
      conv => whnf
      rw [capSum_go (by omega) h2', show ws[k]'(by omega) = ((g.entries[k]).who.size : Int) / 8 by simp [hws]] at hsum
      exact ⟨(k + 1, _), ⟨⟨by simp only; omega, hsum⟩, by simp only; omega⟩, ⟨rfl, rfl, congrArg Go.Rx.I (wrapI (by simp only; omega)), trivial⟩, ⟨_, rfl⟩, rfl, rfl⟩
    · have h2' : ¬ n < 1048576 := of_decide_eq_false h2
      rw [capSum_stop h2'] at hsum
      exact finI ⟨hsum⟩
  · have hkl : g.entries.length ≤ k := by have := of_decide_eq_false hlt; simp only at this; omega
    rw [List.drop_of_length_le (by omega), capSum] at hsum
    exact finI ⟨hsum⟩
end Go.Proofs.YtfjllfjmggooeaaGreatDoor.Rx

/- Whatever is called, and undone, each act tells the same. -/
set_option linter.unusedVariables false
set_option linter.unusedSimpArgs false
namespace Go.Proofs.YtfjllfjmggooeaaGreatDoor.Rx
open Go.Rx Go.Proofs Go.Proofs.YtfjllfjmggooeaaGreatDoor.RxH

end Go.Proofs.YtfjllfjmggooeaaGreatDoor.Rx

/- Acts of some kinds, in turn. -/
set_option linter.unusedVariables false
set_option linter.unusedSimpArgs false
namespace Go.Rx
end Go.Rx
namespace Go.Proofs.YtfjllfjmggooeaaGreatDoor.Rx
open Go.Rx Go.Proofs Go.Proofs.YtfjllfjmggooeaaGreatDoor.RxH

end Go.Proofs.YtfjllfjmggooeaaGreatDoor.Rx

/- A ledger stays one; what a key, once there, stands for. -/
set_option linter.unusedVariables false
set_option linter.unusedSimpArgs false
namespace Go.Rx
theorem pos_cons_lt {a k : Int} {l : List Int} (h : a < k) : posL (a :: l) k = posL l k + 1 := by
  unfold posL; rw [List.takeWhile_cons, if_pos (by simpa using h)]; rfl
theorem pos_cons_ge {a k : Int} {l : List Int} (h : ¬ a < k) : posL (a :: l) k = 0 := by
  unfold posL; rw [List.takeWhile_cons, if_neg (by simpa using h)]; rfl
theorem pos_split {k : Int} : ∀ {l : List Int}, l.Pairwise (· < ·) → l.contains k = false → (∀ a ∈ l.take (posL l k), a < k) ∧ (∀ b ∈ l.drop (posL l k), k < b)
  | [], _, _ => ⟨fun a h => by simp at h, fun a h => by simp at h⟩
  | a :: l, hs, hc => by
    rw [List.pairwise_cons] at hs
    have hne : ¬ k = a := fun e => by subst e; simp at hc
    have hcl : l.contains k = false := by simp at hc ⊢; exact hc.2
    by_cases h : a < k
    · rw [pos_cons_lt h, List.take_succ_cons, List.drop_succ_cons]
      have ih := pos_split hs.2 hcl
      refine ⟨fun x hx => ?_, ih.2⟩
      rcases List.mem_cons.1 hx with rfl | hx
      · exact h
      · exact ih.1 x hx
    · rw [pos_cons_ge h]
      refine ⟨fun x hx => by simp at hx, fun b hb => ?_⟩
      rcases List.mem_cons.1 hb with rfl | hb
      · omega
      · have := hs.1 b hb; omega
theorem known_of {l : List Int} (h1 : ∀ x ∈ l, keyB x = true) (h2 : l.Pairwise (· < ·)) : knownB l = true := by
  refine rng_yes fun j hj => ?_
  rw [knownAt, List.getD_eq_getElem?_getD, List.getElem?_eq_getElem hj, Option.getD_some, h1 _ (List.getElem_mem hj), Bool.true_and]
  rcases Nat.eq_zero_or_pos j with rfl | h
  · rfl
  · rw [List.getD_eq_getElem?_getD, List.getElem?_eq_getElem (show j - 1 < l.length by omega), Option.getD_some]
    have := List.pairwise_iff_getElem.1 h2 (j - 1) j (by omega) hj (by omega)
    simp [this]
theorem ins_known {l : List Int} {k : Int} (h : knownB l = true) (hk : keyB k = true) (hc : l.contains k = false) : knownB (insL l (posL l k) k) = true := by
  have hs := known_sorted h
  have hm : ∀ x ∈ l, keyB x = true := fun x hx => by
    obtain ⟨i, hi, rfl⟩ := List.mem_iff_getElem.1 hx
    exact known_key h hi
  obtain ⟨h1, h2⟩ := pos_split hs hc
  unfold insL
  refine known_of (fun x hx => ?_) ?_
  · rw [List.mem_append, List.mem_cons] at hx
    rcases hx with hx | rfl | hx
    · exact hm x (List.mem_of_mem_take hx)
    · exact hk
    · exact hm x (List.mem_of_mem_drop hx)
  · rw [List.pairwise_append, List.pairwise_cons]
    refine ⟨hs.sublist (List.take_sublist _ _), ⟨h2, hs.sublist (List.drop_sublist _ _)⟩, fun a ha b hb => ?_⟩
    rcases List.mem_cons.1 hb with rfl | hb
    · exact h1 a ha
    · exact Int.lt_trans (h1 a ha) (h2 b hb)
theorem ins_has {l : List Int} {i : Nat} {k y : Int} : (insL l i k).contains y = (l.contains y || y == k) := by
  have : (insL l i k).contains y = ((l.take i ++ l.drop i).contains y || y == k) := by
    unfold insL
    rw [Bool.eq_iff_iff]
    simp only [List.contains_iff_mem, List.mem_append, List.mem_cons, Bool.or_eq_true, beq_iff_eq]
    constructor
    · rintro (h | h | h)
      · exact .inl (.inl h)
      · exact .inr h
      · exact .inl (.inr h)
    · rintro ((h | h) | h)
      · exact .inl h
      · exact .inr (.inr h)
      · exact .inr (.inl h)
  rw [this, List.take_append_drop]
theorem entry_known {g : Ledger} (h : entriesB g = true) {e : Entry} (he : e ∈ g.entries) : g.known.contains e.key = true := by
  obtain ⟨i, hi, rfl⟩ := List.mem_iff_getElem.1 he
  have := rng_at h hi
  rw [entryAt, List.getElem?_eq_getElem hi] at this
  simp only [Bool.and_eq_true] at this
  exact this.2.1
theorem entries_same {g : Ledger} {kn : List Int} (h : entriesB g = true) (hk : ∀ k, g.known.contains k = true → kn.contains k = true) : entriesB ⟨g.service, g.entries, kn⟩ = true := by
  refine rng_yes fun j hj => ?_
  replace hj : j < g.entries.length := hj
  have := rng_at h hj
  rw [entryAt, List.getElem?_eq_getElem hj] at this
  rw [entryAt, show (⟨g.service, g.entries, kn⟩ : Ledger).entries[j]? = some g.entries[j] from List.getElem?_eq_getElem hj]
  simp only [Bool.and_eq_true] at this ⊢
  exact ⟨this.1, hk _ this.2.1, this.2.2⟩
theorem entries_more {g : Ledger} {x : Entry} {kn : List Int} (h : entriesB g = true) (hk : ∀ k, g.known.contains k = true → kn.contains k = true) (hx : keyB x.key = true) (hn : g.known.contains x.key = false) (hc : kn.contains x.key = true)
    (hd : deedB g.service x.op x.who x.n = true) : entriesB ⟨g.service, g.entries ++ [x], kn⟩ = true := by
  refine rng_yes fun j hj => ?_
  replace hj : j < (g.entries ++ [x]).length := hj
  rw [List.length_append, List.length_singleton] at hj
  rcases Nat.lt_or_ge j g.entries.length with hlt | hge
  · have := rng_at h hlt
    rw [entryAt, List.getElem?_eq_getElem hlt] at this
    rw [entryAt, show (⟨g.service, g.entries ++ [x], kn⟩ : Ledger).entries[j]? = some g.entries[j] from by rw [List.getElem?_append_left hlt, List.getElem?_eq_getElem hlt]]
    simp only [Bool.and_eq_true] at this ⊢
    refine ⟨this.1, hk _ this.2.1, ?_, this.2.2.2⟩
    rw [List.take_append_of_le_length (by omega)]
    exact this.2.2.1
  · have hje : j = g.entries.length := by omega
    subst hje
    rw [entryAt, show (⟨g.service, g.entries ++ [x], kn⟩ : Ledger).entries[g.entries.length]? = some x from by rw [List.getElem?_append_right (Nat.le_refl _), Nat.sub_self]; rfl]
    simp only [Bool.and_eq_true, Bool.not_eq_true', List.any_eq_false]
    refine ⟨hx, hc, fun y hy => ?_, hd⟩
    rw [List.take_append_of_le_length (Nat.le_refl _), List.take_length] at hy
    have := entry_known h hy
    simp only [beq_iff_eq]
    intro e
    rw [e, hn] at this
    cases this
structure Did (g : Ledger) (x : Entry) (no : Bool) (d : Ledger × Int × Int) : Prop where
  err : d.2.2 = 0
  may : ledgerB d.1 = true
  sv : d.1.service = g.service
  keep : ∀ k, g.known.contains k = true → d.1.known.contains k = true
  kl : d.1.known.length ≤ g.known.length + 1
  has : d.2.1 = 0 → d.1.known.contains x.key = true
  en : d.1.entries = g.entries ∨ (d.1.entries = g.entries ++ [x] ∧ no = false ∧ g.known.contains x.key = false)
theorem may_of {g : Ledger} (h1 : 1 ≤ g.service ∧ g.service ≤ 4) (h2 : g.known.length ≤ 400) (h3 : knownB g.known = true) (h4 : entriesB g = true) (h5 : g.entries.length ≤ 200) : ledgerB g = true := by
  rw [ledgerB, svB, h3, h4]; simp [h1, h2, h5]
theorem do_did {g : Ledger} {x : Entry} {no : Bool} {out : Int} (hb : ledgerB g = true) (hk : keyB x.key = true) (hd : deedB g.service x.op x.who x.n = true) (he : g.entries.length < 200) (hl : g.known.length < 400) : Did g x no (doL g x no out) := by
  obtain ⟨hsv, _, hkn, hen, _⟩ := ledger_parts hb
  rw [doL]
  by_cases h1 : g.known.contains x.key = true
  · rw [if_pos h1]
    exact ⟨rfl, hb, rfl, fun k h => h, by simp only; omega, fun _ => h1, .inl rfl⟩
  have h1' : g.known.contains x.key = false := by simpa using h1
  rw [if_neg h1]
  by_cases h2 : out = 1 ∨ out = 2
  · rw [if_pos h2]
    exact ⟨rfl, hb, rfl, fun k h => h, by simp only; omega, fun e => by simp only at e; omega, .inl rfl⟩
  rw [if_neg h2, if_neg (by omega)]
  have hkeep : ∀ k, g.known.contains k = true → (insL g.known (posL g.known x.key) x.key).contains k = true := fun k h => by rw [ins_has, h]; rfl
  have hself : (insL g.known (posL g.known x.key) x.key).contains x.key = true := by rw [ins_has]; simp
  have hlen := ins_len (x := x.key) (posL_le g.known x.key)
  cases no with
  | true =>
    refine ⟨rfl, may_of hsv ?_ (ins_known hkn hk h1') (entries_same hen hkeep) ?_, rfl, hkeep, ?_, fun _ => hself, .inl rfl⟩
    · show (insL _ _ _).length ≤ 400; omega
    · show g.entries.length ≤ 200; omega
    · show (insL _ _ _).length ≤ _; omega
  | false =>
    refine ⟨rfl, may_of hsv ?_ (ins_known hkn hk h1') (entries_more hen hkeep hk h1' hself hd) ?_, rfl, hkeep, ?_, fun _ => hself, .inr ⟨rfl, rfl, h1'⟩⟩
    · show (insL _ _ _).length ≤ 400; omega
    · show (g.entries ++ [x]).length ≤ 200; rw [List.length_append, List.length_singleton]; omega
    · show (insL _ _ _).length ≤ _; omega
theorem done_known {g : Ledger} (h : entriesB g = true) {k : Int} (hd : doneB g.entries k = true) : g.known.contains k = true := by
  unfold doneB at hd
  split at hd
  · rename_i e hf
    have hm := List.mem_of_find?_eq_some hf
    have hk := List.find?_some hf
    have := entry_known h hm
    rw [eq_of_beq hk] at this
    exact this
  · cases hd
/-- Entries of one script: whose they are, and which way they go. -/
def Fine (a : ByteArray) (e : Entry) : Prop := e.who = wW ∧ e.n = 1 ∧ (e.back = true → ¬ e.op = a) ∧ (e.back = false → e.op = a)
structure On (sv : Int) (a : ByteArray) (i : Nat) (x : Ledger) : Prop where
  ok : x.Ok
  may : ledgerB x = true
  sv : x.service = sv
  el : x.entries.length ≤ i
  kl : x.known.length ≤ i
  fine : ∀ e ∈ x.entries, Fine a e
theorem On.goes {sv : Int} {a : ByteArray} {i : Nat} {x : Ledger} {y : Entry} {no : Bool} {d : Ledger × Int × Int} (h : On sv a i x) (hy : okS y.op ∧ okS y.who) (hf : Fine a y) (hi : i < 24) (hd : Did x y no d) : On sv a (i + 1) d.1 := by
  have hel := h.el
  have hkl := h.kl
  have hk := hd.kl
  rcases hd.en with he | ⟨he, _, _⟩
  · exact ⟨⟨by rw [he]; exact h.ok.el, by omega, fun e hm => h.ok.each e (he ▸ hm)⟩, hd.may, hd.sv.trans h.sv, by rw [he]; omega, by omega, fun e hm => h.fine e (he ▸ hm)⟩
  · have hl : d.1.entries.length = x.entries.length + 1 := by rw [he]; simp
    refine ⟨⟨by omega, by omega, fun e hm => ?_⟩, hd.may, hd.sv.trans h.sv, by omega, by omega, fun e hm => ?_⟩
    · rw [he, List.mem_append, List.mem_singleton] at hm
      rcases hm with hm | rfl
      · exact h.ok.each e hm
      · exact ⟨hy.1, hy.2⟩
    · rw [he, List.mem_append, List.mem_singleton] at hm
      rcases hm with hm | rfl
      · exact h.fine e hm
      · exact hf
end Go.Rx
namespace Go.Proofs.YtfjllfjmggooeaaGreatDoor.Rx
open Go.Rx Go.Proofs Go.Proofs.YtfjllfjmggooeaaGreatDoor.RxH

end Go.Proofs.YtfjllfjmggooeaaGreatDoor.Rx

/- Journals that are cut off, or rotten: plain words. -/
set_option linter.unusedVariables false
set_option linter.unusedSimpArgs false
namespace Go.Rx
structure FAct where
  kind : Int
  n : Int
  s : ByteArray
abbrev FAct.enc (a : FAct) : List PV := [pI a.kind, pI a.n, pS a.s]
theorem japp_ok {f : FileS} {r : Rec} (h : (jappP f r).2 = 0) : fileB f = true ∧ GoodR r ∧ (jappP f r).1 = ⟨f.safe, f.tail ++ frR r, f.cap⟩ ∧ (f.safe.size : Int) + f.tail.size + (frR r).size ≤ f.cap := by
  unfold jappP at h ⊢
  by_cases c1 : fileB f = true
  rotate_left
  · rw [if_neg c1] at h; cases h
  rw [if_pos c1] at h ⊢
  by_cases c2 : (bytesR r).2 = 0
  rotate_left
  · rw [if_neg c2] at h
    exact absurd h c2
  rw [if_pos c2] at h ⊢
  obtain ⟨e1, e2, e3⟩ := bytes_ok c2
  unfold fappP at h ⊢
  rw [if_pos c1] at h ⊢
  by_cases c3 : roomF f < (bytesR r).1.size
  · rw [if_pos c3] at h; cases h
  rw [if_neg c3]
  rw [e3] at c3 ⊢
  unfold roomF at c3
  exact ⟨c1, ⟨e1, e2⟩, rfl, by show (f.safe.size : Int) + f.tail.size + (frame (plainS r)).size ≤ f.cap; omega⟩
end Go.Rx
namespace Go.Proofs.YtfjllfjmggooeaaGreatDoor.Rx
open Go.Rx Go.Proofs Go.Proofs.YtfjllfjmggooeaaGreatDoor.RxB
end Go.Proofs.YtfjllfjmggooeaaGreatDoor.Rx

/- Worlds that may be: what holds of each, and how a step keeps it. -/
set_option linter.unusedVariables false
set_option linter.unusedSimpArgs false
namespace Go.Rx
theorem file_ok {f : FileS} (h : fileB f = true) : f.Ok := by
  have := fileB_iff.1 h
  exact ⟨by show f.safe.size ≤ _; omega, by show f.tail.size ≤ _; omega⟩
theorem recB_ok {r : Rec} (h : recB r = true) : r.Ok := by
  have hs := small_of h
  have h1 := hs.key
  have h2 := hs.body
  have h3 := hs.len
  exact ⟨by show r.key.size ≤ _; omega, by show r.body.size ≤ _; omega, by omega, fun x hx => by
    have := hs.st x hx
    exact ⟨by show x.nm.size ≤ _; omega, by show x.op.size ≤ _; omega, by show x.undo.size ≤ _; omega, by show x.who.size ≤ _; omega⟩⟩
theorem sagaB_ok {s : Saga} (h : sagaB s = true) : s.Ok := by
  have := recB_ok (parts_iff.1 h).rc
  exact ⟨this.key, this.body, this.steps⟩
theorem entry_deed {g : Ledger} (h : entriesB g = true) {e : Entry} (he : e ∈ g.entries) : deedB g.service e.op e.who e.n = true := by
  obtain ⟨i, hi, rfl⟩ := List.mem_iff_getElem.1 he
  have := rng_at h hi
  rw [entryAt, List.getElem?_eq_getElem hi] at this
  simp only [Bool.and_eq_true] at this
  exact this.2.2.2
theorem ledgerB_ok {g : Ledger} (h : ledgerB g = true) : g.Ok := by
  obtain ⟨_, h2, _, h4, h5⟩ := ledger_parts h
  refine ⟨by omega, by omega, fun e he => ?_⟩
  have hd := entry_deed h4 he
  simp only [deedB, Bool.and_eq_true, shortB, decide_eq_true_eq] at hd
  have := ops_small hd.1
  exact ⟨by show e.op.size ≤ _; omega, by show e.who.size ≤ _; omega⟩
structure LInv (v : Live) (tb : Int) : Prop where
  t0 : 0 ≤ v.tries
  t1 : v.tries ≤ tb
  d0 : 0 ≤ v.due
  d1 : v.due ≤ 1073741832
  wr : (v.write = zRec ∧ v.put = false) ∨ (¬ v.write.kind = 1 ∧ recB v.write = true ∧ fitsL v = true)
structure WInv (w : Wd) (tb : Int) : Prop where
  c0 : 0 ≤ w.clock
  c1 : w.clock ≤ 1073741824
  k0 : 0 ≤ w.taken
  k1 : w.taken ≤ tb
  ol : w.outs.length ≤ 400
  ob : w.outs.any outBad = false
  file : fileB w.file = true
  ledgers : ledgersB w.ledgers = true
  tog : togB (sagasL w.lives) = true
  lives : ∀ v ∈ w.lives, LInv v tb
theorem LInv.mono {v : Live} {a b : Int} (h : LInv v a) (hab : a ≤ b) : LInv v b := ⟨h.t0, Int.le_trans h.t1 hab, h.d0, h.d1, h.wr⟩
theorem WInv.mono {w : Wd} {a b : Int} (h : WInv w a) (hab : a ≤ b) : WInv w b := ⟨h.c0, h.c1, h.k0, Int.le_trans h.k1 hab, h.ol, h.ob, h.file, h.ledgers, h.tog, fun v hv => (h.lives v hv).mono hab⟩
theorem nothing_iff {r : Rec} : nothingB r = true ↔ r = zRec := by
  obtain ⟨k, i, n, key, body, steps⟩ := r
  unfold nothingB zRec
  simp only [Bool.and_eq_true, beq_iff_eq, Rec.mk.injEq]
  constructor
  · rintro ⟨h1, h2, h3, h4, h5, h6⟩
    exact ⟨h1, h2, h3, h4, h5, List.eq_nil_of_length_eq_zero (by omega)⟩
  · rintro ⟨h1, h2, h3, h4, h5, h6⟩
    exact ⟨h1, h2, h3, h4, h5, by rw [h6]; rfl⟩
theorem rec_kind {r : Rec} (h : recB r = true) : 1 ≤ r.kind ∧ r.kind ≤ 6 := by
  unfold recB at h
  rw [Bool.and_eq_true] at h
  by_cases k : r.kind = 1
  · omega
  · have h2 := h.2
    rw [if_neg k, Bool.and_eq_true] at h2
    have h3 := h2.2
    unfold kindB at h3
    split at h3
    · omega
    split at h3
    · omega
    split at h3
    · omega
    · cases h3
theorem LInv.zero {v : Live} {tb : Int} (h : LInv v tb) : v.write.kind = 0 ↔ v.write = zRec := by
  constructor
  · intro e
    rcases h.wr with h1 | h1
    · exact h1.1
    · have := rec_kind h1.2.1; omega
  · intro e; rw [e]; rfl
theorem liveB_iff {v : Live} : liveB v = true ↔ LInv v 1073741824 := by
  unfold liveB
  constructor
  · intro h
    split at h
    · cases h
    rename_i h1
    simp only [Bool.or_eq_true, decide_eq_true_eq, not_or, Int.not_lt] at h1
    split at h
    · rename_i h2
      exact ⟨h1.1, h1.2.1, h1.2.2.1, h1.2.2.2, .inl ⟨nothing_iff.1 h2, by simpa using h⟩⟩
    · simp only [Bool.and_eq_true, bne_iff_ne] at h
      exact ⟨h1.1, h1.2.1, h1.2.2.1, h1.2.2.2, .inr ⟨h.1, h.2.1, h.2.2⟩⟩
  · intro h
    have h0 := h.t0
    have h1 := h.t1
    have h2 := h.d0
    have h3 := h.d1
    rw [if_neg (by simp; omega)]
    rcases h.wr with ⟨e1, e2⟩ | ⟨e1, e2, e3⟩
    · rw [if_pos (nothing_iff.2 e1), e2]; rfl
    · have hk := rec_kind e2
      have hn : ¬ nothingB v.write = true := fun e => by
        rw [nothing_iff.1 e] at hk
        have : (zRec).kind = 0 := rfl
        omega
      rw [if_neg hn, e2, e3]
      simp [e1]
theorem worldB_iff {w : Wd} : worldB w = true ↔ WInv w 1073741824 := by
  unfold worldB
  constructor
  · intro h
    split at h
    · cases h
    rename_i h1
    simp only [Bool.or_eq_true, decide_eq_true_eq, not_or, Int.not_lt, Bool.not_eq_true] at h1
    split at h
    · cases h
    rename_i h2
    simp only [Bool.or_eq_true, Bool.not_eq_true', not_or, Bool.not_eq_false] at h2
    simp only [Bool.not_eq_true', List.any_eq_false, Bool.not_eq_false] at h
    exact ⟨h1.1, h1.2.1, h1.2.2.1, h1.2.2.2.1, by omega, h1.2.2.2.2.2, h2.1, h2.2.1, h2.2.2, fun v hv => liveB_iff.1 (h v hv)⟩
  · intro h
    have h0 := h.c0
    have h1 := h.c1
    have h2 := h.k0
    have h3 := h.k1
    have h4 := h.ol
    rw [if_neg (by rw [h.ob]; simp; omega), if_neg (by rw [h.file, h.ledgers, h.tog]; decide)]
    simp only [Bool.not_eq_true', List.any_eq_false, Bool.not_eq_false]
    exact fun v hv => liveB_iff.2 (h.lives v hv)
theorem ledgersGo_iff : ∀ {l : List Ledger} {k : Nat}, ledgersGo l k = true ↔ ∀ (i : Nat) (g : Ledger), l[i]? = some g → g.service = ((k + i + 1 : Nat) : Int) ∧ ledgerB g = true
  | [], k => by simp [ledgersGo]
  | g :: l, k => by
    rw [ledgersGo, Bool.and_eq_true, Bool.and_eq_true, ledgersGo_iff, beq_iff_eq]
    constructor
    · rintro ⟨h1, h2⟩ i x hx
      cases i with
      | zero => simp at hx; subst hx; exact h1
      | succ i =>
        have := h2 i x (by simpa using hx)
        rw [show k + (i + 1) + 1 = k + 1 + i + 1 by omega]
        exact this
    · intro h
      refine ⟨h 0 g rfl, fun i x hx => ?_⟩
      have := h (i + 1) x (by simpa using hx)
      rw [show k + (i + 1) + 1 = k + 1 + i + 1 by omega] at this
      exact this
structure LedsInv (l : List Ledger) : Prop where
  len : l.length = 4
  at' : ∀ (i : Nat) (g : Ledger), l[i]? = some g → g.service = ((i + 1 : Nat) : Int) ∧ ledgerB g = true
theorem ledgersB_iff {l : List Ledger} : ledgersB l = true ↔ LedsInv l := by
  rw [ledgersB, Bool.and_eq_true, ledgersGo_iff, beq_iff_eq]
  constructor
  · rintro ⟨h1, h2⟩
    exact ⟨by omega, fun i g hg => by have := h1 i g hg; rw [Nat.zero_add] at this; exact this⟩
  · rintro ⟨h1, h2⟩
    exact ⟨fun i g hg => by rw [Nat.zero_add]; exact h2 i g hg, by omega⟩
theorem WInv.saga {w : Wd} {tb : Int} (h : WInv w tb) {v : Live} (hv : v ∈ w.lives) : sagaB v.saga = true := tog_saga h.tog hv
theorem WInv.len {w : Wd} {tb : Int} (h : WInv w tb) : w.lives.length ≤ 20 := by
  have := h.tog
  rw [togB, Bool.and_eq_true, decide_eq_true_eq, sagasL, List.length_map] at this
  exact this.2
theorem zRec_ok : zRec.Ok := ⟨by show (0 : Nat) ≤ _; omega, by show (0 : Nat) ≤ _; omega, by show (0 : Nat) * 80 ≤ _; omega, fun x hx => by cases hx⟩
theorem LInv.wok {v : Live} {tb : Int} (h : LInv v tb) : v.write.Ok := by
  rcases h.wr with h1 | h1
  · rw [h1.1]; exact zRec_ok
  · exact recB_ok h1.2.1
theorem WInv.wok {w : Wd} {tb : Int} (h : WInv w tb) : w.Ok := by
  have h1 := ledgersB_iff.1 h.ledgers
  have h2 := h.len
  have h3 := h.ol
  have h4 := h1.len
  refine ⟨file_ok h.file, by omega, by omega, by omega, fun g hg => ?_, fun v hv => ⟨sagaB_ok (h.saga hv), (h.lives v hv).wok⟩⟩
  obtain ⟨i, hi, e⟩ := List.mem_iff_getElem.1 hg
  exact ledgerB_ok (h1.at' i g (by rw [← e]; exact List.getElem?_eq_getElem hi)).2
theorem sv_of {n : Int} {d : ByteArray} (h : (opsS n).any (d == ·) = true) : 1 ≤ n ∧ n ≤ 4 := by
  unfold opsS at h
  split at h
  · omega
  split at h
  · omega
  split at h
  · omega
  split at h
  · omega
  · cases h
/-- A step of a saga that may be. -/
theorem step_may {s : Saga} (h : sagaB s = true) {i : Nat} (hi : i < s.steps.length) : okStep s.steps[i] = true := by
  have h1 := (parts_iff.1 h).rc
  rw [recB, Bool.and_eq_true, if_pos rfl, begB] at h1
  simp only [Bool.and_eq_true, stepsB] at h1
  have h2 := List.all_eq_true.1 h1.2.2.2.2.2.2.1 i (List.mem_range.2 hi)
  have h3 := (Bool.and_eq_true _ _ ▸ (okAt_eq hi ▸ h2 : (okStep s.steps[i] && _) = true))
  exact h3.1
structure StepIn (s : Saga) (i : Nat) : Prop where
  lt : i < s.steps.length
  at' : stepI s = i
  i5 : i < 5
theorem call_at {s : Saga} (h : sagaB s = true) (hst : s.status = 0) (h1 : (!s.back && (s.done == (s.steps.length : Int))) = false) (h2 : (s.back && (s.left == 0)) = false) (h3 : (!s.back && !s.out) = false) : ∃ i, StepIn s i := by
  have hp := parts_iff.1 h
  have hl := parts_len hp
  have p0 := hp.d0
  have p1 := hp.d1
  have p2 := hp.l0
  have p3 := hp.l1
  have p4 := hp.ou
  have hm := most_le hp
  unfold mostI at p3 hm
  cases hb : s.back with
  | false =>
    rw [hb] at h1
    have h1' : ¬ s.done = s.steps.length := by simpa using h1
    exact ⟨s.done.toNat, by omega, by rw [stepI, hb, if_neg (by decide)]; omega, by omega⟩
  | true =>
    rw [hb] at h2
    have h2' : ¬ s.left = 0 := by simpa using h2
    have hlt : (s.left - 1).toNat < s.steps.length := by
      split at p3
      · rename_i ho
        have := p4 ho
        omega
      · omega
    exact ⟨(s.left - 1).toNat, hlt, by rw [stepI, hb, if_pos rfl, wrapI (by omega)]; omega, by omega⟩
end Go.Rx

/- What a step tells: errors.Is over 'idle'; told. -/
set_option linter.unusedVariables false
set_option linter.unusedSimpArgs false
namespace Go.Proofs.YtfjllfjmggooeaaGreatDoor.RxH
open Go.RowKit Go.Proofs Go.Extern.Stop Go.Stop Go.Extern
theorem idTypeOf (w : World) : (Extern.ReflectliteType.typeOf #[.iface 154 (.agg #[])]).run Tryz.prog w = .ok (.iface 216 (.agg #[.pointer (some ⟨2, 154, none⟩)])) w := by kernel_rfl
theorem idComparable (w : World) : ((Extern.ReflectliteType.method fun t => do Extern.Rtype.noPackHeld "Comparable" t; (fun a => Value.bool a.comparable) <$> typeInfo t) #[.agg #[.pointer (some ⟨2, 154, none⟩)]]).run Tryz.prog w = .ok (.bool true) w := by kernel_rfl
theorem idMethod (v : Value) (w : World) : (Go.method 408 216 v "Comparable").run Tryz.prog w = .ok (258, v) w := by kernel_rfl
theorem idEql (w : World) : (Go.binOp .eql 117 (.iface 154 (.agg #[])) (.iface 154 (.agg #[]))).run Tryz.prog w = .ok (.bool true) w := by kernel_rfl
set_option maxRecDepth 100000 in
theorem is_idle (w : World) :
    Calls Tryz.prog 103 #[.iface 154 (.agg #[]), .iface 154 (.agg #[])] w fun e w' => e = .returned (.bool true) ∧ w' = w := by
  have hF8 := @run_callFunc_extern Tryz.prog 134 _ Extern.ReflectliteType.typeOf Tryz.func134 (by kernel_rfl) (by kernel_rfl) (by kernel_rfl) (by kernel_rfl)
  have hF9 := @run_callFunc_extern Tryz.prog 258 _ (Extern.ReflectliteType.method fun t => do Extern.Rtype.noPackHeld "Comparable" t; pure (.bool (← typeInfo t).comparable)) Tryz.func258 (by kernel_rfl) (by kernel_rfl) (by kernel_rfl) (by kernel_rfl)
  have tT := idTypeOf
  have cT := idComparable
  have mR := idMethod
  have heq := idEql
  go_enter Tryz.func103, Tryz.ntmps103
  go_wp2
  refine wp_loop_rounds 1 ?_
  rw [rounds_succ]
  go_wp2
  go_ret
  exact ⟨rfl, rfl⟩
end Go.Proofs.YtfjllfjmggooeaaGreatDoor.RxH
namespace Go.Proofs.YtfjllfjmggooeaaGreatDoor.Rx
open Go.Rx Go.Proofs Go.Proofs.YtfjllfjmggooeaaGreatDoor.RxH
theorem is_con : Con P 103 [idleI, idleI] (Bl true) [] :=
  Con.plain (vs := [.iface 154 (.agg #[]), .iface 154 (.agg #[])]) (by kernel_rfl) rfl fun w => (is_idle w).mono fun e w' ⟨h, h2⟩ => ⟨h, h2 ▸ Go.RowKit.Below.refl _ _⟩
/-- Of a step that does not fail: its error as a number. -/
theorem told_nil : Con P 63 [nilI] (Go.Rx.I 0) [] := by
  refine Con.of T_ok Tryz.func63 rfl (by kernel_rfl) (by kernel_rfl) (aw_of T_ok (by kernel_rfl) ?_)
  conv => whnf
  refine ⟨rfl, ?_⟩
  conv => whnf
  exact finI ⟨rfl⟩
theorem told_idle : Con P 63 [idleI] (Go.Rx.I 3) [] := by
  refine Con.of T_ok Tryz.func63 rfl (by kernel_rfl) (by kernel_rfl) (aw_of T_ok (by kernel_rfl) ?_)
  conv => whnf
  refine callS is_con rfl ?_
  conv => whnf
  exact finI ⟨rfl⟩
end Go.Proofs.YtfjllfjmggooeaaGreatDoor.Rx

/- A world in memory of the call's own. -/
set_option linter.unusedVariables false
set_option linter.unusedSimpArgs false
namespace Go.Rx
abbrev zWd : Wd := ⟨0, ⟨⟨#[]⟩, ⟨#[]⟩, 0⟩, [], [], [], 0⟩
abbrev zWdV : List Lf := [.pv (pI 0), .pv (pS ⟨#[]⟩), .pv (pS ⟨#[]⟩), .pv (pI 0), .pv (.sc (.slice none 0 0)), .pv (.sc (.slice none 0 0)), .pv (.sc (.slice none 0 0)), .pv (pI 0)]
theorem set_same {α : Type} {l : List α} {k : Nat} {a : α} (h : l[k]? = some a) : l.set k a = l := by
  obtain ⟨h1, h2⟩ := List.getElem?_eq_some_iff.1 h
  rw [← h2]; exact List.set_getElem_self h1
end Go.Rx
namespace Go.Proofs.YtfjllfjmggooeaaGreatDoor.Rx
open Go.Rx Go.Proofs Go.Proofs.YtfjllfjmggooeaaGreatDoor.RxH
theorem wown_con (w : Wd) (hw : w.Ok) : Con P 56 [encWd w] (.agg (w.own 0)) [.arr 47 3 (w.ledgers.map Ledger.enc), .arr 44 18 (w.lives.map Live.enc), .arr 3 1 (intRows w.outs)] := by
  have hgm : (w.ledgers.map Ledger.enc).length = w.ledgers.length := List.length_map ..
  have hlm : (w.lives.map Live.enc).length = w.lives.length := List.length_map ..
  have hgl := hw.gl
  have hll := hw.ll
  refine ConG.con (ConG.of T_ok Tryz.func56 rfl (by kernel_rfl) (by kernel_rfl) (aw_of T_ok (by kernel_rfl) ?_)) rfl
  conv => whnf
  refine AW.draw T_ok rfl (listPl [0, 1, 3, 4, 6, 7, 2, 9, 5, 8, 10, 11, 12, 13, 14]) (by kernel_rfl) (by kernel_rfl) ?_
  conv => whnf
  refine ⟨_, _, _, wk_refl _, cloneG_con w.ledgers hw.gl, .inr ?_⟩
  conv => whnf
  refine ⟨_, _, _, wk_refl _, cloneL_con w.lives hw.ll, .inr ?_⟩
  conv => whnf
  refine ⟨_, _, _, wk_refl _, cloneI_con w.outs hw.ol, .inr ?_⟩
  conv => whnf
  refine ⟨hgm, ?_⟩
  conv => whnf
  refine AW.loop (fun k : Nat => k ≤ w.ledgers.length) (fun k => [(1, .lf (.ptr 0 0)), (2, .lf (.ptr 1 0)), (19, .lf (.own 2 w.ledgers.length)), (20, Go.Rx.I w.ledgers.length), (21, Go.Rx.I k)])
    (fun _ => [.var (w.own 2), .var zWdV, .arr 47 3 (w.ledgers.map Ledger.enc), .arr 44 18 (w.lives.map Live.enc), .arr 3 1 (intRows w.outs)]) (fun k => w.ledgers.length - k) [] ?_ ?_
  · exact ⟨0, Nat.zero_le _, ⟨rfl, rfl, rfl, rfl, rfl, trivial⟩, ⟨[], rfl⟩, rfl, rfl⟩
  intro k hk
  refine aw_of T_ok (by kernel_rfl) ?_
  conv => whnf
  split <;> rename_i hlt <;> conv => whnf
  · have hkl : k < w.ledgers.length := by have := of_decide_eq_true hlt; omega
    have hrow : (w.ledgers.map Ledger.enc)[k]? = some w.ledgers[k].enc := by simp [hkl]
    have hok := hw.ledgers _ (List.getElem_mem hkl)
    generalize w.ledgers[k] = g at hrow hok
    refine ⟨hgm, by omega, by omega, ?_⟩
    conv => whnf
    refine ⟨rfl, hgm, _, hrow, ?_⟩
    conv => whnf
    refine AW.draw T_ok rfl (seqPl 0 7) (by kernel_rfl) (by kernel_rfl) ?_
    conv => whnf
    refine ⟨_, _, _, wk_refl _, ownL_con g hok, .inr ?_⟩
    conv => whnf
    refine ⟨hgm, by omega, by omega, ?_⟩
    conv => whnf
    have hge : (g.entries.map Entry.enc).length = g.entries.length := List.length_map ..
    have hgk : (intRows g.known).length = g.known.length := List.length_map ..
    refine ⟨hge, hgk, rfl, hgm, _, hrow, by decide, ?_⟩
    conv => whnf
    have hset : (w.ledgers.map Ledger.enc).set k g.enc = w.ledgers.map Ledger.enc := set_same hrow
    refine ⟨k + 1, ⟨hkl, by omega⟩, ⟨rfl, rfl, rfl, rfl, congrArg Go.Rx.I (wrapI (by omega)), trivial⟩, ⟨[?z1, ?z2, ?z3], ?zb⟩, rfl, rfl⟩
    case zb =>
      show [_, _, Blk.arr _ 3 ((w.ledgers.map Ledger.enc).set k g.enc), _, _, _, _, _] = _
      rw [hset]
      rfl
  · refine ⟨hlm, ?_⟩
    conv => whnf
    refine AW.loop (fun k : Nat => k ≤ w.lives.length) (fun k => [(1, .lf (.ptr 0 0)), (2, .lf (.ptr 1 0)), (35, Go.Rx.I w.lives.length), (36, Go.Rx.I k)])
      (fun _ => [.var (w.own 2), .var zWdV, .arr 47 3 (w.ledgers.map Ledger.enc), .arr 44 18 (w.lives.map Live.enc), .arr 3 1 (intRows w.outs)]) (fun k => w.lives.length - k) [] ?_ ?_
    · exact ⟨0, Nat.zero_le _, ⟨rfl, rfl, rfl, rfl, trivial⟩, ⟨[], rfl⟩, rfl, rfl⟩
    intro k hk
    refine aw_of T_ok (by kernel_rfl) ?_
    conv => whnf
    split <;> rename_i hlt <;> conv => whnf
    · have hkl : k < w.lives.length := by have := of_decide_eq_true hlt; omega
      have hrow : (w.lives.map Live.enc)[k]? = some w.lives[k].enc := by simp [hkl]
      have hok := hw.lives _ (List.getElem_mem hkl)
      generalize w.lives[k] = v at hrow hok
      refine AW.draw T_ok rfl (seqPl 0 13) (by kernel_rfl) (by kernel_rfl) ?_
      conv => whnf
      refine ⟨hlm, by omega, by omega, ?_⟩
      conv => whnf
      refine ⟨hlm, rfl, hlm, _, hrow, ?_⟩
      conv => whnf
      refine callU (own_con v.saga hok.saga.steps.len) (fun _ => rfl) ?_
      conv => whnf
      refine ⟨hlm, by omega, by omega, ?_⟩
      conv => whnf
      refine ⟨hlm, rfl, hlm, _, hrow, by decide, ?_⟩
      conv => whnf
      have hset : (w.lives.map Live.enc).set k v.enc = w.lives.map Live.enc := set_same hrow
      refine ⟨k + 1, ⟨hkl, by omega⟩, ⟨rfl, rfl, rfl, congrArg Go.Rx.I (wrapI (by omega)), trivial⟩, ⟨[], ?zc⟩, rfl, rfl⟩
      case zc =>
        show [_, _, _, Blk.arr _ 18 ((w.lives.map Live.enc).set k v.enc), _] = _
        rw [hset]
        rfl
    · refine ⟨[], [2, 3, 4], [.agg (w.own 0)], [.agg (w.own 0)], rfl, rfl, rfl, wk_refl _, rfl⟩
end Go.Proofs.YtfjllfjmggooeaaGreatDoor.Rx

/- A step keeps a world such as it may be. -/
set_option linter.unusedVariables false
set_option linter.unusedSimpArgs false
namespace Go.Rx
theorem longGo_le : ∀ (k : Nat) (n : Int), 0 ≤ n → n ≤ 8 → 0 ≤ longGo k n ∧ longGo k n ≤ 8
  | 0, n, h0, h1 => ⟨h0, h1⟩
  | k + 1, n, h0, h1 => by
    rw [longGo, wrapI (n := 2 * n) (by omega)]
    refine longGo_le k _ ?_ ?_ <;> split <;> omega
theorem long_le (t : Int) : 0 ≤ longI t ∧ longI t ≤ 8 := longGo_le _ 1 (by omega) (by omega)
theorem step_pair {s : Saga} (h : sagaB s = true) {i : Nat} (hi : i < s.steps.length) : ((opsS s.steps[i].service).any (s.steps[i].op == ·) = true ∧ (opsS s.steps[i].service).any (s.steps[i].undo == ·) = true ∧ s.steps[i].op ≠ s.steps[i].undo) ∧ shortB s.steps[i].who = true ∧ -1073741824 ≤ s.steps[i].n ∧ s.steps[i].n ≤ 1073741824 := by
  have h1 := step_may h hi
  simp only [okStep, pairB, numB, Bool.and_eq_true, Bool.not_eq_true', beq_eq_false_iff_ne, decide_eq_true_eq] at h1
  exact ⟨⟨h1.1.1.2.1.1, h1.1.1.2.1.2, h1.1.1.2.2⟩, h1.1.2, h1.2⟩
theorem WInv.call {w : Wd} {tb : Int} (h : WInv w tb) {s : Saga} (hs : sagaB s = true) {i : Nat} (hi : StepIn s i) : CallOk w s := by
  have hg := ledgersB_iff.1 h.ledgers
  have hp := parts_iff.1 hs
  have hm := most_le hp
  have p2 := hp.l0
  have p3 := hp.l1
  have hol := h.ol
  have hlt := hi.lt
  have hat := hi.at'
  have hst : stepAt s = s.steps[i] := by
    rw [stepAt, hat]
    simp [hlt]
  have hpr := step_pair hs hlt
  have hok := h.wok.ledgers
  refine ⟨h.k0, by omega, fun _ => by omega, by omega, by omega, hg.len, by rw [hst]; exact sv_of hpr.1.1, hok, fun g hm => ?_⟩
  obtain ⟨j, hj, e⟩ := List.mem_iff_getElem.1 hm
  have hb := (hg.at' j g (by rw [← e]; exact List.getElem?_eq_getElem hj)).2
  exact known_sorted (ledger_parts hb).2.2.1
theorem WInv.move {w : Wd} {tb : Int} (h : WInv w tb) (ht : tb ≤ 4611686018427387903) {v : Live} (hv : v ∈ w.lives) (hd : dueB w.clock v = true) : MoveOk w v := by
  have hl := h.lives v hv
  have hs := h.saga hv
  have ht0 := hl.t0
  have ht1 := hl.t1
  have hst : v.saga.status = 0 := by rw [dueB, Bool.and_eq_true] at hd; exact eq_of_beq hd.1
  refine ⟨file_ok h.file, ⟨sagaB_ok hs, hl.wok⟩, by omega, fun _ h1 h2 h3 => ?_⟩
  obtain ⟨i, hi⟩ := call_at hs hst h1 h2 h3
  exact h.call hs hi
/-! ### What a step leaves -/
theorem app_file {f : FileS} {r : Rec} (h : (jappP f r).2 = 0) : fileB (jappP f r).1 = true := by
  obtain ⟨h1, h2, h3, h4⟩ := japp_ok h
  have := fileB_iff.1 h1
  rw [h3]
  exact fileB_iff.2 ⟨this.1, this.2.1, by show (f.safe.size : Int) + ((f.tail ++ frR r).size : Int) ≤ f.cap; rw [ByteArray.size_append]; omega⟩
theorem sync_file {f : FileS} (h : fileB f = true) : (crashP f f.tail.size).1 = ⟨f.safe ++ f.tail, ⟨#[]⟩, f.cap⟩ := by
  rw [crashP, if_pos h, crashF]
  have e : keepI f f.tail.size = f.tail.size := by unfold keepI; omega
  rw [e]
  have : f.tail.extract 0 f.tail.size = f.tail := ba_ext (by rw [ba_ex, List.drop_zero, Nat.sub_zero, List.take_of_length_le (by rw [ba_len]; exact Nat.le_refl _)])
  rw [this]
theorem sync_may {f : FileS} (h : fileB f = true) : fileB (crashP f f.tail.size).1 = true := by
  rw [sync_file h]
  have := fileB_iff.1 h
  exact fileB_iff.2 ⟨this.1, this.2.1, by show ((f.safe ++ f.tail).size : Int) + ((0 : Nat) : Int) ≤ f.cap; rw [ByteArray.size_append]; omega⟩
theorem tog_set {l : List Saga} {i : Nat} {s x : Saga} (h : togB l = true) (hi : l[i]? = some s) (hx : sagaB x = true) (hid : x.id = s.id) (hk : x.key = s.key) : togB (l.set i x) = true := by
  have hil := (List.getElem?_eq_some_iff.1 hi).1
  have hok : ∀ s ∈ l, s.Ok := fun s hs => by
    rw [togB, Bool.and_eq_true] at h
    obtain ⟨j, hj, e⟩ := List.mem_iff_getElem.1 hs
    have := List.all_eq_true.1 h.1 j (List.mem_range.2 hj)
    rw [togAt_eq hj, Bool.and_eq_true] at this
    rw [← e]
    exact sagaB_ok this.1
  have hs := sgs_tog hok h
  refine tog_sgs ⟨by rw [List.length_set]; exact hs.len, fun j y hy => ?_⟩
  have hjl := (List.getElem?_eq_some_iff.1 hy).1
  rw [List.length_set] at hjl
  -- the key at each place is as it was
  have hkey : ∀ (j : Nat) (y : Saga), (l.set i x)[j]? = some y → ∃ z, l[j]? = some z ∧ y.key = z.key ∧ y.id = z.id := fun j y hy => by
    by_cases e : j = i
    · subst e
      rw [List.getElem?_set_self hil] at hy
      cases hy
      exact ⟨s, hi, hk, hid⟩
    · rw [List.getElem?_set_ne (Ne.symm e)] at hy
      exact ⟨y, hy, rfl, rfl⟩
  obtain ⟨z, hz, e1, e2⟩ := hkey j y hy
  have hat := hs.sg j z hz
  have hyB : sagaB y = true := by
    by_cases e : j = i
    · subst e
      rw [List.getElem?_set_self hil] at hy
      cases hy
      exact hx
    · rw [List.getElem?_set_ne (Ne.symm e)] at hy
      rw [hz] at hy
      cases hy
      exact hat.may
  refine ⟨sagaB_ok hyB, hyB, by rw [e2]; exact hat.id, fun k u hku hu => ?_⟩
  obtain ⟨z', hz', e3, _⟩ := hkey k u hu
  rw [e3, e1]
  exact hat.key k z' hku hz'
theorem do_may {g : Ledger} {x : Entry} {no : Bool} {out : Int} (hb : ledgerB g = true) (hk : keyB x.key = true) (hd : deedB g.service x.op x.who x.n = true) (h : (doL g x no out).2.2 = 0) : ledgerB (doL g x no out).1 = true ∧ (doL g x no out).1.service = g.service := by
  by_cases h1 : g.known.contains x.key = true
  · rw [doL, if_pos h1]; exact ⟨hb, rfl⟩
  by_cases h2 : out = 1 ∨ out = 2
  · rw [doL, if_neg h1, if_pos h2]; exact ⟨hb, rfl⟩
  by_cases h3 : 200 ≤ g.entries.length ∨ 400 ≤ g.known.length
  · rw [doL, if_neg h1, if_neg h2, if_pos h3] at h; cases h
  have := do_did (no := no) (out := out) hb hk hd (by omega) (by omega)
  exact ⟨this.may, this.sv⟩
theorem mem_set_cases {α : Type} {l : List α} {i : Nat} {a x : α} (h : x ∈ l.set i a) : x = a ∨ x ∈ l := by
  rcases List.mem_or_eq_of_mem_set h with h | h
  · exact .inr h
  · exact .inl h
theorem sagas_set (l : List Live) (i : Nat) (v : Live) : sagasL (l.set i v) = (sagasL l).set i v.saga := by rw [sagasL, sagasL, List.map_set]
theorem sagas_at {l : List Live} {i : Nat} {v : Live} (h : l[i]? = some v) : (sagasL l)[i]? = some v.saga := by rw [sagasL, List.getElem?_map, h]; rfl
theorem set_saga {l : List Live} {i : Nat} {v x : Live} (h : l[i]? = some v) (hx : x.saga = v.saga) : sagasL (l.set i x) = sagasL l := by
  rw [sagas_set, hx]
  exact set_same (sagas_at h)
/-- The record that is written next fits. -/
theorem rec_fits {s : Saga} {k n : Int} (hid : 1 ≤ s.id ∧ s.id ≤ 20) (hst : s.status = 0) (hk : ¬ k = 1) (hn : kindB k n = true) (hf : fitsB s ⟨k, s.id, n, ⟨#[]⟩, ⟨#[]⟩, []⟩ = true) :
    recB ⟨k, s.id, n, ⟨#[]⟩, ⟨#[]⟩, []⟩ = true ∧ (((⟨k, s.id, n, ⟨#[]⟩, ⟨#[]⟩, []⟩ : Rec).id == s.id) && (s.status == 0 && fitsB s ⟨k, s.id, n, ⟨#[]⟩, ⟨#[]⟩, []⟩)) = true :=
  ⟨recK_may hid hk hn, by rw [hf, hst]; simp⟩
theorem answered_inv {w : Wd} {tb : Int} {v : Live} (hs : sagaB v.saga = true) (hl : LInv v tb) (ht : tb ≤ 4611686018427387902) (hst : v.saga.status = 0) (hw : v.write = zRec) {i : Nat} (hi : StepIn v.saga i)
    (h1 : (!v.saga.back && (v.saga.done == (v.saga.steps.length : Int))) = false) (h2 : (v.saga.back && (v.saga.left == 0)) = false) (h3 : (!v.saga.back && !v.saga.out) = false) (hc : 0 ≤ w.clock ∧ w.clock ≤ 1073741824) (a : Int) :
    LInv (if (answeredL w.clock v a).2.2 then { (answeredL w.clock v a).1 with write := (answeredL w.clock v a).2.1 } else (answeredL w.clock v a).1) (tb + 1) ∧ (answeredL w.clock v a).1.saga = v.saga := by
  have hp := parts_iff.1 hs
  have hl4 := parts_len hp
  have hid : 1 ≤ v.saga.id ∧ v.saga.id ≤ 20 := ⟨hl4.2.2.1, hl4.2.2.2⟩
  have t0 := hl.t0
  have t1 := hl.t1
  have d0 := hl.d0
  have d1 := hl.d1
  have p0 := hp.d0
  have p1 := hp.d1
  have p2 := hp.l0
  have p3 := hp.l1
  have hmm := most_le hp
  have hi5 := hi.i5
  have hat := hi.at'
  have hput : v.put = false := by
    rcases hl.wr with h | h
    · exact h.2
    · rw [hw] at h; exact absurd (rec_kind h.2.1) (by show ¬ (1 ≤ (0 : Int) ∧ _); omega)
  have hwt : IntKind.i64.wrap (v.tries + 1) = v.tries + 1 := wrapI (by omega)
  have hlong := long_le (IntKind.i64.wrap (v.tries + 1))
  have hdue : IntKind.i64.wrap (w.clock + longI (IntKind.i64.wrap (v.tries + 1))) = w.clock + longI (IntKind.i64.wrap (v.tries + 1)) := wrapI (by omega)
  have mk : ∀ (u : Live) (k n : Int), u.saga = v.saga → 0 ≤ u.tries → u.tries ≤ tb + 1 → 0 ≤ u.due → u.due ≤ 1073741832 → ¬ k = 1 → kindB k n = true → fitsB v.saga ⟨k, v.saga.id, n, ⟨#[]⟩, ⟨#[]⟩, []⟩ = true →
      LInv { u with write := ⟨k, v.saga.id, n, ⟨#[]⟩, ⟨#[]⟩, []⟩ } (tb + 1) := fun u k n e b0 b1 b2 b3 hk hn hf => by
    obtain ⟨r1, r2⟩ := rec_fits hid hst hk hn hf
    refine ⟨b0, b1, b2, b3, .inr ⟨hk, r1, ?_⟩⟩
    show ((_ : Int) == u.saga.id && (u.saga.status == 0 && fitsB u.saga _)) = true
    rw [e]
    exact r2
  unfold answeredL
  simp only
  by_cases ha : a = 2
  · rw [if_pos ha]
    by_cases hr : (v.saga.back || decide (IntKind.i64.wrap (v.tries + 1) < 4)) = true
    · rw [if_pos hr]
      refine ⟨?_, rfl⟩
      simp only [Bool.false_eq_true, if_false]
      exact ⟨by show 0 ≤ IntKind.i64.wrap (v.tries + 1); omega, by show IntKind.i64.wrap (v.tries + 1) ≤ _; omega, by show 0 ≤ IntKind.i64.wrap (w.clock + longI (IntKind.i64.wrap (v.tries + 1))); omega, by show IntKind.i64.wrap (w.clock + longI (IntKind.i64.wrap (v.tries + 1))) ≤ _; omega, .inl ⟨hw, hput⟩⟩
    · rw [if_neg hr]
      simp only [Bool.or_eq_true, not_or, Bool.not_eq_true, decide_eq_true_eq] at hr
      refine ⟨?_, rfl⟩
      simp only [if_true]
      have hout : v.saga.out = true := by rw [hr.1] at h3; simpa using h3
      exact mk { v with tries := IntKind.i64.wrap (v.tries + 1) } 4 0 rfl (by show 0 ≤ IntKind.i64.wrap (v.tries + 1); omega) (by show IntKind.i64.wrap (v.tries + 1) ≤ _; omega) d0 d1 (by decide) rfl (by
        unfold fitsB; rw [if_neg (by simp), if_neg (by simp), if_pos (by rfl), hr.1, hout]; rfl)
  rw [if_neg ha]
  by_cases hb : a = 1 ∧ v.saga.back = false
  · rw [if_pos hb]
    refine ⟨?_, rfl⟩
    simp only [if_true]
    have hout : v.saga.out = true := by rw [hb.2] at h3; simpa using h3
    exact mk v 4 0 rfl t0 (by omega) d0 d1 (by decide) rfl (by
      unfold fitsB; rw [if_neg (by simp), if_neg (by simp), if_pos (by rfl), hb.2, hout]; rfl)
  rw [if_neg hb]
  by_cases hb1 : a = 1
  · rw [if_pos hb1]
    refine ⟨?_, rfl⟩
    simp only [if_true]
    have hbk : v.saga.back = true := by
      cases h : v.saga.back with
      | true => rfl
      | false => exact absurd ⟨hb1, h⟩ hb
    rw [hbk] at h2
    have hlf : ¬ v.saga.left = 0 := by simpa using h2
    exact mk v 6 3 rfl t0 (by omega) d0 d1 (by decide) rfl (by
      unfold fitsB; rw [if_neg (by simp), if_neg (by simp), if_neg (by simp), if_neg (by simp), if_pos (by rfl)]
      show endsB v.saga 3 = true
      unfold endsB; rw [if_neg (by decide), if_neg (by decide), if_neg (by decide), if_pos rfl, hbk]; simp; omega)
  rw [if_neg hb1]
  cases hbk : v.saga.back with
  | true =>
    rw [if_pos rfl]
    refine ⟨?_, rfl⟩
    simp only [if_true]
    rw [stepI, hbk, if_pos rfl] at hat
    exact mk v 5 (IntKind.i64.wrap (v.saga.left - 1)) rfl t0 (by omega) d0 d1 (by decide) (by rw [hat]; unfold kindB; rw [if_pos (by simp)]; simp; omega) (by
      unfold fitsB; rw [if_neg (by simp), if_neg (by simp), if_neg (by simp), if_pos (by rfl), hbk]; simp)
  | false =>
    simp only [Bool.false_eq_true, if_false, if_true, and_true]
    have hout : v.saga.out = true := by rw [hbk] at h3; simpa using h3
    rw [stepI, hbk, if_neg (by decide)] at hat
    exact mk v 3 v.saga.done rfl t0 (by omega) d0 d1 (by decide) (by rw [hat]; unfold kindB; rw [if_pos (by simp)]; simp; omega) (by
      unfold fitsB; rw [if_neg (by simp), if_pos (by rfl), hbk, hout]; simp)
end Go.Rx

/- Steps, as many as there may be. -/
set_option linter.unusedVariables false
set_option linter.unusedSimpArgs false
namespace Go.Rx
/-- A step does not fail. -/
structure StepOk (w : Wd) : Prop where
  ll : w.lives.length * 200 ≤ 140737488351232
  move : ∀ v, v ∈ w.lives → dueB w.clock v = true → MoveOk w v
  ok : (stepW w).2 = 0 ∨ dueI w = none
def GoOk : Nat → Wd → Prop
  | 0, _ => True
  | k + 1, w => StepOk w ∧ ((stepW w).2 = 0 → GoOk k (stepW w).1)
theorem goW_go {k : Nat} {w : Wd} (h : (stepW w).2 = 0) : goW (k + 1) w = ((goW k (stepW w).1).1, (goW k (stepW w).1).2 + 1) := by rw [goW, if_pos h]
theorem goW_end {k : Nat} {w : Wd} (h : dueI w = none) : goW (k + 1) w = (w, 0) := by
  have e : (stepW w).2 = 3 := by rw [stepW, h]
  rw [goW, if_neg (by rw [e]; decide)]
abbrev wdI (p : Wd × Nat) : AV := .tup [.agg p.1.lfs, .lf (.pv (pI p.2))]
theorem finWI {w : Wd} {n : Int} {q : Wd × Nat} (h : Fin (w, n) (q.1, (q.2 : Int))) : ∃ zs, Fa WkA [.agg w.lfs, I n] zs ∧ pack zs = some (wdI q) := by
  have h' := h.out
  simp only [Prod.mk.injEq] at h'
  obtain ⟨h1, h2⟩ := h'
  subst h1 h2
  exact ⟨_, wk_refl _, rfl⟩
end Go.Rx
namespace Go.Proofs.YtfjllfjmggooeaaGreatDoor.Rx
open Go.Rx Go.Proofs Go.Proofs.YtfjllfjmggooeaaGreatDoor.RxH
theorem step_go (w : Wd) (h : StepOk w) (he : (stepW w).2 = 0) : ConG P 64 (mvB w) [.lf (.ptr 0 0)] nilI (mvB (stepW w).1) := by
  have c := stepM_con w h.ll h.move h.ok
  rw [he] at c
  exact c
theorem step_end (w : Wd) (h : StepOk w) (he : dueI w = none) : ConG P 64 (mvB w) [.lf (.ptr 0 0)] idleI (mvB w) := by
  have c := stepM_con w h.ll h.move h.ok
  have e : stepW w = (w, 3) := by rw [stepW, he]
  rw [e] at c
  exact c
theorem go_con (w : Wd) (hw : w.Ok) (n : Nat) (hn : n ≤ 100000) (h : GoOk n w) : Con P 53 [encWd w, Go.Rx.I n] (wdI (goW n w)) [] := by
  obtain ⟨r, hr⟩ : ∃ r, r = goW n w := ⟨_, rfl⟩
  rw [← hr]
  refine Con.of T_ok Tryz.func53 rfl (by kernel_rfl) (by kernel_rfl) (aw_of T_ok (by kernel_rfl) ?_)
  conv => whnf
  refine ⟨_, _, _, wk_refl _, wown_con w hw, .inr ?_⟩
  conv => whnf
  refine AW.loop (fun p : Nat × Wd => p.1 ≤ n ∧ GoOk (n - p.1) p.2 ∧ r.1 = (goW (n - p.1) p.2).1 ∧ r.2 = (goW (n - p.1) p.2).2 + p.1) (fun p => [(4, .lf (.ptr 1 0)), (6, .lf (.ptr 5 0)), (1, Go.Rx.I n), (12, Go.Rx.I n), (13, Go.Rx.I p.1)])
    (fun p => [.var w.lfs, .var zWdV, .arr 47 3 (p.2.ledgers.map Ledger.enc), .arr 44 18 (p.2.lives.map Live.enc), .arr 3 1 (intRows p.2.outs), .var (p.2.own 2)]) (fun p => n - p.1) [] ?_ ?_
  · refine ⟨(0, w), ⟨Nat.zero_le _, h, ?_, ?_⟩, ⟨rfl, rfl, rfl, rfl, rfl, trivial⟩, ⟨[], rfl⟩, rfl, rfl⟩
    · rw [hr]; rfl
    · rw [hr]; rfl
  rintro ⟨k, x⟩ ⟨hk, hok, h1, h2⟩
  simp only at hk hok h1 h2
  have hgm : (x.ledgers.map Ledger.enc).length = x.ledgers.length := List.length_map ..
  have hlm : (x.lives.map Live.enc).length = x.lives.length := List.length_map ..
  have hom : (intRows x.outs).length = x.outs.length := List.length_map ..
  refine aw_of T_ok (by kernel_rfl) ?_
  conv => whnf
  split <;> rename_i hlt <;> conv => whnf
  · have hkl : k < n := by have := of_decide_eq_true hlt; omega
    have e : n - k = (n - (k + 1)) + 1 := by omega
    rw [e] at hok h1 h2
    obtain ⟨hs, hgo⟩ := hok
    rcases hs.ok with he | he
    · have c := step_go x hs he
      have hx := hgo he
      rw [goW_go he] at h1 h2
      refine ⟨[5, 2, 3, 4], _, _, _, _, _, nodupB_ok rfl, rfl, rfl, wk_refl _, c, ?_⟩
      conv => whnf
      refine ⟨rfl, ?_⟩
      conv => whnf
      exact ⟨(k + 1, (stepW x).1), ⟨⟨hkl, hx, h1, by have h2' : r.2 = (goW (n - (k + 1)) (stepW x).1).2 + 1 + k := h2; show r.2 = (goW (n - (k + 1)) (stepW x).1).2 + (k + 1); omega⟩, by show n - (k + 1) < n - k; omega⟩, ⟨rfl, rfl, rfl, rfl, congrArg Go.Rx.I (wrapI (by omega)), trivial⟩, ⟨[], rfl⟩, rfl, rfl⟩
    · have c := step_end x hs he
      rw [goW_end he] at h1 h2
      refine ⟨[5, 2, 3, 4], _, _, _, _, _, nodupB_ok rfl, rfl, rfl, wk_refl _, c, ?_⟩
      conv => whnf
      refine ⟨hgm, ?_⟩
      conv => whnf
      refine ⟨hlm, ?_⟩
      conv => whnf
      refine ⟨hom, ?_⟩
      conv => whnf
      exact finWI ⟨by rw [h1, h2]; simp⟩
  · have hkl : n ≤ k := by have := of_decide_eq_false hlt; omega
    have e : n - k = 0 := by omega
    rw [e] at h1 h2
    refine ⟨hgm, ?_⟩
    conv => whnf
    refine ⟨hlm, ?_⟩
    conv => whnf
    refine ⟨hom, ?_⟩
    conv => whnf
    exact finWI ⟨by rw [h1, h2]; show _ = (x, ((0 + k : Nat) : Int)); rw [show k = n by omega]; simp⟩
end Go.Proofs.YtfjllfjmggooeaaGreatDoor.Rx

/- Step, Tick and Idle. -/
set_option linter.unusedVariables false
set_option linter.unusedSimpArgs false
namespace Go.Rx
def stepWd (w : Wd) : Wd × Int := if worldB w then (if (stepW w).2 = 0 then ((stepW w).1, 0) else (zWd, (stepW w).2)) else (zWd, 1)
def tickWd (w : Wd) : Wd × Int := if worldB w then (if 1073741824 ≤ w.clock then (zWd, 9) else ((goW 2000 { w with clock := IntKind.i64.wrap (w.clock + 1) }).1, 0)) else (zWd, 1)
def idleB (w : Wd) : Bool := !(w.lives.any fun v => v.saga.status == 0)
def idleWd (w : Wd) : Bool × Int := if worldB w then (idleB w, 0) else (false, 1)
abbrev wdE (p : Wd × Int) : AV := .tup [.agg p.1.lfs, .lf (.pv (pI p.2))]
theorem finWE {w : Wd} {e : Int} {q : Wd × Int} (h : Fin (w, e) q) : ∃ zs, Fa WkA [.agg w.lfs, I e] zs ∧ pack zs = some (wdE q) := ⟨_, wk_refl _, by rw [← h.out]; rfl⟩
theorem finWZ {e : Int} {q : Wd × Int} (h : Fin (zWd, e) q) : ∃ zs, Fa WkA [.agg zWdV, I e] zs ∧ pack zs = some (wdE q) := by
  rw [← h.out]
  exact ⟨[.agg zWd.lfs, I e], ⟨.inr (.inr ⟨_, _, rfl, rfl, .inl rfl, .inl rfl, .inl rfl, .inl rfl, wkN 3, wkN 18, wkN 1, .inl rfl, trivial⟩), .inl rfl, trivial⟩, rfl⟩
end Go.Rx
namespace Go.Proofs.YtfjllfjmggooeaaGreatDoor.Rx
open Go.Rx Go.Proofs Go.Proofs.YtfjllfjmggooeaaGreatDoor.RxH
theorem stepWd_con (w : Wd) (hw : w.Ok) (h : worldB w = true → StepOk w) : Con P 29 [encWd w] (wdE (stepWd w)) [] := by
  have cm := worldMay_con w hw
  have co := wown_con w hw
  have hq : stepWd w = if worldB w then (if (stepW w).2 = 0 then ((stepW w).1, 0) else (zWd, (stepW w).2)) else (zWd, 1) := rfl
  obtain ⟨q, he⟩ : ∃ q, q = stepWd w := ⟨_, rfl⟩
  rw [← he] at hq ⊢
  refine Con.of T_ok Tryz.func29 rfl (by kernel_rfl) (by kernel_rfl) (aw_of T_ok (by kernel_rfl) ?_)
  conv => whnf
  refine callS cm rfl ?_
  conv => whnf
  cases hb : worldB w with
  | false =>
    rw [hb] at hq
    conv => whnf
    exact finWZ ⟨hq.symm⟩
  | true =>
    rw [hb] at hq
    have hs := h hb
    conv => whnf
    refine ⟨_, _, _, wk_refl _, co, .inr ?_⟩
    conv => whnf
    rcases hs.ok with h0 | h0
    · have c := step_go w hs h0
      have hq' : q = ((stepW w).1, 0) := hq.trans (by rw [if_pos rfl, if_pos h0])
      generalize (stepW w).1 = x at c hq'
      have hgm : (x.ledgers.map Ledger.enc).length = x.ledgers.length := List.length_map ..
      have hlm : (x.lives.map Live.enc).length = x.lives.length := List.length_map ..
      have hom : (intRows x.outs).length = x.outs.length := List.length_map ..
      refine ⟨[5, 2, 3, 4], _, _, _, _, _, nodupB_ok rfl, rfl, rfl, wk_refl _, c, ?_⟩
      conv => whnf
      refine callS told_nil rfl ?_
      conv => whnf
      refine ⟨hgm, ?_⟩
      conv => whnf
      refine ⟨hlm, ?_⟩
      conv => whnf
      refine ⟨hom, ?_⟩
      conv => whnf
      exact finWE ⟨hq'.symm⟩
    · have c := step_end w hs h0
      have e : stepW w = (w, 3) := by rw [stepW, h0]
      have hq' : q = (zWd, 3) := hq.trans (by rw [if_pos rfl, e]; rfl)
      refine ⟨[5, 2, 3, 4], _, _, _, _, _, nodupB_ok rfl, rfl, rfl, wk_refl _, c, ?_⟩
      conv => whnf
      refine callS told_idle rfl ?_
      conv => whnf
      exact finWZ ⟨hq'.symm⟩
theorem tickWd_con (w : Wd) (hw : w.Ok) (h : worldB w = true → w.clock < 1073741824 → GoOk 2000 { w with clock := IntKind.i64.wrap (w.clock + 1) }) : Con P 21 [encWd w] (wdE (tickWd w)) [] := by
  have cm := worldMay_con w hw
  have hq : tickWd w = if worldB w then (if 1073741824 ≤ w.clock then (zWd, 9) else ((goW 2000 { w with clock := IntKind.i64.wrap (w.clock + 1) }).1, 0)) else (zWd, 1) := rfl
  obtain ⟨q, he⟩ : ∃ q, q = tickWd w := ⟨_, rfl⟩
  rw [← he] at hq ⊢
  refine Con.of T_ok Tryz.func21 rfl (by kernel_rfl) (by kernel_rfl) (aw_of T_ok (by kernel_rfl) ?_)
  conv => whnf
  refine callS cm rfl ?_
  conv => whnf
  cases hb : worldB w with
  | false =>
    rw [hb] at hq
    conv => whnf
    exact finWZ ⟨hq.symm⟩
  | true =>
    rw [hb] at hq
    conv => whnf
    split <;> rename_i h1 <;> conv => whnf
    · have h1' : 1073741824 ≤ w.clock := by have := of_decide_eq_true h1; omega
      exact finWZ ⟨by rw [hq, if_pos rfl, if_pos h1']⟩
    · have h1' : ¬ 1073741824 ≤ w.clock := by have := of_decide_eq_false h1; omega
      have c := go_con { w with clock := IntKind.i64.wrap (w.clock + 1) } ⟨hw.file, hw.gl, hw.ll, hw.ol, hw.ledgers, hw.lives⟩ 2000 (by omega) (h hb (by omega))
      rw [if_pos rfl, if_neg h1'] at hq
      generalize goW 2000 { w with clock := IntKind.i64.wrap (w.clock + 1) } = p at c hq
      refine callU c (fun _ => rfl) ?_
      conv => whnf
      exact finWE ⟨hq.symm⟩
theorem idleWd_con (w : Wd) (hw : w.Ok) : Con P 19 [encWd w] (.tup [.lf (.pv (pB (idleWd w).1)), .lf (.pv (pI (idleWd w).2))]) [] := by
  have cm := worldMay_con w hw
  have hq : idleWd w = if worldB w then (!(w.lives.any fun v => v.saga.status == 0), 0) else (false, 1) := rfl
  have ca := anyLv_con 52 (fun v => v.saga.status == 0) w.lives hw.ll (fun v _ => idle1_con v)
  generalize (w.lives.any fun v => v.saga.status == 0) = b at hq ca
  obtain ⟨q, he⟩ : ∃ q, q = idleWd w := ⟨_, rfl⟩
  rw [← he] at hq ⊢
  refine Con.of T_ok Tryz.func19 rfl (by kernel_rfl) (by kernel_rfl) (aw_of T_ok (by kernel_rfl) ?_)
  conv => whnf
  refine callS cm rfl ?_
  conv => whnf
  cases hb : worldB w with
  | false =>
    rw [hb] at hq
    conv => whnf
    exact ⟨[Bl false, Go.Rx.I 1], wk_refl _, by rw [hq]; rfl⟩
  | true =>
    rw [hb] at hq
    conv => whnf
    refine callS ca rfl ?_
    conv => whnf
    exact ⟨[Bl (!b), Go.Rx.I 0], wk_refl _, by rw [hq]; rfl⟩
end Go.Proofs.YtfjllfjmggooeaaGreatDoor.Rx

/- A step keeps a world such as it may be: the whole. -/
set_option linter.unusedVariables false
set_option linter.unusedSimpArgs false
namespace Go.Rx
theorem WInv.put {w : Wd} {tb : Int} (h : WInv w tb) {W : Wd} {i : Nat} {x : Live} (hc : W.clock = w.clock) (ho : W.outs = w.outs) (hk0 : 0 ≤ W.taken) (hk1 : W.taken ≤ tb + 1) (hf : fileB W.file = true) (hg : ledgersB W.ledgers = true) (hx : LInv x (tb + 1)) (hs : togB (sagasL (w.lives.set i x)) = true) :
    WInv { W with lives := w.lives.set i x } (tb + 1) := by
  refine ⟨by show 0 ≤ W.clock; rw [hc]; exact h.c0, by show W.clock ≤ _; rw [hc]; exact h.c1, hk0, hk1, by show W.outs.length ≤ 400; rw [ho]; exact h.ol, by show W.outs.any outBad = false; rw [ho]; exact h.ob, hf, hg, hs, fun v hv => ?_⟩
  rcases mem_set_cases hv with e | e
  · rw [e]; exact hx
  · exact (h.lives v e).mono (by omega)
theorem set_tog {l : List Live} {i : Nat} {v x : Live} (h : l[i]? = some v) (hx : x.saga = v.saga) (ht : togB (sagasL l) = true) : togB (sagasL (l.set i x)) = true := by rw [set_saga h hx]; exact ht
theorem keys_at {id : Int} {i : Nat} (hid : 1 ≤ id ∧ id ≤ 20) (hi : i < 5) : callKey id i = id * 100 + 2 * i ∧ undoKey id i = id * 100 + 2 * i + 1 := by
  have e : callKey id i = id * 100 + 2 * i := by
    rw [callKey, wrapI (n := id * 100) (by omega), wrapI (n := 2 * (i : Int)) (by omega), wrapI (by omega)]
  exact ⟨e, by rw [undoKey, e, wrapI (by omega)]⟩
/-- The ledger that is called, and what the call is. -/
structure CallAt (w : Wd) (s : Saga) (i : Nat) (g : Ledger) (st : Step) : Prop where
  row : s.steps[i]? = some st
  stAt : stepAt s = st
  sv : 1 ≤ st.service ∧ st.service ≤ 4
  led : w.ledgers[(st.service - 1).toNat]? = some g
  gAt : ledgAt w s = g
  gsv : g.service = st.service
  may : ledgerB g = true
  key : keyB (entryW s).key = true
  deed : deedB g.service (entryW s).op (entryW s).who (entryW s).n = true
theorem WInv.callAt {w : Wd} {tb : Int} (h : WInv w tb) {s : Saga} (hs : sagaB s = true) {i : Nat} (hi : StepIn s i) : ∃ g st, CallAt w s i g st := by
  have hg := ledgersB_iff.1 h.ledgers
  have hp := parts_iff.1 hs
  have hl := parts_len hp
  have hlt := hi.lt
  have hat := hi.at'
  have hst : stepAt s = s.steps[i] := by
    rw [stepAt, hat]
    simp [hlt]
  have hpr := step_pair hs hlt
  have hsv := sv_of hpr.1.1
  have hk := keys_at ⟨hl.2.2.1, hl.2.2.2⟩ hi.i5
  have hgl : (s.steps[i].service - 1).toNat < w.ledgers.length := by have := hg.len; omega
  have hga := hg.at' _ _ (List.getElem?_eq_getElem hgl)
  refine ⟨w.ledgers[(s.steps[i].service - 1).toNat], s.steps[i], List.getElem?_eq_getElem hlt, hst, hsv, List.getElem?_eq_getElem hgl, by rw [ledgAt, hst, List.getElem?_eq_getElem hgl]; rfl, by rw [hga.1]; omega, hga.2, ?_, ?_⟩
  · rw [entryW, hat]
    split
    · show keyB (undoKey s.id i) = true
      rw [hk.2, keyB]; simp; omega
    · show keyB (callKey s.id i) = true
      rw [hk.1, keyB]; simp; omega
  · have hsg : (w.ledgers[(s.steps[i].service - 1).toNat]).service = s.steps[i].service := by rw [hga.1]; omega
    rw [hsg, entryW, hst]
    split
    · show deedB s.steps[i].service s.steps[i].undo s.steps[i].who s.steps[i].n = true
      rw [deedB, hpr.1.2.1, hpr.2.1]; simp [hpr.2.2]
    · show deedB s.steps[i].service s.steps[i].op s.steps[i].who s.steps[i].n = true
      rw [deedB, hpr.1.1, hpr.2.1]; simp [hpr.2.2]
theorem WInv.calledL {w : Wd} {tb : Int} (h : WInv w tb) {s : Saga} (hs : sagaB s = true) {i : Nat} (hi : StepIn s i) (he : (doneAt w s).2.2 = 0) : ledgersB (calledW w s).ledgers = true := by
  obtain ⟨g, st, hc⟩ := h.callAt hs hi
  have hg := ledgersB_iff.1 h.ledgers
  rw [doneAt, hc.gAt] at he
  have hd := do_may hc.may hc.key hc.deed he
  refine ledgersB_iff.2 ⟨by show (w.ledgers.set _ _).length = 4; rw [List.length_set]; exact hg.len, fun j x hx => ?_⟩
  have hx' : (w.ledgers.set ((stepAt s).service - 1).toNat (doneAt w s).1)[j]? = some x := hx
  rw [hc.stAt, doneAt, hc.gAt] at hx'
  by_cases e : j = (st.service - 1).toNat
  · subst e
    have hl : (st.service - 1).toNat < w.ledgers.length := (List.getElem?_eq_some_iff.1 hc.led).1
    rw [List.getElem?_set_self hl] at hx'
    cases hx'
    exact ⟨by rw [hd.2, hc.gsv]; have := hc.sv; omega, hd.1⟩
  · rw [List.getElem?_set_ne (Ne.symm e)] at hx'
    exact hg.at' j x hx'
theorem WInv.next {w : Wd} {tb : Int} (h : WInv w tb) (ht : tb ≤ 4611686018427387902) {v : Live} {i : Nat} (hi : w.lives[i]? = some v) (hst : v.saga.status = 0) (hk : v.write.kind = 0) (he : (nextW w v).2.2 = 0) :
    WInv { (nextW w v).1 with lives := w.lives.set i (nextW w v).2.1 } (tb + 1) := by
  have hmem : v ∈ w.lives := List.mem_of_getElem? hi
  have hl := h.lives v hmem
  have hs := h.saga hmem
  have hw := hl.zero.1 hk
  have hp := parts_iff.1 hs
  have hl4 := parts_len hp
  have hid : 1 ≤ v.saga.id ∧ v.saga.id ≤ 20 := ⟨hl4.2.2.1, hl4.2.2.2⟩
  have p0 := hp.d0
  have p1 := hp.d1
  have p4 := hp.ou
  have k1 := h.k1
  have k0 := h.k0
  have hput : v.put = false := by
    rcases hl.wr with h | h
    · exact h.2
    · rw [hw] at h; exact absurd (rec_kind h.2.1) (by show ¬ (1 ≤ (0 : Int) ∧ _); omega)
  have wr : ∀ (k n : Int), ¬ k = 1 → kindB k n = true → fitsB v.saga ⟨k, v.saga.id, n, ⟨#[]⟩, ⟨#[]⟩, []⟩ = true → WInv { w with lives := w.lives.set i { v with write := ⟨k, v.saga.id, n, ⟨#[]⟩, ⟨#[]⟩, []⟩ } } (tb + 1) := fun k n a1 a2 a3 => by
    obtain ⟨r1, r2⟩ := rec_fits hid hst a1 a2 a3
    refine h.put rfl rfl k0 (by omega) h.file h.ledgers ⟨hl.t0, by have := hl.t1; show v.tries ≤ _; omega, hl.d0, hl.d1, .inr ⟨a1, r1, r2⟩⟩ ?_
    exact set_tog hi rfl h.tog
  cases h1 : (!v.saga.back && (v.saga.done == (v.saga.steps.length : Int))) with
  | true =>
    have e : nextW w v = (w, { v with write := { zRec with kind := 6, id := v.saga.id, n := 1 } }, 0) := by rw [nextW]; simp only; rw [if_pos h1]
    rw [e]
    simp only [Bool.and_eq_true, Bool.not_eq_true', beq_iff_eq] at h1
    refine wr 6 1 (by decide) rfl ?_
    have ho : v.saga.out = false := by
      cases ho : v.saga.out with
      | false => rfl
      | true => exact absurd h1.2 (p4 ho)
    unfold fitsB; rw [if_neg (by simp), if_neg (by simp), if_neg (by simp), if_neg (by simp), if_pos (by rfl)]
    show endsB v.saga 1 = true
    unfold endsB; rw [if_neg (by decide), if_pos rfl, h1.1, ho, h1.2]; simp
  | false =>
  cases h2 : (v.saga.back && (v.saga.left == 0)) with
  | true =>
    have e : nextW w v = (w, { v with write := { zRec with kind := 6, id := v.saga.id, n := 2 } }, 0) := by rw [nextW]; simp only; rw [if_neg (by rw [h1]; decide), if_pos h2]
    rw [e]
    refine wr 6 2 (by decide) rfl ?_
    unfold fitsB; rw [if_neg (by simp), if_neg (by simp), if_neg (by simp), if_neg (by simp), if_pos (by rfl)]
    show endsB v.saga 2 = true
    unfold endsB; rw [if_neg (by decide), if_neg (by decide), if_pos rfl]; exact h2
  | false =>
  cases h3 : (!v.saga.back && !v.saga.out) with
  | true =>
    have e : nextW w v = (w, { v with write := { zRec with kind := 2, id := v.saga.id, n := v.saga.done } }, 0) := by rw [nextW]; simp only; rw [if_neg (by rw [h1]; decide), if_neg (by rw [h2]; decide), if_pos h3]
    rw [e]
    simp only [Bool.and_eq_true, Bool.not_eq_true'] at h3
    rw [h3.1] at h1
    have hne : ¬ v.saga.done = v.saga.steps.length := by simpa using h1
    refine wr 2 v.saga.done (by decide) (by unfold kindB; rw [if_pos (by simp)]; simp; omega) ?_
    unfold fitsB; rw [if_pos (by rfl), h3.1, h3.2]; simp; omega
  | false =>
  have hd : (doneAt w v.saga).2.2 = 0 := by
    rw [nextW] at he
    simp only at he
    rw [if_neg (by rw [h1]; decide), if_neg (by rw [h2]; decide), if_neg (by rw [h3]; decide)] at he
    split at he
    · assumption
    · exact he
  have e : nextW w v = (calledW w v.saga, (if (answeredL w.clock v (doneAt w v.saga).2.1).2.2 then { (answeredL w.clock v (doneAt w v.saga).2.1).1 with write := (answeredL w.clock v (doneAt w v.saga).2.1).2.1 } else (answeredL w.clock v (doneAt w v.saga).2.1).1), 0) := by
    rw [nextW]; simp only; rw [if_neg (by rw [h1]; decide), if_neg (by rw [h2]; decide), if_neg (by rw [h3]; decide), if_pos hd]
  rw [e]
  obtain ⟨j, hj⟩ := call_at hs hst h1 h2 h3
  obtain ⟨ha, hsg⟩ := answered_inv (w := w) hs hl ht hst hw hj h1 h2 h3 ⟨h.c0, h.c1⟩ (doneAt w v.saga).2.1
  have hwt : IntKind.i64.wrap (w.taken + 1) = w.taken + 1 := wrapI (by omega)
  refine h.put (W := calledW w v.saga) rfl rfl (by show 0 ≤ IntKind.i64.wrap (w.taken + 1); omega) (by show IntKind.i64.wrap (w.taken + 1) ≤ _; omega) h.file (h.calledL hs hj hd) ha ?_
  exact set_tog hi (by split <;> exact hsg) h.tog
theorem WInv.written {w : Wd} {tb : Int} (h : WInv w tb) {v : Live} {i : Nat} (hi : w.lives[i]? = some v) (hk : ¬ v.write.kind = 0) (he : (writtenW w v).2.2 = 0) :
    WInv { (writtenW w v).1 with lives := w.lives.set i (writtenW w v).2.1 } (tb + 1) := by
  have hmem : v ∈ w.lives := List.mem_of_getElem? hi
  have hl := h.lives v hmem
  have hs := h.saga hmem
  have k1 := h.k1
  have k0 := h.k0
  have t0 := hl.t0
  have t1 := hl.t1
  have hr : ¬ v.write.kind = 1 ∧ recB v.write = true ∧ fitsL v = true := by
    rcases hl.wr with e | e
    · exact absurd (hl.zero.2 e.1) hk
    · exact e
  have hf := hr.2.2
  simp only [fitsL, Bool.and_eq_true, beq_iff_eq] at hf
  cases hp : v.put with
  | true =>
    have e : writtenW w v = ({ w with file := (crashP w.file w.file.tail.size).1 }, ⟨nextS v.saga v.write, 0, w.clock, zRec, false⟩, 0) := by rw [writtenW, if_pos hp]
    rw [e]
    have hg := apply_goes hs hr.2.1 hf.1 hf.2.1 hf.2.2
    have hgd := apply_good hs hg
    have hnx := (apply_went hs hg).2.2.2.2
    refine h.put (W := { w with file := (crashP w.file w.file.tail.size).1 }) rfl rfl k0 (by show w.taken ≤ _; omega) (sync_may h.file) h.ledgers ⟨Int.le_refl 0, by show (0 : Int) ≤ _; omega, h.c0, by show w.clock ≤ _; have := h.c1; omega, .inl ⟨rfl, rfl⟩⟩ ?_
    rw [sagas_set]
    exact tog_set h.tog (sagas_at hi) (by rw [← hnx]; exact hgd.may) (next_id _ _) (next_keep _ _).1
  | false =>
    have hd : (jappP w.file v.write).2 = 0 := by
      rw [writtenW, if_neg (by rw [hp]; decide)] at he
      split at he
      · assumption
      · exact he
    have e : writtenW w v = ({ w with file := (jappP w.file v.write).1 }, { v with put := true }, 0) := by rw [writtenW, if_neg (by rw [hp]; decide), if_pos hd]
    rw [e]
    refine h.put (W := { w with file := (jappP w.file v.write).1 }) rfl rfl k0 (by show w.taken ≤ _; omega) (app_file hd) h.ledgers ⟨t0, by show v.tries ≤ _; omega, hl.d0, hl.d1, .inr hr⟩ ?_
    exact set_tog hi rfl h.tog
theorem stepW_at {w : Wd} {i : Nat} {v : Live} (h : dueI w = some i) (hv : w.lives[i]? = some v) : stepW w = if (moveW w v).2.2 = 0 then ({ (moveW w v).1 with lives := w.lives.set i (moveW w v).2.1 }, 0) else (w, (moveW w v).2.2) := by
  rw [stepW, h]
  simp only
  rw [hv]
theorem dueB_st {c : Int} {v : Live} (h : dueB c v = true) : v.saga.status = 0 := by rw [dueB, Bool.and_eq_true] at h; exact eq_of_beq h.1
theorem WInv.step {w : Wd} {tb : Int} (h : WInv w tb) (ht : tb ≤ 4611686018427387902) (he : (stepW w).2 = 0) : WInv (stepW w).1 (tb + 1) := by
  cases hd : dueI w with
  | none => rw [stepW, hd] at he; cases he
  | some i =>
    obtain ⟨v, hv, hb⟩ := dueI_some hd
    rw [stepW_at hd hv] at he ⊢
    have hm : (moveW w v).2.2 = 0 := by
      split at he
      · assumption
      · exact he
    rw [if_pos hm]
    by_cases hk : v.write.kind = 0
    · have e : moveW w v = nextW w v := by rw [moveW, if_neg (by rw [hk]; decide)]
      rw [e] at hm ⊢
      exact h.next ht hv (dueB_st hb) hk hm
    · have e : moveW w v = writtenW w v := by rw [moveW, if_pos (by simpa using hk)]
      rw [e] at hm ⊢
      exact h.written hv hk hm
/-- No step on the way fails. -/
def okGo : Nat → Wd → Bool
  | 0, _ => true
  | k + 1, w => (dueI w).isNone || ((stepW w).2 == 0 && okGo k (stepW w).1)
theorem WInv.stepOk {w : Wd} {tb : Int} (h : WInv w tb) (ht : tb ≤ 4611686018427387902) (he : (stepW w).2 = 0 ∨ dueI w = none) : StepOk w :=
  ⟨h.wok.ll, fun v hv hd => h.move (by omega) hv hd, he⟩
theorem WInv.goOk : ∀ {k : Nat} {w : Wd} {tb : Int}, WInv w tb → tb + k ≤ 4611686018427387902 → okGo k w = true → GoOk k w
  | 0, w, tb, _, _, _ => trivial
  | k + 1, w, tb, h, ht, he => by
    rw [okGo, Bool.or_eq_true, Bool.and_eq_true, Option.isNone_iff_eq_none, beq_iff_eq] at he
    refine ⟨h.stepOk (by omega) (by rcases he with e | e; exact .inr e; exact .inl e.1), fun e0 => ?_⟩
    rcases he with e | e
    · rw [stepW, e] at e0; cases e0
    · exact WInv.goOk (h.step (by omega) e0) (by omega) e.2
theorem WInv.goEnd : ∀ {k : Nat} {w : Wd} {tb : Int}, WInv w tb → tb + k ≤ 4611686018427387902 → WInv (goW k w).1 (tb + k)
  | 0, w, tb, h, _ => h.mono (by omega)
  | k + 1, w, tb, h, ht => by
    rw [goW]
    split
    · rename_i e0
      exact (WInv.goEnd (h.step (by omega) e0) (by omega)).mono (by omega)
    · exact h.mono (by omega)
theorem WInv.clock {w : Wd} {tb : Int} (h : WInv w tb) (hc : w.clock < 1073741824) : WInv { w with clock := IntKind.i64.wrap (w.clock + 1) } tb := by
  have h0 := h.c0
  have e : IntKind.i64.wrap (w.clock + 1) = w.clock + 1 := wrapI (by omega)
  exact ⟨by show 0 ≤ IntKind.i64.wrap (w.clock + 1); omega, by show IntKind.i64.wrap (w.clock + 1) ≤ _; omega, h.k0, h.k1, h.ol, h.ob, h.file, h.ledgers, h.tog, h.lives⟩
end Go.Rx

/- What a step is: one of four kinds. -/
set_option linter.unusedVariables false
set_option linter.unusedSimpArgs false
namespace Go.Rx
/-- What a call does to a ledger, where it does not fail. -/
inductive Does (g : Ledger) (x : Entry) (no : Bool) (out : Int) : Ledger → Int → Prop
  | known (h : g.known.contains x.key = true) : Does g x no out g (if out = 1 then 0 else ansL out)
  | refused (h : g.known.contains x.key = false) (ho : out = 1 ∨ out = 2) : Does g x no out g out
  | happens (h : g.known.contains x.key = false) (ho : ¬ (out = 1 ∨ out = 2)) (he : g.entries.length < 200) (hk : g.known.length < 400) :
      Does g x no out ⟨g.service, if no then g.entries else g.entries ++ [x], insL g.known (posL g.known x.key) x.key⟩ (ansL out)
theorem does_of {g : Ledger} {x : Entry} {no : Bool} {out : Int} (h : (doL g x no out).2.2 = 0) : Does g x no out (doL g x no out).1 (doL g x no out).2.1 := by
  by_cases h1 : g.known.contains x.key = true
  · rw [doL, if_pos h1]; exact .known h1
  have h1' : g.known.contains x.key = false := by simpa using h1
  by_cases h2 : out = 1 ∨ out = 2
  · rw [doL, if_neg h1, if_pos h2]; exact .refused h1' h2
  by_cases h3 : 200 ≤ g.entries.length ∨ 400 ≤ g.known.length
  · rw [doL, if_neg h1, if_neg h2, if_pos h3] at h; cases h
  · rw [doL, if_neg h1, if_neg h2, if_neg h3]; exact .happens h1' h2 (by omega) (by omega)
/-- A call of a saga's step: which ledger, which step, what is done. -/
structure Calls1 (w : Wd) (v : Live) (j : Nat) (st : Step) (g g' : Ledger) (a : Int) : Prop where
  at' : CallAt w v.saga j g st
  inn : StepIn v.saga j
  does : Does g (entryW v.saga) (noneAt w v.saga) (outW w) g' a
  fw : v.saga.back = false → v.saga.out = true ∧ v.saga.done = j
  bw : v.saga.back = true → v.saga.left = j + 1
/-- A step, one of four. -/
inductive Went (w : Wd) : Wd → Prop
  | sync (i : Nat) (v : Live) (hi : w.lives[i]? = some v) (hst : v.saga.status = 0) (hp : v.put = true) (hk : ¬ v.write.kind = 1) (hr : recB v.write = true) (hf : fitsL v = true) :
      Went w { w with file := (crashP w.file w.file.tail.size).1, lives := w.lives.set i ⟨nextS v.saga v.write, 0, w.clock, zRec, false⟩ }
  | app (i : Nat) (v : Live) (hi : w.lives[i]? = some v) (hst : v.saga.status = 0) (hp : v.put = false) (hk : ¬ v.write.kind = 1) (hr : recB v.write = true) (hf : fitsL v = true) (hj : (jappP w.file v.write).2 = 0) :
      Went w { w with file := (jappP w.file v.write).1, lives := w.lives.set i { v with put := true } }
  | dec (i : Nat) (v : Live) (k n : Int) (hi : w.lives[i]? = some v) (hst : v.saga.status = 0) (hw : v.write = zRec) (hp : v.put = false)
      (hc : (k = 6 ∧ n = 1 ∧ v.saga.back = false ∧ v.saga.done = v.saga.steps.length) ∨ (k = 6 ∧ n = 2 ∧ v.saga.back = true ∧ v.saga.left = 0) ∨ (k = 2 ∧ n = v.saga.done ∧ v.saga.back = false ∧ v.saga.out = false ∧ v.saga.done < v.saga.steps.length)) :
      Went w { w with lives := w.lives.set i { v with write := ⟨k, v.saga.id, n, ⟨#[]⟩, ⟨#[]⟩, []⟩ } }
  | call (i : Nat) (v : Live) (j : Nat) (st : Step) (g g' : Ledger) (a : Int) (hi : w.lives[i]? = some v) (hst : v.saga.status = 0) (hd : dueB w.clock v = true) (hw : v.write = zRec) (hp : v.put = false) (hc : Calls1 w v j st g g' a) :
      Went w { w with ledgers := w.ledgers.set (st.service - 1).toNat g', taken := w.taken + 1, lives := w.lives.set i (if (answeredL w.clock v a).2.2 then { (answeredL w.clock v a).1 with write := (answeredL w.clock v a).2.1 } else (answeredL w.clock v a).1) }
theorem WInv.went {w : Wd} {tb : Int} (h : WInv w tb) (ht : tb ≤ 4611686018427387902) (he : (stepW w).2 = 0) : Went w (stepW w).1 := by
  cases hd : dueI w with
  | none => rw [stepW, hd] at he; cases he
  | some i =>
    obtain ⟨v, hi, hb⟩ := dueI_some hd
    rw [stepW_at hd hi] at he ⊢
    have hm : (moveW w v).2.2 = 0 := by
      split at he
      · assumption
      · exact he
    rw [if_pos hm]
    have hst := dueB_st hb
    have hmem : v ∈ w.lives := List.mem_of_getElem? hi
    have hl := h.lives v hmem
    have hs := h.saga hmem
    have hpt := parts_iff.1 hs
    have p0 := hpt.d0
    have p1 := hpt.d1
    by_cases hk : v.write.kind = 0
    · have e : moveW w v = nextW w v := by rw [moveW, if_neg (by rw [hk]; decide)]
      rw [e] at hm ⊢
      have hw := hl.zero.1 hk
      have hput : v.put = false := by
        rcases hl.wr with h | h
        · exact h.2
        · rw [hw] at h; exact absurd (rec_kind h.2.1) (by show ¬ (1 ≤ (0 : Int) ∧ _); omega)
      cases h1 : (!v.saga.back && (v.saga.done == (v.saga.steps.length : Int))) with
      | true =>
        have e : nextW w v = (w, { v with write := ⟨6, v.saga.id, 1, ⟨#[]⟩, ⟨#[]⟩, []⟩ }, 0) := by rw [nextW]; simp only; rw [if_pos h1]; rfl
        rw [e]
        simp only [Bool.and_eq_true, Bool.not_eq_true', beq_iff_eq] at h1
        exact .dec i v 6 1 hi hst hw hput (.inl ⟨rfl, rfl, h1.1, h1.2⟩)
      | false =>
      cases h2 : (v.saga.back && (v.saga.left == 0)) with
      | true =>
        have e : nextW w v = (w, { v with write := ⟨6, v.saga.id, 2, ⟨#[]⟩, ⟨#[]⟩, []⟩ }, 0) := by rw [nextW]; simp only; rw [if_neg (by rw [h1]; decide), if_pos h2]; rfl
        rw [e]
        simp only [Bool.and_eq_true, beq_iff_eq] at h2
        exact .dec i v 6 2 hi hst hw hput (.inr (.inl ⟨rfl, rfl, h2.1, h2.2⟩))
      | false =>
      cases h3 : (!v.saga.back && !v.saga.out) with
      | true =>
        have e : nextW w v = (w, { v with write := ⟨2, v.saga.id, v.saga.done, ⟨#[]⟩, ⟨#[]⟩, []⟩ }, 0) := by rw [nextW]; simp only; rw [if_neg (by rw [h1]; decide), if_neg (by rw [h2]; decide), if_pos h3]; rfl
        rw [e]
        simp only [Bool.and_eq_true, Bool.not_eq_true'] at h3
        rw [h3.1] at h1
        have hne : ¬ v.saga.done = v.saga.steps.length := by simpa using h1
        exact .dec i v 2 v.saga.done hi hst hw hput (.inr (.inr ⟨rfl, rfl, h3.1, h3.2, by omega⟩))
      | false =>
      have hdn : (doneAt w v.saga).2.2 = 0 := by
        rw [nextW] at hm
        simp only at hm
        rw [if_neg (by rw [h1]; decide), if_neg (by rw [h2]; decide), if_neg (by rw [h3]; decide)] at hm
        split at hm
        · assumption
        · exact hm
      have e : nextW w v = (calledW w v.saga, (if (answeredL w.clock v (doneAt w v.saga).2.1).2.2 then { (answeredL w.clock v (doneAt w v.saga).2.1).1 with write := (answeredL w.clock v (doneAt w v.saga).2.1).2.1 } else (answeredL w.clock v (doneAt w v.saga).2.1).1), 0) := by
        rw [nextW]; simp only; rw [if_neg (by rw [h1]; decide), if_neg (by rw [h2]; decide), if_neg (by rw [h3]; decide), if_pos hdn]
      rw [e]
      obtain ⟨j, hj⟩ := call_at hs hst h1 h2 h3
      obtain ⟨g, st, hc⟩ := h.callAt hs hj
      have hdo : Does g (entryW v.saga) (noneAt w v.saga) (outW w) (doneAt w v.saga).1 (doneAt w v.saga).2.1 := by
        have hdn' := hdn
        rw [doneAt, hc.gAt] at hdn' ⊢
        exact does_of hdn'
      have hwt : IntKind.i64.wrap (w.taken + 1) = w.taken + 1 := wrapI (by have := h.k0; have := h.k1; omega)
      have hcw : calledW w v.saga = { w with ledgers := w.ledgers.set (st.service - 1).toNat (doneAt w v.saga).1, taken := w.taken + 1 } := by rw [calledW, hc.stAt, hwt]
      rw [hcw]
      have hat := hj.at'
      have hml := most_le hpt
      have l0 := hpt.l0
      have l1 := hpt.l1
      refine .call i v j st g _ _ hi hst hb hw hput ⟨hc, hj, hdo, fun hbk => ?_, fun hbk => ?_⟩
      · rw [hbk] at h3
        rw [stepI, hbk, if_neg (by decide)] at hat
        exact ⟨by simpa using h3, hat⟩
      · rw [stepI, hbk, if_pos rfl, wrapI (by omega)] at hat
        omega
    · have e : moveW w v = writtenW w v := by rw [moveW, if_pos (by simpa using hk)]
      rw [e] at hm ⊢
      have hr : ¬ v.write.kind = 1 ∧ recB v.write = true ∧ fitsL v = true := by
        rcases hl.wr with e | e
        · exact absurd (hl.zero.2 e.1) hk
        · exact e
      cases hp : v.put with
      | true =>
        have e : writtenW w v = ({ w with file := (crashP w.file w.file.tail.size).1 }, ⟨nextS v.saga v.write, 0, w.clock, zRec, false⟩, 0) := by rw [writtenW, if_pos hp]
        rw [e]
        exact .sync i v hi hst hp hr.1 hr.2.1 hr.2.2
      | false =>
        have hd : (jappP w.file v.write).2 = 0 := by
          rw [writtenW, if_neg (by rw [hp]; decide)] at hm
          split at hm
          · assumption
          · exact hm
        have e : writtenW w v = ({ w with file := (jappP w.file v.write).1 }, { v with put := true }, 0) := by rw [writtenW, if_neg (by rw [hp]; decide), if_pos hd]
        rw [e]
        exact .app i v hi hst hp hr.1 hr.2.1 hr.2.2 hd
/-- What an answer leads to, case by case. -/
inductive Ans (c : Int) (v : Live) (a : Int) : Live → Prop
  | wait (h : a = 2) (hb : v.saga.back = true ∨ v.tries + 1 < 4) (due : Int) (hd : c ≤ due ∧ due ≤ c + 8) : Ans c v a { v with tries := v.tries + 1, due := due }
  | gave (h : a = 2) (hb : v.saga.back = false) (ht : 4 ≤ v.tries + 1) : Ans c v a { v with tries := v.tries + 1, write := ⟨4, v.saga.id, 0, ⟨#[]⟩, ⟨#[]⟩, []⟩ }
  | abort (h : a = 1) (hb : v.saga.back = false) : Ans c v a { v with write := ⟨4, v.saga.id, 0, ⟨#[]⟩, ⟨#[]⟩, []⟩ }
  | stuck (h : a = 1) (hb : v.saga.back = true) : Ans c v a { v with write := ⟨6, v.saga.id, 3, ⟨#[]⟩, ⟨#[]⟩, []⟩ }
  | undone (h1 : ¬ a = 1) (h2 : ¬ a = 2) (hb : v.saga.back = true) : Ans c v a { v with write := ⟨5, v.saga.id, v.saga.left - 1, ⟨#[]⟩, ⟨#[]⟩, []⟩ }
  | done (h1 : ¬ a = 1) (h2 : ¬ a = 2) (hb : v.saga.back = false) : Ans c v a { v with write := ⟨3, v.saga.id, v.saga.done, ⟨#[]⟩, ⟨#[]⟩, []⟩ }
theorem ans_of {c : Int} {v : Live} {a : Int} (hc : 0 ≤ c ∧ c ≤ 1073741824) (ht : 0 ≤ v.tries ∧ v.tries ≤ 4611686018427387903) (hl : 0 ≤ v.saga.left ∧ v.saga.left ≤ 6) :
    Ans c v a (if (answeredL c v a).2.2 then { (answeredL c v a).1 with write := (answeredL c v a).2.1 } else (answeredL c v a).1) := by
  have hwt : IntKind.i64.wrap (v.tries + 1) = v.tries + 1 := wrapI (by omega)
  have hlong := long_le (IntKind.i64.wrap (v.tries + 1))
  have hdue : IntKind.i64.wrap (c + longI (IntKind.i64.wrap (v.tries + 1))) = c + longI (IntKind.i64.wrap (v.tries + 1)) := wrapI (by omega)
  have hlw : IntKind.i64.wrap (v.saga.left - 1) = v.saga.left - 1 := wrapI (by omega)
  unfold answeredL
  simp only [hwt, hlw] at hdue hlong ⊢
  by_cases ha : a = 2
  · rw [if_pos ha]
    by_cases hr : (v.saga.back || decide (v.tries + 1 < 4)) = true
    · rw [if_pos hr]
      simp only [Bool.false_eq_true, if_false, hdue]
      simp only [Bool.or_eq_true, decide_eq_true_eq] at hr
      exact .wait ha hr _ ⟨by omega, by omega⟩
    · rw [if_neg hr]
      simp only [if_true]
      simp only [Bool.or_eq_true, not_or, Bool.not_eq_true, decide_eq_true_eq] at hr
      exact .gave ha hr.1 (by omega)
  rw [if_neg ha]
  by_cases hb : a = 1 ∧ v.saga.back = false
  · rw [if_pos hb]
    simp only [if_true]
    exact .abort hb.1 hb.2
  rw [if_neg hb]
  by_cases hb1 : a = 1
  · rw [if_pos hb1]
    simp only [if_true]
    have hbk : v.saga.back = true := by
      cases h : v.saga.back with
      | true => rfl
      | false => exact absurd ⟨hb1, h⟩ hb
    exact .stuck hb1 hbk
  rw [if_neg hb1]
  cases hbk : v.saga.back with
  | true =>
    simp only [if_true]
    exact .undone hb1 ha hbk
  | false =>
    simp only [Bool.false_eq_true, if_false, if_true]
    exact .done hb1 ha hbk
/-! ### A record applied, case by case -/
inductive Nx (s : Saga) (r : Rec) : Saga → Prop
  | call (hk : r.kind = 2) (hn : r.n = s.done) (hb : s.back = false) (ho : s.out = false) (hd : s.done < s.steps.length) : Nx s r { s with out := true }
  | done (hk : r.kind = 3) (hn : r.n = s.done) (hb : s.back = false) (ho : s.out = true) : Nx s r { s with done := s.done + 1, out := false }
  | abort (hk : r.kind = 4) (hb : s.back = false) (ho : s.out = true) : Nx s r { s with back := true, left := s.done + 1 }
  | undone (hk : r.kind = 5) (hn : r.n = s.left - 1) (hb : s.back = true) (hl : 1 ≤ s.left) : Nx s r { s with left := s.left - 1 }
  | ends (hk : r.kind = 6) (hn : 1 ≤ r.n ∧ r.n ≤ 3) (he : endsB s r.n = true) : Nx s r { s with status := r.n }
theorem nx_of {s : Saga} {r : Rec} (hs : sagaB s = true) (hr : recB r = true) (hf : fitsB s r = true) : Nx s r (nextS s r) := by
  have hp := parts_iff.1 hs
  have hl := parts_len hp
  have hml := most_le hp
  have p0 := hp.d0
  have p1 := hp.d1
  have p2 := hp.l0
  have p3 := hp.l1
  obtain ⟨id, key, body, steps, done, out, back, left, status⟩ := s
  simp only at hl p0 p1 p2
  unfold fitsB at hf
  split at hf
  · rename_i hk
    simp only [Bool.and_eq_true, Bool.not_eq_true', beq_iff_eq, decide_eq_true_eq] at hf
    obtain ⟨h1, h2, h3, h4⟩ := hf
    rw [nextS, if_pos hk]
    exact .call hk h3 h1 h2 h4
  split at hf
  · rename_i hk2 hk
    simp only [Bool.and_eq_true, Bool.not_eq_true', beq_iff_eq] at hf
    obtain ⟨h1, h2, h3⟩ := hf
    rw [nextS, if_neg hk2, if_pos hk]
    dsimp only
    rw [wrapI (n := done + 1) (by omega)]
    exact .done hk h3 h1 h2
  split at hf
  · rename_i hk2 hk3 hk
    simp only [Bool.and_eq_true, Bool.not_eq_true'] at hf
    rw [nextS, if_neg hk2, if_neg hk3, if_pos hk]
    dsimp only
    rw [wrapI (n := done + 1) (by omega)]
    exact .abort hk hf.1 hf.2
  split at hf
  · rename_i hk2 hk3 hk4 hk
    simp only [Bool.and_eq_true, beq_iff_eq] at hf
    have hnn := kind_n hr (.inr (.inr hk))
    have hlw : IntKind.i64.wrap (left - 1) = left - 1 := wrapI (by simp only [mostI] at p3 hml; omega)
    rw [hlw] at hf
    rw [nextS, if_neg hk2, if_neg hk3, if_neg hk4, if_pos hk]
    dsimp only
    rw [hf.2]
    exact .undone hk hf.2 hf.1 (by simp only; omega)
  split at hf
  · rename_i hk2 hk3 hk4 hk5 hk
    have hnn := rec_end hr hk
    rw [nextS, if_neg hk2, if_neg hk3, if_neg hk4, if_neg hk5]
    exact .ends hk hnn hf
  · cases hf
/-! ### Sums over lives -/
def sumI (f : Live → Int) : List Live → Int
  | [] => 0
  | v :: l => f v + sumI f l
theorem sumI_set {f : Live → Int} : ∀ {l : List Live} {i : Nat} {v x : Live}, l[i]? = some v → sumI f (l.set i x) = sumI f l - f v + f x
  | [], i, v, x, h => by simp at h
  | a :: l, 0, v, x, h => by simp at h; subst h; simp only [List.set, sumI]; omega
  | a :: l, i + 1, v, x, h => by
    have := sumI_set (f := f) (x := x) (show l[i]? = some v by simpa using h)
    simp only [List.set, sumI, this]; omega
theorem sumI_le {f g : Live → Int} : ∀ {l : List Live}, (∀ v ∈ l, f v ≤ g v) → sumI f l ≤ sumI g l
  | [], _ => Int.le_refl _
  | a :: l, h => by
    have h1 := h a (by simp)
    have h2 := sumI_le (f := f) (g := g) (l := l) fun v hv => h v (by simp [hv])
    simp only [sumI]; omega
theorem sumI_ge {f : Live → Int} {l : List Live} (h : ∀ v ∈ l, 0 ≤ f v) : 0 ≤ sumI f l := by
  induction l with
  | nil => exact Int.le_refl _
  | cons a l ih =>
    have h1 := h a (by simp)
    have h2 := ih fun v hv => h v (by simp [hv])
    simp only [sumI]; omega
theorem sumI_mem {f : Live → Int} : ∀ {l : List Live} {v : Live}, (∀ v ∈ l, 0 ≤ f v) → v ∈ l → f v ≤ sumI f l
  | a :: l, v, h, hv => by
    have h1 := h a (by simp)
    have h2 := sumI_ge (f := f) (l := l) fun v hv => h v (by simp [hv])
    simp only [sumI]
    rcases List.mem_cons.1 hv with e | e
    · rw [e]; omega
    · have := sumI_mem (f := f) (fun v hv => h v (by simp [hv])) e
      omega
theorem sumI_bd {f : Live → Int} {c : Int} : ∀ {l : List Live}, (∀ v ∈ l, f v ≤ c) → sumI f l ≤ c * l.length
  | [], _ => by simp [sumI]
  | a :: l, h => by
    have h1 := h a (by simp)
    have h2 := sumI_bd (f := f) (c := c) (l := l) fun v hv => h v (by simp [hv])
    simp only [sumI, List.length_cons]
    have : c * ((l.length + 1 : Nat) : Int) = c * l.length + c := by rw [Int.natCast_add, Int.mul_add]; simp
    omega
end Go.Rx

/- Room for a saga; whether one may begin. -/
set_option linter.unusedVariables false
set_option linter.unusedSimpArgs false
namespace Go.Rx
def beginsB (r : Rec) : Bool := r.kind == 1 && recB r
def roomGo : List Live → Int → Int
  | [], n => n
  | v :: l, n => roomGo l (IntKind.i64.wrap (n + roomI v.saga))
def needW (w : Wd) (r : Rec) : Int := roomGo w.lives (IntKind.i64.wrap (((frmR r).1.size : Int) + roomI (beginS r).1))
def roomW (w : Wd) (r : Rec) : Bool × Int := if (frmR r).2 = 0 then (decide (needW w r ≤ roomF w.file), 0) else (false, (frmR r).2)
abbrev boolI (p : Bool × Int) : AV := .tup [.lf (.pv (pB p.1)), .lf (.pv (pI p.2))]
theorem finBI {b : Bool} {e : Int} {q : Bool × Int} (h : Fin (b, e) q) : ∃ zs, Fa WkA [Bl b, I e] zs ∧ pack zs = some (boolI q) := ⟨_, wk_refl _, by rw [← h.out]; rfl⟩
theorem room_go {l : List Live} {k : Nat} {n : Int} (h : k < l.length) : roomGo (l.drop k) n = roomGo (l.drop (k + 1)) (IntKind.i64.wrap (n + roomI l[k].saga)) := by rw [List.drop_eq_getElem_cons h, roomGo]
theorem room_end {l : List Live} {k : Nat} {n : Int} (h : l.length ≤ k) : roomGo (l.drop k) n = n := by rw [List.drop_of_length_le h, roomGo]
def readyW (w : Wd) (r : Rec) : FileS × Int :=
  if !(worldB w) || (!(beginsB r) || (r.id != IntKind.i64.wrap ((w.lives.length : Int) + 1) || decide (0 ≤ keyI (sagasL w.lives) r.key))) then (zF, 1)
  else if (roomW w r).2 = 0 then (if (roomW w r).1 then jappP w.file r else (zF, 7)) else (zF, (roomW w r).2)
theorem worldB_file {w : Wd} (h : worldB w = true) : fileB w.file = true := by
  unfold worldB at h
  split at h
  · cases h
  split at h
  · cases h
  · rename_i h2
    cases hf : fileB w.file with
    | true => rfl
    | false => rw [hf] at h2; simp at h2
end Go.Rx
namespace Go.Proofs.YtfjllfjmggooeaaGreatDoor.Rx
open Go.Rx Go.Proofs Go.Proofs.YtfjllfjmggooeaaGreatDoor.RxH
theorem begins_con (r : Rec) (hr : r.Ok) : Con P 108 [encRec r] (Bl (beginsB r)) [] := by
  refine Con.of T_ok Tryz.func108 rfl (by kernel_rfl) (by kernel_rfl) (aw_of T_ok (by kernel_rfl) ?_)
  conv => whnf
  split <;> rename_i h1 <;> conv => whnf
  · refine callS (recMay_con r hr) rfl ?_
    conv => whnf
    exact finB ⟨by rw [beginsB, show (r.kind == 1) = true from h1]; rfl⟩
  · exact finB ⟨by rw [beginsB, show (r.kind == 1) = false from h1]; rfl⟩
theorem roomIn_con (w : Wd) (hw : w.Ok) (r : Rec) (hr : r.Ok) (hb : worldB w = true) (hB : beginsB r = true) : Con P 110 [encWd w, encRec r] (boolI (roomW w r)) [] := by
  have hB' : recB r = true := by rw [beginsB, Bool.and_eq_true] at hB; exact hB.2
  have cf := rframe_con r (small_of hB')
  have cb := beginTop_con r hr
  have cr := room_con (beginS r).1
  have hq : roomW w r = if (frmR r).2 = 0 then (decide (roomGo w.lives (IntKind.i64.wrap (((frmR r).1.size : Int) + roomI (beginS r).1)) ≤ roomF w.file), 0) else (false, (frmR r).2) := rfl
  have cfr := froom_con w.file hw.file (worldB_file hb)
  have hll := hw.ll
  generalize frmR r = x at cf hq
  generalize beginS r = y at cb cr hq
  obtain ⟨b, e⟩ := x
  obtain ⟨s0, e0⟩ := y
  simp only at hq cr
  have hlm : (w.lives.map Live.enc).length = w.lives.length := List.length_map ..
  obtain ⟨q, he⟩ : ∃ q, q = roomW w r := ⟨_, rfl⟩
  rw [← he] at hq ⊢
  refine Con.of T_ok Tryz.func110 rfl (by kernel_rfl) (by kernel_rfl) (aw_of T_ok (by kernel_rfl) ?_)
  conv => whnf
  refine callU cf (fun _ => rfl) ?_
  conv => whnf
  split <;> rename_i h1 <;> conv => whnf
  · have h1' : ¬ e = 0 := by have h2 : (e != 0) = true := h1; simpa using h2
    exact finBI ⟨by rw [hq, if_neg h1']⟩
  have h1' : e = 0 := by have h2 : (e != 0) = false := h1; simpa using h2
  rw [if_pos h1'] at hq
  refine callU cb (fun _ => rfl) ?_
  conv => whnf
  refine callS cr rfl ?_
  conv => whnf
  obtain ⟨m, hm⟩ : ∃ m, m = roomGo w.lives (IntKind.i64.wrap ((b.size : Int) + roomI s0)) := ⟨_, rfl⟩
  rw [← hm] at hq
  refine AW.loop (fun p : Nat × Int => p.1 ≤ w.lives.length ∧ roomGo (w.lives.drop p.1) p.2 = m) (fun p => [(2, .lf (.ptr 0 0)), (10, Go.Rx.I p.2), (32, .lf (.pv (encLives w.lives))), (33, Go.Rx.I w.lives.length), (34, Go.Rx.I p.1)]) (fun _ => [.var w.lfs]) (fun p => w.lives.length - p.1) [] ?_ ?_
  · exact ⟨(0, _), ⟨Nat.zero_le _, hm.symm⟩, ⟨rfl, rfl, rfl, congrArg (fun n : Nat => Go.Rx.I (n : Int)) (List.length_map ..), rfl, trivial⟩, ⟨[_, _], rfl⟩, rfl, rfl⟩
  rintro ⟨k, n⟩ ⟨hk, hpre⟩
  simp only at hk hpre
  refine aw_of T_ok (by kernel_rfl) ?_
  conv => whnf
  split <;> rename_i hlt <;> conv => whnf
  · have hkl : k < w.lives.length := by have := of_decide_eq_true hlt; omega
    have hrow : (w.lives.map Live.enc)[k]? = some w.lives[k].enc := by simp [hkl]
    rw [room_go hkl] at hpre
    generalize w.lives[k] = v at hrow hpre
    refine ⟨by omega, _, hrow, ?_⟩
    conv => whnf
    refine callS (room_con v.saga) rfl ?_
    conv => whnf
    exact ⟨(k + 1, _), ⟨⟨hkl, hpre⟩, by show w.lives.length - (k + 1) < w.lives.length - k; omega⟩, ⟨rfl, rfl, rfl, rfl, congrArg Go.Rx.I (wrapI (by omega)), trivial⟩, ⟨[_], rfl⟩, rfl, rfl⟩
  · have hkl : w.lives.length ≤ k := by have := of_decide_eq_false hlt; omega
    rw [room_end hkl] at hpre
    refine callS cfr rfl ?_
    conv => whnf
    exact finBI ⟨by rw [hq, ← hpre]⟩
theorem ready_con (w : Wd) (hw : w.Ok) (r : Rec) (hr : r.Ok) : Con P 69 [encWd w, encRec r] (fileE (readyW w r)) [] := by
  have cm := worldMay_con w hw
  have cb := begins_con r hr
  have cs := sagas_con w.lives hw.ll
  have hsm : ((sagasL w.lives).map Saga.enc).length = (sagasL w.lives).length := List.length_map ..
  have hlm : (w.lives.map Live.enc).length = w.lives.length := List.length_map ..
  have ck := keyed_con (sagasL w.lives) r.key (by rw [sagasL, List.length_map]; have := hw.ll; omega)
  have cj := jappend_con w.file hw.file r hr
  have ci := roomIn_con w hw r hr
  have hq : readyW w r = if !(worldB w) || (!(beginsB r) || (r.id != IntKind.i64.wrap ((w.lives.length : Int) + 1) || decide (0 ≤ keyI (sagasL w.lives) r.key))) then (zF, 1)
    else if (roomW w r).2 = 0 then (if (roomW w r).1 then jappP w.file r else (zF, 7)) else (zF, (roomW w r).2) := rfl
  obtain ⟨q, he⟩ : ∃ q, q = readyW w r := ⟨_, rfl⟩
  rw [← he] at hq ⊢
  refine Con.of T_ok Tryz.func69 rfl (by kernel_rfl) (by kernel_rfl) (aw_of T_ok (by kernel_rfl) ?_)
  conv => whnf
  refine AW.draw T_ok rfl (listPl [0, 1, 2, 3, 4, 5, 6, 7, 8, 9, 10, 11, 12, 13, 14, 15, 16, 17, 18, 19, 21, 22, 20, 23, 24, 25]) (by kernel_rfl) (by kernel_rfl) ?_
  conv => whnf
  refine callS cm rfl ?_
  conv => whnf
  cases h1 : worldB w with
  | false =>
    rw [h1] at hq
    conv => whnf
    exact finFE ⟨hq.symm⟩
  | true =>
  rw [h1] at hq
  conv => whnf
  refine callS cb rfl ?_
  conv => whnf
  cases h2 : beginsB r with
  | false =>
    rw [h2] at hq
    conv => whnf
    exact finFE ⟨hq.symm⟩
  | true =>
  rw [h2] at hq
  have ci' := ci h1 h2
  generalize roomW w r = x at ci' hq
  generalize jappP w.file r = y at cj hq
  conv => whnf
  split <;> rename_i h3 <;> conv => whnf
  · have h3' : (r.id != IntKind.i64.wrap ((w.lives.length : Int) + 1)) = true := by rw [← hlm]; exact h3
    exact finFE ⟨by rw [hq, h3']; rfl⟩
  have h3' : (r.id != IntKind.i64.wrap ((w.lives.length : Int) + 1)) = false := by rw [← hlm]; exact h3
  rw [h3'] at hq
  refine ⟨_, _, _, wk_refl _, cs, .inr ?_⟩
  conv => whnf
  refine ⟨hsm, ?_⟩
  conv => whnf
  refine callS ck rfl ?_
  conv => whnf
  generalize keyI (sagasL w.lives) r.key = kk at hq
  split <;> rename_i h4 <;> conv => whnf
  · have h4' : decide (0 ≤ kk) = true := h4
    exact finFE ⟨by rw [hq, h4']; rfl⟩
  have h4' : decide (0 ≤ kk) = false := h4
  rw [h4', if_neg (by decide)] at hq
  refine callU ci' (fun _ => rfl) ?_
  obtain ⟨ok, e⟩ := x
  simp only at hq
  conv => whnf
  split <;> rename_i h5 <;> conv => whnf
  · have h5' : ¬ e = 0 := by have h6 : (e != 0) = true := h5; simpa using h6
    exact finFE ⟨by rw [hq, if_neg h5']; rfl⟩
  have h5' : e = 0 := by have h6 : (e != 0) = false := h5; simpa using h6
  rw [if_pos h5'] at hq
  cases ok with
  | false =>
    conv => whnf
    exact finFE ⟨by rw [hq]; rfl⟩
  | true =>
    conv => whnf
    refine callU cj (fun _ => rfl) ?_
    conv => whnf
    exact finFE ⟨by rw [hq]; rfl⟩
end Go.Proofs.YtfjllfjmggooeaaGreatDoor.Rx

/- A saga begins in a world; a world without sagas. -/
set_option linter.unusedVariables false
set_option linter.unusedSimpArgs false
namespace Go.Rx
def beginWd (w : Wd) (r : Rec) : Wd × Int :=
  if (readyW w r).2 = 0 then ({ w with file := (crashP (readyW w r).1 (readyW w r).1.tail.size).1, lives := w.lives ++ [⟨(beginS r).1, 0, w.clock, zRec, false⟩] }, 0) else (zWd, (readyW w r).2)
def newL : List Ledger := [⟨1, [], []⟩, ⟨2, [], []⟩, ⟨3, [], []⟩, ⟨4, [], []⟩]
def newWd (size : Int) (outs : List Int) : Wd × Int :=
  if (newF size).2 = 0 then (if worldB ⟨0, (newF size).1, newL, [], outs, 0⟩ then (⟨0, (newF size).1, newL, [], outs, 0⟩, 0) else (zWd, 1)) else (zWd, (newF size).2)
theorem jappP_ok {f : FileS} {r : Rec} (h : (jappP f r).2 = 0) : (jappP f r).1.Ok := by
  unfold jappP at h ⊢
  split at h
  · rename_i hb
    rw [if_pos hb]
    split at h
    · rename_i h2
      rw [if_pos h2]
      unfold fappP at h ⊢
      rw [if_pos hb] at h ⊢
      split at h
      · cases h
      · rename_i h3
        rw [if_neg h3]
        have h4 := fileB_iff.1 hb
        unfold roomF at h3
        refine ⟨?_, ?_⟩
        · show f.safe.size ≤ _; omega
        · show (f.tail ++ (bytesR r).1).size ≤ _; rw [ByteArray.size_append]; omega
    · rename_i h2; exact absurd h h2
  · cases h
theorem readyW_ok {w : Wd} {r : Rec} (h : (readyW w r).2 = 0) : (readyW w r).1.Ok := by
  unfold readyW at h ⊢
  split at h
  · cases h
  rename_i h1
  rw [if_neg h1]
  split at h
  · rename_i h2
    rw [if_pos h2]
    split at h
    · rename_i h3
      rw [if_pos h3]
      exact jappP_ok h
    · cases h
  · rename_i h2; exact absurd h h2
abbrev Live.encZ (s : Saga) (c : Int) : List PV := [pI s.id, pS s.key, pS s.body, encSteps s.steps, pI s.done, pB s.out, pB s.back, pI s.left, pI s.status, pI 0, pI c, pI 0, pI 0, pI 0, pS ⟨#[]⟩, pS ⟨#[]⟩, .sc (.slice none 0 0), pB false]
theorem encZ_wk (s : Saga) (c : Int) : Fa WkP (Live.encZ s c) (Live.enc ⟨s, 0, c, zRec, false⟩) :=
  ⟨wkP_refl _, wkP_refl _, wkP_refl _, wkP_refl _, wkP_refl _, wkP_refl _, wkP_refl _, wkP_refl _, wkP_refl _, wkP_refl _, wkP_refl _, wkP_refl _, wkP_refl _, wkP_refl _, wkP_refl _, wkP_refl _, wkP_nil 6, wkP_refl _, trivial⟩
theorem finWB {c t : Int} {f : FileS} {g : List Ledger} {l : List Live} {o : List Int} {s : Saga} {q : Wd × Int} (h : Fin (⟨c, f, g, l ++ [⟨s, 0, c, zRec, false⟩], o, t⟩, 0) q) :
    ∃ zs, Fa WkA [.agg [.pv (pI c), .pv (pS f.safe), .pv (pS f.tail), .pv (pI f.cap), .pv (encLedgers g), .pv (.sl 18 (l.map Live.enc ++ [Live.encZ s c])), .pv (encInts o), .pv (pI t)], I 0] zs ∧ pack zs = some (wdE q) := by
  rw [← h.out]
  refine ⟨[.agg (Wd.lfs ⟨c, f, g, l ++ [⟨s, 0, c, zRec, false⟩], o, t⟩), I 0], ⟨.inr (.inr ⟨_, _, rfl, rfl, .inl rfl, .inl rfl, .inl rfl, .inl rfl, .inl rfl, ?_, .inl rfl, .inl rfl, trivial⟩), .inl rfl, trivial⟩, rfl⟩
  refine .inr ⟨_, _, rfl, rfl, wkPR ?_⟩
  rw [List.map_append]
  exact (fa_reflX (fun _ => fa_reflX wkP_refl _) _).append ⟨encZ_wk s c, trivial⟩
end Go.Rx
namespace Go.Proofs.YtfjllfjmggooeaaGreatDoor.Rx
open Go.Rx Go.Proofs Go.Proofs.YtfjllfjmggooeaaGreatDoor.RxH
set_option maxHeartbeats 4000000 in
theorem beginWd_con (w : Wd) (hw : w.Ok) (r : Rec) (hr : r.Ok) : Con P 35 [encWd w, encRec r] (wdE (beginWd w r)) [] := by
  have cr := ready_con w hw r hr
  have co := wown_con w hw
  have cb := beginTop_con r hr
  have hok := @readyW_ok w r
  have hq : beginWd w r = if (readyW w r).2 = 0 then ({ w with file := (crashP (readyW w r).1 (readyW w r).1.tail.size).1, lives := w.lives ++ [⟨(beginS r).1, 0, w.clock, zRec, false⟩] }, 0) else (zWd, (readyW w r).2) := rfl
  generalize beginS r = y at cb hq
  generalize readyW w r = x at cr hok hq
  obtain ⟨f, e⟩ := x
  obtain ⟨s0, e0⟩ := y
  simp only at hok hq
  have hgm : (w.ledgers.map Ledger.enc).length = w.ledgers.length := List.length_map ..
  have hlm : (w.lives.map Live.enc).length = w.lives.length := List.length_map ..
  have hom : (intRows w.outs).length = w.outs.length := List.length_map ..
  have hll := hw.ll
  obtain ⟨q, he⟩ : ∃ q, q = beginWd w r := ⟨_, rfl⟩
  rw [← he] at hq ⊢
  refine Con.of T_ok Tryz.func35 rfl (by kernel_rfl) (by kernel_rfl) (aw_of T_ok (by kernel_rfl) ?_)
  conv => whnf
  refine callU cr (fun _ => rfl) ?_
  conv => whnf
  split <;> rename_i h1 <;> conv => whnf
  · have h1' : ¬ e = 0 := by have h2 : (e != 0) = true := h1; simpa using h2
    exact finWZ ⟨by rw [hq, if_neg h1']⟩
  have h1' : e = 0 := by have h2 : (e != 0) = false := h1; simpa using h2
  rw [if_pos h1'] at hq
  have cs := fsync_con f (hok h1')
  generalize crashP f f.tail.size = z at cs hq
  obtain ⟨f2, e2⟩ := z
  refine ⟨_, _, _, wk_refl _, co, .inr ?_⟩
  conv => whnf
  refine callU cs (fun _ => rfl) ?_
  conv => whnf
  refine callU cb (fun _ => rfl) ?_
  conv => whnf
  refine ⟨rfl, _, .inl rfl, ?_⟩
  conv => whnf
  refine ⟨hlm, by show (w.lives.length + 1) * 200 ≤ _; omega, ?_⟩
  conv => whnf
  refine ⟨hgm, ?_⟩
  conv => whnf
  refine ⟨by rw [List.length_append, hlm], ?_⟩
  conv => whnf
  refine ⟨hom, ?_⟩
  conv => whnf
  exact finWB ⟨hq.symm⟩
end Go.Proofs.YtfjllfjmggooeaaGreatDoor.Rx
