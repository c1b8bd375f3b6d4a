/- The texts of the proof, part 4, in order. -/
import Derived.Test.YtfjllfjmggooeaaGreatDoorZc
import Derived.Tactics
import Derived.WalkKit
import Derived.Lib.Strings
import Derived.Lib.Walk
import Derived.Lib.Builder
import Derived.Lib.UnsafeStr
import Derived.Laws.Externs
import Derived.Lib.Hide
import Derived.WalkSpells
import Derived.Below
import Derived.Shelf.Strings.BuilderF
import Derived.KernelRfl
/- One word, and names, as the page has them. -/
set_option linter.unusedVariables false
set_option linter.unusedSimpArgs false
namespace Go.Rx
def digC (c : UInt8) : Bool := digN c.toNat
def signB : List UInt8 := [33, 36, 40, 41, 58, 61, 64, 91, 93, 123, 125]
def numL (s : ByteArray) : Nat := 1 + ((s.data.toList.drop 1).takeWhile digC).length
def oneI (s : ByteArray) (c : UInt8) : Int :=
  if letN c.toNat then wordL s else if ((c.toNat : Int) == 45) || digN c.toNat then (if (intR (s.extract 0 (numL s))).2 then (numL s : Int) else 0)
  else if (c.toNat : Int) == 34 then (textGo (s.data.toList.drop 1) 1 ⟨#[]⟩).1
  else if decide (2 < (s.size : Int)) && (s.extract 0 3 == ⟨#[46, 46, 46]⟩) then 3 else if signB.any (fun x => ((x.toNat : Int) == c.toNat)) then 1 else 0
theorem any_go {α : Type} {p : α → Bool} {l : List α} {k : Nat} (h : k < l.length) : (l.drop k).any p = (p l[k] || (l.drop (k + 1)).any p) := by
  rw [List.drop_eq_getElem_cons h, List.any_cons]
theorem any_end {α : Type} {p : α → Bool} {l : List α} {k : Nat} (h : l.length ≤ k) : (l.drop k).any p = false := by
  rw [List.drop_of_length_le h]; rfl
end Go.Rx
namespace Go.Proofs.YtfjllfjmggooeaaGreatDoor.Rx
open Go.Rx Go.Proofs Go.Proofs.YtfjllfjmggooeaaGreatDoor.RxH

theorem one_con (s : ByteArray) (hs : okS s) (h0 : 0 < s.size) : Con P 199 [Sx s] (I (oneI s s[0])) [] := by
  have hs' := hs
  simp only [okS] at hs
  refine Con.of T_ok Tryz.func199 rfl (by kernel_rfl) (by kernel_rfl) (aw_ofC T_ok 0 (by kernel_rfl) ?_)
  conv => whnf
  refine ⟨by omega, s[0], atB h0, ?_⟩
  conv => whnf
  refine AW.cut (fun _ : Unit => oneI s s[0] = if signB.any (fun x => ((x.toNat : Int) == s[0].toNat)) then 1 else 0) (fun _ => [(4, U8 s[0].toNat)]) (fun _ => []) [] (AW.block (aw_ofC T_ok 2009 (by kernel_rfl) ?_)) ?_
  rotate_left
  · rintro _ hI
    rw [hI]
    refine aw_of T_ok (by kernel_rfl) ?_
    conv => whnf
    refine ⟨rfl, ?_⟩
    conv => whnf
    refine AW.loop (fun k : Nat => k ≤ 11 ∧ (signB.drop k).any (fun x => ((x.toNat : Int) == s[0].toNat)) = signB.any (fun x => ((x.toNat : Int) == s[0].toNat))) (fun k => [(4, U8 s[0].toNat), (83, .lf (.pv (.sl 1 (signB.map fun c => [pU8 c.toNat])))), (84, Go.Rx.I 11), (85, Go.Rx.I k)]) (fun _ => []) (fun k => 11 - k) [] ?_ ?_
    · exact ⟨0, ⟨Nat.zero_le _, rfl⟩, ⟨rfl, rfl, rfl, rfl, trivial⟩, ⟨_, rfl⟩, rfl, rfl⟩
    rintro k ⟨hk, hpre⟩
    rw [← hpre]
    refine aw_of T_ok (by kernel_rfl) ?_
    conv => whnf
    split <;> rename_i hlt <;> conv => whnf
    · have hk11 : k < 11 := by have := of_decide_eq_true hlt; omega
      have hks : k < signB.length := hk11
      rw [any_go hks]
      refine ⟨by omega, [pU8 signB[k].toNat], by rw [Int.toNat_natCast, List.getElem?_map, List.getElem?_eq_getElem hks]; rfl, ?_⟩
      conv => whnf
      split <;> rename_i he <;> conv => whnf
      · exact finI ⟨by rw [if_pos (by rw [show ((signB[k].toNat : Int) == s[0].toNat) = true from he]; rfl)]⟩
      · refine ⟨k + 1, ⟨⟨by omega, ?_⟩, by omega⟩, ⟨rfl, rfl, rfl, congrArg Go.Rx.I (wrapI (by omega)), trivial⟩, ⟨[], rfl⟩, rfl, rfl⟩
        rw [show ((signB[k].toNat : Int) == s[0].toNat) = false from he, Bool.false_or]
    · have hks : signB.length ≤ k := by have := of_decide_eq_false hlt; show 11 ≤ k; omega
      exact finI ⟨by rw [any_end hks]; rfl⟩
  conv => whnf
  refine callS (letter2_con s[0].toNat) rfl ?_
  conv => whnf
  split <;> rename_i h1 <;> conv => whnf
  · rw [oneI, if_pos h1]
    refine AW.loop (fun k : Nat => k ≤ s.size ∧ k + ((s.data.toList.drop k).takeWhile wordC).length = runB wordC s) (fun k => [(0, Sx s), (3, Go.Rx.I k)]) (fun _ => []) (fun k => s.size - k) [] ?_ ?_
    · exact ⟨0, ⟨Nat.zero_le _, by rw [runB, List.drop_zero, Nat.zero_add]⟩, ⟨rfl, rfl, trivial⟩, ⟨[], rfl⟩, rfl, rfl⟩
    rintro k ⟨hk, hpre⟩
    have fin : k = runB wordC s → ∀ b, decide (12 < (k : Int)) = b → (if b then (0 : Int) else k) = wordL s := fun h b hb => by
      subst hb
      rw [wordL, ← h]
      by_cases c : 12 < k
      · rw [if_pos c, if_pos (decide_eq_true (by omega))]
      · rw [if_neg c, if_neg (by rw [decide_eq_false (by omega)]; decide)]
    refine aw_of T_ok (by kernel_rfl) ?_
    conv => whnf
    split <;> rename_i hlt <;> conv => whnf
    · have hks : k < s.size := by simpa using hlt
      refine ⟨by omega, s[k], atB hks, ?_⟩
      conv => whnf
      refine callS (letter2_con s[k].toNat) rfl ?_
      conv => whnf
      split <;> rename_i h2 <;> conv => whnf
      · have hw : wordC s[k] = true := by rw [wordC, wordN, h2]; rfl
        rw [run_go hks hw] at hpre
        exact ⟨k + 1, ⟨⟨by omega, hpre⟩, by omega⟩, ⟨rfl, congrArg Go.Rx.I (wrapI (by omega)), trivial⟩, ⟨[], rfl⟩, rfl, rfl⟩
      · refine ⟨by omega, s[k], atB hks, ?_⟩
        conv => whnf
        refine callS (digit2_con s[k].toNat) rfl ?_
        conv => whnf
        split <;> rename_i h3 <;> conv => whnf
        · have hw : wordC s[k] = true := by rw [wordC, wordN, h3, Bool.or_true]
          rw [run_go hks hw] at hpre
          exact ⟨k + 1, ⟨⟨by omega, hpre⟩, by omega⟩, ⟨rfl, congrArg Go.Rx.I (wrapI (by omega)), trivial⟩, ⟨[], rfl⟩, rfl, rfl⟩
        · have hw : wordC s[k] = false := by rw [wordC, wordN, h2, h3]; rfl
          rw [run_stop hks hw] at hpre
          split <;> rename_i h4 <;> conv => whnf
          · exact finI ⟨fin hpre _ h4⟩
          · exact finI ⟨fin hpre _ h4⟩
    · have hks : s.size ≤ k := by simpa using hlt
      rw [run_end hks] at hpre
      split <;> rename_i h4 <;> conv => whnf
      · exact finI ⟨fin hpre _ h4⟩
      · exact finI ⟨fin hpre _ h4⟩
  rw [oneI, if_neg (by rw [h1]; decide)]
  refine AW.cut (fun _ : Unit => True) (fun _ => [(0, Sx s), (4, U8 s[0].toNat), (35, Bl (((s[0].toNat : Int) == 45) || digN s[0].toNat))]) (fun _ => []) [] (aw_of T_ok (by kernel_rfl) ?_) ?_
  · conv => whnf
    split <;> rename_i h2 <;> conv => whnf
    · exact ⟨(), trivial, ⟨rfl, rfl, congrArg Bl (by rw [show ((s[0].toNat : Int) == 45) = true from h2]; rfl), trivial⟩, ⟨[], rfl⟩, rfl, rfl⟩
    · refine callS (digit2_con s[0].toNat) rfl ?_
      conv => whnf
      exact ⟨(), trivial, ⟨rfl, rfl, congrArg Bl (by rw [show ((s[0].toNat : Int) == 45) = false from h2]; rfl), trivial⟩, ⟨[], rfl⟩, rfl, rfl⟩
  rintro _ _
  refine aw_of T_ok (by kernel_rfl) ?_
  conv => whnf
  split <;> rename_i h2 <;> conv => whnf
  · rw [if_pos h2]
    refine AW.loop (fun k : Nat => 1 ≤ k ∧ k ≤ s.size ∧ k + ((s.data.toList.drop k).takeWhile digC).length = numL s) (fun k => [(0, Sx s), (3, Go.Rx.I k)]) (fun _ => []) (fun k => s.size - k) [] ?_ ?_
    · exact ⟨1, ⟨Nat.le_refl _, h0, rfl⟩, ⟨rfl, rfl, trivial⟩, ⟨[], rfl⟩, rfl, rfl⟩
    rintro k ⟨hk1, hk, hpre⟩
    have okx : okS (s.extract 0 k) := by simp only [okS, ByteArray.size_extract]; omega
    refine aw_of T_ok (by kernel_rfl) ?_
    conv => whnf
    split <;> rename_i hlt <;> conv => whnf
    · have hks : k < s.size := by simpa using hlt
      refine ⟨by omega, s[k], atB hks, ?_⟩
      conv => whnf
      refine callS (digit2_con s[k].toNat) rfl ?_
      conv => whnf
      split <;> rename_i h3 <;> conv => whnf
      · have hw : digC s[k] = true := h3
        rw [run_go hks hw] at hpre
        exact ⟨k + 1, ⟨⟨by omega, by omega, hpre⟩, by omega⟩, ⟨rfl, congrArg Go.Rx.I (wrapI (by omega)), trivial⟩, ⟨[], rfl⟩, rfl, rfl⟩
      · have hw : digC s[k] = false := h3
        rw [run_stop hks hw] at hpre
        refine ⟨by decide, by omega, by omega, ?_⟩
        conv => whnf
        refine callS (int_con (s.extract 0 k) okx) rfl ?_
        conv => whnf
        rw [← hpre]
        split <;> rename_i h4 <;> conv => whnf
        · exact finI ⟨by rw [if_neg (by rw [show (intR (s.extract 0 k)).2 = false by simpa using h4]; decide)]⟩
        · exact finI ⟨by rw [if_pos (by simpa using h4)]⟩
    · have hks : s.size ≤ k := by simpa using hlt
      rw [run_end hks] at hpre
      refine ⟨by decide, by omega, by omega, ?_⟩
      conv => whnf
      refine callS (int_con (s.extract 0 k) okx) rfl ?_
      conv => whnf
      rw [← hpre]
      split <;> rename_i h4 <;> conv => whnf
      · exact finI ⟨by rw [if_neg (by rw [show (intR (s.extract 0 k)).2 = false by simpa using h4]; decide)]⟩
      · exact finI ⟨by rw [if_pos (by simpa using h4)]⟩
  rw [if_neg (by rw [h2]; decide)]
  split <;> rename_i h3 <;> conv => whnf
  · rw [if_pos h3]
    refine callS (text_con s hs') rfl ?_
    conv => whnf
    exact finI ⟨rfl⟩
  rw [if_neg (by rw [h3]; decide)]
  split <;> rename_i h4 <;> conv => whnf
  · have h4' : 2 < (s.size : Int) := of_decide_eq_true h4
    refine ⟨by decide, by decide, by omega, ?_⟩
    conv => whnf
    split <;> rename_i h5 <;> conv => whnf
    · exact finI ⟨by rw [if_pos (by rw [show decide (2 < (s.size : Int)) = true from h4]; simpa using h5)]⟩
    · rw [if_neg (by rw [show (s.extract 0 3 == ⟨#[46, 46, 46]⟩) = false by simpa using h5, Bool.and_false]; decide)]
      exact ⟨(), rfl, ⟨rfl, trivial⟩, ⟨[], rfl⟩, rfl, rfl⟩
  · rw [if_neg (by rw [show decide (2 < (s.size : Int)) = false from h4, Bool.false_and]; decide)]
    exact ⟨(), rfl, ⟨rfl, trivial⟩, ⟨[], rfl⟩, rfl, rfl⟩
end Go.Proofs.YtfjllfjmggooeaaGreatDoor.Rx

/- Names, and steps. -/
set_option linter.unusedVariables false
set_option linter.unusedSimpArgs false
namespace Go.Rx
def numB (n : Int) : Bool := decide (-1073741824 ≤ n) && decide (n ≤ 1073741824)
def okStep (x : Step) : Bool := nameB x.nm && pairB x.service x.op x.undo && shortB x.who && numB x.n
def okAt (l : List Step) (k : Nat) : Bool := match l[k]? with | some x => okStep x && !((l.take k).any fun s => s.nm == x.nm) | none => true
def stepsAll (l : List Step) : Bool := (List.range l.length).all (okAt l)
def stepsB (l : List Step) : Bool := stepsAll l && (decide (1 ≤ l.length) && decide (l.length ≤ 5))
theorem okAt_eq {l : List Step} {k : Nat} (h : k < l.length) : okAt l k = (okStep l[k] && !((l.take k).any fun s => s.nm == l[k].nm)) := by
  rw [okAt, List.getElem?_eq_getElem h]
theorem all_yes {l : List Step} (h : ∀ j, j < l.length → okAt l j = true) : stepsAll l = true := by
  rw [stepsAll, List.all_eq_true]
  intro j hj
  exact h j (List.mem_range.1 hj)
theorem all_no {l : List Step} {k : Nat} (hk : k < l.length) (h : okAt l k = false) : stepsAll l = false := by
  rw [stepsAll, List.all_eq_false]
  exact ⟨k, List.mem_range.2 hk, by rw [h]; decide⟩
theorem pair_no {n : Int} (h : ¬ (1 ≤ n ∧ n ≤ 4)) (d u : ByteArray) : pairB n d u = false := by
  have e : opsS n = [] := by unfold opsS; rw [if_neg (by omega), if_neg (by omega), if_neg (by omega), if_neg (by omega)]
  rw [pairB, e]; rfl
end Go.Rx
namespace Go.Proofs.YtfjllfjmggooeaaGreatDoor.Rx
open Go.Rx Go.Proofs Go.Proofs.YtfjllfjmggooeaaGreatDoor.RxH

theorem word2_con (s : ByteArray) (hs : okS s) : ∃ b, Con P 177 [Sx s] (Bl b) [] ∧ (s.size = 0 → b = false) ∧ ∀ h : 0 < s.size, letN s[0].toNat = true → b = (wordL s == s.size) := by
  by_cases h0 : 0 < s.size
  · refine ⟨oneI s s[0] == s.size, ?_, fun e => by omega, fun _ h => by rw [oneI, if_pos h]⟩
    refine Con.of T_ok Tryz.func177 rfl (by kernel_rfl) (by kernel_rfl) (aw_of T_ok (by kernel_rfl) ?_)
    conv => whnf
    split <;> rename_i h1 <;> conv => whnf
    · refine callS (one_con s hs h0) rfl ?_
      conv => whnf
      exact finB ⟨rfl⟩
    · have := of_decide_eq_false h1
      omega
  · refine ⟨false, ?_, fun _ => rfl, fun h => absurd h h0⟩
    refine Con.of T_ok Tryz.func177 rfl (by kernel_rfl) (by kernel_rfl) (aw_of T_ok (by kernel_rfl) ?_)
    conv => whnf
    split <;> rename_i h1 <;> conv => whnf
    · have := of_decide_eq_true h1
      omega
    · exact finB ⟨rfl⟩
theorem name2_con (s : ByteArray) (hs : okS s) : Con P 150 [Sx s] (Bl (nameB s)) [] := by
  obtain ⟨b, hc, hb0, hb⟩ := word2_con s hs
  refine Con.of T_ok Tryz.func150 rfl (by kernel_rfl) (by kernel_rfl) (aw_of T_ok (by kernel_rfl) ?_)
  conv => whnf
  refine callS hc rfl ?_
  conv => whnf
  split <;> rename_i h1 <;> conv => whnf
  · have h0 : 0 < s.size := by
      rcases Nat.eq_zero_or_pos s.size with e | e
      · cases hb0 e
      · exact e
    refine ⟨by omega, s[0], atB h0, ?_⟩
    conv => whnf
    refine callS (letter2_con s[0].toNat) rfl ?_
    conv => whnf
    refine finB ⟨?_⟩
    rw [nameB, dif_pos h0]
    cases hl : letN s[0].toNat with
    | false => rfl
    | true => rw [← hb h0 hl]; rfl
  · refine finB ⟨?_⟩
    rw [nameB]
    split
    · rename_i h0
      cases hl : letN s[0].toNat with
      | false => rfl
      | true => rw [← hb h0 hl]; rfl
    · rfl
theorem planMay_con (l : List Step) (hl : StepsOk l) : Con P 132 [.lf (.pv (encSteps l))] (Bl (stepsB l)) [] := by
  have hlen := hl.len
  refine Con.of T_ok Tryz.func132 rfl (by kernel_rfl) (by kernel_rfl) (aw_of T_ok (by kernel_rfl) ?_)
  conv => whnf
  refine AW.loop (fun k : Nat => k ≤ l.length ∧ ∀ j, j < k → okAt l j = true) (fun k => [(0, .lf (.pv (encSteps l))), (5, .lf (.pv (encSteps l))), (6, Go.Rx.I l.length), (7, Go.Rx.I k)]) (fun _ => []) (fun k => l.length - k) [] ?_ ?_
  · exact ⟨0, ⟨Nat.zero_le _, fun j hj => absurd hj (Nat.not_lt_zero _)⟩, ⟨rfl, rfl, congrArg (fun n : Nat => Go.Rx.I (n : Int)) (List.length_map ..), rfl, trivial⟩, ⟨[], rfl⟩, rfl, rfl⟩
  rintro k ⟨hk, hpre⟩
  refine aw_of T_ok (by kernel_rfl) ?_
  conv => whnf
  split <;> rename_i hlt <;> conv => whnf
  · have hkl : k < l.length := by simpa using hlt
    have hok := hl.each _ (List.getElem_mem hkl)
    have hat := okAt_eq hkl
    have no : okAt l k = false → false = stepsB l := fun h => by rw [stepsB, all_no hkl h]; rfl
    refine ⟨by omega, (l[k]).enc, by simp [hkl], ?_⟩
    conv => whnf
    refine callS (name_con l[k].nm hok.nm) rfl ?_
    conv => whnf
    split <;> rename_i h1 <;> conv => whnf
    · refine finB ⟨no ?_⟩
      rw [hat, okStep, show nameB l[k].nm = false by simpa using h1]; rfl
    have h1' : nameB l[k].nm = true := by simpa using h1
    refine ⟨by decide, by omega, by simp; omega, ?_⟩
    conv => whnf
    have hc : Con P 165 [.lf (.pv (.sl 6 (((l.map Step.enc).take k).drop 0))), .lf (.fn 166 [(l[k]).enc])] (Bl ((l.take k).any fun s : Step => s.nm == l[k].nm)) [] := by
      rw [List.drop_zero, ← List.map_take]
      exact containsFunc_con (l.take k) l[k] (by rw [List.length_take]; omega)
    refine callS hc rfl ?_
    conv => whnf
    split <;> rename_i h2 <;> conv => whnf
    · refine finB ⟨no ?_⟩
      rw [hat, show ((l.take k).any fun s : Step => s.nm == l[k].nm) = true from h2, Bool.not_true, Bool.and_false]
    refine callS (isService_con l[k].service) rfl ?_
    conv => whnf
    split <;> rename_i h3 <;> conv => whnf
    · refine finB ⟨no ?_⟩
      have h3' : ¬ (1 ≤ l[k].service ∧ l[k].service ≤ 4) := by simp at h3; omega
      rw [hat, okStep, pair_no h3', h1']; rfl
    have h3' : 1 ≤ l[k].service ∧ l[k].service ≤ 4 := by simpa using h3
    refine callS (pair_con l[k].service l[k].op l[k].undo h3') rfl ?_
    conv => whnf
    split <;> rename_i h4 <;> conv => whnf
    · refine finB ⟨no ?_⟩
      rw [hat, okStep, show pairB l[k].service l[k].op l[k].undo = false by simpa using h4, h1']; rfl
    have h4' : pairB l[k].service l[k].op l[k].undo = true := by simpa using h4
    refine callS (short_con l[k].who) rfl ?_
    conv => whnf
    split <;> rename_i h5 <;> conv => whnf
    · refine finB ⟨no ?_⟩
      rw [hat, okStep, show shortB l[k].who = false by simpa using h5, h1', h4']; rfl
    have h5' : shortB l[k].who = true := by simpa using h5
    refine callS (isNum_con l[k].n) rfl ?_
    conv => whnf
    split <;> rename_i h6 <;> conv => whnf
    · refine finB ⟨no ?_⟩
      rw [hat, okStep, show numB l[k].n = false by simp at h6; rw [numB]; simp; omega, h1', h4', h5']; rfl
    have h6' : numB l[k].n = true := by simpa [numB] using h6
    refine ⟨k + 1, ⟨⟨by omega, fun j hj => ?_⟩, by omega⟩, ⟨rfl, rfl, rfl, congrArg Go.Rx.I (wrapI (by omega)), trivial⟩, ⟨_, rfl⟩, rfl, rfl⟩
    by_cases e : j = k
    · subst e; rw [hat, okStep, h1', h4', h5', h6', show ((l.take j).any fun s : Step => s.nm == l[j].nm) = false from h2]; rfl
    · exact hpre j (by omega)
  · have hkl : k = l.length := by simp at hlt; omega
    have hall : stepsAll l = true := all_yes fun j hj => hpre j (by omega)
    have hm : (l.map Step.enc).length = l.length := List.length_map ..
    split <;> rename_i h1 <;> conv => whnf
    · refine finB ⟨?_⟩
      have h1' := of_decide_eq_true h1
      rw [stepsB, hall, Bool.true_and, decide_eq_true (show 1 ≤ l.length by omega), Bool.true_and]
      exact decide_eq_decide.2 (by omega)
    · refine finB ⟨?_⟩
      have h1' := of_decide_eq_false h1
      rw [stepsB, hall, Bool.true_and, decide_eq_false (show ¬ 1 ≤ l.length by omega)]; rfl
end Go.Proofs.YtfjllfjmggooeaaGreatDoor.Rx

/- Steps, as the page has them. -/
set_option linter.unusedVariables false
set_option linter.unusedSimpArgs false
namespace Go.Proofs.YtfjllfjmggooeaaGreatDoor.Rx
open Go.Rx Go.Proofs Go.Proofs.YtfjllfjmggooeaaGreatDoor.RxH

theorem steps4_con (l : List Step) (hl : StepsOk l) : Con P 117 [.lf (.pv (encSteps l))] (Bl (stepsB l)) [] := by
  have hlen := hl.len
  have hm : (l.map Step.enc).length = l.length := List.length_map ..
  refine Con.of T_ok Tryz.func117 rfl (by kernel_rfl) (by kernel_rfl) (aw_of T_ok (by kernel_rfl) ?_)
  conv => whnf
  refine callS (between_con ((l.map Step.enc).length : Int) 1 5) rfl ?_
  conv => whnf
  split <;> rename_i h0 <;> conv => whnf
  · refine finB ⟨?_⟩
    simp at h0
    rw [stepsB]
    symm
    rw [Bool.and_eq_false_iff]
    right
    rw [Bool.and_eq_false_iff]
    by_cases c : 1 ≤ l.length
    · exact .inr (decide_eq_false (by omega))
    · exact .inl (decide_eq_false c)
  have h0' : 1 ≤ l.length ∧ l.length ≤ 5 := by simp at h0; omega
  refine AW.loop (fun k : Nat => k ≤ l.length ∧ ∀ j, j < k → okAt l j = true) (fun k => [(0, .lf (.pv (encSteps l))), (3, Go.Rx.I k)]) (fun _ => []) (fun k => l.length - k) [] ?_ ?_
  · exact ⟨0, ⟨Nat.zero_le _, fun j hj => absurd hj (Nat.not_lt_zero _)⟩, ⟨rfl, rfl, trivial⟩, ⟨[], rfl⟩, rfl, rfl⟩
  rintro k ⟨hk, hpre⟩
  refine aw_of T_ok (by kernel_rfl) ?_
  conv => whnf
  split <;> rename_i hlt <;> conv => whnf
  · have hkl : k < l.length := by simpa using hlt
    have hok := hl.each _ (List.getElem_mem hkl)
    have hat := okAt_eq hkl
    have no : okAt l k = false → false = stepsB l := fun h => by rw [stepsB, all_no hkl h]; rfl
    refine ⟨by omega, (l[k]).enc, by simp [hkl], ?_⟩
    conv => whnf
    refine callS (name2_con l[k].nm hok.nm) rfl ?_
    conv => whnf
    split <;> rename_i h1 <;> conv => whnf
    · refine finB ⟨no ?_⟩
      rw [hat, okStep, show nameB l[k].nm = false by simpa using h1]; rfl
    have h1' : nameB l[k].nm = true := by simpa using h1
    refine callS (pair4_con l[k].service l[k].op l[k].undo) rfl ?_
    conv => whnf
    split <;> rename_i h4 <;> conv => whnf
    · refine finB ⟨no ?_⟩
      rw [hat, okStep, show pairB l[k].service l[k].op l[k].undo = false by simpa using h4, h1']; rfl
    have h4' : pairB l[k].service l[k].op l[k].undo = true := by simpa using h4
    refine callS (short1_con l[k].who hok.who) rfl ?_
    conv => whnf
    split <;> rename_i h5 <;> conv => whnf
    · refine finB ⟨no ?_⟩
      rw [hat, okStep, show shortB l[k].who = false by simpa using h5, h1', h4']; rfl
    have h5' : shortB l[k].who = true := by simpa using h5
    refine callS (between_con l[k].n (-1073741824) 1073741824) rfl ?_
    conv => whnf
    split <;> rename_i h6 <;> conv => whnf
    · refine finB ⟨no ?_⟩
      rw [hat, okStep, show numB l[k].n = false by simp at h6; rw [numB]; simp; omega, h1', h4', h5']; rfl
    have h6' : numB l[k].n = true := by simpa [numB] using h6
    refine AW.loop (fun j : Nat => j ≤ k ∧ ((l.take k).drop j).any (fun s : Step => s.nm == l[k].nm) = (l.take k).any fun s : Step => s.nm == l[k].nm) (fun j => [(0, .lf (.pv (encSteps l))), (3, Go.Rx.I k), (4, .lf (.ptr 0 0)), (5, Go.Rx.I j)]) (fun _ => [.var ((l[k]).enc.map .pv)]) (fun j => k - j) [] ?_ ?_
    · exact ⟨0, ⟨Nat.zero_le _, rfl⟩, ⟨rfl, rfl, rfl, rfl, trivial⟩, ⟨[], rfl⟩, rfl, rfl⟩
    rintro j ⟨hj, hp2⟩
    refine aw_of T_ok (by kernel_rfl) ?_
    conv => whnf
    split <;> rename_i hlt2 <;> conv => whnf
    · have hjk : j < k := by have := of_decide_eq_true hlt2; omega
      have hjl : j < l.length := by omega
      have hjt : j < (l.take k).length := by rw [List.length_take]; omega
      rw [any_go hjt, List.getElem_take] at hp2
      refine AW.draw T_ok rfl (seqPl 0 8) (by kernel_rfl) (by kernel_rfl) ?_
      conv => whnf
      refine ⟨by omega, (l[j]).enc, by simp [hjl], ?_⟩
      conv => whnf
      split <;> rename_i h7 <;> conv => whnf
      · refine finB ⟨no ?_⟩
        rw [hat, ← hp2, show (l[j].nm == l[k].nm) = true from h7, Bool.true_or, Bool.not_true, Bool.and_false]
      · rw [show (l[j].nm == l[k].nm) = false from h7, Bool.false_or] at hp2
        exact ⟨j + 1, ⟨⟨by omega, hp2⟩, by omega⟩, ⟨rfl, rfl, rfl, congrArg Go.Rx.I (wrapI (by omega)), trivial⟩, ⟨[], rfl⟩, rfl, rfl⟩
    · have hjk : k ≤ j := by have := of_decide_eq_false hlt2; omega
      rw [any_end (by rw [List.length_take]; omega)] at hp2
      refine ⟨k + 1, ⟨⟨by omega, fun i hi => ?_⟩, by omega⟩, ⟨rfl, congrArg Go.Rx.I (wrapI (by omega)), trivial⟩, ⟨_, rfl⟩, rfl, rfl⟩
      by_cases e : i = k
      · subst e; rw [hat, okStep, h1', h4', h5', h6', ← hp2]; rfl
      · exact hpre i (by omega)
  · have hkl : k = l.length := by simp at hlt; omega
    have hall : stepsAll l = true := all_yes fun j hj => hpre j (by omega)
    refine finB ⟨?_⟩
    rw [stepsB, hall, decide_eq_true h0'.1, decide_eq_true h0'.2]; rfl
end Go.Proofs.YtfjllfjmggooeaaGreatDoor.Rx

/- May a record be? A saga? -/
set_option linter.unusedVariables false
set_option linter.unusedSimpArgs false
namespace Go.Rx
def bareB (r : Rec) : Bool := r.key == ⟨#[]⟩ && r.body == ⟨#[]⟩ && decide (r.steps.length = 0)
def kindB (k n : Int) : Bool := if k = 2 ∨ k = 3 ∨ k = 5 then decide (0 ≤ n) && decide (n < 5) else if k = 4 then n == 0 else if k = 6 then decide (1 ≤ n) && decide (n ≤ 3) else false
def begB (r : Rec) : Bool := r.n == 0 && (r.key != ⟨#[]⟩ && (shortB r.key && (decide (1 ≤ (r.body.size : Int)) && (decide ((r.body.size : Int) ≤ 3000) && stepsB r.steps))))
def recB (r : Rec) : Bool := (decide (1 ≤ r.id) && decide (r.id ≤ 20)) && if r.kind = 1 then begB r else bareB r && kindB r.kind r.n
theorem bare_eq (r : Rec) : decide (r = ⟨r.kind, r.id, r.n, ⟨#[]⟩, ⟨#[]⟩, []⟩) = bareB r := by
  rw [recEq, bareB]
  simp
end Go.Rx
namespace Go.Proofs.YtfjllfjmggooeaaGreatDoor.Rx
open Go.Rx Go.Proofs Go.Proofs.YtfjllfjmggooeaaGreatDoor.RxH

theorem recMay_con (r : Rec) (h : r.Ok) : Con P 101 [encRec r] (Bl (recB r)) [] := by
  have hlen := h.steps.len
  have fail : (decide (1 ≤ r.id) && decide (r.id ≤ 20)) = false → false = recB r := fun h => by rw [recB, h]; rfl
  have go : (decide (1 ≤ r.id) && decide (r.id ≤ 20)) = true → (¬ r.kind = 1 → bareB r = true) → recB r = if r.kind = 1 then begB r else kindB r.kind r.n := fun h1 h2 => by
    rw [recB, h1, Bool.true_and]
    split
    · rfl
    · rename_i hk; rw [h2 hk]; rfl
  refine Con.of T_ok Tryz.func101 rfl (by kernel_rfl) (by kernel_rfl) (aw_ofC T_ok 1001 (by kernel_rfl) ?_)
  conv => whnf
  refine AW.cut (fun _ : Unit => recB r = if r.kind = 1 then begB r else kindB r.kind r.n) (fun _ => [(1, .lf (.ptr 0 0))]) (fun _ => [.var [.pv (pI r.kind), .pv (pI r.id), .pv (pI r.n), .pv (pS r.key), .pv (pS r.body), .pv (encSteps r.steps)]]) [] (aw_of T_ok (by kernel_rfl) ?_) ?_
  · refine AW.draw T_ok rfl (seqPl 0 20) (by kernel_rfl) (by kernel_rfl) ?_
    conv => whnf
    split <;> rename_i h1 <;> conv => whnf
    · exact finB ⟨fail (by simp at h1; simp; omega)⟩
    split <;> rename_i h2 <;> conv => whnf
    · exact finB ⟨fail (by simp at h2; simp; omega)⟩
    have hid : (decide (1 ≤ r.id) && decide (r.id ≤ 20)) = true := by simp at h1 h2; simp; omega
    split <;> rename_i h3 <;> conv => whnf
    · refine callU (bare_con r) (fun _ => rfl) ?_
      conv => whnf
      refine callS (same_con r _ hlen) rfl ?_
      conv => whnf
      rw [bare_eq]
      split <;> rename_i h4 <;> conv => whnf
      · refine finB ⟨?_⟩
        have hk : ¬ r.kind = 1 := by simpa using h3
        rw [recB, hid, if_neg hk, show bareB r = false by simpa using h4]; rfl
      · exact ⟨(), go hid fun _ => by simpa using h4, ⟨rfl, trivial⟩, ⟨[], rfl⟩, rfl, rfl⟩
    · exact ⟨(), go hid fun hk => absurd (by simpa using h3) hk, ⟨rfl, trivial⟩, ⟨[], rfl⟩, rfl, rfl⟩
  rintro _ hI
  rw [hI]
  clear hI go fail
  refine aw_of T_ok (by kernel_rfl) ?_
  conv => whnf
  split <;> rename_i k1 <;> conv => whnf
  · rw [if_pos (show r.kind = 1 by simpa using k1)]
    split <;> rename_i h1 <;> conv => whnf
    · split <;> rename_i h2 <;> conv => whnf
      · refine callS (short_con r.key) rfl ?_
        conv => whnf
        split <;> rename_i h3 <;> conv => whnf
        · split <;> rename_i h4 <;> conv => whnf
          · split <;> rename_i h5 <;> conv => whnf
            · refine callS (planMay_con r.steps h.steps) rfl ?_
              conv => whnf
              refine finB ⟨?_⟩
              rw [begB, show (r.n == 0) = true from h1, show (r.key != ⟨#[]⟩) = true from h2, show shortB r.key = true from h3, show decide (1 ≤ (r.body.size : Int)) = true from h4, show decide ((r.body.size : Int) ≤ 3000) = true from h5]; rfl
            · refine finB ⟨?_⟩
              rw [begB, show (r.n == 0) = true from h1, show (r.key != ⟨#[]⟩) = true from h2, show shortB r.key = true from h3, show decide (1 ≤ (r.body.size : Int)) = true from h4, show decide ((r.body.size : Int) ≤ 3000) = false from h5]; rfl
          · refine finB ⟨?_⟩
            rw [begB, show (r.n == 0) = true from h1, show (r.key != ⟨#[]⟩) = true from h2, show shortB r.key = true from h3, show decide (1 ≤ (r.body.size : Int)) = false from h4]; rfl
        · refine finB ⟨?_⟩
          rw [begB, show (r.n == 0) = true from h1, show (r.key != ⟨#[]⟩) = true from h2, show shortB r.key = false from h3]; rfl
      · refine finB ⟨?_⟩
        rw [begB, show (r.n == 0) = true from h1, show (r.key != ⟨#[]⟩) = false from h2]; rfl
    · refine finB ⟨?_⟩
      rw [begB, show (r.n == 0) = false from h1]; rfl
  rw [if_neg (show ¬ r.kind = 1 by simpa using k1)]
  clear k1
  repeat' first | refine finB ?_ | (split <;> conv => whnf)
  all_goals (refine ⟨?_⟩; simp_all [kindB] <;> omega)
theorem rec9_con (r : Rec) (h : r.Ok) : Con P 79 [encRec r] (Bl (recB r)) [] := by
  refine Con.of T_ok Tryz.func79 rfl (by kernel_rfl) (by kernel_rfl) (aw_of T_ok (by kernel_rfl) ?_)
  conv => whnf
  refine callS (between_con r.id 1 20) rfl ?_
  conv => whnf
  split <;> rename_i h1 <;> conv => whnf
  · refine finB ⟨?_⟩
    rw [recB, show (decide (1 ≤ r.id) && decide (r.id ≤ 20)) = false by simp at h1; simp; omega]; rfl
  have hid : (decide (1 ≤ r.id) && decide (r.id ≤ 20)) = true := by simpa using h1
  clear h1
  rw [recB, hid, Bool.true_and]
  split <;> rename_i k1 <;> conv => whnf
  · rw [if_pos (show r.kind = 1 by simpa using k1), begB]
    split <;> rename_i h1 <;> conv => whnf
    · rw [show (r.n == 0) = true from h1, Bool.true_and]
      refine callS (short1_con r.key h.key) rfl ?_
      conv => whnf
      split <;> rename_i h3 <;> conv => whnf
      · rw [show shortB r.key = true from h3, Bool.true_and]
        split <;> rename_i h2 <;> conv => whnf
        · rw [show (r.key != ⟨#[]⟩) = true from h2, Bool.true_and]
          refine callS (between_con (r.body.size : Int) 1 3000) rfl ?_
          conv => whnf
          split <;> rename_i h4 <;> conv => whnf
          · refine callS (steps4_con r.steps h.steps) rfl ?_
            conv => whnf
            refine finB ⟨?_⟩
            rw [← Bool.and_assoc, show (decide (1 ≤ (r.body.size : Int)) && decide ((r.body.size : Int) ≤ 3000)) = true from h4]; rfl
          · refine finB ⟨?_⟩
            rw [← Bool.and_assoc, show (decide (1 ≤ (r.body.size : Int)) && decide ((r.body.size : Int) ≤ 3000)) = false from h4]; rfl
        · refine finB ⟨?_⟩
          rw [show (r.key != ⟨#[]⟩) = false from h2]; rfl
      · refine finB ⟨?_⟩
        rw [show shortB r.key = false from h3, Bool.false_and, Bool.and_false]
    · refine finB ⟨?_⟩
      rw [show (r.n == 0) = false from h1]; rfl
  rw [if_neg (show ¬ r.kind = 1 by simpa using k1)]
  clear k1
  split <;> rename_i h1 <;> conv => whnf
  · refine finB ⟨?_⟩
    rw [bareB, show (r.key == ⟨#[]⟩) = false by simpa using h1]; rfl
  have h1' : (r.key == ⟨#[]⟩) = true := by simpa using h1
  split <;> rename_i h2 <;> conv => whnf
  · refine finB ⟨?_⟩
    rw [bareB, h1', show (r.body == ⟨#[]⟩) = false by simpa using h2]; rfl
  have h2' : (r.body == ⟨#[]⟩) = true := by simpa using h2
  split <;> rename_i h3 <;> conv => whnf
  · refine finB ⟨?_⟩
    rw [bareB, h1', h2', show decide (r.steps.length = 0) = false by simp at h3; simp; intro e; rw [e] at h3; simp at h3]; rfl
  rw [bareB, h1', h2', show decide (r.steps.length = 0) = true by simp at h3; simp; exact h3]
  simp only [Bool.true_and]
  clear h1 h2 h3 h1' h2' hid
  split <;> rename_i k2 <;> conv => whnf
  · have k2' : r.kind = 2 := by simpa using k2
    refine callS (numB_con r.n 4) rfl ?_
    conv => whnf
    refine finB ⟨?_⟩
    rw [kindB, if_pos (show r.kind = 2 ∨ r.kind = 3 ∨ r.kind = 5 by simp [k2'])]
    congr 1
    exact decide_eq_decide.2 (by omega)
  have k2' : ¬ r.kind = 2 := by simpa using k2
  split <;> rename_i k3 <;> conv => whnf
  · have k3' : r.kind = 3 := by simpa using k3
    refine callS (numB_con r.n 4) rfl ?_
    conv => whnf
    refine finB ⟨?_⟩
    rw [kindB, if_pos (show r.kind = 2 ∨ r.kind = 3 ∨ r.kind = 5 by simp [k3'])]
    congr 1
    exact decide_eq_decide.2 (by omega)
  have k3' : ¬ r.kind = 3 := by simpa using k3
  split <;> rename_i k5 <;> conv => whnf
  · have k5' : r.kind = 5 := by simpa using k5
    refine callS (numB_con r.n 4) rfl ?_
    conv => whnf
    refine finB ⟨?_⟩
    rw [kindB, if_pos (show r.kind = 2 ∨ r.kind = 3 ∨ r.kind = 5 by simp [k5'])]
    congr 1
    exact decide_eq_decide.2 (by omega)
  have k5' : ¬ r.kind = 5 := by simpa using k5
  rw [kindB, if_neg (show ¬ (r.kind = 2 ∨ r.kind = 3 ∨ r.kind = 5) by omega)]
  split <;> rename_i k4 <;> conv => whnf
  · refine finB ⟨?_⟩
    rw [if_pos (show r.kind = 4 by simpa using k4)]
  have k4' : ¬ r.kind = 4 := by simpa using k4
  rw [if_neg k4']
  split <;> rename_i k6 <;> conv => whnf
  · refine callS (between_con r.n 1 3) rfl ?_
    conv => whnf
    refine finB ⟨?_⟩
    rw [if_pos (show r.kind = 6 by simpa using k6)]
  · refine finB ⟨?_⟩
    rw [if_neg (show ¬ r.kind = 6 by simpa using k6)]
end Go.Proofs.YtfjllfjmggooeaaGreatDoor.Rx

/- May a saga be? -/
set_option linter.unusedVariables false
set_option linter.unusedSimpArgs false
namespace Go.Rx
abbrev begR (s : Saga) : Rec := ⟨1, s.id, 0, s.key, s.body, s.steps⟩
def sagaB (s : Saga) : Bool := recB (begR s) && (decide (0 ≤ s.done) && (decide (s.done ≤ s.steps.length) && (!(s.out && (s.done == s.steps.length)) && (decide (0 ≤ s.left) && (decide (s.left ≤ mostI s) && (!(!s.back && (s.left != 0)) && endsB s s.status))))))
theorem Saga.Ok.beg {s : Saga} (h : s.Ok) : (begR s).Ok := ⟨h.key, h.body, h.steps⟩
end Go.Rx
namespace Go.Proofs.YtfjllfjmggooeaaGreatDoor.Rx
open Go.Rx Go.Proofs Go.Proofs.YtfjllfjmggooeaaGreatDoor.RxH

theorem sagaMay_con (s : Saga) (h : s.Ok) : Con P 122 [encSaga s] (Bl (sagaB s)) [] := by
  have hlen := h.steps.len
  have hm : (s.steps.map Step.enc).length = s.steps.length := List.length_map ..
  refine Con.of T_ok Tryz.func122 rfl (by kernel_rfl) (by kernel_rfl) (aw_ofC T_ok 1001 (by kernel_rfl) ?_)
  conv => whnf
  refine AW.cut (fun _ : Unit => recB (begR s) = true ∧ 0 ≤ s.done ∧ s.done ≤ s.steps.length ∧ (s.out && (s.done == s.steps.length)) = false) (fun _ => [(1, .lf (.ptr 0 0))]) (fun _ => [.var [.pv (pI s.id), .pv (pS s.key), .pv (pS s.body), .pv (encSteps s.steps), .pv (pI s.done), .pv (pB s.out), .pv (pB s.back), .pv (pI s.left), .pv (pI s.status)]]) [] (aw_of T_ok (by kernel_rfl) ?_) ?_
  · conv => whnf
    refine callU (begin_con s) (fun _ => rfl) ?_
    conv => whnf
    refine callS (recMay_con (begR s) h.beg) rfl ?_
    conv => whnf
    split <;> rename_i h1 <;> conv => whnf
    · refine finB ⟨?_⟩
      rw [sagaB, show recB (begR s) = false by simpa using h1]; rfl
    have h1' : recB (begR s) = true := by simpa using h1
    split <;> rename_i h2 <;> conv => whnf
    · refine finB ⟨?_⟩
      rw [sagaB, h1', show decide (0 ≤ s.done) = false by simp at h2; simp; omega]; rfl
    have h2' : 0 ≤ s.done := by simp at h2; omega
    split <;> rename_i h3 <;> conv => whnf
    · refine finB ⟨?_⟩
      rw [sagaB, h1', decide_eq_true h2', show decide (s.done ≤ s.steps.length) = false by simp at h3; simp; omega]; rfl
    have h3' : s.done ≤ s.steps.length := by simp at h3; omega
    split <;> rename_i h4 <;> conv => whnf
    · split <;> rename_i h5 <;> conv => whnf
      · refine finB ⟨?_⟩
        have h5' : s.done = s.steps.length := by simpa using h5
        rw [sagaB, h1', decide_eq_true h2', decide_eq_true h3', show (s.out && (s.done == s.steps.length)) = true by rw [show s.out = true from h4, beq_iff_eq.2 h5']; rfl]; rfl
      · refine ⟨(), ⟨h1', h2', h3', ?_⟩, ⟨rfl, trivial⟩, ⟨[], rfl⟩, rfl, rfl⟩
        rw [Bool.and_eq_false_iff]; right; simpa using h5
    · exact ⟨(), ⟨h1', h2', h3', by rw [show s.out = false from h4]; rfl⟩, ⟨rfl, trivial⟩, ⟨[], rfl⟩, rfl, rfl⟩
  rintro _ ⟨h1, h2, h3, h4⟩
  rw [sagaB, h1, decide_eq_true h2, decide_eq_true h3, h4]
  simp only [Bool.true_and, Bool.not_false]
  refine aw_ofC T_ok 1003 (by kernel_rfl) ?_
  conv => whnf
  refine AW.cut (fun _ : Unit => 0 ≤ s.left ∧ s.left ≤ mostI s ∧ (!s.back && (s.left != 0)) = false) (fun _ => [(1, .lf (.ptr 0 0))]) (fun _ => [.var [.pv (pI s.id), .pv (pS s.key), .pv (pS s.body), .pv (encSteps s.steps), .pv (pI s.done), .pv (pB s.out), .pv (pB s.back), .pv (pI s.left), .pv (pI s.status)]]) [] (aw_of T_ok (by kernel_rfl) ?_) ?_
  · refine AW.draw T_ok rfl (seqPl 0 20) (by kernel_rfl) (by kernel_rfl) ?_
    conv => whnf
    split <;> rename_i h5 <;> conv => whnf
    · refine finB ⟨?_⟩
      rw [show decide (0 ≤ s.left) = false by simp at h5; simp; omega]; rfl
    have h5' : 0 ≤ s.left := by simp at h5; omega
    rw [decide_eq_true h5', Bool.true_and]
    refine callS (most_con s (by omega)) rfl ?_
    conv => whnf
    split <;> rename_i h6 <;> conv => whnf
    · refine finB ⟨?_⟩
      rw [show decide (s.left ≤ mostI s) = false by simp at h6; simp; omega]; rfl
    have h6' : s.left ≤ mostI s := by simp at h6; omega
    rw [decide_eq_true h6', Bool.true_and]
    split <;> rename_i h7 <;> conv => whnf
    · split <;> rename_i h8 <;> conv => whnf
      · refine finB ⟨?_⟩
        rw [show (!s.back) = true from h7, show (s.left != 0) = true from h8]; rfl
      · exact ⟨(), ⟨h5', h6', by rw [show (s.left != 0) = false from h8, Bool.and_false]⟩, ⟨rfl, trivial⟩, ⟨[], rfl⟩, rfl, rfl⟩
    · exact ⟨(), ⟨h5', h6', by rw [show (!s.back) = false from h7]; rfl⟩, ⟨rfl, trivial⟩, ⟨[], rfl⟩, rfl, rfl⟩
  rintro _ ⟨h5, h6, h7⟩
  rw [decide_eq_true h5, decide_eq_true h6, h7]
  refine aw_of T_ok (by kernel_rfl) ?_
  conv => whnf
  refine callS (ended_con s s.status) rfl ?_
  conv => whnf
  exact finB ⟨rfl⟩
end Go.Proofs.YtfjllfjmggooeaaGreatDoor.Rx

/- May a saga be? The page's answer. -/
set_option linter.unusedVariables false
set_option linter.unusedSimpArgs false
namespace Go.Rx
theorem ends_out {s : Saga} {st : Int} (h : ¬ (0 ≤ st ∧ st ≤ 3)) : endsB s st = false := by
  unfold endsB
  rw [if_neg (by omega), if_neg (by omega), if_neg (by omega), if_neg (by omega)]
def most9 (s : Saga) : Int := if s.back then (if s.out then s.done + 1 else s.done) else 0
theorem most_same {s : Saga} (h : 0 ≤ s.done) : (decide (0 ≤ s.left) && decide (s.left ≤ most9 s)) = (decide (0 ≤ s.left) && (decide (s.left ≤ mostI s) && !(!s.back && (s.left != 0)))) := by
  unfold most9 mostI
  cases s.back with
  | true => simp
  | false =>
    simp only [Bool.false_eq_true, if_false, Bool.not_false, Bool.true_and]
    rw [Bool.eq_iff_iff]
    simp only [Bool.and_eq_true, decide_eq_true_eq, Bool.not_eq_true', bne_eq_false_iff_eq]
    cases s.out <;> simp <;> omega
end Go.Rx
namespace Go.Proofs.YtfjllfjmggooeaaGreatDoor.Rx
open Go.Rx Go.Proofs Go.Proofs.YtfjllfjmggooeaaGreatDoor.RxH

theorem saga9_con (s : Saga) (h : s.Ok) : Con P 74 [encSaga s] (Bl (sagaB s)) [] := by
  have hlen := h.steps.len
  have hm : (s.steps.map Step.enc).length = s.steps.length := List.length_map ..
  refine Con.of T_ok Tryz.func74 rfl (by kernel_rfl) (by kernel_rfl) (aw_ofC T_ok 1002 (by kernel_rfl) ?_)
  conv => whnf
  refine AW.cut (fun _ : Unit => recB (begR s) = true ∧ 0 ≤ s.done ∧ s.done ≤ s.steps.length ∧ (s.out && (s.done == s.steps.length)) = false ∧ 0 ≤ s.status ∧ s.status ≤ 3) (fun _ => [(1, .lf (.ptr 0 0))]) (fun _ => [.var [.pv (pI s.id), .pv (pS s.key), .pv (pS s.body), .pv (encSteps s.steps), .pv (pI s.done), .pv (pB s.out), .pv (pB s.back), .pv (pI s.left), .pv (pI s.status)]]) [] (aw_of T_ok (by kernel_rfl) ?_) ?_
  · conv => whnf
    refine callS (rec9_con (begR s) h.beg) rfl ?_
    conv => whnf
    split <;> rename_i h1 <;> conv => whnf
    · refine finB ⟨?_⟩
      rw [sagaB, show recB (begR s) = false by simpa using h1]; rfl
    have h1' : recB (begR s) = true := by simpa using h1
    refine callS (numB_con s.done ((s.steps.map Step.enc).length : Int)) rfl ?_
    conv => whnf
    split <;> rename_i h2 <;> conv => whnf
    · refine finB ⟨?_⟩
      rw [sagaB, h1', Bool.true_and, ← Bool.and_assoc, show (decide (0 ≤ s.done) && decide (s.done ≤ s.steps.length)) = false by simp at h2; simp; omega]; rfl
    have h2' : 0 ≤ s.done ∧ s.done ≤ s.steps.length := by simp at h2; omega
    have stat : (s.out && (s.done == s.steps.length)) = false → (decide (0 ≤ s.status) && decide (s.status ≤ 3)) = false → false = sagaB s := fun _ hs => by
      rw [sagaB, ends_out (fun e => by rw [decide_eq_true e.1, decide_eq_true e.2] at hs; cases hs)]
      simp only [Bool.and_false]
    split <;> rename_i h4 <;> conv => whnf
    · split <;> rename_i h5 <;> conv => whnf
      · refine finB ⟨?_⟩
        have h5' : s.done = s.steps.length := by simp at h5; omega
        rw [sagaB, h1', decide_eq_true h2'.1, decide_eq_true h2'.2, show (s.out && (s.done == s.steps.length)) = true by rw [show s.out = true from h4, beq_iff_eq.2 h5']; rfl]; rfl
      · have ho : (s.out && (s.done == s.steps.length)) = false := by
          rw [Bool.and_eq_false_iff]; right; simp at h5; simp; omega
        refine callS (numB_con s.status 3) rfl ?_
        conv => whnf
        split <;> rename_i h6 <;> conv => whnf
        · exact finB ⟨stat ho (by simp at h6; simp; omega)⟩
        · have h6' : 0 ≤ s.status ∧ s.status ≤ 3 := by simp at h6; omega
          exact ⟨(), ⟨h1', h2'.1, h2'.2, ho, h6'⟩, ⟨rfl, trivial⟩, ⟨[], rfl⟩, rfl, rfl⟩
    · have ho : (s.out && (s.done == s.steps.length)) = false := by rw [show s.out = false from h4]; rfl
      refine callS (numB_con s.status 3) rfl ?_
      conv => whnf
      split <;> rename_i h6 <;> conv => whnf
      · exact finB ⟨stat ho (by simp at h6; simp; omega)⟩
      · have h6' : 0 ≤ s.status ∧ s.status ≤ 3 := by simp at h6; omega
        exact ⟨(), ⟨h1', h2'.1, h2'.2, ho, h6'⟩, ⟨rfl, trivial⟩, ⟨[], rfl⟩, rfl, rfl⟩
  rintro _ ⟨h1, h2, h3, h4, h5, h6⟩
  rw [sagaB, h1, decide_eq_true h2, decide_eq_true h3, h4]
  simp only [Bool.true_and, Bool.not_false]
  refine aw_ofC T_ok 1005 (by kernel_rfl) ?_
  conv => whnf
  refine AW.cut (fun _ : Unit => True) (fun _ => [(1, .lf (.ptr 0 0)), (4, Go.Rx.I (most9 s))]) (fun _ => [.var [.pv (pI s.id), .pv (pS s.key), .pv (pS s.body), .pv (encSteps s.steps), .pv (pI s.done), .pv (pB s.out), .pv (pB s.back), .pv (pI s.left), .pv (pI s.status)]]) [] (aw_of T_ok (by kernel_rfl) ?_) ?_
  · conv => whnf
    split <;> rename_i h7 <;> conv => whnf
    · split <;> rename_i h8 <;> conv => whnf
      · refine ⟨(), trivial, ⟨rfl, congrArg Go.Rx.I ?_, trivial⟩, ⟨[], rfl⟩, rfl, rfl⟩
        rw [most9, if_pos h7, if_pos h8]; exact wrapI (by omega)
      · refine ⟨(), trivial, ⟨rfl, congrArg Go.Rx.I ?_, trivial⟩, ⟨[], rfl⟩, rfl, rfl⟩
        rw [most9, if_pos h7, if_neg (by rw [show s.out = false from h8]; decide)]
    · refine ⟨(), trivial, ⟨rfl, congrArg Go.Rx.I ?_, trivial⟩, ⟨[], rfl⟩, rfl, rfl⟩
      rw [most9, if_neg (by rw [show s.back = false from h7]; decide)]
  rintro _ _
  have key : (decide (0 ≤ s.left) && (decide (s.left ≤ mostI s) && (!(!s.back && (s.left != 0)) && endsB s s.status))) = ((decide (0 ≤ s.left) && decide (s.left ≤ most9 s)) && endsB s s.status) := by
    rw [most_same h2]; simp only [Bool.and_assoc]
  rw [key]
  refine aw_of T_ok (by kernel_rfl) ?_
  conv => whnf
  refine callS (numB_con s.left (most9 s)) rfl ?_
  conv => whnf
  split <;> rename_i h7 <;> conv => whnf
  · rw [h7, Bool.true_and]
    split <;> rename_i h8 <;> conv => whnf
    · refine finB ⟨?_⟩
      have h8' : s.status = 0 := by simpa using h8
      rw [h8', endsB, if_pos rfl]
    · have h8' : ¬ s.status = 0 := by simpa using h8
      refine callS (ends_con s s.status (by omega)) rfl ?_
      conv => whnf
      exact finB ⟨rfl⟩
  · refine finB ⟨?_⟩
    rw [h7]; rfl
end Go.Proofs.YtfjllfjmggooeaaGreatDoor.Rx

/- What a record makes of a saga: the program's answer. -/
set_option linter.unusedVariables false
set_option linter.unusedSimpArgs false
namespace Go.Rx
def fitsB (s : Saga) (r : Rec) : Bool :=
  if r.kind = 2 then !s.back && (!s.out && (r.n == s.done && decide (s.done < s.steps.length)))
  else if r.kind = 3 then !s.back && (s.out && (r.n == s.done))
  else if r.kind = 4 then !s.back && s.out
  else if r.kind = 5 then s.back && (r.n == IntKind.i64.wrap (s.left - 1))
  else if r.kind = 6 then endsB s r.n else false
def nextS (s : Saga) (r : Rec) : Saga :=
  if r.kind = 2 then ⟨s.id, s.key, s.body, s.steps, s.done, true, s.back, s.left, s.status⟩
  else if r.kind = 3 then ⟨s.id, s.key, s.body, s.steps, IntKind.i64.wrap (s.done + 1), false, s.back, s.left, s.status⟩
  else if r.kind = 4 then ⟨s.id, s.key, s.body, s.steps, s.done, s.out, true, IntKind.i64.wrap (s.done + 1), s.status⟩
  else if r.kind = 5 then ⟨s.id, s.key, s.body, s.steps, s.done, s.out, s.back, r.n, s.status⟩
  else ⟨s.id, s.key, s.body, s.steps, s.done, s.out, s.back, s.left, r.n⟩
def zS : Saga := ⟨0, ⟨#[]⟩, ⟨#[]⟩, [], 0, false, false, 0, 0⟩
def applyS (s : Saga) (r : Rec) : Saga × Int :=
  if (!(sagaB s) || !(recB r)) = true then (zS, 1) else if (r.id != s.id) = true then (zS, 3) else if (r.id == s.id && (s.status == 0 && fitsB s r)) = true then (nextS s r, 0) else (zS, 9)
abbrev tSaga (s : Saga) : TC := .agg [.pv (pI s.id), .pv (pS s.key), .pv (pS s.body), .pv (encSteps s.steps), .pv (pI s.done), .pv (pB s.out), .pv (pB s.back), .pv (pI s.left), .pv (pI s.status)]
abbrev sagaE (p : Saga × Int) : AV := .tup [tSaga p.1, .lf (.pv (pI p.2))]
theorem finZ {e : Int} {q : Saga × Int} (h : Fin (zS, e) q) : ∃ zs, Fa WkA [.agg [.pv (pI 0), .pv (pS ⟨#[]⟩), .pv (pS ⟨#[]⟩), .pv (.sc (.slice none 0 0)), .pv (pI 0), .pv (pB false), .pv (pB false), .pv (pI 0), .pv (pI 0)], Go.Rx.I e] zs ∧ pack zs = some (sagaE q) := by
  refine ⟨[encSaga zS, Go.Rx.I e], ⟨.inr (.inr ⟨_, _, rfl, rfl, wkE _, wkE _, wkE _, wkN 6, wkE _, wkE _, wkE _, wkE _, wkE _, trivial⟩), .inl rfl, trivial⟩, ?_⟩
  rw [← h.out]; rfl
theorem finE {s : Saga} {e : Int} {q : Saga × Int} (h : Fin (s, e) q) : ∃ zs, Fa WkA [encSaga s, Go.Rx.I e] zs ∧ pack zs = some (sagaE q) := by
  refine ⟨_, wk_refl _, ?_⟩
  rw [← h.out]; rfl
end Go.Rx
namespace Go.Proofs.YtfjllfjmggooeaaGreatDoor.Rx
open Go.Rx Go.Proofs Go.Proofs.YtfjllfjmggooeaaGreatDoor.RxH

theorem fits_con (s : Saga) (r : Rec) : Con P 157 [encSaga s, encRec r] (Bl (fitsB s r)) [] := by
  have hm : (s.steps.map Step.enc).length = s.steps.length := List.length_map ..
  refine Con.of T_ok Tryz.func157 rfl (by kernel_rfl) (by kernel_rfl) (aw_of T_ok (by kernel_rfl) ?_)
  conv => whnf
  split <;> rename_i k2 <;> conv => whnf
  · rw [fitsB, if_pos (show r.kind = 2 by simpa using k2)]
    split <;> rename_i h1 <;> conv => whnf
    · rw [show (!s.back) = true from h1]
      split <;> rename_i h2 <;> conv => whnf
      · rw [show (!s.out) = true from h2]
        split <;> rename_i h3 <;> conv => whnf
        · rw [show (r.n == s.done) = true from h3]
          exact finB ⟨by simp only [Bool.true_and]; exact decide_eq_decide.2 (by omega)⟩
        · exact finB ⟨by rw [show (r.n == s.done) = false from h3]; rfl⟩
      · exact finB ⟨by rw [show (!s.out) = false from h2]; rfl⟩
    · exact finB ⟨by rw [show (!s.back) = false from h1]; rfl⟩
  have k2' : ¬ r.kind = 2 := by simpa using k2
  rw [fitsB, if_neg k2']
  split <;> rename_i k3 <;> conv => whnf
  · rw [if_pos (show r.kind = 3 by simpa using k3)]
    split <;> rename_i h1 <;> conv => whnf
    · rw [show (!s.back) = true from h1]
      split <;> rename_i h2 <;> conv => whnf
      · exact finB ⟨by rw [show s.out = true from h2]; rfl⟩
      · exact finB ⟨by rw [show s.out = false from h2]; rfl⟩
    · exact finB ⟨by rw [show (!s.back) = false from h1]; rfl⟩
  rw [if_neg (show ¬ r.kind = 3 by simpa using k3)]
  split <;> rename_i k4 <;> conv => whnf
  · rw [if_pos (show r.kind = 4 by simpa using k4)]
    split <;> rename_i h1 <;> conv => whnf
    · exact finB ⟨by rw [show (!s.back) = true from h1]; rfl⟩
    · exact finB ⟨by rw [show (!s.back) = false from h1]; rfl⟩
  rw [if_neg (show ¬ r.kind = 4 by simpa using k4)]
  split <;> rename_i k5 <;> conv => whnf
  · rw [if_pos (show r.kind = 5 by simpa using k5)]
    split <;> rename_i h1 <;> conv => whnf
    · exact finB ⟨by rw [show s.back = true from h1]; rfl⟩
    · exact finB ⟨by rw [show s.back = false from h1]; rfl⟩
  rw [if_neg (show ¬ r.kind = 5 by simpa using k5)]
  split <;> rename_i k6 <;> conv => whnf
  · rw [if_pos (show r.kind = 6 by simpa using k6)]
    refine callS (ended_con s r.n) rfl ?_
    conv => whnf
    exact finB ⟨rfl⟩
  · rw [if_neg (show ¬ r.kind = 6 by simpa using k6)]
    exact finB ⟨rfl⟩
theorem fitsTop_con (s : Saga) (r : Rec) : Con P 124 [encSaga s, encRec r] (Bl (r.id == s.id && (s.status == 0 && fitsB s r))) [] := by
  refine Con.of T_ok Tryz.func124 rfl (by kernel_rfl) (by kernel_rfl) (aw_of T_ok (by kernel_rfl) ?_)
  conv => whnf
  split <;> rename_i h1 <;> conv => whnf
  · rw [show (r.id == s.id) = true from h1]
    split <;> rename_i h2 <;> conv => whnf
    · rw [show (s.status == 0) = true from h2]
      refine callS (fits_con s r) rfl ?_
      conv => whnf
      exact finB ⟨rfl⟩
    · exact finB ⟨by rw [show (s.status == 0) = false from h2]; rfl⟩
  · exact finB ⟨by rw [show (r.id == s.id) = false from h1]; rfl⟩
theorem clone_con (l : List Step) (hl : l.length * 80 ≤ 140737488351232) : Con P 112 [.lf (.pv (encSteps l))] (.lf (.pv (encSteps l))) [] := by
  have hm : (l.map Step.enc).length = l.length := List.length_map ..
  refine Con.of T_ok Tryz.func112 rfl (by kernel_rfl) (by kernel_rfl) (aw_ofC T_ok 2001 (by kernel_rfl) ?_)
  conv => whnf
  refine AW.seq (AW.nilTest T_ok rfl rfl (by decide) ?_ ?_) fun sl bk h => aw_of T_ok (by kernel_rfl) h
  · intro h0
    conv => whnf
    refine ⟨[.lf (.pv (.sl 6 []))], ⟨.inr (.inl ⟨_, _, rfl, rfl, wkN 6⟩), trivial⟩, ?_⟩
    rw [show l = [] by simpa using h0]; rfl
  · conv => whnf
    refine ⟨_, .inl rfl, ?_⟩
    conv => whnf
    refine ⟨rfl, by show (0 + (l.map Step.enc).length) * 80 ≤ _; omega, ?_⟩
    conv => whnf
    refine ⟨by simp [chunk], ?_⟩
    exact finA ⟨rfl⟩
theorem own_con (s : Saga) (hl : s.steps.length * 80 ≤ 140737488351232) : Con P 96 [encSaga s] (encSaga s) [] := by
  refine Con.of T_ok Tryz.func96 rfl (by kernel_rfl) (by kernel_rfl) (aw_of T_ok (by kernel_rfl) ?_)
  conv => whnf
  refine callU (clone_con _ hl) (fun _ => rfl) ?_
  conv => whnf
  exact finA ⟨rfl⟩
theorem next_con (s : Saga) (r : Rec) (hl : s.steps.length * 80 ≤ 140737488351232) : Con P 133 [encSaga s, encRec r] (encSaga (nextS s r)) [] := by
  refine Con.of T_ok Tryz.func133 rfl (by kernel_rfl) (by kernel_rfl) (aw_of T_ok (by kernel_rfl) ?_)
  conv => whnf
  refine callU (own_con s hl) (fun _ => rfl) ?_
  conv => whnf
  split <;> rename_i k2 <;> conv => whnf
  · rw [nextS, if_pos (show r.kind = 2 by simpa using k2)]
    exact finA ⟨rfl⟩
  rw [nextS, if_neg (show ¬ r.kind = 2 by simpa using k2)]
  split <;> rename_i k3 <;> conv => whnf
  · rw [if_pos (show r.kind = 3 by simpa using k3)]
    exact finA ⟨rfl⟩
  rw [if_neg (show ¬ r.kind = 3 by simpa using k3)]
  split <;> rename_i k4 <;> conv => whnf
  · rw [if_pos (show r.kind = 4 by simpa using k4)]
    exact finA ⟨rfl⟩
  rw [if_neg (show ¬ r.kind = 4 by simpa using k4)]
  split <;> rename_i k5 <;> conv => whnf
  · rw [if_pos (show r.kind = 5 by simpa using k5)]
    exact finA ⟨rfl⟩
  rw [if_neg (show ¬ r.kind = 5 by simpa using k5)]
  exact finA ⟨rfl⟩
end Go.Proofs.YtfjllfjmggooeaaGreatDoor.Rx

/- What a record makes of a saga: the page's answer. -/
set_option linter.unusedVariables false
set_option linter.unusedSimpArgs false
namespace Go.Rx
/-- What the page's own answer holds behind its switch: whether it may be, and the saga. -/
structure Turned (s : Saga) (r : Rec) (q : Bool × Saga) : Prop where
  ok : q.1 = (s.status == 0 && fitsB s r)
  to : q.1 = true → q.2 = nextS s r
theorem turned_no {s x : Saga} {r : Rec} (h : (s.status == 0 && fitsB s r) = false) : Turned s r (false, x) := ⟨h.symm, fun e => by cases e⟩
theorem turned_of {s x : Saga} {r : Rec} {b : Bool} (h : b = (s.status == 0 && fitsB s r)) (k : (s.status == 0 && fitsB s r) = true → x = nextS s r) : Turned s r (b, x) := ⟨h, fun e => k (h ▸ e)⟩
theorem rec_end {r : Rec} (h : recB r = true) (k : r.kind = 6) : 1 ≤ r.n ∧ r.n ≤ 3 := by
  rw [recB, k, Bool.and_eq_true] at h
  have h2 := h.2
  rw [if_neg (by decide), Bool.and_eq_true] at h2
  have h3 := h2.2
  rw [kindB, if_neg (by decide), if_neg (by decide), if_pos rfl] at h3
  simpa using h3
def apply9S (s : Saga) (r : Rec) : Saga × Int := if (r.id != s.id) = true then (zS, 3) else if (r.id == s.id && (s.status == 0 && fitsB s r)) = true then (nextS s r, 0) else (zS, 9)
theorem apply9_same {s : Saga} {r : Rec} (h1 : sagaB s = true) (h2 : recB r = true) : applyS s r = apply9S s r := by rw [applyS, if_neg (by rw [h1, h2]; decide), apply9S]
end Go.Rx
namespace Go.Proofs.YtfjllfjmggooeaaGreatDoor.Rx
open Go.Rx Go.Proofs Go.Proofs.YtfjllfjmggooeaaGreatDoor.RxH

theorem apply9_con' (s : Saga) (r : Rec) (hs : s.Ok) (hk6 : r.kind = 6 → 1 ≤ r.n ∧ r.n ≤ 3) : Con P 80 [encSaga s, encRec r] (sagaE (apply9S s r)) [] := by
  have hlen := hs.steps.len
  have hm : (s.steps.map Step.enc).length = s.steps.length := List.length_map ..
  rw [apply9S]
  refine Con.of T_ok Tryz.func80 rfl (by kernel_rfl) (by kernel_rfl) (aw_ofC T_ok 1005 (by kernel_rfl) ?_)
  conv => whnf
  split <;> rename_i h3 <;> conv => whnf
  · exact finZ ⟨by rw [if_pos (show (r.id != s.id) = true from h3)]⟩
  rw [if_neg (show ¬ (r.id != s.id) = true by rw [show (r.id != s.id) = false from h3]; decide), show (r.id == s.id) = true by simpa using h3, Bool.true_and]
  refine callU (copySaga_con s hlen) (fun _ => rfl) ?_
  conv => whnf
  refine AW.cut (Turned s r) (fun q => [(4, .lf (.ptr 2 0)), (6, .lf (.ptr 3 0)), (7, Bl q.1)]) (fun q => [.var [.pv (pI s.id), .pv (pS s.key), .pv (pS s.body), .pv (encSteps s.steps), .pv (pI s.done), .pv (pB s.out), .pv (pB s.back), .pv (pI s.left), .pv (pI s.status)],
      .var [.pv (pI r.kind), .pv (pI r.id), .pv (pI r.n), .pv (pS r.key), .pv (pS r.body), .pv (encSteps r.steps)],
      .var [.pv (pI 0), .pv (pS ⟨#[]⟩), .pv (pS ⟨#[]⟩), .pv (.sc (.slice none 0 0)), .pv (pI 0), .pv (pB false), .pv (pB false), .pv (pI 0), .pv (pI 0)],
      .var [.pv (pI q.2.id), .pv (pS q.2.key), .pv (pS q.2.body), .pv (encSteps q.2.steps), .pv (pI q.2.done), .pv (pB q.2.out), .pv (pB q.2.back), .pv (pI q.2.left), .pv (pI q.2.status)]]) [] (aw_of T_ok (by kernel_rfl) ?_) ?_
  rotate_left
  · rintro ⟨b, x⟩ ⟨hb, hx⟩
    simp only at hb hx
    rw [← hb]
    refine aw_of T_ok (by kernel_rfl) ?_
    conv => whnf
    cases b with
    | false =>
      conv => whnf
      exact finZ ⟨rfl⟩
    | true =>
      conv => whnf
      refine finE ⟨?_⟩
      rw [hx rfl]; rfl
  conv => whnf
  split <;> rename_i k2 <;> conv => whnf
  · have hf : fitsB s r = (!s.back && (!s.out && (r.n == s.done && decide (s.done < s.steps.length)))) := by rw [fitsB, if_pos (show r.kind = 2 by simpa using k2)]
    have hn : nextS s r = ⟨s.id, s.key, s.body, s.steps, s.done, true, s.back, s.left, s.status⟩ := by rw [nextS, if_pos (show r.kind = 2 by simpa using k2)]
    split <;> rename_i c0 <;> conv => whnf
    · split <;> rename_i c1 <;> conv => whnf
      · split <;> rename_i c2 <;> conv => whnf
        · split <;> rename_i c3 <;> conv => whnf
          · exact ⟨(_, ⟨s.id, s.key, s.body, s.steps, s.done, true, s.back, s.left, s.status⟩), turned_of (by rw [hf, show (s.status == 0) = true from c0, show (!s.back) = true from c1, show (!s.out) = true from c2, show (r.n == s.done) = true from c3]; simp only [Bool.true_and]; exact decide_eq_decide.2 (by omega)) fun _ => hn.symm, ⟨rfl, rfl, rfl, trivial⟩, ⟨[], rfl⟩, rfl, rfl⟩
          · exact ⟨(_, ⟨s.id, s.key, s.body, s.steps, s.done, true, s.back, s.left, s.status⟩), turned_of (by rw [hf, show (r.n == s.done) = false from c3]; simp) fun _ => hn.symm, ⟨rfl, rfl, rfl, trivial⟩, ⟨[], rfl⟩, rfl, rfl⟩
        · exact ⟨(_, ⟨s.id, s.key, s.body, s.steps, s.done, true, s.back, s.left, s.status⟩), turned_of (by rw [hf, show (!s.out) = false from c2]; simp) fun _ => hn.symm, ⟨rfl, rfl, rfl, trivial⟩, ⟨[], rfl⟩, rfl, rfl⟩
      · exact ⟨(_, ⟨s.id, s.key, s.body, s.steps, s.done, true, s.back, s.left, s.status⟩), turned_of (by rw [hf, show (!s.back) = false from c1]; simp) fun _ => hn.symm, ⟨rfl, rfl, rfl, trivial⟩, ⟨[], rfl⟩, rfl, rfl⟩
    · exact ⟨(_, ⟨s.id, s.key, s.body, s.steps, s.done, true, s.back, s.left, s.status⟩), turned_of (by rw [show (s.status == 0) = false from c0]; rfl) fun _ => hn.symm, ⟨rfl, rfl, rfl, trivial⟩, ⟨[], rfl⟩, rfl, rfl⟩
  split <;> rename_i k3 <;> conv => whnf
  · have hk : r.kind = 3 := by simpa using k3
    have hf : fitsB s r = (!s.back && (s.out && (r.n == s.done))) := by rw [fitsB, hk]; rfl
    have hn : nextS s r = ⟨s.id, s.key, s.body, s.steps, IntKind.i64.wrap (s.done + 1), false, s.back, s.left, s.status⟩ := by rw [nextS, hk]; rfl
    split <;> rename_i c0 <;> conv => whnf
    rotate_left
    · skip
      refine AW.draw T_ok rfl (.one 0 (.one 3 (.two 1 (listPl [2, 4, 5, 6]) 4 (listPl [1, 2, 5, 6])))) (by kernel_rfl) (by kernel_rfl) ?_
      conv => whnf
      refine ⟨?_, ?_⟩ <;> conv => whnf
      all_goals exact ⟨(_, ⟨s.id, s.key, s.body, s.steps, IntKind.i64.wrap (s.done + 1), false, s.back, s.left, s.status⟩), turned_of (by rw [show (s.status == 0) = false from c0]; rfl) fun _ => hn.symm, ⟨rfl, rfl, rfl, trivial⟩, ⟨[], rfl⟩, rfl, rfl⟩
    split <;> rename_i c1 <;> conv => whnf
    rotate_left
    · skip
      refine AW.draw T_ok rfl (.one 0 (.one 3 (.two 1 (listPl [2, 4, 5, 6]) 4 (listPl [1, 2, 5, 6])))) (by kernel_rfl) (by kernel_rfl) ?_
      conv => whnf
      refine ⟨?_, ?_⟩ <;> conv => whnf
      all_goals exact ⟨(_, ⟨s.id, s.key, s.body, s.steps, IntKind.i64.wrap (s.done + 1), false, s.back, s.left, s.status⟩), turned_of (by rw [hf, show (!s.back) = false from c1]; simp) fun _ => hn.symm, ⟨rfl, rfl, rfl, trivial⟩, ⟨[], rfl⟩, rfl, rfl⟩
    split <;> rename_i c2 <;> conv => whnf
    rotate_left
    · skip
      refine AW.draw T_ok rfl (.one 0 (.one 3 (.two 1 (listPl [2, 4, 5, 6]) 4 (listPl [1, 2, 5, 6])))) (by kernel_rfl) (by kernel_rfl) ?_
      conv => whnf
      refine ⟨?_, ?_⟩ <;> conv => whnf
      all_goals exact ⟨(_, ⟨s.id, s.key, s.body, s.steps, IntKind.i64.wrap (s.done + 1), false, s.back, s.left, s.status⟩), turned_of (by rw [hf, show (s.out) = false from c2]; simp) fun _ => hn.symm, ⟨rfl, rfl, rfl, trivial⟩, ⟨[], rfl⟩, rfl, rfl⟩
    refine AW.draw T_ok rfl (.one 0 (.one 3 (.two 1 (listPl [2, 4, 5, 6]) 4 (listPl [1, 2, 5, 6])))) (by kernel_rfl) (by kernel_rfl) ?_
    conv => whnf
    refine ⟨?_, ?_⟩ <;> conv => whnf
    all_goals exact ⟨(_, ⟨s.id, s.key, s.body, s.steps, IntKind.i64.wrap (s.done + 1), false, s.back, s.left, s.status⟩), turned_of (by rw [hf, show (s.status == 0) = true from c0, show (!s.back) = true from c1, show (s.out) = true from c2]; rfl) fun _ => hn.symm, ⟨rfl, rfl, rfl, trivial⟩, ⟨[], rfl⟩, rfl, rfl⟩
  split <;> rename_i k4 <;> conv => whnf
  · have hk : r.kind = 4 := by simpa using k4
    have hf : fitsB s r = (!s.back && s.out) := by rw [fitsB, hk]; rfl
    have hn : nextS s r = ⟨s.id, s.key, s.body, s.steps, s.done, s.out, true, IntKind.i64.wrap (s.done + 1), s.status⟩ := by rw [nextS, hk]; rfl
    split <;> rename_i c0 <;> conv => whnf
    rotate_left
    · skip
      refine AW.draw T_ok rfl (.one 0 (.one 3 (.two 1 (listPl [2, 4, 5, 6]) 4 (listPl [1, 2, 5, 6])))) (by kernel_rfl) (by kernel_rfl) ?_
      conv => whnf
      refine ⟨?_, ?_⟩ <;> conv => whnf
      all_goals exact ⟨(_, ⟨s.id, s.key, s.body, s.steps, s.done, s.out, true, IntKind.i64.wrap (s.done + 1), s.status⟩), turned_of (by rw [show (s.status == 0) = false from c0]; rfl) fun _ => hn.symm, ⟨rfl, rfl, rfl, trivial⟩, ⟨[], rfl⟩, rfl, rfl⟩
    split <;> rename_i c1 <;> conv => whnf
    rotate_left
    · skip
      refine AW.draw T_ok rfl (.one 0 (.one 3 (.two 1 (listPl [2, 4, 5, 6]) 4 (listPl [1, 2, 5, 6])))) (by kernel_rfl) (by kernel_rfl) ?_
      conv => whnf
      refine ⟨?_, ?_⟩ <;> conv => whnf
      all_goals exact ⟨(_, ⟨s.id, s.key, s.body, s.steps, s.done, s.out, true, IntKind.i64.wrap (s.done + 1), s.status⟩), turned_of (by rw [hf, show (!s.back) = false from c1]; simp) fun _ => hn.symm, ⟨rfl, rfl, rfl, trivial⟩, ⟨[], rfl⟩, rfl, rfl⟩
    refine AW.draw T_ok rfl (.one 0 (.one 3 (.two 1 (listPl [2, 4, 5, 6]) 4 (listPl [1, 2, 5, 6])))) (by kernel_rfl) (by kernel_rfl) ?_
    conv => whnf
    refine ⟨?_, ?_⟩ <;> conv => whnf
    all_goals exact ⟨(_, ⟨s.id, s.key, s.body, s.steps, s.done, s.out, true, IntKind.i64.wrap (s.done + 1), s.status⟩), turned_of (by rw [hf, show (s.status == 0) = true from c0, show (!s.back) = true from c1]; rfl) fun _ => hn.symm, ⟨rfl, rfl, rfl, trivial⟩, ⟨[], rfl⟩, rfl, rfl⟩
  split <;> rename_i k5 <;> conv => whnf
  · have hk : r.kind = 5 := by simpa using k5
    have hf : fitsB s r = (s.back && (r.n == IntKind.i64.wrap (s.left - 1))) := by rw [fitsB, hk]; rfl
    have hn : nextS s r = ⟨s.id, s.key, s.body, s.steps, s.done, s.out, s.back, r.n, s.status⟩ := by rw [nextS, hk]; rfl
    split <;> rename_i c0 <;> conv => whnf
    rotate_left
    · skip
      exact ⟨(_, ⟨s.id, s.key, s.body, s.steps, s.done, s.out, s.back, IntKind.i64.wrap (s.left - 1), s.status⟩), turned_of (by rw [show (s.status == 0) = false from c0]; rfl) fun e => (by rw [hf] at e; simp at e; rw [hn, e.2.2]), ⟨rfl, rfl, rfl, trivial⟩, ⟨[], rfl⟩, rfl, rfl⟩
    split <;> rename_i c1 <;> conv => whnf
    rotate_left
    · skip
      exact ⟨(_, ⟨s.id, s.key, s.body, s.steps, s.done, s.out, s.back, IntKind.i64.wrap (s.left - 1), s.status⟩), turned_of (by rw [hf, show (s.back) = false from c1]; simp) fun e => (by rw [hf] at e; simp at e; rw [hn, e.2.2]), ⟨rfl, rfl, rfl, trivial⟩, ⟨[], rfl⟩, rfl, rfl⟩
    exact ⟨(_, ⟨s.id, s.key, s.body, s.steps, s.done, s.out, s.back, IntKind.i64.wrap (s.left - 1), s.status⟩), turned_of (by rw [hf, show (s.status == 0) = true from c0, show (s.back) = true from c1]; rfl) fun e => (by rw [hf] at e; simp at e; rw [hn, e.2.2]), ⟨rfl, rfl, rfl, trivial⟩, ⟨[], rfl⟩, rfl, rfl⟩
  split <;> rename_i k6 <;> conv => whnf
  · have hk : r.kind = 6 := by simpa using k6
    have hf : fitsB s r = (endsB s r.n) := by rw [fitsB, hk]; rfl
    have hn : nextS s r = ⟨s.id, s.key, s.body, s.steps, s.done, s.out, s.back, s.left, r.n⟩ := by rw [nextS, hk]; rfl
    split <;> rename_i c0 <;> conv => whnf
    rotate_left
    · skip
      exact ⟨(_, ⟨s.id, s.key, s.body, s.steps, s.done, s.out, s.back, s.left, r.n⟩), turned_of (by rw [show (s.status == 0) = false from c0]; rfl) fun _ => hn.symm, ⟨rfl, rfl, rfl, trivial⟩, ⟨[], rfl⟩, rfl, rfl⟩
    refine callS (ends_con s r.n (hk6 hk)) rfl ?_
    conv => whnf
    exact ⟨(_, ⟨s.id, s.key, s.body, s.steps, s.done, s.out, s.back, s.left, r.n⟩), turned_of (by rw [hf, show (s.status == 0) = true from c0]; rfl) fun _ => hn.symm, ⟨rfl, rfl, rfl, trivial⟩, ⟨[], rfl⟩, rfl, rfl⟩
  have hf : fitsB s r = false := by
    rw [fitsB, if_neg (show ¬ r.kind = 2 by simpa using k2), if_neg (show ¬ r.kind = 3 by simpa using k3), if_neg (show ¬ r.kind = 4 by simpa using k4), if_neg (show ¬ r.kind = 5 by simpa using k5), if_neg (show ¬ r.kind = 6 by simpa using k6)]
  exact ⟨(_, s), turned_no (by rw [hf, Bool.and_false]), ⟨rfl, rfl, rfl, trivial⟩, ⟨[], rfl⟩, rfl, rfl⟩
theorem apply9_con (s : Saga) (r : Rec) (hs : s.Ok) (hr : r.Ok) (h1 : sagaB s = true) (h2 : recB r = true) : Con P 80 [encSaga s, encRec r] (sagaE (applyS s r)) [] := by
  rw [apply9_same h1 h2]
  exact apply9_con' s r hs (rec_end h2)
end Go.Proofs.YtfjllfjmggooeaaGreatDoor.Rx

/- What a record begins; a saga that is called, and done. -/
set_option linter.unusedVariables false
set_option linter.unusedSimpArgs false
namespace Go.Rx
def beginS (r : Rec) : Saga × Int := if (r.kind != 1 || !(recB r)) = true then (zS, 1) else (⟨r.id, r.key, r.body, r.steps, 0, false, false, 0, 0⟩, 0)
def b0 : Rec := ⟨1, 1, 0, ⟨#[107]⟩, ⟨#[98]⟩, [⟨⟨#[97]⟩, 1, ⟨#[99, 114, 101, 100, 105, 116]⟩, ⟨#[100, 101, 98, 105, 116]⟩, ⟨#[]⟩, 0⟩]⟩
def s0 : Saga := ⟨1, ⟨#[107]⟩, ⟨#[98]⟩, [⟨⟨#[97]⟩, 1, ⟨#[99, 114, 101, 100, 105, 116]⟩, ⟨#[100, 101, 98, 105, 116]⟩, ⟨#[]⟩, 0⟩], 0, false, false, 0, 0⟩
def s1 : Saga := ⟨1, ⟨#[107]⟩, ⟨#[98]⟩, [⟨⟨#[97]⟩, 1, ⟨#[99, 114, 101, 100, 105, 116]⟩, ⟨#[100, 101, 98, 105, 116]⟩, ⟨#[]⟩, 0⟩], 0, true, false, 0, 0⟩
def s2 : Saga := ⟨1, ⟨#[107]⟩, ⟨#[98]⟩, [⟨⟨#[97]⟩, 1, ⟨#[99, 114, 101, 100, 105, 116]⟩, ⟨#[100, 101, 98, 105, 116]⟩, ⟨#[]⟩, 0⟩], 1, false, false, 0, 0⟩
theorem ok1 : StepsOk [⟨⟨#[97]⟩, 1, ⟨#[99, 114, 101, 100, 105, 116]⟩, ⟨#[100, 101, 98, 105, 116]⟩, ⟨#[]⟩, 0⟩] := ⟨by decide, by
  intro x hx
  rw [List.mem_singleton] at hx
  subst hx
  exact ⟨by decide, by decide, by decide, by decide⟩⟩
theorem okr (k i n : Int) : (⟨k, i, n, ⟨#[]⟩, ⟨#[]⟩, []⟩ : Rec).Ok := ⟨by show (0 : Nat) ≤ _; omega, by show (0 : Nat) ≤ _; omega, by show (0 : Nat) * 80 ≤ _; omega, by intro x hx; cases hx⟩
end Go.Rx
namespace Go.Proofs.YtfjllfjmggooeaaGreatDoor.Rx
open Go.Rx Go.Proofs Go.Proofs.YtfjllfjmggooeaaGreatDoor.RxH

theorem beginTop_con (r : Rec) (hr : r.Ok) : Con P 71 [encRec r] (sagaE (beginS r)) [] := by
  refine Con.of T_ok Tryz.func71 rfl (by kernel_rfl) (by kernel_rfl) (aw_of T_ok (by kernel_rfl) ?_)
  conv => whnf
  split <;> rename_i h1 <;> conv => whnf
  · exact finZ ⟨by rw [beginS, if_pos (by rw [show (r.kind != 1) = true from h1]; rfl)]⟩
  refine callS (recMay_con r hr) rfl ?_
  conv => whnf
  split <;> rename_i h2 <;> conv => whnf
  · exact finZ ⟨by rw [beginS, if_pos (by rw [show (!(recB r)) = true from h2, Bool.or_true])]⟩
  rw [beginS, if_neg (by rw [show (r.kind != 1) = false from h1, show (!(recB r)) = false from h2]; decide)]
  refine AW.draw T_ok rfl (seqPl 0 12) (by kernel_rfl) (by kernel_rfl) ?_
  conv => whnf
  refine callU (clone_con r.steps hr.steps.len) (fun _ => rfl) ?_
  conv => whnf
  exact finE (s := ⟨r.id, r.key, r.body, r.steps, 0, false, false, 0, 0⟩) (e := 0) ⟨rfl⟩
theorem go1 : beginS b0 = (s0, 0) := by kernel_rfl
theorem go2 : applyS s0 ⟨2, 1, 0, ⟨#[]⟩, ⟨#[]⟩, []⟩ = (s1, 0) := by kernel_rfl
theorem go3 : applyS s1 ⟨3, 1, 0, ⟨#[]⟩, ⟨#[]⟩, []⟩ = (s2, 0) := by kernel_rfl
theorem go4 : applyS s2 ⟨4, 1, 0, ⟨#[]⟩, ⟨#[]⟩, []⟩ = (zS, 9) := by kernel_rfl
end Go.Proofs.YtfjllfjmggooeaaGreatDoor.Rx

/- Records of a kind, of each number, on sagas: the answers are the same. -/
set_option linter.unusedVariables false
set_option linter.unusedSimpArgs false
namespace Go.Rx
theorem apply_err (s : Saga) (r : Rec) : -9223372036854775808 ≤ (applyS s r).2 ∧ (applyS s r).2 ≤ 9223372036854775807 := by
  rw [applyS]; repeat' split
  all_goals (simp only; omega)
theorem apply_steps (s : Saga) (r : Rec) (h : s.steps.length * 80 ≤ 140737488351232) : (applyS s r).1.steps.length * 80 ≤ 140737488351232 := by
  have h1 : (nextS s r).steps = s.steps := by rw [nextS]; repeat' split
                                              all_goals rfl
  rw [applyS]; repeat' split
  all_goals first | (show (nextS s r).steps.length * 80 ≤ _; rw [h1]; exact h) | decide
theorem apply_form {s : Saga} {r : Rec} (h : (sagaB s && recB r) = false) : applyS s r = (zS, 1) := by
  rw [applyS, if_pos]
  rw [Bool.and_eq_false_iff] at h
  rcases h with h | h <;> rw [h]
  · rfl
  · exact Bool.or_true _
theorem neq_self (n : Int) : (n != n) = false := by simp
end Go.Rx
namespace Go.Proofs.YtfjllfjmggooeaaGreatDoor.Rx
open Go.Rx Go.Proofs Go.Proofs.YtfjllfjmggooeaaGreatDoor.RxH

abbrev encAsk (R : List Rec) (S : List ByteArray) (N : List Int) (G : List Saga) : AV := .agg [.pv (encRecs R), .pv (encStrs S), .pv (encInts N), .pv (encSagas G)]
abbrev askV (R : List Rec) (S : List ByteArray) (N : List Int) (G : List Saga) : Blk := .var [.pv (encRecs R), .pv (encStrs S), .pv (encInts N), .pv (encSagas G)]
abbrev sagaV (s : Saga) : Blk := .var [.pv (pI s.id), .pv (pS s.key), .pv (pS s.body), .pv (encSteps s.steps), .pv (pI s.done), .pv (pB s.out), .pv (pB s.back), .pv (pI s.left), .pv (pI s.status)]
end Go.Proofs.YtfjllfjmggooeaaGreatDoor.Rx

/- The arguments of the sagas' laws, opened. -/
namespace Go.Proofs.YtfjllfjmggooeaaGreatDoor.Rx
open Go.Rx Go.Rx.Lift Go.Proofs

theorem opStr : Opens P 9 (fun s : ByteArray => [pS s]) (fun s => s.size ≤ 140737488351232) := opens_string Tryz.underlying9
theorem opInt : Opens P 3 (fun n : Int => [pI n]) (fun n => (Lit.int .i64 n).wf = true) := opens_int Tryz.underlying3
theorem opBool : Opens P 4 (fun b : Bool => [pB b]) (fun _ => True) := opens_bool Tryz.underlying4
theorem opStep : Opens P 99 Step.enc Step.Ok := by
  have h := opens_struct (total := 6) Tryz.underlying99 (by kernel_rfl) (from_cons 1 rfl rfl (by kernel_rfl) opStr (from_cons 1 rfl rfl (by kernel_rfl) opInt (from_cons 1 rfl rfl (by kernel_rfl) opStr (from_cons 1 rfl rfl (by kernel_rfl) opStr (from_cons 1 rfl rfl (by kernel_rfl) opStr (from_last 1 rfl rfl (by kernel_rfl) rfl opInt))))))
  exact opens_iso (fun q : ByteArray × Int × ByteArray × ByteArray × ByteArray × Int => ⟨q.1, q.2.1, q.2.2.1, q.2.2.2.1, q.2.2.2.2.1, q.2.2.2.2.2⟩) (fun _ => rfl) (fun _ h => ⟨h.1, h.2.2.1, h.2.2.2.1, h.2.2.2.2.1⟩) h
theorem opSteps : Opens P 38 (fun l : List Step => [encSteps l]) StepsOk := by
  have h := opens_slice (sz := 6) (B := 80) Tryz.underlying38 (by kernel_rfl) (by decide) (by kernel_rfl) opStep
  exact opens_iso id (fun _ => rfl) (fun _ h => ⟨h.1, h.2⟩) h
theorem opRec : Opens P 42 Rec.enc Rec.Ok := by
  have h := opens_struct (total := 6) Tryz.underlying42 (by kernel_rfl) (from_cons 1 rfl rfl (by kernel_rfl) opInt (from_cons 1 rfl rfl (by kernel_rfl) opInt (from_cons 1 rfl rfl (by kernel_rfl) opInt (from_cons 1 rfl rfl (by kernel_rfl) opStr (from_cons 1 rfl rfl (by kernel_rfl) opStr (from_last 1 rfl rfl (by kernel_rfl) rfl opSteps))))))
  exact opens_iso (fun q : Int × Int × Int × ByteArray × ByteArray × List Step => ⟨q.1, q.2.1, q.2.2.1, q.2.2.2.1, q.2.2.2.2.1, q.2.2.2.2.2⟩) (fun _ => rfl) (fun _ h => ⟨h.2.2.2.1, h.2.2.2.2.1, h.2.2.2.2.2⟩) h
theorem opSaga : Opens P 40 Saga.enc Saga.Ok := by
  have h := opens_struct (total := 9) Tryz.underlying40 (by kernel_rfl) (from_cons 1 rfl rfl (by kernel_rfl) opInt (from_cons 1 rfl rfl (by kernel_rfl) opStr (from_cons 1 rfl rfl (by kernel_rfl) opStr (from_cons 1 rfl rfl (by kernel_rfl) opSteps (from_cons 1 rfl rfl (by kernel_rfl) opInt (from_cons 1 rfl rfl (by kernel_rfl) opBool (from_cons 1 rfl rfl (by kernel_rfl) opBool (from_cons 1 rfl rfl (by kernel_rfl) opInt (from_last 1 rfl rfl (by kernel_rfl) rfl opInt)))))))))
  exact opens_iso (fun q : Int × ByteArray × ByteArray × List Step × Int × Bool × Bool × Int × Int => ⟨q.1, q.2.1, q.2.2.1, q.2.2.2.1, q.2.2.2.2.1, q.2.2.2.2.2.1, q.2.2.2.2.2.2.1, q.2.2.2.2.2.2.2.1, q.2.2.2.2.2.2.2.2⟩) (fun _ => rfl) (fun _ h => ⟨h.2.1, h.2.2.1, h.2.2.2.1⟩) h
theorem opAsk2 : Opens P 58 (fun q : List ByteArray × List Int => [encStrs q.1, encInts q.2]) (fun q => q.1.length * 16 ≤ 140737488351232) := by
  have h := opens_struct (total := 2) Tryz.underlying58 (by kernel_rfl) (from_cons 1 rfl rfl (by kernel_rfl) (opens_slice (sz := 1) (B := 16) Tryz.underlying56 (by kernel_rfl) (by decide) (by kernel_rfl) opStr) (from_last 1 rfl rfl (by kernel_rfl) rfl (opens_slice (sz := 1) (B := 8) Tryz.underlying26 (by kernel_rfl) (by decide) (by kernel_rfl) opInt)))
  exact opens_iso id (fun _ => rfl) (fun _ h => h.1.1) h
theorem opAsk11 : Opens P 60 (fun q : List Rec × List ByteArray × List Int => [encRecs q.1, encStrs q.2.1, encInts q.2.2]) (fun q => (q.1.length * 80 ≤ 140737488351232 ∧ ∀ r ∈ q.1, r.Ok) ∧ q.2.1.length * 16 ≤ 140737488351232) := by
  have h := opens_struct (total := 3) Tryz.underlying60 (by kernel_rfl) (from_cons 1 rfl rfl (by kernel_rfl) (opens_slice (sz := 6) (B := 80) Tryz.underlying55 (by kernel_rfl) (by decide) (by kernel_rfl) opRec) (from_last 2 rfl rfl (by kernel_rfl) rfl opAsk2))
  exact opens_iso id (fun _ => rfl) (fun _ h => h) h
theorem opAsk : Opens P 63 (fun q : List Rec × List ByteArray × List Int × List Saga => [encRecs q.1, encStrs q.2.1, encInts q.2.2.1, encSagas q.2.2.2]) (fun q => AskOk q.1 q.2.1 q.2.2.1 q.2.2.2) := by
  have h := opens_struct (total := 4) Tryz.underlying63 (by kernel_rfl) (from_cons 3 rfl rfl (by kernel_rfl) opAsk11 (from_last 1 rfl rfl (by kernel_rfl) rfl (opens_slice (sz := 9) (B := 96) Tryz.underlying61 (by kernel_rfl) (by decide) (by kernel_rfl) opSaga)))
  exact opens_iso (fun q : (List Rec × List ByteArray × List Int) × List Saga => (q.1.1, q.1.2.1, q.1.2.2, q.2)) (fun _ => rfl) (fun _ h => ⟨h.1.1.1, h.1.1.2, h.1.2, h.2.1, h.2.2⟩) h
end Go.Proofs.YtfjllfjmggooeaaGreatDoor.Rx

/- What is known of slots, said of values that stand for more. -/
set_option linter.unusedVariables false
namespace Go.Rx
open Go.RowKit
def agreeW (sl : Slots) : List (Nat × AV) → Prop
  | [] => True
  | (t, x) :: l => WkA (sl t) x ∧ agreeW sl l
theorem agreeW_get {sl : Slots} : ∀ {S : List (Nat × AV)} {t : Nat}, agreeW sl S → mkS S t = .un ∨ WkA (sl t) (mkS S t)
  | [], t, _ => .inl rfl
  | (t0, x) :: S, t, h => by
    by_cases e : t = t0
    · subst e
      right
      have : mkS ((t, x) :: S) t = x := by simp [mkS, List.lookup]
      rw [this]; exact h.1
    · have : mkS ((t0, x) :: S) t = mkS S t := by
        have hb : (t == t0) = false := by simpa using e
        simp [mkS, List.lookup, hb]
      rw [this]
      exact agreeW_get h.2
theorem AW.wk {P : Program} {n : Fr} {c : Code} {Q : Post} {sl : Slots} {bk : List Blk} (S : List (Nat × AV)) (h : agreeW sl S) (hm : AW P n c Q (mkS S) bk) : AW P n c Q sl bk := by
  refine ⟨fun C G a w hn hr => hm.out C G a w hn ⟨hr.size, hr.dfr, fun t => ?_, hr.mem⟩⟩
  rcases agreeW_get (t := t) h with h1 | h1
  · rw [h1]; trivial
  · exact wkA_rep h1 (hr.slots t)
end Go.Rx

/- Blocks renamed, at a place and where ways meet. -/
set_option linter.unusedVariables false
set_option linter.unusedSimpArgs false
namespace Go.Rx
open Go.RowKit
def renS (idx : List Nat) : List (Nat × AV) → Option (List (Nat × AV))
  | [] => some []
  | (t, x) :: l => match renA idx x, renS idx l with | some y, some ys => some ((t, y) :: ys) | _, _ => none
theorem renS_get {sl : Slots} {idx : List Nat} : ∀ {S S' : List (Nat × AV)} {t : Nat}, agree sl S → renS idx S = some S' → mkS S' t = .un ∨ renA idx (sl t) = some (mkS S' t)
  | [], S', t, _, h => by cases h; exact .inl rfl
  | (t0, x) :: S, S', t, ha, h => by
    unfold renS at h
    split at h
    · rename_i y ys hy hys
      cases h
      by_cases e : t = t0
      · subst e
        right
        have : mkS ((t, y) :: ys) t = y := by simp [mkS, List.lookup]
        rw [this, ha.1]; exact hy
      · have : mkS ((t0, y) :: ys) t = mkS ys t := by
          have hb : (t == t0) = false := by simpa using e
          simp [mkS, List.lookup, hb]
        rw [this]
        exact renS_get ha.2 hys
    · cases h
/-- What is known, told of these blocks alone, in this order. -/
def SelK (m : Nat) (idx : List Nat) (S : List (Nat × AV)) (sl : Slots) (bk : List Blk) (K : Slots → List Blk → Prop) : Prop :=
  agree sl S ∧ (nodupB idx && (Nat.ble m idx.length && heads 0 (idx.take m))) = true ∧ ∃ S' B, renS idx S = some S' ∧ pickB idx bk idx = some B ∧ K (mkS S') B
theorem Rel.sel {C : Ctx} {G : Gh} {sl : Slots} {bk : List Blk} {a : Act} {w : World} {m : Nat} (hr : Rel C G sl bk a w) (hm : C.m = m) {idx : List Nat} {S : List (Nat × AV)} {K : Slots → List Blk → Prop} (h : SelK m idx S sl bk K) :
    ∃ G' sl' bk', K sl' bk' ∧ Rel C G' sl' bk' a w := by
  obtain ⟨ha, hx, S', B, hS, hB, hk⟩ := h
  simp only [Bool.and_eq_true] at hx
  subst hm
  obtain ⟨m2, rep⟩ := hr.mem.sel (nodupB_ok hx.1) hB (Nat.le_of_ble_eq_true hx.2.1) hx.2.2
  refine ⟨G.pick idx, _, B, hk, hr.size, hr.dfr, fun t => ?_, m2⟩
  rcases renS_get (t := t) ha hS with h1 | h1
  · rw [h1]; trivial
  · have h0 := hr.slots t
    generalize mkS S' t = y at h1
    generalize sl t = x at h1 h0
    have h2 : renAs idx [x] = some [y] := by simp [renAs, h1]
    exact (renAs_rep rep h2 (us := [_]) ⟨h0, trivial⟩).1
theorem AW.sel {P : Program} {n : Fr} {c : Code} {Q : Post} {sl : Slots} {bk : List Blk} (idx : List Nat) (S : List (Nat × AV)) (h : SelK n.m idx S sl bk fun sl bk => AW P n c Q sl bk) : AW P n c Q sl bk := by
  refine ⟨fun C G a w hn hr => ?_⟩
  obtain ⟨G', sl', bk', hk, hr'⟩ := hr.sel hn.2 h
  exact hk.out C G' a w hn hr'
/-- Ways meet where their blocks are named unlike. -/
theorem AW.cutS {P : Program} {n : Fr} {sl : Slots} {bk : List Blk} {α : Type} (I : α → Prop) (S : α → List (Nat × AV)) (B : α → List Blk) {x y : Code} {Q : Post}
    (hx : AW P n x (thenQ (fun sl bk => ∃ idx S0, SelK n.m idx S0 sl bk fun sl bk => ∃ ns, nilsK ns sl bk (Meets n.m I S B)) Q) sl bk) (hm : ∀ i, I i → AW P n y Q (mkS (S i)) (B i)) : AW P n (.seq x y) Q sl bk := by
  refine ⟨fun C G a w hn hr => ?_⟩
  refine wp_seq (wp_mono (hx.out C G a w hn hr) fun e a w ⟨G', sl', bk', hk, h'⟩ => ?_)
  cases e <;> first
    | exact ⟨G', sl', bk', hk, h'⟩
    | skip
  obtain ⟨idx, S0, hs⟩ := hk
  obtain ⟨G2, sl2, bk2, ⟨ns, hk2⟩, h2⟩ := h'.sel hn.2 hs
  obtain ⟨G1, sl1, bk1, ⟨i, hi, hf⟩, h1⟩ := nilsK_sound h2 hk2
  exact (hm i hi).out C G1 a w hn (h1.fits hn.2 hf)
end Go.Rx

/- Small functions that several layers share: numbers within bounds, copies of texts, what writes over steps. -/
set_option linter.unusedVariables false
set_option linter.unusedSimpArgs false
namespace Go.Rx
def within (i n : Int) : Int := IntKind.i64.wrap (IntKind.u64.wrap i % IntKind.u64.wrap n)
theorem u64_wrap (n : Int) : IntKind.u64.wrap n = n % 18446744073709551616 := rfl
theorem within_lt {i n : Int} (h : 0 < n ∧ n ≤ 1073741824) : 0 ≤ within i n ∧ within i n < n := by
  rw [within, u64_wrap, u64_wrap, show n % 18446744073709551616 = n by omega]
  have h1 := Int.emod_nonneg (i % 18446744073709551616) (show n ≠ 0 by omega)
  have h2 := Int.emod_lt_of_pos (i % 18446744073709551616) (show 0 < n by omega)
  rw [wrapI (by omega)]
  exact ⟨h1, h2⟩
def spoilt : Step := ⟨⟨#[115, 112, 111, 105, 108, 116]⟩, 0, ⟨#[]⟩, ⟨#[]⟩, ⟨#[]⟩, 0⟩
theorem set_next {α β : Type} {e : α → β} {x : β} {l : List α} {k : Nat} (h : k < l.length) : ((l.take k).map (fun _ => x) ++ (l.drop k).map e).set (k : Int).toNat x = (l.take (k + 1)).map (fun _ => x) ++ (l.drop (k + 1)).map e := by
  have h1 : ((l.take k).map (fun _ => x)).length = k := by rw [List.length_map, List.length_take]; omega
  rw [Int.toNat_natCast, List.set_append_right _ _ (by omega), h1, Nat.sub_self, List.drop_eq_getElem_cons h, List.take_succ_eq_append_getElem h, List.map_append, List.map_cons, List.set_cons_zero, List.append_assoc]
  rfl
end Go.Rx
namespace Go.Proofs.YtfjllfjmggooeaaGreatDoor.Rx
open Go.Rx Go.Proofs

theorem within_con (i n : Int) (h : 0 < n ∧ n ≤ 1073741824) : Con P 17 [I i, I n] (I (within i n)) [] := by
  refine Con.of T_ok Tryz.func17 rfl (by kernel_rfl) (by kernel_rfl) (aw_of T_ok (by kernel_rfl) ?_)
  conv => whnf
  refine ⟨by rw [u64_wrap]; omega, by rw [u64_wrap]; omega, ?_⟩
  conv => whnf
  exact finI ⟨rfl⟩
theorem copyRec_con (r : Rec) (h : r.Ok) : Con P 34 [encRec r] (encRec r) [] := by
  refine Con.of T_ok Tryz.func34 rfl (by kernel_rfl) (by kernel_rfl) (aw_of T_ok (by kernel_rfl) ?_)
  conv => whnf
  refine callU (copySteps_con _ h.steps.len) (fun _ => rfl) ?_
  conv => whnf
  exact finA ⟨rfl⟩
end Go.Proofs.YtfjllfjmggooeaaGreatDoor.Rx

/- What writes over answers. -/

/- How much a saga needs; its steps' marks. -/
set_option linter.unusedVariables false
set_option linter.unusedSimpArgs false
namespace Go.Rx
def nI (s : Saga) : Int := IntKind.i64.wrap (IntKind.i64.wrap (IntKind.i64.wrap (2 * IntKind.i64.wrap ((s.steps.length : Int) - s.done)) + s.steps.length) + 2)
def roomI (s : Saga) : Int :=
  if s.status = 0 then IntKind.i64.wrap (24 * (if s.back then IntKind.i64.wrap (s.left + 1) else if s.out then IntKind.i64.wrap (nI s - 1) else nI s)) else 0
def needP (s : Saga) : Int × Int := if sagaB s then (roomI s, 0) else (0, 1)
abbrev numE (p : Int × Int) : AV := .tup [.lf (.pv (pI p.1)), .lf (.pv (pI p.2))]
theorem finNE {a c : Int} {q : Int × Int} (h : Fin (a, c) q) : ∃ zs, Fa WkA [Go.Rx.I a, Go.Rx.I c] zs ∧ pack zs = some (numE q) := ⟨_, wk_refl _, by rw [← h.out]; rfl⟩
def mUndone : ByteArray := ⟨#[117, 110, 100, 111, 110, 101]⟩
def mCalled : ByteArray := ⟨#[99, 97, 108, 108, 101, 100]⟩
def mDone : ByteArray := ⟨#[100, 111, 110, 101]⟩
def markS (s : Saga) (i : Int) : ByteArray := if mostI s ≤ i then ⟨#[]⟩ else if (s.back && decide (s.left ≤ i)) = true then mUndone else if i = s.done then mCalled else mDone
def marksL (s : Saga) : List ByteArray := (List.range s.steps.length).map fun (i : Nat) => markS s i
theorem marks_go {s : Saga} {k : Nat} : ((List.range (k + 1)).map fun (i : Nat) => markS s i) = ((List.range k).map fun (i : Nat) => markS s i) ++ [markS s k] := by
  rw [List.range_succ, List.map_append]; rfl
end Go.Rx
namespace Go.Proofs.YtfjllfjmggooeaaGreatDoor.Rx
open Go.Rx Go.Proofs Go.Proofs.YtfjllfjmggooeaaGreatDoor.RxH

theorem room_con (s : Saga) : Con P 145 [encSaga s] (Go.Rx.I (roomI s)) [] := by
  have hm : (s.steps.map Step.enc).length = s.steps.length := List.length_map ..
  refine Con.of T_ok Tryz.func145 rfl (by kernel_rfl) (by kernel_rfl) (aw_of T_ok (by kernel_rfl) ?_)
  conv => whnf
  rw [roomI, nI, ← hm]
  split <;> rename_i h1 <;> conv => whnf
  · exact finI ⟨by rw [if_neg (show ¬ s.status = 0 by simpa using h1)]⟩
  rw [if_pos (show s.status = 0 by simpa using h1)]
  split <;> rename_i h2 <;> conv => whnf
  · exact finI ⟨by rw [if_pos h2]⟩
  rw [if_neg (show ¬ s.back = true by rw [show s.back = false from h2]; decide)]
  split <;> rename_i h3 <;> conv => whnf
  · exact finI ⟨by rw [if_pos h3]⟩
  · exact finI ⟨by rw [if_neg (show ¬ s.out = true by rw [show s.out = false from h3]; decide)]⟩
theorem need9_con (s : Saga) : Con P 18 [encSaga s] (Go.Rx.I (roomI s)) [] := by
  have hm : (s.steps.map Step.enc).length = s.steps.length := List.length_map ..
  refine Con.of T_ok Tryz.func18 rfl (by kernel_rfl) (by kernel_rfl) (aw_of T_ok (by kernel_rfl) ?_)
  conv => whnf
  rw [roomI, nI, ← hm]
  split <;> rename_i h1 <;> conv => whnf
  · exact finI ⟨by rw [if_neg (show ¬ s.status = 0 by simpa using h1)]⟩
  rw [if_pos (show s.status = 0 by simpa using h1)]
  split <;> rename_i h2 <;> conv => whnf
  · exact finI ⟨by rw [if_pos h2]⟩
  rw [if_neg (show ¬ s.back = true by rw [show s.back = false from h2]; decide)]
  split <;> rename_i h3 <;> conv => whnf
  · exact finI ⟨by rw [if_pos h3]⟩
  · exact finI ⟨by rw [if_neg (show ¬ s.out = true by rw [show s.out = false from h3]; decide)]⟩
end Go.Proofs.YtfjllfjmggooeaaGreatDoor.Rx

/- The marks of all steps. -/
set_option linter.unusedVariables false
set_option linter.unusedSimpArgs false
namespace Go.Rx
def marksP (s : Saga) : List ByteArray × Int := if sagaB s then (marksL s, 0) else ([], 1)
abbrev strsE (p : List ByteArray × Int) : AV := .tup [.lf (.pv (encStrs p.1)), .lf (.pv (pI p.2))]
theorem markStr (l : List ByteArray) (x : ByteArray) : (l.map fun s => [pS s]) ++ [[pS x]] = (l ++ [x]).map fun s => [pS s] := by simp
/-- The page's own mark is the program's. -/
theorem mark_same {s : Saga} {i : Int} (b : ByteArray) (c : ByteArray)
    (hb : b = if i = s.done ∧ s.out = true then mCalled else if i < s.done then mDone else ⟨#[]⟩)
    (hc : c = if s.back = true ∧ s.left ≤ i ∧ b ≠ ⟨#[]⟩ then mUndone else b) : c = markS s i := by
  have n1 : mCalled ≠ ⟨#[]⟩ := by decide
  have n2 : mDone ≠ ⟨#[]⟩ := by decide
  subst hc hb
  unfold markS mostI
  cases ho : s.out <;> cases hk : s.back <;> simp only [Bool.false_eq_true, and_false, false_and, if_false, if_true, and_true, true_and, Bool.false_and, Bool.true_and, decide_eq_true_eq]
  all_goals
    by_cases h1 : i < s.done
    · have h2 : ¬ i = s.done := by omega
      have h3 : ¬ s.done ≤ i := by omega
      have h4 : ¬ s.done + 1 ≤ i := by omega
      simp [h1, h2, h3, h4, n2]
    · by_cases h2 : i = s.done
      · have h4 : ¬ s.done + 1 ≤ i := by omega
        have h5 : s.done < s.done + 1 := by omega
        have h6 : ¬ s.done + 1 ≤ s.done := by omega
        simp [h2, n1, h5, h6]
      · have h3 : s.done ≤ i := by omega
        have h4 : s.done + 1 ≤ i := by omega
        simp [h1, h2, h3, h4]
end Go.Rx
namespace Go.Proofs.YtfjllfjmggooeaaGreatDoor.Rx
open Go.Rx Go.Proofs Go.Proofs.YtfjllfjmggooeaaGreatDoor.RxH

end Go.Proofs.YtfjllfjmggooeaaGreatDoor.Rx

/- The marks of all steps: the page's answer. -/
set_option linter.unusedVariables false
set_option linter.unusedSimpArgs false
namespace Go.Proofs.YtfjllfjmggooeaaGreatDoor.Rx
open Go.Rx Go.Proofs Go.Proofs.YtfjllfjmggooeaaGreatDoor.RxH

end Go.Proofs.YtfjllfjmggooeaaGreatDoor.Rx

/- A saga of so many steps. -/
set_option linter.unusedVariables false
set_option linter.unusedSimpArgs false
namespace Go.Rx
def roadT (i : Nat) : Step := ⟨⟨#[UInt8.ofNat (97 + i)]⟩, 3, ⟨#[98, 111, 111, 107]⟩, ⟨#[99, 97, 110, 99, 101, 108]⟩, ⟨#[119]⟩, i⟩
def roadL (n : Nat) : List Step := (List.range n).map roadT
def roadR (n : Nat) : Rec := ⟨1, 3, 0, ⟨#[107]⟩, ⟨#[98]⟩, roadL n⟩
def roadS (n : Nat) : Saga := ⟨3, ⟨#[107]⟩, ⟨#[98]⟩, roadL n, 0, false, false, 0, 0⟩
theorem road_succ (n : Nat) : roadL (n + 1) = roadL n ++ [roadT n] := by rw [roadL, List.range_succ, List.map_append]; rfl
theorem road_len (n : Nat) : (roadL n).length = n := by simp [roadL]
end Go.Rx
namespace Go.Proofs.YtfjllfjmggooeaaGreatDoor.Rx
open Go.Rx Go.Proofs Go.Proofs.YtfjllfjmggooeaaGreatDoor.RxH

end Go.Proofs.YtfjllfjmggooeaaGreatDoor.Rx

/- Behind each record of a saga that goes there and back: marks and needs. -/
set_option linter.unusedVariables false
set_option linter.unusedSimpArgs false
namespace Go.Rx
/-- The record that the law asks next. -/
def recM (s : Saga) (n i : Nat) : Rec :=
  if s.back then ⟨5, 3, IntKind.i64.wrap (s.left - 1), ⟨#[]⟩, ⟨#[]⟩, []⟩ else if s.out then (if n < i then ⟨4, 3, 0, ⟨#[]⟩, ⟨#[]⟩, []⟩ else ⟨3, 3, s.done, ⟨#[]⟩, ⟨#[]⟩, []⟩) else ⟨2, 3, s.done, ⟨#[]⟩, ⟨#[]⟩, []⟩
def stM (n : Nat) : Nat → Saga
  | 0 => roadS n
  | i + 1 => (apply9S (stM n i) (recM (stM n i) n i)).1
def goM (n i : Nat) : Bool := !(sagaB (stM n i)) || ((apply9S (stM n i) (recM (stM n i) n i)).2 != 0 || (i + 1 == 2 * n + 2 || sagaB (stM n (i + 1))))
theorem goM_all : ((List.range 5).all fun n => sagaB (roadS (n + 1)) && (List.range (2 * (n + 1) + 2)).all (goM (n + 1))) = true := by kernel_rfl
theorem goM_go {n i : Nat} (h1 : 1 ≤ n) (h2 : n ≤ 5) (hi : i < 2 * n + 2) (hs : sagaB (stM n i) = true) (he : (apply9S (stM n i) (recM (stM n i) n i)).2 = 0) : i + 1 = 2 * n + 2 ∨ sagaB (stM n (i + 1)) = true := by
  have := List.all_eq_true.1 goM_all (n - 1) (List.mem_range.2 (by omega))
  rw [Nat.sub_add_cancel h1, Bool.and_eq_true] at this
  have h := List.all_eq_true.1 this.2 i (List.mem_range.2 hi)
  rw [goM, hs, he] at h
  simpa using h
theorem goM_0 {n : Nat} (h1 : 1 ≤ n) (h2 : n ≤ 5) : sagaB (roadS n) = true := by
  have := List.all_eq_true.1 goM_all (n - 1) (List.mem_range.2 (by omega))
  rw [Nat.sub_add_cancel h1, Bool.and_eq_true] at this
  exact this.1
theorem next_keep (s : Saga) (r : Rec) : (nextS s r).key = s.key ∧ (nextS s r).body = s.body ∧ (nextS s r).steps = s.steps := by
  rw [nextS]; repeat' split
  all_goals exact ⟨rfl, rfl, rfl⟩
theorem next_ok {s : Saga} {r : Rec} (h : s.Ok) : (nextS s r).Ok := by
  obtain ⟨h1, h2, h3⟩ := next_keep s r
  exact ⟨by rw [h1]; exact h.key, by rw [h2]; exact h.body, by rw [h3]; exact h.steps⟩
theorem zS_ok : zS.Ok := ⟨by decide, by decide, ⟨by decide, by intro x hx; cases hx⟩⟩
theorem apply9_ok {s : Saga} {r : Rec} (h : s.Ok) : (apply9S s r).1.Ok := by
  rw [apply9S]; split
  · exact zS_ok
  split
  · exact next_ok h
  · exact zS_ok
theorem road_ok (n : Nat) (h : n ≤ 5) : (roadS n).Ok := by
  refine ⟨by show (1 : Nat) ≤ _; decide, by show (1 : Nat) ≤ _; decide, ⟨by show (roadL n).length * 80 ≤ _; rw [road_len]; omega, ?_⟩⟩
  intro x hx
  obtain ⟨i, _, rfl⟩ := List.mem_map.1 (show x ∈ (List.range n).map roadT from hx)
  exact ⟨by show (1 : Nat) ≤ _; decide, by show (4 : Nat) ≤ _; decide, by show (6 : Nat) ≤ _; decide, by show (1 : Nat) ≤ _; decide⟩
theorem stM_ok (n : Nat) (h : n ≤ 5) : ∀ i, (stM n i).Ok
  | 0 => road_ok n h
  | i + 1 => apply9_ok (stM_ok n h i)
theorem apply9_err (s : Saga) (r : Rec) : -9223372036854775808 ≤ (apply9S s r).2 ∧ (apply9S s r).2 ≤ 9223372036854775807 := by
  rw [apply9S]; repeat' split
  all_goals (simp only; omega)
theorem recM_ok (s : Saga) (n i : Nat) : (recM s n i).Ok := by
  rw [recM]; repeat' split
  all_goals exact okr _ _ _
theorem recM_kind (s : Saga) (n i : Nat) : (recM s n i).kind ≠ 6 := by
  rw [recM]; repeat' split
  all_goals (simp only; omega)
end Go.Rx
namespace Go.Proofs.YtfjllfjmggooeaaGreatDoor.Rx
open Go.Rx Go.Proofs Go.Proofs.YtfjllfjmggooeaaGreatDoor.RxH

end Go.Proofs.YtfjllfjmggooeaaGreatDoor.Rx

/- A saga that goes there, and back: the law that it is committed, or undone. -/
set_option linter.unusedVariables false
set_option linter.unusedSimpArgs false
namespace Go.Rx
def crd (k n : Int) : Rec := ⟨k, 3, n, ⟨#[]⟩, ⟨#[]⟩, []⟩
def goL (m : Nat) : List Rec := (List.range m).flatMap fun (i : Nat) => [crd 2 i, crd 3 i]
theorem goL_succ (m : Nat) : goL (m + 1) = goL m ++ [crd 2 m, crd 3 m] := by rw [goL, List.range_succ, List.flatMap_append]; simp [goL]
theorem goL_len (m : Nat) : (goL m).length = 2 * m := by
  induction m with
  | zero => rfl
  | succ m ih => rw [goL_succ, List.length_append, ih]; simp; omega
def backL (stop m : Nat) : List Rec := (List.range m).map fun (j : Nat) => crd 5 ((stop : Int) - j)
theorem backL_succ (stop m : Nat) : backL stop (m + 1) = backL stop m ++ [crd 5 ((stop : Int) - m)] := by rw [backL, List.range_succ, List.map_append]; rfl
theorem backL_len (stop m : Nat) : (backL stop m).length = m := by simp [backL]
def roadsL (n stop least : Nat) : List Rec := if stop = n then goL stop ++ [crd 6 1] else goL stop ++ [crd 2 stop, crd 4 0] ++ backL stop (stop + 1 - least) ++ [crd 6 (if 0 < least then 3 else 2)]
def runR : Saga → List Rec → Bool × Saga
  | s, [] => (true, s)
  | s, r :: l => if ((applyS s r).2 == 0 && sagaB (applyS s r).1) = true then runR (applyS s r).1 l else (false, s)
def goR (n stop least : Nat) : Bool := let q := runR (roadS n) (roadsL n stop least); q.1 && (q.2.status != 0 && (sagaB q.2 && roomI q.2 == 0))
theorem goR_all : ((List.range 5).all fun n => (List.range (n + 2)).all fun stop => (List.range (stop + 1)).all fun least => goR (n + 1) stop least) = true := by kernel_rfl
theorem goR_of {n stop least : Nat} (h1 : 1 ≤ n) (h2 : n ≤ 5) (h3 : stop ≤ n) (h4 : least ≤ stop) : goR n stop least = true := by
  have h := List.all_eq_true.1 goR_all (n - 1) (List.mem_range.2 (by omega))
  have h := List.all_eq_true.1 h stop (List.mem_range.2 (by omega))
  have h := List.all_eq_true.1 h least (List.mem_range.2 (by omega))
  rwa [Nat.sub_add_cancel h1] at h
theorem runR_go {s : Saga} {r : Rec} {l : List Rec} (h : (runR s (r :: l)).1 = true) : (applyS s r).2 = 0 ∧ sagaB (applyS s r).1 = true ∧ runR s (r :: l) = runR (applyS s r).1 l := by
  rw [runR] at h ⊢
  split at h
  · rename_i hc
    rw [if_pos hc]
    simp at hc
    exact ⟨hc.1, hc.2, rfl⟩
  · cases h
theorem apply_ok {s : Saga} {r : Rec} (h : s.Ok) : (applyS s r).1.Ok := by
  rw [applyS]; repeat' split
  all_goals first | exact zS_ok | exact next_ok h
theorem crd_ok (k n : Int) : (crd k n).Ok := okr k 3 n
/-- A record without steps, as it is built: its steps are nil. -/
abbrev crdE (r : Rec) : List PV := [pI r.kind, pI r.id, pI r.n, pS r.key, pS r.body, .sc (.slice none 0 0)]
/-- Records that go: of one saga, to an end. -/
structure Goes (n : Nat) (l : List Rec) : Prop where
  run : (runR (roadS n) l).1 = true
  st : (runR (roadS n) l).2.status ≠ 0
  may : sagaB (runR (roadS n) l).2 = true
  room : roomI (runR (roadS n) l).2 = 0
  each : ∀ r ∈ l, ∃ k m, r = crd k m
  len : l.length ≤ 1000
theorem goes_of {n stop least : Nat} (h1 : 1 ≤ n) (h2 : n ≤ 5) (h3 : stop ≤ n) (h4 : least ≤ stop) : Goes n (roadsL n stop least) := by
  have h := goR_of h1 h2 h3 h4
  unfold goR at h
  simp only [Bool.and_eq_true, bne_iff_ne, ne_eq, beq_iff_eq] at h
  have e0 : ∀ r ∈ goL stop, ∃ k m, r = crd k m := fun r hr => by
    unfold goL at hr
    simp only [List.mem_flatMap, List.mem_cons, List.not_mem_nil, or_false] at hr
    obtain ⟨i, _, h | h⟩ := hr <;> exact ⟨_, _, h⟩
  refine ⟨h.1, h.2.1, h.2.2.1, h.2.2.2, fun r hr => ?_, by unfold roadsL; split <;> simp [goL_len, backL_len] <;> omega⟩
  unfold roadsL at hr
  split at hr
  · simp only [List.mem_append, List.mem_cons, List.not_mem_nil, or_false] at hr
    rcases hr with hr | hr
    · exact e0 r hr
    · exact ⟨_, _, hr⟩
  · simp only [List.mem_append, List.mem_cons, List.not_mem_nil, or_false] at hr
    rcases hr with ((hr | hr | hr) | hr) | hr
    · exact e0 r hr
    · exact ⟨_, _, hr⟩
    · exact ⟨_, _, hr⟩
    · unfold backL at hr
      obtain ⟨j, _, rfl⟩ := List.mem_map.1 hr
      exact ⟨_, _, rfl⟩
    · exact ⟨_, _, hr⟩
end Go.Rx
namespace Go.Proofs.YtfjllfjmggooeaaGreatDoor.Rx
open Go.Rx Go.Proofs Go.Proofs.YtfjllfjmggooeaaGreatDoor.RxH

end Go.Proofs.YtfjllfjmggooeaaGreatDoor.Rx

/- All records of a saga's number, behind those of a script. -/
set_option linter.unusedVariables false
set_option linter.unusedSimpArgs false
namespace Go.Rx
def recK (id k n : Int) : Rec := ⟨k, id, n, ⟨#[]⟩, ⟨#[]⟩, []⟩
def kindL (id : Int) (a m : Nat) : List Rec := (List.range m).map fun (n : Nat) => recK id ((a + 2 : Nat) : Int) n
def exL (id : Int) (m : Nat) : List Rec := (List.range m).flatMap fun a => kindL id a 5
def recsL (R : List Rec) (id : Int) : List Rec := R.take 6 ++ exL id 5
theorem kindL_succ (id : Int) (a m : Nat) : kindL id a (m + 1) = kindL id a m ++ [recK id ((a + 2 : Nat) : Int) m] := by rw [kindL, List.range_succ, List.map_append]; rfl
theorem kindL_len (id : Int) (a m : Nat) : (kindL id a m).length = m := by simp [kindL]
theorem exL_succ (id : Int) (m : Nat) : exL id (m + 1) = exL id m ++ kindL id m 5 := by rw [exL, List.range_succ, List.flatMap_append]; simp [exL]
theorem exL_len (id : Int) (m : Nat) : (exL id m).length = 5 * m := by
  induction m with
  | zero => rfl
  | succ m ih => rw [exL_succ, List.length_append, ih, kindL_len]; omega
theorem exL_mem {id : Int} {m : Nat} {r : Rec} (h : r ∈ exL id m) : ∃ k n, r = recK id k n := by
  unfold exL at h
  simp only [List.mem_flatMap] at h
  obtain ⟨a, _, h⟩ := h
  obtain ⟨n, _, rfl⟩ := List.mem_map.1 h
  exact ⟨_, _, rfl⟩
theorem recK_ok (id k n : Int) : (recK id k n).Ok := okr k id n
theorem fa_mem {α β : Type} {R : β → β → Prop} {f g : α → β} : ∀ {l : List α}, (∀ a ∈ l, R (f a) (g a)) → Fa R (l.map f) (l.map g)
  | [], _ => trivial
  | a :: l, h => ⟨h a (by simp), fa_mem fun b hb => h b (by simp [hb])⟩
theorem ex_rows (id : Int) (m : Nat) : Fa (Fa WkP) ((exL id m).map crdE) ((exL id m).map Rec.enc) := fa_mem fun r hr => by
  obtain ⟨k, n, rfl⟩ := exL_mem hr
  exact ⟨wkPE _, wkPE _, wkPE _, wkPE _, wkPE _, wkPN 6, trivial⟩
theorem recs_rows (R : List Rec) (id : Int) : Fa (Fa WkP) ((R.take 6).map Rec.enc ++ (exL id 5).map crdE) ((recsL R id).map Rec.enc) := by
  rw [recsL, List.map_append]
  exact Fa.append (fa_refl (fa_refl wkPE) _) (ex_rows id 5)
theorem recs_len (R : List Rec) (id : Int) : (recsL R id).length ≤ 31 ∧ 25 ≤ (recsL R id).length := by
  rw [recsL, List.length_append, exL_len, List.length_take]; omega
theorem recs_ok {R : List Rec} (h : ∀ r ∈ R, r.Ok) (id : Int) : ∀ r ∈ recsL R id, r.Ok := fun r hr => by
  rw [recsL, List.mem_append] at hr
  rcases hr with hr | hr
  · exact h r (List.mem_of_mem_take hr)
  · obtain ⟨k, n, rfl⟩ := exL_mem hr
    exact recK_ok id k n
end Go.Rx
namespace Go.Proofs.YtfjllfjmggooeaaGreatDoor.Rx
open Go.Rx Go.Proofs Go.Proofs.YtfjllfjmggooeaaGreatDoor.RxH

end Go.Proofs.YtfjllfjmggooeaaGreatDoor.Rx

/- What a record makes of a saga: it ends. -/
set_option linter.unusedVariables false
set_option linter.unusedSimpArgs false
namespace Go.Rx
structure Parts (s : Saga) : Prop where
  rc : recB (begR s) = true
  d0 : 0 ≤ s.done
  d1 : s.done ≤ s.steps.length
  ou : s.out = true → ¬ s.done = s.steps.length
  l0 : 0 ≤ s.left
  l1 : s.left ≤ mostI s
  bk : s.back = false → s.left = 0
  en : endsB s s.status = true
theorem parts_iff {s : Saga} : sagaB s = true ↔ Parts s := by
  constructor
  · intro h
    simp only [sagaB, Bool.and_eq_true, decide_eq_true_eq, Bool.not_eq_true', Bool.and_eq_false_iff, bne_eq_false_iff_eq, beq_eq_false_iff_ne, Bool.not_eq_false'] at h
    obtain ⟨h1, h2, h3, h4, h5, h6, h7, h8⟩ := h
    refine ⟨h1, h2, h3, fun e => ?_, h5, h6, fun e => ?_, h8⟩
    · rcases h4 with h4 | h4
      · rw [e] at h4; cases h4
      · exact h4
    · rcases h7 with h7 | h7
      · rw [e] at h7; cases h7
      · exact h7
  · intro h
    simp only [sagaB, Bool.and_eq_true, decide_eq_true_eq, Bool.not_eq_true', Bool.and_eq_false_iff, bne_eq_false_iff_eq, beq_eq_false_iff_ne, Bool.not_eq_false']
    refine ⟨h.rc, h.d0, h.d1, ?_, h.l0, h.l1, ?_, h.en⟩
    · cases ho : s.out
      · exact .inl rfl
      · exact .inr (h.ou ho)
    · cases hb : s.back
      · exact .inr (h.bk hb)
      · exact .inl rfl
theorem parts_len {s : Saga} (h : Parts s) : 1 ≤ s.steps.length ∧ s.steps.length ≤ 5 ∧ 1 ≤ s.id ∧ s.id ≤ 20 := by
  have h1 := h.rc
  rw [recB, Bool.and_eq_true, if_pos rfl, begB] at h1
  simp only [Bool.and_eq_true, decide_eq_true_eq] at h1
  obtain ⟨⟨h2, h3⟩, _, _, _, _, _, h4⟩ := h1
  rw [stepsB] at h4
  simp only [Bool.and_eq_true, decide_eq_true_eq] at h4
  exact ⟨h4.2.1, h4.2.2, h2, h3⟩
def needN (s : Saga) : Int := if s.back then s.left + 1 else if s.out then 2 * (s.steps.length - s.done) + s.steps.length + 1 else 2 * (s.steps.length - s.done) + s.steps.length + 2
theorem most_le {s : Saga} (h : Parts s) : mostI s ≤ 6 := by
  have := parts_len h
  have := h.d1
  unfold mostI; split <;> omega
theorem room_eq {s : Saga} (h : Parts s) : roomI s = if s.status = 0 then 24 * needN s else 0 := by
  have hl := parts_len h
  have h0 := h.d0
  have h1 := h.d1
  have h2 := h.l0
  have h3 := h.l1
  have h4 := most_le h
  unfold roomI
  split
  · unfold needN nI
    rw [wrapI (n := (s.steps.length : Int) - s.done) (by omega), wrapI (n := 2 * ((s.steps.length : Int) - s.done)) (by omega), wrapI (n := 2 * ((s.steps.length : Int) - s.done) + s.steps.length) (by omega), wrapI (n := 2 * ((s.steps.length : Int) - s.done) + s.steps.length + 2) (by omega)]
    split
    · rw [wrapI (n := s.left + 1) (by omega), wrapI (by omega)]
    split
    · rw [wrapI (n := 2 * ((s.steps.length : Int) - s.done) + s.steps.length + 2 - 1) (by omega), wrapI (by omega)]; omega
    · rw [wrapI (by omega)]
  · rfl
theorem need_low {s : Saga} (h : Parts s) : 1 ≤ needN s ∧ needN s ≤ 17 := by
  have hl := parts_len h
  have h0 := h.d0
  have h1 := h.d1
  have h2 := h.l0
  have h3 := h.l1
  have h4 := most_le h
  unfold needN; repeat' split
  all_goals omega
/-- A record that applies: it may be, it is the saga's, the saga goes on, it fits. -/
theorem apply_went {s : Saga} {r : Rec} (hs : sagaB s = true) (he : (applyS s r).2 = 0) : recB r = true ∧ r.id = s.id ∧ s.status = 0 ∧ fitsB s r = true ∧ (applyS s r).1 = nextS s r := by
  unfold applyS at he ⊢
  split at he
  · cases he
  rename_i h1
  split at he
  · cases he
  rename_i h2
  split at he
  · rename_i h3
    rw [if_neg h1, if_neg h2, if_pos h3]
    simp only [Bool.and_eq_true, beq_iff_eq] at h3
    simp only [Bool.or_eq_true, Bool.not_eq_true', not_or, Bool.not_eq_false] at h1
    exact ⟨h1.2, h3.1, h3.2.1, h3.2.2, rfl⟩
  · cases he
theorem apply_goes {s : Saga} {r : Rec} (hs : sagaB s = true) (h1 : recB r = true) (h2 : r.id = s.id) (h3 : s.status = 0) (h4 : fitsB s r = true) : (applyS s r).2 = 0 := by
  unfold applyS
  rw [if_neg (by rw [hs, h1]; decide), if_neg (by rw [h2]; simp), if_pos (by rw [h2, h3, h4]; simp)]
structure Good (s x : Saga) : Prop where
  may : sagaB x = true
  room : roomI x ≤ roomI s - 24
  st : s.status = 0
  d0 : s.done ≤ x.done
  d1 : x.done ≤ s.done + 1
  bk : s.back = true → x.back = true
  lf : s.back = true → x.left ≤ s.left
theorem good_of {s x : Saga} (hp : Parts s) (hst : s.status = 0) (hx : Parts x) (hn : x.status = 0 → needN x + 1 ≤ needN s) (h1 : s.done ≤ x.done) (h2 : x.done ≤ s.done + 1) (h3 : s.back = true → x.back = true) (h4 : s.back = true → x.left ≤ s.left) : Good s x := by
  refine ⟨parts_iff.2 hx, ?_, hst, h1, h2, h3, h4⟩
  rw [room_eq hp, room_eq hx, if_pos hst]
  have := (need_low hp).1
  split
  · rename_i e; have := hn e; omega
  · omega
theorem kind_n {r : Rec} (h : recB r = true) (k : r.kind = 2 ∨ r.kind = 3 ∨ r.kind = 5) : 0 ≤ r.n ∧ r.n < 5 := by
  rw [recB, Bool.and_eq_true] at h
  have h2 := h.2
  rw [if_neg (by omega), Bool.and_eq_true] at h2
  have h3 := h2.2
  rw [kindB, if_pos k] at h3
  simpa using h3
theorem apply_good {s : Saga} {r : Rec} (hs : sagaB s = true) (he : (applyS s r).2 = 0) : Good s (applyS s r).1 := by
  obtain ⟨hr, hid, hst, hf, hx⟩ := apply_went hs he
  rw [hx]
  have hp := parts_iff.1 hs
  have hl := parts_len hp
  have hml := most_le hp
  have p0 := hp.d0
  have p1 := hp.d1
  have p2 := hp.l0
  have p3 := hp.l1
  have p4 := hp.ou
  have p5 := hp.bk
  have p6 := hp.en
  have p7 := hp.rc
  obtain ⟨id, key, body, steps, done, out, back, left, status⟩ := s
  simp only at hst hid hl p0 p1 p2 p3 p4 p5
  subst hst
  unfold fitsB at hf
  split at hf
  · rename_i hk
    simp only [Bool.and_eq_true, Bool.not_eq_true', beq_iff_eq, decide_eq_true_eq] at hf
    obtain ⟨rfl, rfl, hn, hlt⟩ := hf
    have hl0 := p5 rfl
    rw [nextS, if_pos hk]
    exact good_of hp rfl ⟨p7, p0, p1, fun _ => by simp only; omega, p2, by simp only [mostI, if_true]; omega, fun _ => hl0, rfl⟩ (fun _ => by simp [needN]; omega) (by simp only; omega) (by simp only; omega) (fun e => e) (fun e => by cases e)
  split at hf
  · rename_i hk2 hk
    simp only [Bool.and_eq_true, Bool.not_eq_true', beq_iff_eq] at hf
    obtain ⟨rfl, rfl, hn⟩ := hf
    have hl0 := p5 rfl
    have hne := p4 rfl
    rw [nextS, if_neg hk2, if_pos hk]
    dsimp only
    rw [wrapI (n := done + 1) (by omega)]
    exact good_of hp rfl ⟨p7, by simp only; omega, by simp only; omega, fun e => (by cases e), p2, by simp only [mostI]; simp; omega, fun _ => hl0, rfl⟩ (fun _ => by simp [needN]; omega) (by simp only; omega) (by simp only; omega) (fun e => e) (fun e => by cases e)
  split at hf
  · rename_i hk2 hk3 hk
    simp only [Bool.and_eq_true, Bool.not_eq_true'] at hf
    obtain ⟨rfl, rfl⟩ := hf
    have hne := p4 rfl
    rw [nextS, if_neg hk2, if_neg hk3, if_pos hk]
    dsimp only
    rw [wrapI (n := done + 1) (by omega)]
    exact good_of hp rfl ⟨p7, p0, p1, fun _ => hne, by simp only; omega, by simp only [mostI, if_true]; omega, fun e => (by cases e), rfl⟩ (fun _ => by simp [needN]; omega) (by simp only; omega) (by simp only; omega) (fun _ => rfl) (fun e => by cases e)
  split at hf
  · rename_i hk2 hk3 hk4 hk
    simp only [Bool.and_eq_true, beq_iff_eq] at hf
    obtain ⟨rfl, hn⟩ := hf
    have hnn := kind_n hr (.inr (.inr hk))
    simp only [mostI] at p3 hml
    rw [wrapI (by omega)] at hn
    rw [nextS, if_neg hk2, if_neg hk3, if_neg hk4, if_pos hk]
    exact good_of hp rfl ⟨p7, p0, p1, p4, by simp only; omega, by simp only [mostI]; omega, fun e => (by cases e), rfl⟩ (fun _ => by simp [needN]; omega) (by simp only; omega) (by simp only; omega) (fun _ => rfl) (fun _ => by simp only; omega)
  split at hf
  · rename_i hk2 hk3 hk4 hk5 hk
    have hnn := rec_end hr hk
    rw [nextS, if_neg hk2, if_neg hk3, if_neg hk4, if_neg hk5]
    exact good_of hp rfl ⟨p7, p0, p1, p4, p2, p3, p5, hf⟩ (fun e => by simp only at e; omega) (by simp only; omega) (by simp only; omega) (fun e => e) (fun _ => by simp only; omega)
  · cases hf
theorem ex_at {id : Int} {a n : Nat} (ha : a < 5) (hn : n < 5) : recK id ((a + 2 : Nat) : Int) n ∈ exL id 5 := by
  unfold exL
  rw [List.mem_flatMap]
  exact ⟨a, List.mem_range.2 ha, List.mem_map.2 ⟨n, List.mem_range.2 hn, rfl⟩⟩
theorem recK_may {id k n : Int} (h : 1 ≤ id ∧ id ≤ 20) (h1 : ¬ k = 1) (hk : kindB k n = true) : recB (recK id k n) = true := by
  rw [recB, Bool.and_eq_true]
  refine ⟨by show (decide (1 ≤ id) && decide (id ≤ 20)) = true; simp [h], ?_⟩
  show (if k = 1 then _ else _ : Bool) = true
  rw [if_neg h1, Bool.and_eq_true]
  exact ⟨rfl, hk⟩
theorem some_goes {s : Saga} (R : List Rec) (hs : sagaB s = true) (hst : s.status = 0) : ∃ r ∈ recsL R s.id, (applyS s r).2 = 0 := by
  have hp := parts_iff.1 hs
  have hl := parts_len hp
  have hid : 1 ≤ s.id ∧ s.id ≤ 20 := ⟨hl.2.2.1, hl.2.2.2⟩
  have p0 := hp.d0
  have p1 := hp.d1
  have p2 := hp.l0
  have p3 := hp.l1
  have hml := most_le hp
  have mem : ∀ {r : Rec}, r ∈ exL s.id 5 → r ∈ recsL R s.id := fun h => List.mem_append_right _ h
  have goes : ∀ (a n : Nat), a < 5 → n < 5 → kindB ((a + 2 : Nat) : Int) n = true → fitsB s (recK s.id ((a + 2 : Nat) : Int) n) = true → ∃ r ∈ recsL R s.id, (applyS s r).2 = 0 := fun a n ha hn hk hf =>
    ⟨_, mem (ex_at ha hn), apply_goes hs (recK_may hid (by omega) hk) rfl hst hf⟩
  cases hb : s.back with
  | true =>
    by_cases h0 : s.left = 0
    · exact goes 4 2 (by decide) (by decide) rfl (by
        show endsB s 2 = true
        rw [endsB, hb, h0]; rfl)
    · have hmost : mostI s ≤ 5 := by
        unfold mostI at *
        split
        · rename_i ho; have := hp.ou ho; omega
        · omega
      refine goes 3 (s.left - 1).toNat (by decide) (by omega) ?_ ?_
      · show kindB 5 _ = true
        rw [kindB, if_pos (.inr (.inr rfl))]
        simp; omega
      · show (s.back && (((s.left - 1).toNat : Int) == IntKind.i64.wrap (s.left - 1))) = true
        rw [hb, wrapI (by omega)]
        simp; omega
  | false =>
    cases ho : s.out with
    | true =>
      have hne := hp.ou ho
      refine goes 1 s.done.toNat (by decide) (by omega) ?_ ?_
      · show kindB 3 _ = true
        rw [kindB, if_pos (.inr (.inl rfl))]
        simp; omega
      · show (!s.back && (s.out && (((s.done.toNat : Nat) : Int) == s.done))) = true
        rw [hb, ho]
        simp; omega
    | false =>
      by_cases hd : s.done = s.steps.length
      · exact goes 4 1 (by decide) (by decide) rfl (by
          show endsB s 1 = true
          rw [endsB, hb, ho, hd]; simp)
      · refine goes 0 s.done.toNat (by decide) (by omega) ?_ ?_
        · show kindB 2 _ = true
          rw [kindB, if_pos (.inl rfl)]
          simp; omega
        · show (!s.back && (!s.out && ((((s.done.toNat : Nat) : Int) == s.done) && decide (s.done < s.steps.length)))) = true
          rw [hb, ho]
          simp; omega
end Go.Rx

/- All sagas of records, in plain Lean: which record goes behind which sagas, and what they are then. -/
set_option linter.unusedVariables false
set_option linter.unusedSimpArgs false
namespace Go.Rx
def newS (r : Rec) : Saga := ⟨r.id, r.key, r.body, r.steps, 0, false, false, 0, 0⟩
def keyI (l : List Saga) (k : ByteArray) : Int := idxL (fun s : Saga => s.key == k) l 0
def goesB (l : List Saga) (r : Rec) : Bool :=
  if r.kind = 1 then r.id == ((l.length + 1 : Nat) : Int) && !(decide (0 ≤ keyI l r.key))
  else match l[(r.id - 1).toNat]? with | some s => r.id == s.id && (s.status == 0 && fitsB s r) | none => false
def stepL (l : List Saga) (r : Rec) : List Saga :=
  if r.kind = 1 then l ++ [newS r] else match l[(r.id - 1).toNat]? with | some s => l.set (r.id - 1).toNat (nextS s r) | none => l
def foldL : List Saga → List Rec → Option (List Saga)
  | l, [] => some l
  | l, r :: rs => if goesB l r then foldL (stepL l r) rs else none
def ofP (l : List Rec) : List Saga × Int := if l.all recB then (match foldL [] l with | some x => (x, 0) | none => ([], 10)) else ([], 1)

theorem next_id (s : Saga) (r : Rec) : (nextS s r).id = s.id := by
  rw [nextS]; repeat' split
  all_goals rfl
structure SgAt (l : List Saga) (i : Nat) (s : Saga) : Prop where
  ok : s.Ok
  may : sagaB s = true
  id : s.id = i + 1
  key : ∀ (j : Nat) (x : Saga), j < i → l[j]? = some x → x.key ≠ s.key
/-- Sagas that may be together. -/
structure Sgs (l : List Saga) : Prop where
  len : l.length ≤ 20
  sg : ∀ (i : Nat) (s : Saga), l[i]? = some s → SgAt l i s
theorem sgs_nil : Sgs [] := ⟨by decide, by intro i s h; simp at h⟩
theorem new_may {r : Rec} (h : recB r = true) (k : r.kind = 1) : sagaB (newS r) = true := by
  have hb : begR (newS r) = r := by
    have hn : r.n = 0 := by
      unfold recB at h
      rw [if_pos k, Bool.and_eq_true] at h
      have := h.2
      unfold begB at this
      rw [Bool.and_eq_true] at this
      exact eq_of_beq this.1
    cases r
    simp only at hn k
    subst hn; subst k; rfl
  have hlen : 1 ≤ r.steps.length := by
    unfold recB at h
    rw [if_pos k, Bool.and_eq_true] at h
    have := h.2
    unfold begB at this
    simp only [Bool.and_eq_true, stepsB, decide_eq_true_eq] at this
    exact this.2.2.2.2.2.2.1
  rw [sagaB, hb, h]
  simp [newS, mostI, endsB]
theorem new_ok {r : Rec} (h : r.Ok) : (newS r).Ok := ⟨h.key, h.body, h.steps⟩
theorem idx_neg {α : Type} {p : α → Bool} {l : List α} {k : Nat} : idxL p l k < 0 ↔ ∀ x ∈ l, p x = false := by
  have h := idx_any (p := p) l k
  constructor
  · intro hn x hx
    have e : l.any p = false := by rw [← h, decide_eq_false_iff_not]; omega
    exact Bool.eq_false_iff.2 (List.any_eq_false.1 e x hx)
  · intro hx
    have e : l.any p = false := List.any_eq_false.2 fun x hm => by rw [hx x hm]; decide
    rw [← h, decide_eq_false_iff_not] at e
    omega
theorem goes_begin {l : List Saga} {r : Rec} (h : goesB l r = true) (k : r.kind = 1) : r.id = ((l.length + 1 : Nat) : Int) ∧ ∀ s ∈ l, s.key ≠ r.key := by
  rw [goesB, if_pos k, Bool.and_eq_true] at h
  refine ⟨eq_of_beq h.1, fun s hs e => ?_⟩
  have h2 : keyI l r.key < 0 := by
    have := h.2
    simp only [Bool.not_eq_true', decide_eq_false_iff_not] at this
    omega
  have := idx_neg.1 h2 s hs
  rw [e] at this
  simp at this
theorem goes_on {l : List Saga} {r : Rec} (h : goesB l r = true) (k : ¬ r.kind = 1) : ∃ s, l[(r.id - 1).toNat]? = some s ∧ r.id = s.id ∧ s.status = 0 ∧ fitsB s r = true := by
  rw [goesB, if_neg k] at h
  split at h
  · rename_i s hs
    simp only [Bool.and_eq_true] at h
    exact ⟨s, hs, eq_of_beq h.1, eq_of_beq h.2.1, h.2.2⟩
  · cases h
theorem rec_id {r : Rec} (h : recB r = true) : 1 ≤ r.id ∧ r.id ≤ 20 := by
  unfold recB at h
  simp only [Bool.and_eq_true, decide_eq_true_eq] at h
  exact h.1
theorem sgs_step {l : List Saga} {r : Rec} (hl : Sgs l) (hr : recB r = true) (hok : r.Ok) (hg : goesB l r = true) : Sgs (stepL l r) := by
  have hid := rec_id hr
  by_cases k : r.kind = 1
  · obtain ⟨h1, h2⟩ := goes_begin hg k
    rw [stepL, if_pos k]
    refine ⟨by rw [List.length_append]; simp; omega, fun i s hs => ?_⟩
    rcases Nat.lt_trichotomy i l.length with hi | hi | hi
    · rw [List.getElem?_append_left hi] at hs
      have := hl.sg i s hs
      exact ⟨this.ok, this.may, this.id, fun j x hj hx => this.key j x hj (by rw [List.getElem?_append_left (by omega)] at hx; exact hx)⟩
    · subst hi
      rw [List.getElem?_append_right (Nat.le_refl _), Nat.sub_self] at hs
      simp at hs
      subst hs
      refine ⟨new_ok hok, new_may hr k, by show r.id = _; omega, fun j x hj hx => ?_⟩
      rw [List.getElem?_append_left hj] at hx
      exact h2 x (List.mem_of_getElem? hx)
    · rw [List.getElem?_eq_none (by simp; omega)] at hs; cases hs
  · obtain ⟨s0, h1, h2, h3, h4⟩ := goes_on hg k
    have h0 := hl.sg _ _ h1
    rw [stepL, if_neg k, h1]
    simp only
    refine ⟨by rw [List.length_set]; exact hl.len, fun i s hs => ?_⟩
    have hkey : ∀ (j : Nat) (x : Saga), (l.set (r.id - 1).toNat (nextS s0 r))[j]? = some x → ∃ y : Saga, l[j]? = some y ∧ x.key = y.key := fun j x hx => by
      by_cases e : (r.id - 1).toNat = j
      · subst e
        rw [List.getElem?_set_self (List.getElem?_eq_some_iff.1 h1).1] at hx
        cases hx
        exact ⟨s0, h1, (next_keep s0 r).1⟩
      · rw [List.getElem?_set_ne e] at hx
        exact ⟨x, hx, rfl⟩
    by_cases e : (r.id - 1).toNat = i
    · subst e
      rw [List.getElem?_set_self (List.getElem?_eq_some_iff.1 h1).1] at hs
      cases hs
      have happ : (applyS s0 r).2 = 0 := apply_goes h0.may hr h2 h3 h4
      have hgo := apply_good h0.may happ
      rw [(apply_went h0.may happ).2.2.2.2] at hgo
      refine ⟨next_ok h0.ok, hgo.may, by rw [next_id]; exact h0.id, fun j x hj hx => ?_⟩
      obtain ⟨y, hy, hk⟩ := hkey j x hx
      rw [hk, (next_keep s0 r).1]
      exact h0.key j y hj hy
    · rw [List.getElem?_set_ne e] at hs
      have h5 := hl.sg i s hs
      refine ⟨h5.ok, h5.may, h5.id, fun j x hj hx => ?_⟩
      obtain ⟨y, hy, hk⟩ := hkey j x hx
      rw [hk]
      exact h5.key j y hj hy
theorem sgs_fold : ∀ {rs : List Rec} {l x : List Saga}, Sgs l → (∀ r ∈ rs, recB r = true) → (∀ r ∈ rs, r.Ok) → foldL l rs = some x → Sgs x
  | [], l, x, hl, _, _, h => by simp [foldL] at h; subst h; exact hl
  | r :: rs, l, x, hl, hr, hok, h => by
    rw [foldL] at h
    split at h
    · rename_i hg
      exact sgs_fold (sgs_step hl (hr r (by simp)) (hok r (by simp)) hg) (fun y hy => hr y (by simp [hy])) (fun y hy => hok y (by simp [hy])) h
    · cases h
theorem of_sgs {l : List Rec} (hok : ∀ r ∈ l, r.Ok) : Sgs (ofP l).1 := by
  unfold ofP
  split
  · rename_i h
    split
    · rename_i x hx
      exact sgs_fold sgs_nil (fun r hr => List.all_eq_true.1 h r hr) hok hx
    · exact sgs_nil
  · exact sgs_nil
theorem of_err (l : List Rec) : -9223372036854775808 ≤ (ofP l).2 ∧ (ofP l).2 ≤ 9223372036854775807 := by
  unfold ofP; repeat' split
  all_goals (simp only; omega)
end Go.Rx

/- Sagas of records: the functions. -/
set_option linter.unusedVariables false
set_option linter.unusedSimpArgs false
namespace Go.Rx
abbrev sagasE (p : List Saga × Int) : AV := .tup [.lf (.pv (encSagas p.1)), .lf (.pv (pI p.2))]
theorem sg_small {l : List Saga} (h : Sgs l) : l.length * 96 ≤ 140737488351232 := by have := h.len; omega
end Go.Rx
namespace Go.Proofs.YtfjllfjmggooeaaGreatDoor.Rx
open Go.Rx Go.Proofs Go.Proofs.YtfjllfjmggooeaaGreatDoor.RxH

theorem keyed1_con (s : Saga) (k : ByteArray) : Con P 143 [encSaga s, .lf (.ro [pS k])] (Bl (s.key == k)) [] := by
  refine Con.of T_ok Tryz.func143 rfl (by kernel_rfl) (by kernel_rfl) (aw_of T_ok (by kernel_rfl) ?_)
  conv => whnf
  exact finB ⟨rfl⟩
theorem indexSg_con (l : List Saga) (x : ByteArray) (hl : l.length * 96 ≤ 140737488351232) : Con P 142 [.lf (.pv (encSagas l)), .lf (.fn 143 [[pS x]])] (I (keyI l x)) [] := by
  refine Con.of T_ok Tryz.func142 rfl (by kernel_rfl) (by kernel_rfl) (aw_of T_ok (by kernel_rfl) ?_)
  conv => whnf
  refine AW.loop (fun k : Nat => k ≤ l.length ∧ idxL (fun s : Saga => s.key == x) (l.drop k) k = keyI l x) (fun k => [(0, .lf (.pv (encSagas l))), (1, .lf (.fn 143 [[pS x]])), (7, Go.Rx.I l.length), (8, Go.Rx.I k)]) (fun _ => []) (fun k => l.length - k) [] ?_ ?_
  · exact ⟨0, ⟨Nat.zero_le _, rfl⟩, ⟨rfl, rfl, congrArg (fun n : Nat => Go.Rx.I (n : Int)) (List.length_map ..), rfl, trivial⟩, ⟨[], rfl⟩, rfl, rfl⟩
  · rintro k ⟨hk, hpre⟩
    refine aw_of T_ok (by kernel_rfl) ?_
    conv => whnf
    split <;> rename_i hlt <;> conv => whnf
    · have hkl : k < l.length := by simpa using hlt
      rw [idx_go hkl] at hpre
      refine ⟨by omega, (l[k]).enc, by simp [hkl], ?_⟩
      conv => whnf
      refine callS (keyed1_con l[k] x) rfl ?_
      conv => whnf
      split <;> rename_i he <;> conv => whnf
      · refine finI ⟨?_⟩
        rw [← hpre, if_pos (show (l[k].key == x) = true from he)]
      · refine ⟨k + 1, ⟨⟨by omega, ?_⟩, by omega⟩, ⟨rfl, rfl, rfl, congrArg Go.Rx.I (wrapI (by omega)), trivial⟩, ⟨[], rfl⟩, rfl, rfl⟩
        rw [← hpre, if_neg (by rw [show (l[k].key == x) = false from he]; decide)]
    · refine finI ⟨?_⟩
      have hkl : l.length ≤ k := by simpa using hlt
      rw [← hpre, idx_end hkl]
theorem keyed_con (l : List Saga) (x : ByteArray) (hl : l.length * 96 ≤ 140737488351232) : Con P 109 [.lf (.pv (encSagas l)), Sx x] (I (keyI l x)) [] := by
  refine Con.of T_ok Tryz.func109 rfl (by kernel_rfl) (by kernel_rfl) (aw_of T_ok (by kernel_rfl) ?_)
  conv => whnf
  refine callS (indexSg_con l x hl) rfl ?_
  conv => whnf
  exact finI ⟨rfl⟩
theorem of1_con (r : Rec) (h : r.Ok) : Con P 100 [encRec r] (Bl (!(recB r))) [] := by
  refine Con.of T_ok Tryz.func100 rfl (by kernel_rfl) (by kernel_rfl) (aw_of T_ok (by kernel_rfl) ?_)
  conv => whnf
  refine callS (recMay_con r h) rfl ?_
  conv => whnf
  exact finB ⟨rfl⟩
theorem indexRec_con (l : List Rec) (hl : l.length * 80 ≤ 140737488355328) (hr : ∀ r ∈ l, r.Ok) : Con P 128 [.lf (.pv (encRecs l)), .lf (.fn 100 [])] (I (idxL (fun r : Rec => !(recB r)) l 0)) [] := by
  refine Con.of T_ok Tryz.func128 rfl (by kernel_rfl) (by kernel_rfl) (aw_of T_ok (by kernel_rfl) ?_)
  conv => whnf
  refine AW.loop (fun k : Nat => k ≤ l.length ∧ idxL (fun r : Rec => !(recB r)) (l.drop k) k = idxL (fun r : Rec => !(recB r)) l 0) (fun k => [(0, .lf (.pv (encRecs l))), (1, .lf (.fn 100 [])), (7, Go.Rx.I l.length), (8, Go.Rx.I k)]) (fun _ => []) (fun k => l.length - k) [] ?_ ?_
  · exact ⟨0, ⟨Nat.zero_le _, rfl⟩, ⟨rfl, rfl, congrArg (fun n : Nat => Go.Rx.I (n : Int)) (List.length_map ..), rfl, trivial⟩, ⟨[], rfl⟩, rfl, rfl⟩
  · rintro k ⟨hk, hpre⟩
    refine aw_of T_ok (by kernel_rfl) ?_
    conv => whnf
    split <;> rename_i hlt <;> conv => whnf
    · have hkl : k < l.length := by simpa using hlt
      rw [idx_go hkl] at hpre
      refine ⟨by omega, (l[k]).enc, by simp [hkl], ?_⟩
      conv => whnf
      refine callS (of1_con l[k] (hr _ (List.getElem_mem hkl))) rfl ?_
      conv => whnf
      split <;> rename_i he <;> conv => whnf
      · refine finI ⟨?_⟩
        rw [← hpre, if_pos (show (!(recB l[k])) = true from he)]
      · refine ⟨k + 1, ⟨⟨by omega, ?_⟩, by omega⟩, ⟨rfl, rfl, rfl, congrArg Go.Rx.I (wrapI (by omega)), trivial⟩, ⟨[], rfl⟩, rfl, rfl⟩
        rw [← hpre, if_neg (by rw [show (!(recB l[k])) = false from he]; decide)]
    · refine finI ⟨?_⟩
      have hkl : l.length ≤ k := by simpa using hlt
      rw [← hpre, idx_end hkl]
theorem anyRec_con (l : List Rec) (hl : l.length * 80 ≤ 140737488355328) (hr : ∀ r ∈ l, r.Ok) : Con P 99 [.lf (.pv (encRecs l)), .lf (.fn 100 [])] (Bl (l.any fun r : Rec => !(recB r))) [] := by
  refine Con.of T_ok Tryz.func99 rfl (by kernel_rfl) (by kernel_rfl) (aw_of T_ok (by kernel_rfl) ?_)
  conv => whnf
  refine callS (indexRec_con l hl hr) rfl ?_
  conv => whnf
  exact finB ⟨idx_any l 0⟩
/-- Whether any has a key, and where, as the page tells it. -/
theorem find9_con (l : List Saga) (x : ByteArray) (hl : l.length * 96 ≤ 140737488351232) (hid : ∀ (i : Nat) (s : Saga), l[i]? = some s → s.id = i + 1) : Con P 75 [.lf (.pv (encSagas l)), Sx x] (I (keyI l x + 1)) [] := by
  refine Con.of T_ok Tryz.func75 rfl (by kernel_rfl) (by kernel_rfl) (aw_of T_ok (by kernel_rfl) ?_)
  conv => whnf
  refine AW.loop (fun k : Nat => k ≤ l.length ∧ idxL (fun s : Saga => s.key == x) (l.drop k) k = keyI l x) (fun k => [(0, .lf (.pv (encSagas l))), (1, Sx x), (5, Go.Rx.I k)]) (fun _ => []) (fun k => l.length - k) [] ?_ ?_
  · exact ⟨0, ⟨Nat.zero_le _, rfl⟩, ⟨rfl, rfl, rfl, trivial⟩, ⟨[], rfl⟩, rfl, rfl⟩
  · rintro k ⟨hk, hpre⟩
    refine aw_of T_ok (by kernel_rfl) ?_
    conv => whnf
    split <;> rename_i hlt <;> conv => whnf
    · have hkl : k < l.length := by simpa using hlt
      rw [idx_go hkl] at hpre
      refine ⟨by omega, (l[k]).enc, by simp [hkl], ?_⟩
      conv => whnf
      split <;> rename_i he <;> conv => whnf
      · refine ⟨by omega, (l[k]).enc, by simp [hkl], ?_⟩
        conv => whnf
        refine finI ⟨?_⟩
        rw [← hpre, if_pos (show (l[k].key == x) = true from he)]
        exact hid k l[k] (List.getElem?_eq_getElem hkl)
      · refine ⟨k + 1, ⟨⟨by omega, ?_⟩, by omega⟩, ⟨rfl, rfl, congrArg Go.Rx.I (wrapI (by omega)), trivial⟩, ⟨[], rfl⟩, rfl, rfl⟩
        rw [← hpre, if_neg (by rw [show (l[k].key == x) = false from he]; decide)]
    · refine finI ⟨?_⟩
      have hkl : l.length ≤ k := by simpa using hlt
      rw [← hpre, idx_end hkl]
      rfl
end Go.Proofs.YtfjllfjmggooeaaGreatDoor.Rx

/- One record behind sagas: the program's step, on a slice of the call's own. -/
set_option linter.unusedVariables false
set_option linter.unusedSimpArgs false
namespace Go.Rx
theorem begin_new {r : Rec} (h : recB r = true) (k : r.kind = 1) : beginS r = (newS r, 0) := by
  rw [beginS, if_neg (by rw [h, k]; decide)]; rfl
theorem key_neg {l : List Saga} {r : Rec} (h : ∀ s ∈ l, s.key ≠ r.key) : ¬ 0 ≤ keyI l r.key := by
  have : keyI l r.key < 0 := idx_neg.2 fun x hx => by simpa using h x hx
  omega
end Go.Rx
namespace Go.Proofs.YtfjllfjmggooeaaGreatDoor.Rx
open Go.Rx Go.Proofs Go.Proofs.YtfjllfjmggooeaaGreatDoor.RxH
abbrev sgB (l : List Saga) : Blk := .arr 40 9 (l.map Saga.enc)

set_option maxHeartbeats 1000000 in
theorem step_yes (l : List Saga) (r : Rec) (hl : Sgs l) (hr : recB r = true) (hok : r.Ok) (hg : goesB l r = true) :
    ConG P 102 [sgB l] [.lf (.own 0 l.length), encRec r] (.tup [.lf (.own 0 (stepL l r).length), .lf (.pv (pB true))]) [sgB (stepL l r)] := by
  have hm : (l.map Saga.enc).length = l.length := List.length_map ..
  have hlen := hl.len
  have hsm := sg_small hl
  have hid := rec_id hr
  refine ConG.of T_ok Tryz.func102 rfl (by kernel_rfl) (by kernel_rfl) (aw_of T_ok (by kernel_rfl) ?_)
  conv => whnf
  split <;> rename_i k1 <;> conv => whnf
  · have k : r.kind = 1 := by simpa using k1
    obtain ⟨h1, h2⟩ := goes_begin hg k
    refine ⟨hm, ?_⟩
    conv => whnf
    split <;> rename_i k2 <;> conv => whnf
    · exfalso
      have : (r.id != IntKind.i64.wrap ((l.length : Int) + 1)) = true := k2
      rw [wrapI (by omega), h1] at this
      simp at this
    refine ⟨hm, ?_⟩
    conv => whnf
    refine callS (keyed_con l r.key hsm) rfl ?_
    conv => whnf
    split <;> rename_i k3 <;> conv => whnf
    · exact absurd (of_decide_eq_true k3) (key_neg h2)
    have cb := beginTop_con r hok
    rw [begin_new hr k] at cb
    refine callU cb (fun _ => rfl) ?_
    conv => whnf
    refine ⟨rfl, _, .inl rfl, ?_⟩
    conv => whnf
    refine ⟨hm, by show (l.length + 1) * 96 ≤ _; omega, ?_⟩
    conv => whnf
    have es : stepL l r = l ++ [newS r] := by rw [stepL, if_pos k]
    rw [es]
    refine ⟨[], [0], [.lf (.own 0 (l.length + 1)), Bl true], [.lf (.own 0 (l.length + 1)), Bl true], rfl, ?_, rfl, wk_refl _, ?_⟩
    · show some [Blk.arr _ 9 (l.map Saga.enc ++ [_])] = some [Blk.arr _ 9 ((l ++ [newS r]).map Saga.enc)]
      rw [List.map_append]; rfl
    · rw [List.length_append]; rfl
  · have k : ¬ r.kind = 1 := by simpa using k1
    obtain ⟨s, h1, h2, h3, h4⟩ := goes_on hg k
    have hs := hl.sg _ _ h1
    have hsl := (List.getElem?_eq_some_iff.1 h1).1
    have w1 : IntKind.i64.wrap (r.id - 1) = r.id - 1 := wrapI (by omega)
    have hrow : (l.map Saga.enc)[(IntKind.i64.wrap (r.id - 1)).toNat]? = some s.enc := by rw [w1, List.getElem?_map, h1]; rfl
    refine AW.draw T_ok rfl (seqPl 0 16) (by kernel_rfl) (by kernel_rfl) ?_
    conv => whnf
    refine ⟨hm, ?_⟩
    conv => whnf
    split <;> rename_i k2 <;> conv => whnf
    · exact absurd (of_decide_eq_true k2) (by omega)
    have hix : 0 ≤ IntKind.i64.wrap (r.id - 1) ∧ IntKind.i64.wrap (r.id - 1) < (l.length : Int) := by rw [w1]; omega
    refine ⟨hm, hix.1, hix.2, ?_⟩
    conv => whnf
    refine ⟨rfl, hm, s.enc, hrow, ?_⟩
    conv => whnf
    refine callS (fitsTop_con s r) rfl ?_
    conv => whnf
    split <;> rename_i k3 <;> conv => whnf
    · exfalso
      rw [show (r.id == s.id && (s.status == 0 && fitsB s r)) = true by simp [h2, h3, h4]] at k3
      cases k3
    refine AW.draw T_ok rfl (seqPl 0 14) (by kernel_rfl) (by kernel_rfl) ?_
    conv => whnf
    refine ⟨hm, hix.1, hix.2, ?_⟩
    conv => whnf
    refine ⟨rfl, hm, s.enc, hrow, ?_⟩
    conv => whnf
    refine callU (next_con s r hs.ok.steps.len) (fun _ => rfl) ?_
    conv => whnf
    refine ⟨hm, hix.1, hix.2, ?_⟩
    conv => whnf
    refine ⟨rfl, hm, s.enc, hrow, ?_⟩
    conv => whnf
    refine ⟨by decide, ?_⟩
    conv => whnf
    have es : stepL l r = l.set (r.id - 1).toNat (nextS s r) := by rw [stepL, if_neg k, h1]
    rw [es]
    refine ⟨[], [0], [.lf (.own 0 l.length), Bl true], [.lf (.own 0 l.length), Bl true], rfl, ?_, rfl, wk_refl _, ?_⟩
    · show some [Blk.arr _ 9 ((l.map Saga.enc).set (IntKind.i64.wrap (r.id - 1)).toNat (nextS s r).enc)] = some [Blk.arr _ 9 ((l.set (r.id - 1).toNat (nextS s r)).map Saga.enc)]
      rw [w1, List.map_set]
    · rw [List.length_set]; rfl
theorem step_no (l : List Saga) (r : Rec) (hl : Sgs l) (hr : recB r = true) (hok : r.Ok) (hg : goesB l r = false) :
    ConG P 102 [sgB l] [.lf (.own 0 l.length), encRec r] (.tup [.lf (.pv (.sc (.slice none 0 0))), .lf (.pv (pB false))]) [sgB l] := by
  have hm : (l.map Saga.enc).length = l.length := List.length_map ..
  have hlen := hl.len
  have hsm := sg_small hl
  have hid := rec_id hr
  refine ConG.of T_ok Tryz.func102 rfl (by kernel_rfl) (by kernel_rfl) (aw_of T_ok (by kernel_rfl) ?_)
  conv => whnf
  split <;> rename_i k1 <;> conv => whnf
  · have k : r.kind = 1 := by simpa using k1
    rw [goesB, if_pos k] at hg
    refine ⟨hm, ?_⟩
    conv => whnf
    split <;> rename_i k2 <;> conv => whnf
    · exact ⟨[], [0], _, _, rfl, rfl, rfl, wk_refl _, rfl⟩
    have k2' : r.id = ((l.length + 1 : Nat) : Int) := by
      have : (r.id != IntKind.i64.wrap ((l.length : Int) + 1)) = false := k2
      rw [wrapI (by omega)] at this
      simpa using this
    refine ⟨hm, ?_⟩
    conv => whnf
    refine callS (keyed_con l r.key hsm) rfl ?_
    conv => whnf
    split <;> rename_i k3 <;> conv => whnf
    · exact ⟨[], [0], _, _, rfl, rfl, rfl, wk_refl _, rfl⟩
    exfalso
    have k3' : decide (0 ≤ keyI l r.key) = false := k3
    rw [k2', k3'] at hg
    simp at hg
  · have k : ¬ r.kind = 1 := by simpa using k1
    rw [goesB, if_neg k] at hg
    have w1 : IntKind.i64.wrap (r.id - 1) = r.id - 1 := wrapI (by omega)
    refine AW.draw T_ok rfl (seqPl 0 16) (by kernel_rfl) (by kernel_rfl) ?_
    conv => whnf
    refine ⟨hm, ?_⟩
    conv => whnf
    split <;> rename_i k2 <;> conv => whnf
    · exact ⟨[], [0], _, _, rfl, rfl, rfl, wk_refl _, rfl⟩
    have k2' : r.id ≤ l.length := by have := of_decide_eq_false k2; omega
    have hsl : (r.id - 1).toNat < l.length := by omega
    have h1 := List.getElem?_eq_getElem hsl
    generalize l[(r.id - 1).toNat] = s at h1
    rw [h1] at hg
    simp only at hg
    have hrow : (l.map Saga.enc)[(IntKind.i64.wrap (r.id - 1)).toNat]? = some s.enc := by rw [w1, List.getElem?_map, h1]; rfl
    have hix : 0 ≤ IntKind.i64.wrap (r.id - 1) ∧ IntKind.i64.wrap (r.id - 1) < (l.length : Int) := by rw [w1]; omega
    refine ⟨hm, hix.1, hix.2, ?_⟩
    conv => whnf
    refine ⟨rfl, hm, s.enc, hrow, ?_⟩
    conv => whnf
    have cf := fitsTop_con s r
    rw [hg] at cf
    refine callS cf rfl ?_
    conv => whnf
    exact ⟨[], [0], _, _, rfl, rfl, rfl, wk_refl _, rfl⟩
end Go.Proofs.YtfjllfjmggooeaaGreatDoor.Rx

/- A call's own result, taken as rows that stay. -/
set_option linter.unusedVariables false
set_option linter.unusedSimpArgs false
namespace Go.Rx
open Go.RowKit
def ofTC : TC → AV
  | .lf l => .lf l
  | .agg l => .agg l
theorem ofTC_rep {G : Gh} {bk : List Blk} {w : World} : ∀ {ts : List TC} {us : List Value}, Fa (RepT G bk w) ts us → Fa (RepA G bk w) (ts.map ofTC) us
  | [], [], _ => trivial
  | t :: ts, u :: us, h => ⟨by cases t <;> exact h.1, ofTC_rep h.2⟩
  | [], _ :: _, h => h.elim
  | _ :: _, [], h => h.elim
theorem Con.stays {P : Program} {f : FuncId} {args : List AV} {ts : List TC} {r : AV} {nb : List Blk} (h : Con P f args (.tup ts) nb) (h2 : 2 ≤ ts.length)
    (hk : argsK nb (ts.map ofTC) fun _ ys => ∃ zs, Fa WkA ys zs ∧ pack zs = some r) : Con P f args r [] := by
  refine ⟨h.1, rfl, fun w S us hS hargs => (h.2.2 w S us hS hargs).mono fun e w' ⟨u, G', he, hr, hm⟩ => ?_⟩
  obtain ⟨vs, rfl, hvs⟩ := hr
  obtain ⟨G2, b2, ys, t2, m2, hys, zs, hwk, hpk⟩ := argsK_sound hm (ofTC_rep hvs) hk
  have hp := pack_rep (wks_rep hwk hys) hpk
  have hl : vs.toArray.size ≠ 1 := by have := hvs.length; simp; omega
  rw [dif_neg hl] at hp
  exact ⟨_, Gh.base G2.S, he, hp, fun b B hb => by simp at hb, fun b b' g hb => by simp at hb, fun g o b hs ha => absurd (alive_lt ha) (by simp), m2.slt, fun b g hb => by simp at hb, fun b g hb => by simp at hb, m2.s0, m2.snew, m2.os, m2.tape, m2.output, m2.size, m2.block, Nat.le_refl _, ⟨m2.t0.S, m2.t0.cell, Nat.le_refl _, fun b hb => absurd hb (Nat.not_lt_zero _), fun b sz rows h => (by unfold rowsOf at h; simp [Ctx.base] at h)⟩⟩
theorem Con.stay1 {P : Program} {f : FuncId} {args : List AV} {x r : AV} {nb : List Blk} (h : Con P f args x nb) (hx : ∀ ts, x ≠ .tup ts)
    (hk : argsK nb [x] fun _ ys => ∃ zs, Fa WkA ys zs ∧ pack zs = some r) : Con P f args r [] := by
  refine ⟨h.1, rfl, fun w S us hS hargs => (h.2.2 w S us hS hargs).mono fun e w' ⟨u, G', he, hr, hm⟩ => ?_⟩
  obtain ⟨G2, b2, ys, t2, m2, hys, zs, hwk, hpk⟩ := argsK_sound hm (xs := [x]) (vs := [u]) ⟨hr, trivial⟩ hk
  have hp := pack_rep (wks_rep hwk hys) hpk
  exact ⟨_, Gh.base G2.S, he, hp, fun b B hb => by simp at hb, fun b b' g hb => by simp at hb, fun g o b hs ha => absurd (alive_lt ha) (by simp), m2.slt, fun b g hb => by simp at hb, fun b g hb => by simp at hb, m2.s0, m2.snew, m2.os, m2.tape, m2.output, m2.size, m2.block, Nat.le_refl _, ⟨m2.t0.S, m2.t0.cell, Nat.le_refl _, fun b hb => absurd hb (Nat.not_lt_zero _), fun b sz rows h => (by unfold rowsOf at h; simp [Ctx.base] at h)⟩⟩
end Go.Rx

/- All sagas of records: the program's, and the page's. -/
set_option linter.unusedVariables false
set_option linter.unusedSimpArgs false
namespace Go.Rx
theorem any_all (l : List Rec) : (l.any fun r : Rec => !(recB r)) = !(l.all recB) := by
  induction l with
  | nil => rfl
  | cons r l ih => simp only [List.any_cons, List.all_cons, ih, Bool.not_and]
theorem fold_drop {l : List Rec} {k : Nat} (h : k < l.length) (x : List Saga) : foldL x (l.drop k) = if goesB x l[k] then foldL (stepL x l[k]) (l.drop (k + 1)) else none := by
  rw [List.drop_eq_getElem_cons h, foldL]
theorem fold_end {l : List Rec} {k : Nat} (h : l.length ≤ k) (x : List Saga) : foldL x (l.drop k) = some x := by
  rw [List.drop_of_length_le h, foldL]
end Go.Rx
namespace Go.Proofs.YtfjllfjmggooeaaGreatDoor.Rx
open Go.Rx Go.Proofs Go.Proofs.YtfjllfjmggooeaaGreatDoor.RxH

abbrev noSg (e : Int) : AV := .tup [.lf (.pv (.sc (.slice none 0 0))), .lf (.pv (pI e))]
set_option maxHeartbeats 1000000 in
theorem of_ok (l : List Rec) (x : List Saga) (hl : l.length * 80 ≤ 140737488355328) (hr : ∀ r ∈ l, r.Ok) (ha : l.all recB = true) (hx : foldL [] l = some x) :
    Con P 59 [.lf (.pv (encRecs l))] (.tup [.lf (.own 0 x.length), .lf (.pv (pI 0))]) [sgB x] := by
  have hm : (l.map Rec.enc).length = l.length := List.length_map ..
  refine ConG.con (ConG.of T_ok Tryz.func59 rfl (by kernel_rfl) (by kernel_rfl) (aw_of T_ok (by kernel_rfl) ?_)) rfl
  conv => whnf
  have cany := anyRec_con l hl hr
  rw [any_all, ha] at cany
  refine callS cany rfl ?_
  conv => whnf
  refine AW.loop (fun p : Nat × List Saga => p.1 ≤ l.length ∧ Sgs p.2 ∧ foldL p.2 (l.drop p.1) = some x) (fun p => [(4, .lf (.own 0 p.2.length)), (5, Bl true), (10, .lf (.pv (encRecs l))), (11, Go.Rx.I l.length), (12, Go.Rx.I p.1)]) (fun p => [sgB p.2]) (fun p => l.length - p.1) [.slot 4 40 9] ?_ ?_
  · exact ⟨rfl, (0, []), ⟨Nat.zero_le _, sgs_nil, hx⟩, ⟨rfl, rfl, rfl, congrArg (fun n : Nat => Go.Rx.I (n : Int)) hm, rfl, trivial⟩, ⟨[], rfl⟩, rfl, rfl⟩
  rintro ⟨k, y⟩ ⟨hk, hy, hf⟩
  simp only at hk hy hf
  refine aw_of T_ok (by kernel_rfl) ?_
  conv => whnf
  split <;> rename_i hlt <;> conv => whnf
  · have hkl : k < l.length := by simpa using hlt
    have hrow : (l.map Rec.enc)[k]? = some (l[k]).enc := by simp [hkl]
    rw [fold_drop hkl] at hf
    have hrm := List.all_eq_true.1 ha _ (List.getElem_mem hkl)
    have hrk := hr _ (List.getElem_mem hkl)
    generalize l[k] = r at hrow hf hrm hrk
    cases hg : goesB y r with
    | false => rw [hg] at hf; cases hf
    | true =>
    rw [hg, if_pos rfl] at hf
    refine ⟨by omega, r.enc, hrow, ?_⟩
    conv => whnf
    refine ⟨[0], _, _, _, _, _, nodupB_ok rfl, rfl, rfl, wk_refl _, step_yes y r hy hrm hrk hg, ?_⟩
    conv => whnf
    exact ⟨(k + 1, stepL y r), ⟨⟨hkl, sgs_step hy hrm hrk hg, hf⟩, by show _ - (k + 1) < _ - k; omega⟩, ⟨rfl, rfl, rfl, rfl, congrArg Go.Rx.I (wrapI (by omega)), trivial⟩, ⟨_, rfl⟩, rfl, rfl⟩
  · have hkl : l.length ≤ k := by simpa using hlt
    rw [fold_end hkl] at hf
    cases hf
    exact ⟨[], [0], _, _, rfl, rfl, rfl, wk_refl _, rfl⟩
theorem of_bad (l : List Rec) (hl : l.length * 80 ≤ 140737488355328) (hr : ∀ r ∈ l, r.Ok) (hx : l.all recB = false ∨ (l.all recB = true ∧ foldL [] l = none)) :
    Con P 59 [.lf (.pv (encRecs l))] (noSg (ofP l).2) [] := by
  have hm : (l.map Rec.enc).length = l.length := List.length_map ..
  obtain ⟨e, he⟩ : ∃ e, e = (ofP l).2 := ⟨_, rfl⟩
  rw [← he]
  refine Con.of T_ok Tryz.func59 rfl (by kernel_rfl) (by kernel_rfl) (aw_of T_ok (by kernel_rfl) ?_)
  conv => whnf
  have cany := anyRec_con l hl hr
  rw [any_all] at cany
  refine callS cany rfl ?_
  conv => whnf
  split <;> rename_i h1 <;> conv => whnf
  · have ha : l.all recB = false := by simpa using h1
    rw [ofP, if_neg (by rw [ha]; decide)] at he
    subst he
    exact finA ⟨rfl⟩
  have ha : l.all recB = true := by simpa using h1
  have hx2 : foldL [] l = none := by
    rcases hx with hx | hx
    · rw [ha] at hx; cases hx
    · exact hx.2
  rw [ofP, if_pos ha, hx2] at he
  subst he
  refine AW.loop (fun p : Nat × List Saga => p.1 ≤ l.length ∧ Sgs p.2 ∧ foldL p.2 (l.drop p.1) = none) (fun p => [(4, .lf (.own 0 p.2.length)), (5, Bl true), (10, .lf (.pv (encRecs l))), (11, Go.Rx.I l.length), (12, Go.Rx.I p.1)]) (fun p => [sgB p.2]) (fun p => l.length - p.1) [.slot 4 40 9] ?_ ?_
  · exact ⟨rfl, (0, []), ⟨Nat.zero_le _, sgs_nil, hx2⟩, ⟨rfl, rfl, rfl, congrArg (fun n : Nat => Go.Rx.I (n : Int)) hm, rfl, trivial⟩, ⟨[], rfl⟩, rfl, rfl⟩
  rintro ⟨k, y⟩ ⟨hk, hy, hf⟩
  simp only at hk hy hf
  refine aw_of T_ok (by kernel_rfl) ?_
  conv => whnf
  split <;> rename_i hlt <;> conv => whnf
  · have hkl : k < l.length := by simpa using hlt
    have hrow : (l.map Rec.enc)[k]? = some (l[k]).enc := by simp [hkl]
    rw [fold_drop hkl] at hf
    have hrm := List.all_eq_true.1 ha _ (List.getElem_mem hkl)
    have hrk := hr _ (List.getElem_mem hkl)
    generalize l[k] = r at hrow hf hrm hrk
    cases hg : goesB y r with
    | true =>
      rw [hg, if_pos rfl] at hf
      refine ⟨by omega, r.enc, hrow, ?_⟩
      conv => whnf
      refine ⟨[0], _, _, _, _, _, nodupB_ok rfl, rfl, rfl, wk_refl _, step_yes y r hy hrm hrk hg, ?_⟩
      conv => whnf
      exact ⟨(k + 1, stepL y r), ⟨⟨hkl, sgs_step hy hrm hrk hg, hf⟩, by show _ - (k + 1) < _ - k; omega⟩, ⟨rfl, rfl, rfl, rfl, congrArg Go.Rx.I (wrapI (by omega)), trivial⟩, ⟨_, rfl⟩, rfl, rfl⟩
    | false =>
      refine ⟨by omega, r.enc, hrow, ?_⟩
      conv => whnf
      refine ⟨[0], _, _, _, _, _, nodupB_ok rfl, rfl, rfl, wk_refl _, step_no y r hy hrm hrk hg, ?_⟩
      conv => whnf
      exact finA ⟨rfl⟩
  · have hkl : l.length ≤ k := by simpa using hlt
    rw [fold_end hkl] at hf
    cases hf
theorem of_con (l : List Rec) (hl : l.length * 80 ≤ 140737488355328) (hr : ∀ r ∈ l, r.Ok) : Con P 59 [.lf (.pv (encRecs l))] (sagasE (ofP l)) [] := by
  cases ha : l.all recB with
  | false =>
    have e : ofP l = ([], 1) := by rw [ofP, if_neg (by rw [ha]; decide)]
    have h := of_bad l hl hr (.inl ha)
    rw [e] at h ⊢
    exact Con.stays h (by decide) ⟨[.lf (.pv (encSagas [])), Go.Rx.I 1], ⟨.inr (.inl ⟨_, _, rfl, rfl, wkN 9⟩), .inl rfl, trivial⟩, rfl⟩
  | true =>
    cases hx : foldL [] l with
    | none =>
      have e : ofP l = ([], 10) := by rw [ofP, if_pos ha, hx]
      have h := of_bad l hl hr (.inr ⟨ha, hx⟩)
      rw [e] at h ⊢
      exact Con.stays h (by decide) ⟨[.lf (.pv (encSagas [])), Go.Rx.I 10], ⟨.inr (.inl ⟨_, _, rfl, rfl, wkN 9⟩), .inl rfl, trivial⟩, rfl⟩
    | some x =>
      have e : ofP l = (x, 0) := by rw [ofP, if_pos ha, hx]
      have h := of_ok l x hl hr ha hx
      rw [e]
      exact Con.stays h (Nat.le_refl 2) ⟨List.length_map .., [.lf (.pv (encSagas x)), Go.Rx.I 0], wk_refl _, rfl⟩
abbrev recV (r : Rec) : Blk := .var [.pv (pI r.kind), .pv (pI r.id), .pv (pI r.n), .pv (pS r.key), .pv (pS r.body), .pv (encSteps r.steps)]
abbrev sagasB (p : List Saga × Bool) : AV := .tup [.lf (.pv (encSagas p.1)), .lf (.pv (pB p.2))]
def foldP (l : List Rec) : List Saga × Bool := match foldL [] l with | some x => (x, true) | none => ([], false)
theorem finNS {p : List Saga × Bool} (h : p = ([], false)) : ∃ zs, Fa WkA [.lf (.pv (.sc (.slice none 0 0))), Bl false] zs ∧ pack zs = some (sagasB p) := by
  subst h
  exact ⟨[.lf (.pv (encSagas [])), Bl false], ⟨.inr (.inl ⟨_, _, rfl, rfl, wkN 9⟩), .inl rfl, trivial⟩, rfl⟩
end Go.Proofs.YtfjllfjmggooeaaGreatDoor.Rx

/- May sagas be together? How much a script of records is; what the laws share. -/
set_option linter.unusedVariables false
set_option linter.unusedSimpArgs false
namespace Go.Rx
def togAt (l : List Saga) (i : Nat) : Bool := match l[i]? with | some s => sagaB s && (s.id == ((i + 1 : Nat) : Int) && !(decide (0 ≤ keyI (l.take i) s.key))) | none => true
def togA (l : List Saga) : Bool := (List.range l.length).all (togAt l)
def togB (l : List Saga) : Bool := togA l && decide (l.length ≤ 20)
theorem togAt_eq {l : List Saga} {i : Nat} (h : i < l.length) : togAt l i = (sagaB l[i] && (l[i].id == ((i + 1 : Nat) : Int) && !(decide (0 ≤ keyI (l.take i) l[i].key)))) := by
  unfold togAt; rw [List.getElem?_eq_getElem h]
theorem tog_yes {l : List Saga} (h : ∀ j, j < l.length → togAt l j = true) : togA l = true := by
  rw [togA, List.all_eq_true]
  intro j hj
  exact h j (List.mem_range.1 hj)
theorem tog_no {l : List Saga} {k : Nat} (hk : k < l.length) (h : togAt l k = false) : togA l = false := by
  rw [togA, List.all_eq_false]
  exact ⟨k, List.mem_range.2 hk, by rw [h]; decide⟩
theorem tog_sgs {l : List Saga} (h : Sgs l) : togB l = true := by
  rw [togB, decide_eq_true h.len, Bool.and_true]
  refine tog_yes fun j hj => ?_
  have hs := h.sg j l[j] (List.getElem?_eq_getElem hj)
  rw [togAt_eq hj, hs.may, Bool.true_and, Bool.and_eq_true]
  refine ⟨by rw [hs.id]; simp, ?_⟩
  have : keyI (l.take j) l[j].key < 0 := idx_neg.2 fun x hx => by
    obtain ⟨i, hi, rfl⟩ := List.mem_iff_getElem.1 hx
    have hi' : i < j := by rw [List.length_take] at hi; omega
    have := hs.key i l[i] hi' (List.getElem?_eq_getElem (by omega))
    simpa using this
  simp; omega
theorem sgs_tog {l : List Saga} (hok : ∀ s ∈ l, s.Ok) (h : togB l = true) : Sgs l := by
  rw [togB, Bool.and_eq_true] at h
  have hat : ∀ (i : Nat) (s : Saga), l[i]? = some s → sagaB s = true ∧ s.id = ((i + 1 : Nat) : Int) ∧ keyI (l.take i) s.key < 0 := fun i s hs => by
    have hi := (List.getElem?_eq_some_iff.1 hs).1
    have h1 := List.all_eq_true.1 h.1 i (List.mem_range.2 hi)
    unfold togAt at h1
    rw [hs] at h1
    simp only [Bool.and_eq_true, Bool.not_eq_true', decide_eq_false_iff_not, beq_iff_eq] at h1
    exact ⟨h1.1, h1.2.1, by omega⟩
  refine ⟨of_decide_eq_true h.2, fun i s hs => ?_⟩
  obtain ⟨h1, h2, h3⟩ := hat i s hs
  refine ⟨hok s (List.mem_of_getElem? hs), h1, by rw [h2]; rfl, fun j x hj hx => ?_⟩
  have := idx_neg.1 h3 x (List.mem_of_getElem? (by rw [List.getElem?_take_of_lt hj]; exact hx))
  simpa using this
def capOut : List (List Rec) → Int → Int
  | [], n => n
  | l :: L, n => if n < 1048576 then capOut L (capSum (l.map recW) (IntKind.i64.wrap (n + l.length))) else n
theorem capOut_go {L : List (List Rec)} {k : Nat} {n : Int} (h : k < L.length) (hn : n < 1048576) : capOut (L.drop k) n = capOut (L.drop (k + 1)) (capSum (L[k].map recW) (IntKind.i64.wrap (n + L[k].length))) := by
  rw [List.drop_eq_getElem_cons h, capOut, if_pos hn]
theorem capOut_stop {L : List (List Rec)} {n : Int} (h : ¬ n < 1048576) : capOut L n = n := by
  cases L with
  | nil => rfl
  | cons l L => rw [capOut, if_neg h]
structure RowsOk (L : List (List Rec)) : Prop where
  len : L.length * 24 ≤ 140737488351232
  row : ∀ l ∈ L, l.length * 80 ≤ 140737488351232 ∧ ∀ r ∈ l, r.Ok
end Go.Rx
namespace Go.Proofs.YtfjllfjmggooeaaGreatDoor.Rx
open Go.Rx Go.Proofs Go.Proofs.YtfjllfjmggooeaaGreatDoor.RxH

abbrev encRows (L : List (List Rec)) : PV := .sl 1 (L.map fun l => [encRecs l])
abbrev encAsk15 (R : List Rec) (S : List ByteArray) (N : List Int) (G : List Saga) (L : List (List Rec)) : AV := .agg [.pv (encRecs R), .pv (encStrs S), .pv (encInts N), .pv (encSagas G), .pv (encRows L)]
abbrev ask15V (R : List Rec) (S : List ByteArray) (N : List Int) (G : List Saga) (L : List (List Rec)) : Blk := .var [.pv (encRecs R), .pv (encStrs S), .pv (encInts N), .pv (encSagas G), .pv (encRows L)]
theorem replayMay_con (l : List Saga) (hl : l.length * 96 ≤ 140737488351232) (hs : ∀ s ∈ l, s.Ok) : Con P 87 [.lf (.pv (encSagas l))] (Bl (togB l)) [] := by
  have hm : (l.map Saga.enc).length = l.length := List.length_map ..
  refine Con.of T_ok Tryz.func87 rfl (by kernel_rfl) (by kernel_rfl) (aw_of T_ok (by kernel_rfl) ?_)
  conv => whnf
  refine AW.loop (fun k : Nat => k ≤ l.length ∧ ∀ j, j < k → togAt l j = true) (fun k => [(0, .lf (.pv (encSagas l))), (5, .lf (.pv (encSagas l))), (6, Go.Rx.I l.length), (7, Go.Rx.I k)]) (fun _ => []) (fun k => l.length - k) [] ?_ ?_
  · exact ⟨0, ⟨Nat.zero_le _, fun j hj => absurd hj (Nat.not_lt_zero _)⟩, ⟨rfl, rfl, congrArg (fun n : Nat => Go.Rx.I (n : Int)) hm, rfl, trivial⟩, ⟨[], rfl⟩, rfl, rfl⟩
  rintro k ⟨hk, hpre⟩
  refine aw_of T_ok (by kernel_rfl) ?_
  conv => whnf
  split <;> rename_i hlt <;> conv => whnf
  · have hkl : k < l.length := by simpa using hlt
    have hrow : (l.map Saga.enc)[k]? = some (l[k]).enc := by simp [hkl]
    have hat := togAt_eq hkl
    have hsk := hs _ (List.getElem_mem hkl)
    generalize l[k] = s at hrow hat hsk
    have no : togAt l k = false → false = togB l := fun h => by rw [togB, tog_no hkl h]; rfl
    refine ⟨by omega, s.enc, hrow, ?_⟩
    conv => whnf
    refine AW.draw T_ok rfl (listPl [0, 1, 2, 3, 4, 5, 6, 7, 8, 9, 10, 11, 12, 14, 15, 13, 16, 17, 18]) (by kernel_rfl) (by kernel_rfl) ?_
    conv => whnf
    refine callS (sagaMay_con s hsk) rfl ?_
    conv => whnf
    split <;> rename_i h1 <;> conv => whnf
    · exact finB ⟨no (by rw [hat, show sagaB s = false by simpa using h1]; rfl)⟩
    have w1 : IntKind.i64.wrap ((k : Int) + 1) = ((k + 1 : Nat) : Int) := wrapI (by omega)
    split <;> rename_i h2 <;> conv => whnf
    · refine finB ⟨no ?_⟩
      have h2' : (s.id != IntKind.i64.wrap ((k : Int) + 1)) = true := h2
      rw [w1] at h2'
      rw [hat, show (s.id == ((k + 1 : Nat) : Int)) = false by simpa using h2']
      simp
    have h2' : (s.id == ((k + 1 : Nat) : Int)) = true := by
      have h2' : (s.id != IntKind.i64.wrap ((k : Int) + 1)) = false := h2
      rw [w1] at h2'
      simpa using h2'
    refine ⟨by decide, by omega, by rw [hm]; omega, ?_⟩
    conv => whnf
    have ck := keyed_con (l.take k) s.key (by rw [List.length_take]; omega)
    rw [show encSagas (l.take k) = .sl 9 ((l.map Saga.enc).take k) by rw [encSagas, List.map_take]] at ck
    refine callS ck rfl ?_
    conv => whnf
    split <;> rename_i h3 <;> conv => whnf
    · refine finB ⟨no ?_⟩
      rw [hat, show decide (0 ≤ keyI (l.take k) s.key) = true from h3]
      simp
    refine ⟨k + 1, ⟨⟨by omega, fun j hj => ?_⟩, by omega⟩, ⟨rfl, rfl, rfl, congrArg Go.Rx.I w1, trivial⟩, ⟨_, rfl⟩, rfl, rfl⟩
    rcases Nat.lt_or_ge j k with hjk | hjk
    · exact hpre j hjk
    · obtain rfl : j = k := by omega
      rw [hat, show sagaB s = true by simpa using h1, h2', show decide (0 ≤ keyI (l.take j) s.key) = false from h3]
      rfl
  · have hkl : k = l.length := by have : ¬ ((k : Int) < (l.length : Int)) := by simpa using hlt
                                  omega
    refine finB ⟨?_⟩
    rw [togB, tog_yes (fun j hj => hpre j (by omega)), Bool.true_and, hm]
    simp
    omega
def findP (l : List Saga) (k : ByteArray) : Int × Int := if togB l then (if keyI l k < 0 then (0, 3) else (keyI l k + 1, 0)) else (0, 1)
theorem idx_lt {α : Type} {p : α → Bool} : ∀ (l : List α) (k : Nat), idxL p l k < k + l.length
  | [], k => by rw [idxL]; simp; omega
  | a :: l, k => by
    rw [idxL]
    split
    · simp; omega
    · have := idx_lt (p := p) l (k + 1)
      simp at this ⊢; omega
end Go.Proofs.YtfjllfjmggooeaaGreatDoor.Rx

/- strings.Builder: its functions as contracts of functions that blocks are lent to. -/
set_option linter.unusedVariables false
set_option linter.unusedSimpArgs false
namespace Go.Proofs.YtfjllfjmggooeaaGreatDoor.RxB
open Go.RowKit Go.Proofs
theorem hb_size : (Tryz.prog.info? 243).map (·.size) = some 2 := by kernel_rfl
theorem hb_byte : (Tryz.prog.info? 5).map (fun i => (i.zero, i.size, i.bytes)) = some (some (.int .u8 0), 1, 1) := by kernel_rfl
/-- A builder lies at the begin of a variable of this type. -/
def Lies (T : TypeId) : Prop := liesAt Tryz.prog Tryz.prog.depth T (2 / Tryz.prog.cellsOf T) 0 243 1 = true
set_option maxHeartbeats 1000000 in
set_option maxRecDepth 100000 in
theorem copyCheck_used (b : Nat) (w : World) (h0 : w.cell? ⟨b, 0, none⟩ = some (.pointer (some ⟨b, 0, none⟩))) :
    Calls Tryz.prog 214 #[.pointer (some ⟨b, 0, none⟩)] w fun e w' => e = .returned (.tuple #[]) ∧ w' = w := by
  obtain ⟨j, hj, _⟩ := Option.map_eq_some_iff.1 hb_size
  go_enter Tryz.func214, Tryz.ntmps214
  go_wp2
  rw [Lib.run_neq_ptr_same w _ Tryz.underlying241 hj]
  go_wp2
  go_end0
  exact ⟨rfl, rfl⟩
set_option maxHeartbeats 1000000 in
set_option maxRecDepth 100000 in
theorem copyCheck_fresh (b : Nat) (T : TypeId) (hT : Lies T) (w : World) (h0 : w.cell? ⟨b, 0, none⟩ = some (.pointer none)) (hsh : w.shape? b = some (T, 2)) (hfz : w.frozen? ⟨b, 0, none⟩ = false) :
    Calls Tryz.prog 214 #[.pointer (some ⟨b, 0, none⟩)] w fun e w' => e = .returned (.tuple #[]) ∧ w' = w.setCell ⟨b, 0, none⟩ (.pointer (some ⟨b, 0, none⟩)) := by
  obtain ⟨j, hj, hjs⟩ := Option.map_eq_some_iff.1 hb_size
  go_enter Tryz.func214, Tryz.ntmps214
  go_wp2
  rw [Lib.run_to_unsafe w ⟨b, 0, none⟩ Tryz.underlying241 Tryz.underlying183 hj (by rw [hjs]; decide) hsh (Nat.zero_lt_succ 1)]
  simp only [Result.andThen]
  rw [Oper.upon_value]
  go_wp2
  rw [run_callFunc_extern Tryz.func225 (by kernel_rfl) (by kernel_rfl) (by kernel_rfl) (e := Extern.AbiNoEscape.same) (by kernel_rfl)]
  rw [Lib.run_noEscape]
  simp only [Result.andThen]
  rw [Oper.upon_value]
  go_wp2
  rw [Lib.run_from_unsafe w ⟨b, 0, none⟩ Tryz.underlying183 Tryz.underlying241 hj hsh hT]
  simp only [Result.andThen]
  rw [Oper.upon_value]
  go_wp2
  go_end0
  exact ⟨rfl, rfl⟩
set_option maxHeartbeats 2000000 in
set_option maxRecDepth 100000 in
/-- The text of a builder that holds some bytes: they are frozen in its rows. -/
theorem string_some (b g cap : Nat) (cs cur : Array Value) (T : TypeId) (l : List UInt8) (w : World) (h0 : l ≠ []) (hcap : cap ≠ 0) (hb : w.heap[b]? = some (.cells cs T (0, 0))) (hc : cs[1]? = some (.slice (some ⟨g, 0, none⟩) l.length cap))
    {fz : Nat × Nat} (hg : w.heap[g]? = some (.cells cur 5 fz)) (hl : l.length ≤ cur.size) (h63 : l.length ≤ 9223372036854775807) (hcell : ∀ (j : Nat) (x : UInt8), l[j]? = some x → cur[j]? = some (Value.int .u8 x.toNat)) :
    Calls Tryz.prog 187 #[.pointer (some ⟨b, 0, none⟩)] w fun e w' => e = .returned (.string ⟨l.toArray⟩) ∧ w' = w.drew.freeze ⟨g, 0, none⟩ l.length := by
  have c1 : w.drew.cell? ⟨b, 1, none⟩ = some (.slice (some ⟨g, 0, none⟩) l.length cap) := by
    have : w.drew.heap[b]? = some (.cells cs T (0, 0)) := hb
    rw [Lib.cell_of_heap this]; exact hc
  have hSD : (Builtin.unsafeSliceData_ #[100] 261 #[.slice (some ⟨g, 0, none⟩) l.length cap]).run Tryz.prog w.drew = .ok (.pointer (some ⟨g, 0, none⟩)) w.drew :=
    Lib.run_unsafeSliceData_row _ _ _ _ _ _ hcap
  have hUS : (Builtin.unsafeString_ #[261, 3] 9 #[.pointer (some ⟨g, 0, none⟩), .int .i64 l.length]).run Tryz.prog w.drew = .ok (.string ⟨l.toArray⟩) (w.drew.freeze ⟨g, 0, none⟩ l.length) := by
    have hg' : w.drew.heap[g]? = some (.cells cur 5 fz) := hg
    refine Lib.run_unsafeString_row w.drew 261 3 9 5 Tryz.underlying261 (by kernel_rfl) g cur.size (by simp [World.shape?, hg']) l h0 hl h63 ?_
    intro j x hx
    rw [Addr.add_lit, Lib.cell_of_heap hg', Nat.zero_add]
    exact hcell j x hx
  have mixed : Tryz.prog.follows Departure.mixedOrders = true := by kernel_rfl
  go_enter Tryz.func187, Tryz.ntmps187
  go_wp2
  go_region_o
  all_goals (go_wp2; go_ret; exact ⟨rfl, rfl⟩)
end Go.Proofs.YtfjllfjmggooeaaGreatDoor.RxB
namespace Go.Rx
open Go.RowKit
section
variable {C : Ctx} {G : Gh} {bk : List Blk} {w w' : World}
/-- Rows of the call's own are given up; their block may turn. -/
theorem Mem.lose (h : Mem C G bk w) {b e sz : Nat} {rows : List (List PV)} (hb : bk[b]? = some (.arr e sz rows)) (hoth : ∀ g, G.M b ≠ some g → w'.heap[g]? = w.heap[g]?) (hsz : w'.heap.size = w.heap.size) (hos : w'.os = w.os) (htp : w'.tape = w.tape) (hou : w'.output = w.output) :
    ∃ G', Trn G bk w G' (bk.set b (.lost sz (rows ++ [[]]))) w' ∧ Mem C G' (bk.set b (.lost sz (rows ++ [[]]))) w' := by
  have hbl : b < bk.length := (List.getElem?_eq_some_iff.1 hb).1
  have hrb : rowsOf bk b = some (sz, rows) := by unfold rowsOf; rw [hb]
  let G' : Gh := { M := fun i => if i = b then none else G.M i, S := G.S, cp := G.cp }
  have hlen : (bk.set b (.lost sz (rows ++ [[]]))).length = bk.length := by simp
  have g0 : ∀ i, i ≠ b → (bk.set b (.lost sz (rows ++ [[]])))[i]? = bk[i]? := fun i hn => List.getElem?_set_ne (Ne.symm hn)
  have gb : (bk.set b (.lost sz (rows ++ [[]])))[b]? = some (.lost sz (rows ++ [[]])) := List.getElem?_set_self hbl
  have hM : ∀ i, i ≠ b → G'.M i = G.M i := fun i hn => if_neg hn
  have hMb : G'.M b = none := if_pos rfl
  have hro : ∀ i, i ≠ b → rowsOf (bk.set b (.lost sz (rows ++ [[]]))) i = rowsOf bk i := fun i hn => by unfold rowsOf; rw [g0 i hn]
  have hrlost : rowsOf (bk.set b (.lost sz (rows ++ [[]]))) b = some (sz, rows ++ [[]]) := by unfold rowsOf; rw [gb]
  have ab : Alive bk b := by unfold Alive; rw [hb]; trivial
  have hne : ∀ g o, G.S g o → G.M b ≠ some g := fun g o hs => h.sdis g o b hs ab
  have t : Trn G bk w G' (bk.set b (.lost sz (rows ++ [[]]))) w' := by
    refine ⟨fun _ _ h => h, fun g o hs => World.cell?_of_block (a := ⟨g, o, none⟩) (hoth g (hne g o hs)), by rw [hlen]; exact Nat.le_refl _, fun i hi hr => ?_, fun i s r hr => ?_⟩
    · have hn : i ≠ b := fun e => by subst e; rw [hrb] at hr; cases hr
      exact ⟨by rw [hro i hn]; exact hr, hM i hn⟩
    · by_cases hn : i = b
      · subst hn
        rw [hrb] at hr
        cases hr
        refine ⟨_, hrlost, by simp, fun h => ?_⟩
        simp at h
      · exact ⟨r, by rw [hro i hn]; exact hr, Nat.le_refl _, fun _ => ⟨hM i hn, rfl⟩⟩
  have oth : ∀ i g, i < bk.length → i ≠ b → G.M i = some g → w'.heap[g]? = w.heap[g]? := fun i g hi hn hg => hoth g fun e => hn (h.inj i b g hi hbl hg e)
  refine ⟨G', t, ⟨fun i B hB => ?_, fun i j g hi hj e1 e2 => ?_, fun g o i hs ha e1 => ?_, fun g o hs => by rw [hsz]; exact h.slt g o hs, fun i g hi e1 => ?_, fun i g hi e1 => ?_, h.s0, h.snew, hos.trans h.os, htp.trans h.tape, hou.trans h.output, by rw [hsz]; exact h.size, fun g hg hn => ?_, by rw [hlen]; exact h.mle, h.t0.trans t⟩⟩
  · by_cases hn : i = b
    · subst hn
      rw [gb] at hB
      cases hB
      exact hMb
    · rw [g0 i hn] at hB
      exact RepB.step t (hM i hn) rfl (fun g hg => oth i g (List.getElem?_eq_some_iff.1 hB).1 hn hg) (h.blk i B hB)
  · rw [hlen] at hi hj
    by_cases hn : i = b
    · subst hn; rw [hMb] at e1; cases e1
    · by_cases hn2 : j = b
      · subst hn2; rw [hMb] at e2; cases e2
      · rw [hM i hn] at e1; rw [hM j hn2] at e2; exact h.inj i j g hi hj e1 e2
  · by_cases hn : i = b
    · subst hn; rw [hMb] at e1; cases e1
    · rw [hM i hn] at e1
      exact h.sdis g o i hs (by unfold Alive at ha ⊢; rw [g0 i hn] at ha; exact ha) e1
  · rw [hlen] at hi
    by_cases hn : i = b
    · subst hn; rw [hMb] at e1; cases e1
    · rw [hM i hn] at e1; rw [hsz]; exact h.mlt i g hi e1
  · rw [hlen] at hi
    by_cases hn : i = b
    · subst hn; rw [hMb] at e1; cases e1
    · rw [hM i hn] at e1; exact h.new i g hi e1
  · rw [hoth g fun e => ?_]
    · exact h.block g hg hn
    · rcases h.new b g hbl e with h1 | ⟨b', h1, h2⟩
      · omega
      · exact hn b' h1 h2
end
end Go.Rx
namespace Go.Proofs.YtfjllfjmggooeaaGreatDoor.Rx
open Go.Rx Go.Proofs Go.RowKit Go.Proofs.YtfjllfjmggooeaaGreatDoor.RxB

theorem copyCheck_con (t : TypeId) (ht : Lies t) (x : Lf) (rest : List Blk) : ConG P 214 (.var [.bad 0 t, x] :: rest) [.lf (.ptr 0 0)] (.tup []) (.var [.bad 0 t, x] :: rest) := by
  refine ⟨by kernel_rfl, fun w G0 us hm hargs => ?_⟩
  cases us with
  | nil => exact hargs.elim
  | cons v us =>
    cases us with
    | cons _ _ => exact hargs.2.elim
    | nil =>
      obtain ⟨⟨⟨g, hg, rfl⟩, _, hro⟩, _⟩ := hargs
      obtain ⟨g', cur, ty, hg', ⟨hb, hbad⟩, hf⟩ := hm.blk 0 (.var [.bad 0 t, x]) rfl
      rw [hg] at hg'
      cases hg'
      have hty : ty = t := hbad t (by simp)
      subst hty
      cases cur with
      | nil => exact hf.elim
      | cons a cur =>
        cases cur with
        | nil => exact hf.2.elim
        | cons xv cur =>
          cases cur with
          | cons _ _ => exact hf.2.2.elim
          | nil =>
            obtain ⟨⟨ha, _⟩, hx, _⟩ := hf
            rcases ha with rfl | ⟨g2, hg2, rfl⟩
            · refine (copyCheck_fresh g ty ht w (by rw [Lib.cell_of_heap hb]; rfl) (by simp [World.shape?, hb]) (Lib.frozen_of_heap hb 0)).mono ?_
              rintro e w' ⟨rfl, rfl⟩
              have hb2 : (w.setCell ⟨g, 0, none⟩ (.pointer (some ⟨g, 0, none⟩))).heap[g]? = some (.cells #[.pointer (some ⟨g, 0, none⟩), xv] ty (0, 0)) := by
                simp [World.setCell, Array.getElem?_modify, hb]
              have hal : Alive (.var [.bad 0 ty, x] :: rest) 0 := trivial
              obtain ⟨t1, m1⟩ := hm.setb (w' := w.setCell ⟨g, 0, none⟩ (.pointer (some ⟨g, 0, none⟩))) 0 hal (.var [.bad 0 ty, x]) hal (.inl ⟨rfl, rfl⟩)
                (fun k hk => by
                  have : k ≠ g := fun e => hk (by rw [hg, e])
                  simp only [World.setCell, Array.getElem?_modify]
                  rw [if_neg (by simpa using (Ne.symm this))])
                (by simp [World.setCell]) rfl rfl rfl
                (fun t1 => ⟨g, [.pointer (some ⟨g, 0, none⟩), xv], ty, hg, ⟨hb2, hbad⟩, ⟨.inr ⟨g, hg, rfl⟩, by simp, rfl⟩, t1.repL hx, trivial⟩)
              exact ⟨_, G0, rfl, ⟨[], rfl, trivial⟩, m1⟩
            · rw [hg] at hg2
              cases hg2
              refine (copyCheck_used g w (by rw [Lib.cell_of_heap hb]; rfl)).mono ?_
              rintro e w' ⟨rfl, rfl⟩
              exact ⟨_, G0, rfl, ⟨[], rfl, trivial⟩, hm⟩
theorem bldString_con (t : TypeId) (z : ByteArray) (h0 : 1 ≤ z.size) (h63 : z.size ≤ 9223372036854775807) :
    ConG P 187 [.var [.bad 0 t, .own 1 z.size], .arr 5 1 (byteRows z)] [.lf (.ptr 0 0)] (Sx z) [.var [.bad 0 t, .own 1 z.size], .lost 1 (byteRows z ++ [[]])] := by
  refine ⟨by kernel_rfl, fun w G0 us hm hargs => ?_⟩
  cases us with
  | nil => exact hargs.elim
  | cons v us =>
    cases us with
    | cons _ _ => exact hargs.2.elim
    | nil =>
      obtain ⟨⟨⟨g, hg, rfl⟩, _, hro⟩, _⟩ := hargs
      obtain ⟨g', cur, ty, hg', ⟨hb, hbad⟩, hf⟩ := hm.blk 0 _ rfl
      rw [hg] at hg'
      cases hg'
      have hrl : (byteRows z).length = z.size := by simp [byteRows]
      have hll : z.data.toList.length = z.size := by simp
      cases cur with
      | nil => exact hf.elim
      | cons a cur =>
        cases cur with
        | nil => exact hf.2.elim
        | cons xv cur =>
          cases cur with
          | cons _ _ => exact hf.2.2.elim
          | nil =>
            obtain ⟨_, hx, _⟩ := hf
            obtain ⟨_, sz, rows, hrows, _, hx4⟩ := hx
            have hr1 : rowsOf [Blk.var [.bad 0 t, .own 1 z.size], .arr 5 1 (byteRows z)] 1 = some (1, byteRows z) := rfl
            rw [hr1] at hrows
            cases hrows
            rcases hx4 hrl with ⟨g2, hg2, rfl⟩ | ⟨_, hz, _⟩
            · rcases hm.blk 1 _ rfl with ⟨hq, _⟩ | ⟨g3, c2, hg3, ⟨fz, h1, _⟩, h2, h3, h4, h5⟩
              · rw [hg2] at hq; cases hq
              rw [hg2] at hg3
              cases hg3
              have hcs : z.data.toList.length ≤ c2.size := by rw [hll, h3, Nat.mul_one, ← hrl]; exact h4
              refine (string_some g g2 (G0.cp 1) #[a, .slice (some ⟨g2, 0, none⟩) z.size (G0.cp 1)] c2 ty z.data.toList w (by intro e; rw [e] at hll; simp at hll; omega) (by omega) hb (by rw [hll]; rfl) h1 hcs (by rw [hll]; exact h63) (fun j x hj => ?_)).mono ?_
              · obtain ⟨_, hc⟩ := h5 j [.sc (.int .u8 x.toNat)] (by unfold byteRows; rw [List.getElem?_map, hj]; rfl)
                obtain ⟨u, hu, hru⟩ := hc 0 _ rfl
                rw [Nat.mul_one, Nat.add_zero] at hu
                have : u = .int .u8 x.toNat := by cases hru; rfl
                rw [hu, this]
              · rintro e w' ⟨rfl, rfl⟩
                have hfz : ∀ k, k ≠ g2 → (w.drew.freeze ⟨g2, 0, none⟩ z.data.toList.length).heap[k]? = w.heap[k]? := fun k hk => by
                  unfold World.freeze
                  split
                  · rfl
                  · simp only [Array.getElem?_modify]
                    rw [if_neg (by simpa using Ne.symm hk)]
                    rfl
                have hfs : (w.drew.freeze ⟨g2, 0, none⟩ z.data.toList.length).heap.size = w.heap.size := by
                  unfold World.freeze
                  split
                  · rfl
                  · show (w.drew.heap.modify _ _).size = _
                    rw [Array.size_modify]; rfl
                have hfo : (w.drew.freeze ⟨g2, 0, none⟩ z.data.toList.length).os = w.os ∧ (w.drew.freeze ⟨g2, 0, none⟩ z.data.toList.length).tape = w.tape ∧ (w.drew.freeze ⟨g2, 0, none⟩ z.data.toList.length).output = w.output := by
                  unfold World.freeze
                  split <;> exact ⟨rfl, rfl, rfl⟩
                obtain ⟨G', t1, m1⟩ := hm.lose (w' := w.drew.freeze ⟨g2, 0, none⟩ z.data.toList.length) (b := 1) rfl (fun k hk => hfz k fun e => hk (by rw [hg2, e])) hfs hfo.1 hfo.2.1 hfo.2.2
                exact ⟨_, G', rfl, RepP.sc _ rfl, m1⟩
            · omega
theorem write_con (t : TypeId) (ht : Lies t) (n k : Nat) (rows prow : List (List PV)) (hn : rows.length = n) (hk : prow.length = k) (hb : n + k ≤ 140737488355328) :
    ConG P 202 [.var [.bad 0 t, .own 1 n], .arr 5 1 rows, .arr 5 1 prow] [.lf (.ptr 0 0), .lf (.own 2 k)] (.tup [.lf (.pv (pI k)), .lf (.pv (.sc .nilIface))]) [.var [.bad 0 t, .own 1 (n + k)], .arr 5 1 (rows ++ prow), .frz 1 prow] := by
  refine ConG.of T_ok Tryz.func202 rfl (by kernel_rfl) (by kernel_rfl) (aw_of T_ok (by kernel_rfl) ?_)
  conv => whnf
  refine ⟨[0, 1], _, _, _, _, _, nodupB_ok rfl, rfl, rfl, wk_refl _, copyCheck_con t ht _ _, ?_⟩
  conv => whnf
  refine ⟨hk, prow, .inl rfl, ?_⟩
  conv => whnf
  refine ⟨hn, by show (n + prow.length) * 1 ≤ _; omega, ?_⟩
  conv => whnf
  refine ⟨hk, ?_⟩
  conv => whnf
  subst hk
  exact ⟨[], [0, 1, 2], _, _, rfl, rfl, rfl, wk_refl _, rfl⟩
theorem writeString_con (t : TypeId) (ht : Lies t) (n : Nat) (rows : List (List PV)) (s : ByteArray) (hn : rows.length = n) (hb : n + s.size ≤ 140737488355328) :
    ConG P 203 [.var [.bad 0 t, .own 1 n], .arr 5 1 rows] [.lf (.ptr 0 0), Sx s] (.tup [.lf (.pv (pI s.size)), .lf (.pv (.sc .nilIface))]) [.var [.bad 0 t, .own 1 (n + s.size)], .arr 5 1 (rows ++ byteRows s)] := by
  refine ConG.of T_ok Tryz.func203 rfl (by kernel_rfl) (by kernel_rfl) (aw_of T_ok (by kernel_rfl) ?_)
  conv => whnf
  refine ⟨[0, 1], _, _, _, _, _, nodupB_ok rfl, rfl, rfl, wk_refl _, copyCheck_con t ht _ _, ?_⟩
  conv => whnf
  refine ⟨hn, by show (n + s.size) * 1 ≤ _; omega, ?_⟩
  conv => whnf
  exact ⟨[], [0, 1], _, _, rfl, rfl, rfl, wk_refl _, rfl⟩
theorem writeByte_con (t : TypeId) (ht : Lies t) (n : Nat) (rows : List (List PV)) (c : Int) (hn : rows.length = n) (hb : n + 1 ≤ 140737488355328) :
    ConG P 227 [.var [.bad 0 t, .own 1 n], .arr 5 1 rows] [.lf (.ptr 0 0), sc (.int .u8 c)] (.lf (.pv (.sc .nilIface))) [.var [.bad 0 t, .own 1 (n + 1)], .arr 5 1 (rows ++ [[.sc (.int .u8 c)]])] := by
  refine ConG.of T_ok Tryz.func227 rfl (by kernel_rfl) (by kernel_rfl) (aw_of T_ok (by kernel_rfl) ?_)
  conv => whnf
  refine ⟨[0, 1], _, _, _, _, _, nodupB_ok rfl, rfl, rfl, wk_refl _, copyCheck_con t ht _ _, ?_⟩
  conv => whnf
  refine ⟨rfl, _, .inl rfl, ?_⟩
  conv => whnf
  refine ⟨hn, by show (n + 1) * 1 ≤ _; omega, ?_⟩
  conv => whnf
  exact ⟨[], [0, 1], _, _, rfl, rfl, rfl, wk_refl _, rfl⟩
end Go.Proofs.YtfjllfjmggooeaaGreatDoor.Rx

/- A record's bytes: numbers and texts that are added to a builder. -/
set_option linter.unusedVariables false
set_option linter.unusedSimpArgs false
namespace Go.Rx
/-- A number's lowest byte. -/
def byteZ (x : Int) : UInt8 := UInt8.ofNat (x % 256).toNat
theorem u8_wrap (x : Int) : IntKind.u8.wrap x = x % 256 := by
  have h : ∀ y : Int, IntKind.u8.wrap y = y % 256 := fun y => by
    simp [IntKind.wrap, IntKind.bits, IntKind.signed]
  exact h x
theorem byteZ_nat (x : Int) : ((byteZ x).toNat : Int) = x % 256 := by
  unfold byteZ
  have h0 : 0 ≤ x % 256 := Int.emod_nonneg _ (by decide)
  have h1 : x % 256 < 256 := Int.emod_lt_of_pos _ (by decide)
  have : (UInt8.ofNat (x % 256).toNat).toNat = (x % 256).toNat := by
    rw [UInt8.toNat_ofNat']
    omega
  rw [this]; omega
theorem byteZ_wrap (x : Int) : IntKind.u8.wrap x = ((byteZ x).toNat : Int) := by rw [u8_wrap, byteZ_nat]
/-- Four bytes of a number, the highest first. -/
def be4 (x : Int) : List UInt8 := [byteZ (x.fdiv 16777216), byteZ (x.fdiv 65536), byteZ (x.fdiv 256), byteZ x]
def bytesOf (l : List UInt8) : ByteArray := ⟨l.toArray⟩
def numsL (l : List Int) : List UInt8 := l.flatMap be4
theorem nums_snoc (l : List Int) (x : Int) : numsL (l ++ [x]) = numsL l ++ be4 x := by rw [numsL, List.flatMap_append]; simp [numsL]
theorem nums_len (l : List Int) : (numsL l).length = 4 * l.length := by
  induction l with
  | nil => rfl
  | cons x l ih => rw [numsL, List.flatMap_cons, List.length_append]; show (be4 x).length + (numsL l).length = _; rw [ih]; simp [be4]; omega
def rowsB (l : List UInt8) : List (List PV) := l.map fun c => [.sc (.int .u8 c.toNat)]
theorem rowsB_append (a b : List UInt8) : rowsB (a ++ b) = rowsB a ++ rowsB b := List.map_append
theorem rowsB_len (a : List UInt8) : (rowsB a).length = a.length := List.length_map ..
theorem rowsB_of (s : ByteArray) : byteRows s = rowsB s.data.toList := rfl
theorem rowsB_back (l : List UInt8) : rowsB l = byteRows (bytesOf l) := rfl
end Go.Rx
namespace Go.Proofs.YtfjllfjmggooeaaGreatDoor.Rx
open Go.Rx Go.Proofs Go.Proofs.YtfjllfjmggooeaaGreatDoor.RxB

theorem writer_lies : Lies 245 := by unfold Lies; kernel_rfl
abbrev intB (l : List Int) : Blk := .arr 3 1 (l.map fun n => [pI n])
abbrev bldB (l : List UInt8) : List Blk := [.var [.bad 0 245, .own 1 l.length], .arr 5 1 (rowsB l)]
theorem numbers_con (b : List UInt8) (l : List Int) (hb : b.length + 4 * l.length ≤ 140737488355328) (hl : l.length ≤ 140737488355328) :
    ConG P 186 (bldB b ++ [intB l]) [.lf (.ptr 0 0), .lf (.own 2 l.length)] (.tup []) (bldB (b ++ numsL l) ++ [intB l]) := by
  have hm : (l.map fun n => [pI n]).length = l.length := List.length_map ..
  refine ConG.of T_ok Tryz.func186 rfl (by kernel_rfl) (by kernel_rfl) (aw_of T_ok (by kernel_rfl) ?_)
  conv => whnf
  refine ⟨hm, ?_⟩
  conv => whnf
  refine AW.loop (fun k : Nat => k ≤ l.length) (fun k => [(0, .lf (.ptr 0 0)), (6, .lf (.own 2 l.length)), (7, Go.Rx.I l.length), (8, Go.Rx.I k)]) (fun k => bldB (b ++ numsL (l.take k)) ++ [intB l]) (fun k => l.length - k) [] ?_ ?_
  · exact ⟨0, Nat.zero_le _, ⟨rfl, rfl, rfl, rfl, trivial⟩, ⟨[], congrArg (fun c => bldB c ++ [intB l]) (List.append_nil b).symm⟩, rfl, rfl⟩
  intro k hk
  have wk : IntKind.i64.wrap ((k : Int) + 1) = ((k + 1 : Nat) : Int) := wrapI (by omega)
  have hbl : (rowsB (b ++ numsL (l.take k))).length = (b ++ numsL (l.take k)).length := rowsB_len _
  have hln : (b ++ numsL (l.take k)).length = b.length + 4 * k := by rw [List.length_append, nums_len, List.length_take]; omega
  refine aw_of T_ok (by kernel_rfl) ?_
  conv => whnf
  split <;> rename_i hlt <;> conv => whnf
  · have hkl : k < l.length := by have : (k : Int) < (l.length : Int) := of_decide_eq_true hlt
                                  omega
    have hrow : (l.map fun n => [pI n])[k]? = some [pI l[k]] := by simp [hkl]
    have hnx : numsL (l.take (k + 1)) = numsL (l.take k) ++ be4 l[k] := by rw [take_succ' hkl, nums_snoc]
    generalize l[k] = x at hrow hnx
    refine ⟨hm, by omega, by omega, ?_⟩
    conv => whnf
    refine ⟨rfl, hm, _, hrow, ?_⟩
    conv => whnf
    refine ⟨by decide, ?_⟩
    conv => whnf
    refine ⟨by decide, ?_⟩
    conv => whnf
    refine ⟨by decide, ?_⟩
    conv => whnf
    refine ⟨[0, 1, 3], _, _, _, _, _, nodupB_ok rfl, rfl, rfl, wk_refl _, write_con 245 writer_lies (b ++ numsL (l.take k)).length 4 _ _ hbl rfl (by omega), ?_⟩
    conv => whnf
    have er : rowsB (b ++ numsL (l.take k)) ++ [[PV.sc (.int .u8 (IntKind.u8.wrap (x.fdiv 16777216)))], [PV.sc (.int .u8 (IntKind.u8.wrap (x.fdiv 65536)))], [PV.sc (.int .u8 (IntKind.u8.wrap (x.fdiv 256)))], [PV.sc (.int .u8 (IntKind.u8.wrap x))]] = rowsB (b ++ numsL (l.take (k + 1))) := by
      rw [byteZ_wrap, byteZ_wrap, byteZ_wrap, byteZ_wrap, hnx, ← List.append_assoc, rowsB_append (b ++ numsL (l.take k))]
      rfl
    have el : (b ++ numsL (l.take k)).length + 4 = (b ++ numsL (l.take (k + 1))).length := by rw [hnx, ← List.append_assoc, List.length_append (bs := be4 x)]; rfl
    refine ⟨k + 1, ⟨hkl, by omega⟩, ⟨rfl, rfl, rfl, congrArg Go.Rx.I wk, trivial⟩, ⟨[?r1], ?e1⟩, rfl, rfl⟩
    case e1 =>
      show _ = [Blk.var [.bad 0 245, .own 1 (b ++ numsL (l.take (k + 1))).length], .arr 5 1 (rowsB (b ++ numsL (l.take (k + 1)))), intB l] ++ [_]
      rw [← er, ← el]
      rfl
  · have hkl : k = l.length := by have : ¬ ((k : Int) < (l.length : Int)) := of_decide_eq_false hlt
                                  omega
    refine ⟨[], [0, 1, 2], [], [], rfl, ?_, rfl, wk_refl _, rfl⟩
    rw [hkl, List.take_length]
    rfl
end Go.Proofs.YtfjllfjmggooeaaGreatDoor.Rx

/- A record's bytes, without their frame. -/
set_option linter.unusedVariables false
set_option linter.unusedSimpArgs false
namespace Go.Rx
def txtL (s : ByteArray) : List UInt8 := be4 s.size ++ s.data.toList
def stepL1 (x : Step) : List UInt8 := txtL x.nm ++ be4 x.service ++ txtL x.op ++ txtL x.undo ++ txtL x.who ++ be4 x.n
def headL (r : Rec) : List UInt8 := numsL [r.kind, r.id, r.n, 0]
def moreL (r : Rec) : List UInt8 := txtL r.key ++ txtL r.body ++ be4 r.steps.length
def plainL (r : Rec) : List UInt8 := if r.kind = 1 then headL r ++ moreL r ++ r.steps.flatMap stepL1 else headL r
theorem be4_len (x : Int) : (be4 x).length = 4 := rfl
theorem txt_len (s : ByteArray) : (txtL s).length = 4 + s.size := by rw [txtL, List.length_append, be4_len]; rfl
theorem head_len (r : Rec) : (headL r).length = 16 := rfl
structure SmallR (r : Rec) : Prop where
  key : r.key.size ≤ 100
  body : r.body.size ≤ 4000
  len : r.steps.length ≤ 5
  st : ∀ x ∈ r.steps, x.nm.size ≤ 100 ∧ x.op.size ≤ 100 ∧ x.undo.size ≤ 100 ∧ x.who.size ≤ 100
theorem step_len {x : Step} (h : x.nm.size ≤ 100 ∧ x.op.size ≤ 100 ∧ x.undo.size ≤ 100 ∧ x.who.size ≤ 100) : (stepL1 x).length ≤ 424 := by
  simp only [stepL1, List.length_append, txt_len, be4_len]; omega
theorem steps_len {l : List Step} (h : ∀ x ∈ l, x.nm.size ≤ 100 ∧ x.op.size ≤ 100 ∧ x.undo.size ≤ 100 ∧ x.who.size ≤ 100) : (l.flatMap stepL1).length ≤ 424 * l.length := by
  induction l with
  | nil => exact Nat.le_refl _
  | cons x l ih =>
    rw [List.flatMap_cons, List.length_append]
    have := ih fun y hy => h y (by simp [hy])
    have := step_len (h x (by simp))
    simp only [List.length_cons]
    omega
theorem more_len {r : Rec} (h : SmallR r) : (moreL r).length ≤ 4112 := by
  have := h.key; have := h.body
  simp only [moreL, List.length_append, txt_len, be4_len]; omega
theorem name_small {s : ByteArray} (h : nameB s = true) : s.size ≤ 12 := by
  unfold nameB at h
  split at h
  · rw [Bool.and_eq_true] at h
    have h2 := eq_of_beq h.2
    unfold wordL at h2
    split at h2 <;> omega
  · cases h
theorem ops_small {n : Int} {s : ByteArray} (h : (opsS n).any (s == ·) = true) : s.size ≤ 6 := by
  obtain ⟨y, hy, e⟩ := List.any_eq_true.1 h
  have := eq_of_beq e
  subst this
  unfold opsS at hy
  repeat' split at hy
  all_goals
    simp only [List.mem_cons, List.not_mem_nil, or_false] at hy
  all_goals (rcases hy with rfl | rfl <;> decide)
theorem small_of {r : Rec} (h : recB r = true) : SmallR r := by
  unfold recB at h
  rw [Bool.and_eq_true] at h
  by_cases k : r.kind = 1
  · have h2 := h.2
    rw [if_pos k] at h2
    unfold begB at h2
    simp only [Bool.and_eq_true, decide_eq_true_eq, shortB, stepsB] at h2
    refine ⟨by have := h2.2.2.1.2; omega, by have := h2.2.2.2.2.1; omega, h2.2.2.2.2.2.2.2, fun x hx => ?_⟩
    obtain ⟨j, hj, rfl⟩ := List.mem_iff_getElem.1 hx
    have h3 := List.all_eq_true.1 h2.2.2.2.2.2.1 j (List.mem_range.2 hj)
    rw [okAt_eq hj] at h3
    simp only [Bool.and_eq_true, okStep, pairB, shortB, decide_eq_true_eq] at h3
    have a1 := name_small h3.1.1.1.1
    have a2 := ops_small h3.1.1.1.2.1.1
    have a3 := ops_small h3.1.1.1.2.1.2
    have a4 := h3.1.1.2.2
    exact ⟨by omega, by omega, by omega, by omega⟩
  · have h2 := h.2
    rw [if_neg k] at h2
    simp only [Bool.and_eq_true, bareB, beq_iff_eq, decide_eq_true_eq] at h2
    have e := List.eq_nil_of_length_eq_zero h2.1.2
    exact ⟨by rw [h2.1.1.1]; decide, by rw [h2.1.1.2]; decide, by rw [e]; decide, by rw [e]; intro x hx; cases hx⟩
end Go.Rx
namespace Go.Proofs.YtfjllfjmggooeaaGreatDoor.Rx
open Go.Rx Go.Proofs Go.Proofs.YtfjllfjmggooeaaGreatDoor.RxB

theorem text_con' (b : List UInt8) (s : ByteArray) (hb : b.length + 4 + s.size ≤ 140737488355328) :
    ConG P 188 (bldB b) [.lf (.ptr 0 0), Sx s] (.tup []) (bldB (b ++ txtL s)) := by
  refine ConG.of T_ok Tryz.func188 rfl (by kernel_rfl) (by kernel_rfl) (aw_of T_ok (by kernel_rfl) ?_)
  conv => whnf
  refine ⟨[0, 1, 2], _, _, _, _, _, nodupB_ok rfl, rfl, rfl, wk_refl _, numbers_con b [(s.size : Int)] (by show b.length + 4 * 1 ≤ _; omega) (by show (1 : Nat) ≤ _; omega), ?_⟩
  conv => whnf
  have hl : (b ++ numsL [(s.size : Int)]).length = b.length + 4 := by rw [List.length_append, nums_len]; rfl
  refine ⟨[0, 1], _, _, _, _, _, nodupB_ok rfl, rfl, rfl, wk_refl _, writeString_con 245 writer_lies (b ++ numsL [(s.size : Int)]).length (rowsB (b ++ numsL [(s.size : Int)])) s (rowsB_len _) (by omega), ?_⟩
  conv => whnf
  refine ⟨[], [0, 1], [], [], rfl, ?_, rfl, wk_refl _, rfl⟩
  have e1 : rowsB (b ++ numsL [(s.size : Int)]) ++ byteRows s = rowsB (b ++ txtL s) := by
    rw [rowsB_of, ← rowsB_append, List.append_assoc]; rfl
  have e2 : (b ++ numsL [(s.size : Int)]).length + s.size = (b ++ txtL s).length := by
    rw [hl, List.length_append, txt_len]; omega
  show some [Blk.var [.bad 0 245, .own 1 ((b ++ numsL [(s.size : Int)]).length + s.size)], .arr 5 1 (rowsB (b ++ numsL [(s.size : Int)]) ++ byteRows s)] = some (bldB (b ++ txtL s))
  rw [e1, e2]
abbrev recBlk (r : Rec) : Blk := .var [.pv (pI r.kind), .pv (pI r.id), .pv (pI r.n), .pv (pS r.key), .pv (pS r.body), .pv (encSteps r.steps)]
abbrev stepBlk (x : Step) : Blk := .var [.pv (pS x.nm), .pv (pI x.service), .pv (pS x.op), .pv (pS x.undo), .pv (pS x.who), .pv (pI x.n)]
abbrev bldAt (l : List UInt8) : List Blk := [.var [.bad 1 245, .own 2 l.length], .arr 5 1 (rowsB l)]
theorem numbers_to {b c : List UInt8} {l : List Int} (e : b ++ numsL l = c) (hb : b.length + 4 * l.length ≤ 140737488355328) (hl : l.length ≤ 140737488355328) :
    ConG P 186 (bldB b ++ [intB l]) [.lf (.ptr 0 0), .lf (.own 2 l.length)] (.tup []) (bldB c ++ [intB l]) := e ▸ numbers_con b l hb hl
theorem text_to {b c : List UInt8} {s : ByteArray} (e : b ++ txtL s = c) (hb : b.length + 4 + s.size ≤ 140737488355328) :
    ConG P 188 (bldB b) [.lf (.ptr 0 0), Sx s] (.tup []) (bldB c) := e ▸ text_con' b s hb
theorem bldStr_to {c : List UInt8} {s : ByteArray} (e : bytesOf c = s) (h1 : 1 ≤ c.length) (h2 : c.length ≤ 9223372036854775807) :
    ConG P 187 (bldB c) [.lf (.ptr 0 0)] (Sx s) [.var [.bad 0 245, .own 1 c.length], .lost 1 (rowsB c ++ [[]])] := by subst e; exact bldString_con 245 (bytesOf c) h1 h2
set_option maxHeartbeats 1000000 in
theorem spell_con (r : Rec) (h : SmallR r) : Con P 161 [encRec r] (Sx (bytesOf (plainL r))) [] := by
  have hl := h.len
  have hkey := h.key
  have hbody := h.body
  have hm : (r.steps.map Step.enc).length = r.steps.length := List.length_map ..
  have hml := more_len h
  obtain ⟨c0, hc0⟩ : ∃ c, [] ++ numsL [r.kind, r.id, r.n, 0] = c := ⟨_, rfl⟩
  obtain ⟨c1, hc1⟩ : ∃ c, c0 ++ txtL r.key = c := ⟨_, rfl⟩
  obtain ⟨c2, hc2⟩ : ∃ c, c1 ++ txtL r.body = c := ⟨_, rfl⟩
  obtain ⟨W, hW⟩ : ∃ W : Nat → List UInt8, ∀ k, W k = headL r ++ moreL r ++ (r.steps.take k).flatMap stepL1 := ⟨_, fun _ => rfl⟩
  have e00 : c0 = headL r := hc0.symm
  have hc3 : c2 ++ numsL [((r.steps.map Step.enc).length : Int)] = W 0 := by
    rw [hW, hm, ← hc2, ← hc1, e00, moreL]; simp [numsL]
  have l0 : c0.length = 16 := e00 ▸ rfl
  have l1 : c1.length = 20 + r.key.size := by rw [← hc1, List.length_append, txt_len]; omega
  have l2 : c2.length = 24 + r.key.size + r.body.size := by rw [← hc2, List.length_append, txt_len]; omega
  obtain ⟨p, hp⟩ : ∃ p, bytesOf (plainL r) = p := ⟨_, rfl⟩
  rw [hp]
  refine Con.of T_ok Tryz.func161 rfl (by kernel_rfl) (by kernel_rfl) (aw_ofC T_ok 2002 (by kernel_rfl) ?_)
  conv => whnf
  refine AW.meet (fun _ : Unit => True) (fun _ => [(1, .lf (.ptr 0 0)), (3, .lf (.ptr 1 0))]) (fun _ => [recBlk r, .var [.bad 1 245, .own 2 0], .arr 5 1 []]) [.cell 1 1 5 1] ?_ ?_
  · exact ⟨rfl, (), trivial, ⟨rfl, rfl, trivial⟩, ⟨[], rfl⟩, rfl, rfl⟩
  rintro _ _
  refine aw_of T_ok (by kernel_rfl) ?_
  conv => whnf
  refine ⟨[1, 2, 3], _, _, _, _, _, nodupB_ok rfl, rfl, rfl, wk_refl _, numbers_to (b := []) (l := [r.kind, r.id, r.n, 0]) hc0 (by show 0 + 4 * 4 ≤ _; omega) (by show (4 : Nat) ≤ _; omega), ?_⟩
  conv => whnf
  split <;> rename_i hk <;> conv => whnf
  · have hk1 : ¬ r.kind = 1 := by simpa using hk
    have hp2 : bytesOf c0 = p := by rw [← hp, plainL, if_neg hk1, e00]
    refine ⟨[1, 2], _, _, _, _, _, nodupB_ok rfl, rfl, rfl, wk_refl _, bldStr_to hp2 (by omega) (by omega), ?_⟩
    conv => whnf
    exact finA ⟨rfl⟩
  have hk1 : r.kind = 1 := by simpa using hk
  have hp2 : bytesOf (W r.steps.length) = p := by rw [← hp, plainL, if_pos hk1, hW, List.take_length]
  refine ⟨[1, 2], _, _, _, _, _, nodupB_ok rfl, rfl, rfl, wk_refl _, text_to hc1 (by omega), ?_⟩
  conv => whnf
  refine ⟨[1, 2], _, _, _, _, _, nodupB_ok rfl, rfl, rfl, wk_refl _, text_to hc2 (by omega), ?_⟩
  conv => whnf
  refine ⟨[1, 2, 4], _, _, _, _, _, nodupB_ok rfl, rfl, rfl, wk_refl _, numbers_to (l := [((r.steps.map Step.enc).length : Int)]) hc3 (by show _ + 4 * 1 ≤ _; omega) (by show (1 : Nat) ≤ _; omega), ?_⟩
  conv => whnf
  refine AW.loop (fun k : Nat => k ≤ r.steps.length) (fun k => [(1, .lf (.ptr 0 0)), (3, .lf (.ptr 1 0)), (31, .lf (.pv (encSteps r.steps))), (32, Go.Rx.I (r.steps.map Step.enc).length), (33, Go.Rx.I k)]) (fun k => recBlk r :: bldAt (W k)) (fun k => r.steps.length - k) [] ?_ ?_
  · exact ⟨0, Nat.zero_le _, ⟨rfl, rfl, rfl, rfl, rfl, trivial⟩, ⟨[_, _], rfl⟩, rfl, rfl⟩
  intro k hk
  have wk : IntKind.i64.wrap ((k : Int) + 1) = ((k + 1 : Nat) : Int) := wrapI (by omega)
  have hbl : (W k).length ≤ 4128 + 424 * k := by
    have := steps_len (l := r.steps.take k) fun x hx => h.st x (List.mem_of_mem_take hx)
    rw [hW]
    simp only [List.length_append] at this ⊢
    rw [List.length_take] at this
    have : 424 * min k r.steps.length = 424 * k := by omega
    have := head_len r
    omega
  have hbl2 : 16 ≤ (W k).length := by
    rw [hW, List.length_append, List.length_append]; have := head_len r; omega
  have hx0 := h.st
  refine aw_ofC T_ok 2012 (by kernel_rfl) ?_
  conv => whnf
  split <;> rename_i hlt <;> conv => whnf
  · have hkl : k < r.steps.length := by have : (k : Int) < ((r.steps.map Step.enc).length : Int) := of_decide_eq_true hlt
                                        omega
    have hrow : (r.steps.map Step.enc)[k]? = some r.steps[k].enc := by simp [hkl]
    have hnx : W (k + 1) = W k ++ stepL1 r.steps[k] := by
      rw [hW, hW, take_succ' hkl, List.flatMap_append]; simp
    have hx := h.st r.steps[k] (List.getElem_mem _)
    generalize r.steps[k] = x at hrow hnx hx
    obtain ⟨d1, hd1⟩ : ∃ c, W k ++ txtL x.nm = c := ⟨_, rfl⟩
    obtain ⟨d2, hd2⟩ : ∃ c, d1 ++ numsL [x.service] = c := ⟨_, rfl⟩
    obtain ⟨d3, hd3⟩ : ∃ c, d2 ++ txtL x.op = c := ⟨_, rfl⟩
    obtain ⟨d4, hd4⟩ : ∃ c, d3 ++ txtL x.undo = c := ⟨_, rfl⟩
    obtain ⟨d5, hd5⟩ : ∃ c, d4 ++ txtL x.who = c := ⟨_, rfl⟩
    have hd6 : d5 ++ numsL [x.n] = W (k + 1) := by
      rw [hnx, ← hd5, ← hd4, ← hd3, ← hd2, ← hd1]; simp [numsL, stepL1]
    have m1 : d1.length = (W k).length + 4 + x.nm.size := by rw [← hd1, List.length_append, txt_len]; omega
    have m2 : d2.length = d1.length + 4 := by rw [← hd2, List.length_append, nums_len]; rfl
    have m3 : d3.length = d2.length + 4 + x.op.size := by rw [← hd3, List.length_append, txt_len]; omega
    have m4 : d4.length = d3.length + 4 + x.undo.size := by rw [← hd4, List.length_append, txt_len]; omega
    have m5 : d5.length = d4.length + 4 + x.who.size := by rw [← hd5, List.length_append, txt_len]; omega
    refine ⟨by omega, _, hrow, ?_⟩
    conv => whnf
    refine ⟨[1, 2], _, _, _, _, _, nodupB_ok rfl, rfl, rfl, wk_refl _, text_to hd1 (by omega), ?_⟩
    conv => whnf
    refine AW.meet (fun _ : Unit => True) (fun _ => [(1, .lf (.ptr 0 0)), (3, .lf (.ptr 1 0)), (31, .lf (.pv (encSteps r.steps))), (32, Go.Rx.I (r.steps.map Step.enc).length), (33, Go.Rx.I k), (5, .lf (.ptr 3 0))]) (fun _ => recBlk r :: bldAt d1 ++ [stepBlk x]) [] ⟨(), trivial, ⟨rfl, rfl, rfl, rfl, rfl, rfl, trivial⟩, ⟨[], rfl⟩, rfl, rfl⟩ ?_
    rintro _ _
    refine aw_ofC T_ok 2013 (by kernel_rfl) ?_
    conv => whnf
    refine ⟨[1, 2, 4], _, _, _, _, _, nodupB_ok rfl, rfl, rfl, wk_refl _, numbers_to (l := [x.service]) hd2 (by show _ + 4 * 1 ≤ _; omega) (by show (1 : Nat) ≤ _; omega), ?_⟩
    conv => whnf
    refine AW.meet (fun _ : Unit => True) (fun _ => [(1, .lf (.ptr 0 0)), (3, .lf (.ptr 1 0)), (31, .lf (.pv (encSteps r.steps))), (32, Go.Rx.I (r.steps.map Step.enc).length), (33, Go.Rx.I k), (5, .lf (.ptr 3 0))]) (fun _ => recBlk r :: bldAt d2 ++ [stepBlk x]) [] ⟨(), trivial, ⟨rfl, rfl, rfl, rfl, rfl, rfl, trivial⟩, ⟨[_], rfl⟩, rfl, rfl⟩ ?_
    rintro _ _
    refine aw_ofC T_ok 2014 (by kernel_rfl) ?_
    conv => whnf
    refine ⟨[1, 2], _, _, _, _, _, nodupB_ok rfl, rfl, rfl, wk_refl _, text_to hd3 (by omega), ?_⟩
    conv => whnf
    refine AW.meet (fun _ : Unit => True) (fun _ => [(1, .lf (.ptr 0 0)), (3, .lf (.ptr 1 0)), (31, .lf (.pv (encSteps r.steps))), (32, Go.Rx.I (r.steps.map Step.enc).length), (33, Go.Rx.I k), (5, .lf (.ptr 3 0))]) (fun _ => recBlk r :: bldAt d3 ++ [stepBlk x]) [] ⟨(), trivial, ⟨rfl, rfl, rfl, rfl, rfl, rfl, trivial⟩, ⟨[], rfl⟩, rfl, rfl⟩ ?_
    rintro _ _
    refine aw_ofC T_ok 2015 (by kernel_rfl) ?_
    conv => whnf
    refine ⟨[1, 2], _, _, _, _, _, nodupB_ok rfl, rfl, rfl, wk_refl _, text_to hd4 (by omega), ?_⟩
    conv => whnf
    refine AW.meet (fun _ : Unit => True) (fun _ => [(1, .lf (.ptr 0 0)), (3, .lf (.ptr 1 0)), (31, .lf (.pv (encSteps r.steps))), (32, Go.Rx.I (r.steps.map Step.enc).length), (33, Go.Rx.I k), (5, .lf (.ptr 3 0))]) (fun _ => recBlk r :: bldAt d4 ++ [stepBlk x]) [] ⟨(), trivial, ⟨rfl, rfl, rfl, rfl, rfl, rfl, trivial⟩, ⟨[], rfl⟩, rfl, rfl⟩ ?_
    rintro _ _
    refine aw_of T_ok (by kernel_rfl) ?_
    conv => whnf
    refine ⟨[1, 2], _, _, _, _, _, nodupB_ok rfl, rfl, rfl, wk_refl _, text_to hd5 (by omega), ?_⟩
    conv => whnf
    refine ⟨[1, 2, 4], _, _, _, _, _, nodupB_ok rfl, rfl, rfl, wk_refl _, numbers_to (l := [x.n]) hd6 (by show _ + 4 * 1 ≤ _; omega) (by show (1 : Nat) ≤ _; omega), ?_⟩
    conv => whnf
    exact ⟨k + 1, ⟨hkl, by omega⟩, ⟨rfl, rfl, rfl, rfl, congrArg Go.Rx.I wk, trivial⟩, ⟨[_, _], rfl⟩, rfl, rfl⟩
  · have hkl : k = r.steps.length := by have : ¬ ((k : Int) < ((r.steps.map Step.enc).length : Int)) := of_decide_eq_false hlt
                                        omega
    have hp3 : bytesOf (W k) = p := hkl ▸ hp2
    refine ⟨[1, 2], _, _, _, _, _, nodupB_ok rfl, rfl, rfl, wk_refl _, bldStr_to hp3 (by omega) (by omega), ?_⟩
    conv => whnf
    exact finA ⟨rfl⟩
end Go.Proofs.YtfjllfjmggooeaaGreatDoor.Rx

/- A record's bytes: the page's. -/
set_option linter.unusedVariables false
set_option linter.unusedSimpArgs false
namespace Go.Rx
def cat (a b : ByteArray) : ByteArray := ⟨a.data ++ b.data⟩
theorem bytesOf_append (a b : List UInt8) : bytesOf (a ++ b) = ⟨(bytesOf a).data ++ (bytesOf b).data⟩ := by
  simp [bytesOf]
theorem bytesOf_size (a : List UInt8) : (bytesOf a).size = a.length := rfl
theorem bytesOf_list (s : ByteArray) : bytesOf s.data.toList = s := rfl
theorem bytesOf_data (l : List UInt8) : (bytesOf l).data.toList = l := rfl
theorem be4_rows (x : Int) : [[PV.sc (.int .u8 (IntKind.u8.wrap (x.fdiv 16777216)))], [PV.sc (.int .u8 (IntKind.u8.wrap (x.fdiv 65536)))], [PV.sc (.int .u8 (IntKind.u8.wrap (x.fdiv 256)))], [PV.sc (.int .u8 (IntKind.u8.wrap x))]] = byteRows (bytesOf (be4 x)) := by
  rw [byteZ_wrap, byteZ_wrap, byteZ_wrap, byteZ_wrap]; rfl
theorem bytesOf_app (a b : List UInt8) : bytesOf (a ++ b) = bytesOf a ++ bytesOf b := by
  apply ByteArray.ext
  rw [ByteArray.data_append]
  simp [bytesOf]
theorem app_assoc (a b c : ByteArray) : a ++ b ++ c = a ++ (b ++ c) := ByteArray.append_assoc
/-- The check of bytes. -/
def chkF (h : Nat) (c : UInt8) : Nat := (h * 257 + c.toNat + 1) % 4294967291
def chk (l : List UInt8) : Nat := l.foldl chkF 7
theorem chk_lt (l : List UInt8) : chk l < 4294967291 := by
  have : ∀ (l : List UInt8) (h : Nat), h < 4294967291 → l.foldl chkF h < 4294967291 := by
    intro l
    induction l with
    | nil => intro h hh; exact hh
    | cons c l ih => intro h hh; exact ih _ (Nat.mod_lt _ (by decide))
  exact this l 7 (by decide)
theorem chk_snoc (l : List UInt8) (c : UInt8) : chk (l ++ [c]) = chkF (chk l) c := by rw [chk, List.foldl_append]; rfl
theorem wrapU64 {n : Int} (h0 : 0 ≤ n) (h : n < 18446744073709551616) : IntKind.u64.wrap n = n := by
  have e : ∀ y : Int, IntKind.u64.wrap y = y % 18446744073709551616 := fun y => by
    simp [IntKind.wrap, IntKind.bits, IntKind.signed]
  rw [e]; omega
theorem wrapU32 {n : Int} (h0 : 0 ≤ n) (h : n < 4294967296) : IntKind.u32.wrap n = n := by
  have e : ∀ y : Int, IntKind.u32.wrap y = y % 4294967296 := fun y => by
    simp [IntKind.wrap, IntKind.bits, IntKind.signed]
  rw [e]; omega
abbrev U64 (n : Nat) : AV := .lf (.pv (.sc (.int .u64 n)))
abbrev U32 (n : Nat) : AV := .lf (.pv (.sc (.int .u32 n)))
theorem chk_step {h : Nat} {c : UInt8} (hh : h < 4294967291) :
    (IntKind.u64.wrap (IntKind.u64.wrap (IntKind.u64.wrap ((h : Int) * 257) + IntKind.u64.wrap (c.toNat : Int)) + 1)) % 4294967291 = ((chkF h c : Nat) : Int) ∧ 0 ≤ IntKind.u64.wrap (IntKind.u64.wrap (IntKind.u64.wrap ((h : Int) * 257) + IntKind.u64.wrap (c.toNat : Int)) + 1) := by
  have hc : c.toNat < 256 := c.toNat_lt
  rw [wrapU64 (n := (c.toNat : Int)) (by omega) (by omega), wrapU64 (n := (h : Int) * 257) (by omega) (by omega), wrapU64 (n := (h : Int) * 257 + c.toNat) (by omega) (by omega), wrapU64 (by omega) (by omega)]
  rw [chkF]
  omega
end Go.Rx
namespace Go.Proofs.YtfjllfjmggooeaaGreatDoor.Rx
open Go.Rx Go.Proofs Go.Proofs.YtfjllfjmggooeaaGreatDoor.RxB

set_option maxHeartbeats 1000000 in
theorem ofSeal_con (s : ByteArray) (hs : s.size ≤ 1000000) : Con P 183 [Sx s] (U32 (chk s.data.toList)) [] := by
  refine Con.of T_ok Tryz.func183 rfl (by kernel_rfl) (by kernel_rfl) (aw_of T_ok (by kernel_rfl) ?_)
  conv => whnf
  refine AW.loop (fun k : Nat => k ≤ s.size) (fun k => [(0, Sx s), (3, U64 (chk (s.data.toList.take k))), (6, Go.Rx.I s.size), (7, Go.Rx.I k)]) (fun _ => []) (fun k => s.size - k) [] ?_ ?_
  · exact ⟨0, Nat.zero_le _, ⟨rfl, rfl, rfl, rfl, trivial⟩, ⟨[], rfl⟩, rfl, rfl⟩
  intro k hk
  have wk : IntKind.i64.wrap ((k : Int) + 1) = ((k + 1 : Nat) : Int) := wrapI (by omega)
  refine aw_of T_ok (by kernel_rfl) ?_
  conv => whnf
  split <;> rename_i hlt <;> conv => whnf
  · have hks : k < s.size := by simpa using hlt
    have hnx : chk (s.data.toList.take (k + 1)) = chkF (chk (s.data.toList.take k)) s[k] := by
      rw [take_succ' (l := s.data.toList) (k := k) (by simpa using hks), chk_snoc]; rfl
    have hcl := chk_lt (s.data.toList.take k)
    have hst := chk_step (c := s[k]) hcl
    refine ⟨by omega, s[k], atB hks, ?_⟩
    conv => whnf
    refine ⟨hst.2, by decide, ?_⟩
    conv => whnf
    exact ⟨k + 1, ⟨hks, by omega⟩, ⟨rfl, congrArg (fun n : Int => AV.lf (.pv (.sc (.int .u64 n)))) (hst.1.trans (congrArg Int.ofNat hnx.symm)), rfl, congrArg Go.Rx.I wk, trivial⟩, ⟨[], rfl⟩, rfl, rfl⟩
  · have hks : k = s.size := by have : ¬ ((k : Int) < (s.size : Int)) := of_decide_eq_false hlt
                                omega
    have hl : s.data.toList.take k = s.data.toList := List.take_of_length_le (by rw [hks]; exact Nat.le_refl _)
    have hcl := chk_lt s.data.toList
    rw [hl]
    exact finA ⟨congrArg (fun n : Int => some (AV.lf (.pv (.sc (.int .u32 n))))) (wrapU32 (n := (chk s.data.toList : Nat)) (by omega) (by omega))⟩
theorem snum_con (x : Nat) : Con P 198 [U32 x] (Sx (bytesOf (be4 x))) [] := by
  refine Con.of T_ok Tryz.func198 rfl (by kernel_rfl) (by kernel_rfl) (aw_of T_ok (by kernel_rfl) ?_)
  conv => whnf
  refine ⟨by decide, ?_⟩
  conv => whnf
  refine ⟨by decide, ?_⟩
  conv => whnf
  refine ⟨by decide, ?_⟩
  conv => whnf
  refine ⟨rfl, bytesOf (be4 x), be4_rows x, ?_⟩
  conv => whnf
  exact finA ⟨rfl⟩
end Go.Proofs.YtfjllfjmggooeaaGreatDoor.Rx

/- A record's bytes: the page's, and its frame. -/
set_option linter.unusedVariables false
set_option linter.unusedSimpArgs false
namespace Go.Proofs.YtfjllfjmggooeaaGreatDoor.Rx
open Go.Rx Go.Proofs Go.Proofs.YtfjllfjmggooeaaGreatDoor.RxB
end Go.Proofs.YtfjllfjmggooeaaGreatDoor.Rx

/- A record's frame, and its bytes. -/
set_option linter.unusedVariables false
set_option linter.unusedSimpArgs false
namespace Go.Rx
/-- A frame's head: the size, the check. -/
def frmL (l : List UInt8) : List UInt8 := be4 l.length ++ be4 (chk (be4 l.length ++ l)) ++ l
def frame (s : ByteArray) : ByteArray := if 4000 < s.size then ⟨#[]⟩ else bytesOf (frmL s.data.toList)
def plainS (r : Rec) : ByteArray := bytesOf (plainL r)
abbrev strI (p : ByteArray × Int) : AV := .tup [.lf (.pv (pS p.1)), .lf (.pv (pI p.2))]
abbrev strB (p : ByteArray × Bool) : AV := .tup [.lf (.pv (pS p.1)), .lf (.pv (.sc (.bool p.2)))]
def frmR (r : Rec) : ByteArray × Int := if 4000 < (plainS r).size then (⟨#[]⟩, 2) else (frame (plainS r), 0)
def bytesR (r : Rec) : ByteArray × Int := if recB r then frmR r else (⟨#[]⟩, 1)
def sizeR (r : Rec) : Int × Int := (((bytesR r).1.size : Int), (bytesR r).2)
def bytes9R (r : Rec) : ByteArray × Bool := if 4000 < (plainS r).size then (⟨#[]⟩, false) else (frame (plainS r), true)
theorem finSI {a : ByteArray} {n : Int} {q : ByteArray × Int} (h : q = (a, n)) : ∃ zs, Fa WkA [Sx a, Go.Rx.I n] zs ∧ pack zs = some (strI q) := ⟨_, wk_refl _, by rw [h]; rfl⟩
theorem finSB {a : ByteArray} {n : Bool} {q : ByteArray × Bool} (h : q = (a, n)) : ∃ zs, Fa WkA [Sx a, Bl n] zs ∧ pack zs = some (strB q) := ⟨_, wk_refl _, by rw [h]; rfl⟩
theorem frm_eq {s : ByteArray} : bytesOf (be4 s.size) ++ bytesOf (be4 (chk (bytesOf (be4 s.size) ++ s).data.toList)) ++ s = bytesOf (frmL s.data.toList) := by
  have e1 : (bytesOf (be4 s.size) ++ s).data.toList = be4 s.size ++ s.data.toList := by rw [ByteArray.data_append, Array.toList_append]; rfl
  have e2 : s.size = s.data.toList.length := rfl
  rw [e1, frmL, bytesOf_app, bytesOf_app, ← e2]
  rfl
end Go.Rx
namespace Go.Proofs.YtfjllfjmggooeaaGreatDoor.Rx
open Go.Rx Go.Proofs Go.Proofs.YtfjllfjmggooeaaGreatDoor.RxB
theorem add_con (s : ByteArray) : Con P 176 [Sx s] (Sx (frame s)) [] := by
  refine Con.of T_ok Tryz.func176 rfl (by kernel_rfl) (by kernel_rfl) (aw_of T_ok (by kernel_rfl) ?_)
  conv => whnf
  split <;> rename_i hs <;> conv => whnf
  · have hs1 : 4000 < s.size := by have := of_decide_eq_true hs; omega
    exact finA ⟨congrArg (fun b => some (Sx b)) (by rw [frame, if_pos hs1])⟩
  have hs1 : ¬ 4000 < s.size := by have : ¬ ((4000 : Int) < (s.size : Int)) := of_decide_eq_false hs
                                   omega
  have z : (bytesOf (be4 s.size) ++ s).size ≤ 5000 := by simp only [ByteArray.size_append, bytesOf_size, be4_len]; omega
  have e : bytesOf (be4 s.size) ++ bytesOf (be4 (chk (bytesOf (be4 s.size) ++ s).data.toList)) ++ s = frame s := by rw [frm_eq, frame, if_neg hs1]
  have wx : IntKind.u32.wrap (s.size : Int) = (s.size : Int) := wrapU32 (by omega) (by omega)
  have z4 : ∀ x : Int, (bytesOf (be4 x)).size = 4 := fun _ => rfl
  have cn : Con P 198 [.lf (.pv (.sc (.int .u32 (IntKind.u32.wrap (s.size : Int)))))] (Sx (bytesOf (be4 s.size))) [] := by rw [wx]; exact snum_con s.size
  refine callS cn rfl ?_
  conv => whnf
  refine ⟨by rw [z4]; omega, ?_⟩
  conv => whnf
  refine callS (ofSeal_con (bytesOf (be4 s.size) ++ s) (by omega)) rfl ?_
  conv => whnf
  refine callS (snum_con _) rfl ?_
  conv => whnf
  refine ⟨by rw [z4, z4]; omega, ?_⟩
  conv => whnf
  refine ⟨by rw [ByteArray.size_append, z4, z4]; omega, ?_⟩
  conv => whnf
  exact finA ⟨congrArg (fun b => some (Sx b)) e⟩
theorem rframe_con (r : Rec) (h : SmallR r) : Con P 144 [encRec r] (strI (frmR r)) [] := by
  refine Con.of T_ok Tryz.func144 rfl (by kernel_rfl) (by kernel_rfl) (aw_of T_ok (by kernel_rfl) ?_)
  conv => whnf
  refine callS (spell_con r h) rfl ?_
  conv => whnf
  split <;> rename_i hs <;> conv => whnf
  · have hs1 : 4000 < (plainS r).size := by have : (4000 : Int) < ((plainS r).size : Int) := of_decide_eq_true hs
                                            omega
    exact finSI (by rw [frmR, if_pos hs1])
  have hs1 : ¬ 4000 < (plainS r).size := by have : ¬ ((4000 : Int) < ((plainS r).size : Int)) := of_decide_eq_false hs
                                            omega
  refine callS (add_con (plainS r)) rfl ?_
  conv => whnf
  exact finSI (by rw [frmR, if_neg hs1])
theorem bytes_con (r : Rec) (h : r.Ok) : Con P 147 [encRec r] (strI (bytesR r)) [] := by
  refine Con.of T_ok Tryz.func147 rfl (by kernel_rfl) (by kernel_rfl) (aw_of T_ok (by kernel_rfl) ?_)
  conv => whnf
  refine callS (recMay_con r h) rfl ?_
  conv => whnf
  split <;> rename_i hs <;> conv => whnf
  · have hs1 : ¬ recB r = true := by simpa using hs
    exact finSI (by rw [bytesR, if_neg hs1])
  have hs1 : recB r = true := by simpa using hs
  refine callS (rframe_con r (small_of hs1)) rfl ?_
  conv => whnf
  exact finSI (by rw [bytesR, if_pos hs1])
end Go.Proofs.YtfjllfjmggooeaaGreatDoor.Rx
