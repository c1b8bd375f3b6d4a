/- Names, and steps. -/
import Derived.Test.YtbfjcbhpbldlcaaRxM11
set_option linter.unusedVariables false
set_option linter.unusedSimpArgs false
namespace Go.Rx
def numB (n : Int) : Bool := decide (-1073741824 ≤ n) && decide (n ≤ 1073741824)
def okStep (x : Step) : Bool := nameB x.nm && pairB x.service x.op x.undo && shortB x.who && numB x.n
def okAt (l : List Step) (k : Nat) : Bool := match l[k]? with | some x => okStep x && !((l.take k).any fun s => s.nm == x.nm) | none => true
def stepsAll (l : List Step) : Bool := (List.range l.length).all (okAt l)
def stepsB (l : List Step) : Bool := stepsAll l && (decide (1 ≤ l.length) && decide (l.length ≤ 5))
theorem okAt_eq {l : List Step} {k : Nat} (h : k < l.length) : okAt l k = (okStep l[k] && !((l.take k).any fun s => s.nm == l[k].nm)) := by
  rw [okAt, List.getElem?_eq_getElem h]
theorem all_yes {l : List Step} (h : ∀ j, j < l.length → okAt l j = true) : stepsAll l = true := by
  rw [stepsAll, List.all_eq_true]
  intro j hj
  exact h j (List.mem_range.1 hj)
theorem all_no {l : List Step} {k : Nat} (hk : k < l.length) (h : okAt l k = false) : stepsAll l = false := by
  rw [stepsAll, List.all_eq_false]
  exact ⟨k, List.mem_range.2 hk, by rw [h]; decide⟩
theorem pair_no {n : Int} (h : ¬ (1 ≤ n ∧ n ≤ 4)) (d u : ByteArray) : pairB n d u = false := by
  have e : opsS n = [] := by unfold opsS; rw [if_neg (by omega), if_neg (by omega), if_neg (by omega), if_neg (by omega)]
  rw [pairB, e]; rfl
end Go.Rx
namespace Go.Proofs.Ytbfjcbhpbldlcaa.Rx
open Go.Rx Go.Proofs Go.Proofs.Ytbfjcbhpbldlcaa.RxH

theorem word2_con (s : ByteArray) (hs : okS s) : ∃ b, Con P 79 [Sx s] (Bl b) [] ∧ (s.size = 0 → b = false) ∧ ∀ h : 0 < s.size, letN s[0].toNat = true → b = (wordL s == s.size) := by
  by_cases h0 : 0 < s.size
  · refine ⟨oneI s s[0] == s.size, ?_, fun e => by omega, fun _ h => by rw [oneI, if_pos h]⟩
    refine Con.of T_ok Try.func79 rfl (by kernel_rfl) (by kernel_rfl) (aw_of T_ok (by kernel_rfl) ?_)
    conv => whnf
    split <;> rename_i h1 <;> conv => whnf
    · refine callS (one_con s hs h0) rfl ?_
      conv => whnf
      exact finB ⟨rfl⟩
    · have := of_decide_eq_false h1
      omega
  · refine ⟨false, ?_, fun _ => rfl, fun h => absurd h h0⟩
    refine Con.of T_ok Try.func79 rfl (by kernel_rfl) (by kernel_rfl) (aw_of T_ok (by kernel_rfl) ?_)
    conv => whnf
    split <;> rename_i h1 <;> conv => whnf
    · have := of_decide_eq_true h1
      omega
    · exact finB ⟨rfl⟩
theorem name2_con (s : ByteArray) (hs : okS s) : Con P 69 [Sx s] (Bl (nameB s)) [] := by
  obtain ⟨b, hc, hb0, hb⟩ := word2_con s hs
  refine Con.of T_ok Try.func69 rfl (by kernel_rfl) (by kernel_rfl) (aw_of T_ok (by kernel_rfl) ?_)
  conv => whnf
  refine callS hc rfl ?_
  conv => whnf
  split <;> rename_i h1 <;> conv => whnf
  · have h0 : 0 < s.size := by
      rcases Nat.eq_zero_or_pos s.size with e | e
      · cases hb0 e
      · exact e
    refine ⟨by omega, s[0], atB h0, ?_⟩
    conv => whnf
    refine callS (letter2_con s[0].toNat) rfl ?_
    conv => whnf
    refine finB ⟨?_⟩
    rw [nameB, dif_pos h0]
    cases hl : letN s[0].toNat with
    | false => rfl
    | true => rw [← hb h0 hl]; rfl
  · refine finB ⟨?_⟩
    rw [nameB]
    split
    · rename_i h0
      cases hl : letN s[0].toNat with
      | false => rfl
      | true => rw [← hb h0 hl]; rfl
    · rfl
theorem planMay_con (l : List Step) (hl : StepsOk l) : Con P 65 [.lf (.pv (encSteps l))] (Bl (stepsB l)) [] := by
  have hlen := hl.len
  refine Con.of T_ok Try.func65 rfl (by kernel_rfl) (by kernel_rfl) (aw_of T_ok (by kernel_rfl) ?_)
  conv => whnf
  refine AW.loop (fun k : Nat => k ≤ l.length ∧ ∀ j, j < k → okAt l j = true) (fun k => [(0, .lf (.pv (encSteps l))), (5, .lf (.pv (encSteps l))), (6, Go.Rx.I l.length), (7, Go.Rx.I k)]) (fun _ => []) (fun k => l.length - k) [] ?_ ?_
  · exact ⟨0, ⟨Nat.zero_le _, fun j hj => absurd hj (Nat.not_lt_zero _)⟩, ⟨rfl, rfl, congrArg (fun n : Nat => Go.Rx.I (n : Int)) (List.length_map ..), rfl, trivial⟩, ⟨[], rfl⟩, rfl, rfl⟩
  rintro k ⟨hk, hpre⟩
  refine aw_of T_ok (by kernel_rfl) ?_
  conv => whnf
  split <;> rename_i hlt <;> conv => whnf
  · have hkl : k < l.length := by simpa using hlt
    have hok := hl.each _ (List.getElem_mem hkl)
    have hat := okAt_eq hkl
    have no : okAt l k = false → false = stepsB l := fun h => by rw [stepsB, all_no hkl h]; rfl
    refine ⟨by omega, (l[k]).enc, by simp [hkl], ?_⟩
    conv => whnf
    refine callS (name_con l[k].nm hok.nm) rfl ?_
    conv => whnf
    split <;> rename_i h1 <;> conv => whnf
    · refine finB ⟨no ?_⟩
      rw [hat, okStep, show nameB l[k].nm = false by simpa using h1]; rfl
    have h1' : nameB l[k].nm = true := by simpa using h1
    refine ⟨by decide, by omega, by simp; omega, ?_⟩
    conv => whnf
    have hc : Con P 74 [.lf (.pv (.sl 6 (((l.map Step.enc).take k).drop 0))), .lf (.fn 75 [(l[k]).enc])] (Bl ((l.take k).any fun s : Step => s.nm == l[k].nm)) [] := by
      rw [List.drop_zero, ← List.map_take]
      exact containsFunc_con (l.take k) l[k] (by rw [List.length_take]; omega)
    refine callS hc rfl ?_
    conv => whnf
    split <;> rename_i h2 <;> conv => whnf
    · refine finB ⟨no ?_⟩
      rw [hat, show ((l.take k).any fun s : Step => s.nm == l[k].nm) = true from h2, Bool.not_true, Bool.and_false]
    refine callS (isService_con l[k].service) rfl ?_
    conv => whnf
    split <;> rename_i h3 <;> conv => whnf
    · refine finB ⟨no ?_⟩
      have h3' : ¬ (1 ≤ l[k].service ∧ l[k].service ≤ 4) := by simp at h3; omega
      rw [hat, okStep, pair_no h3', h1']; rfl
    have h3' : 1 ≤ l[k].service ∧ l[k].service ≤ 4 := by simpa using h3
    refine callS (pair_con l[k].service l[k].op l[k].undo h3') rfl ?_
    conv => whnf
    split <;> rename_i h4 <;> conv => whnf
    · refine finB ⟨no ?_⟩
      rw [hat, okStep, show pairB l[k].service l[k].op l[k].undo = false by simpa using h4, h1']; rfl
    have h4' : pairB l[k].service l[k].op l[k].undo = true := by simpa using h4
    refine callS (short_con l[k].who) rfl ?_
    conv => whnf
    split <;> rename_i h5 <;> conv => whnf
    · refine finB ⟨no ?_⟩
      rw [hat, okStep, show shortB l[k].who = false by simpa using h5, h1', h4']; rfl
    have h5' : shortB l[k].who = true := by simpa using h5
    refine callS (isNum_con l[k].n) rfl ?_
    conv => whnf
    split <;> rename_i h6 <;> conv => whnf
    · refine finB ⟨no ?_⟩
      rw [hat, okStep, show numB l[k].n = false by simp at h6; rw [numB]; simp; omega, h1', h4', h5']; rfl
    have h6' : numB l[k].n = true := by simpa [numB] using h6
    refine ⟨k + 1, ⟨⟨by omega, fun j hj => ?_⟩, by omega⟩, ⟨rfl, rfl, rfl, congrArg Go.Rx.I (wrapI (by omega)), trivial⟩, ⟨_, rfl⟩, rfl, rfl⟩
    by_cases e : j = k
    · subst e; rw [hat, okStep, h1', h4', h5', h6', show ((l.take j).any fun s : Step => s.nm == l[j].nm) = false from h2]; rfl
    · exact hpre j (by omega)
  · have hkl : k = l.length := by simp at hlt; omega
    have hall : stepsAll l = true := all_yes fun j hj => hpre j (by omega)
    have hm : (l.map Step.enc).length = l.length := List.length_map ..
    split <;> rename_i h1 <;> conv => whnf
    · refine finB ⟨?_⟩
      have h1' := of_decide_eq_true h1
      rw [stepsB, hall, Bool.true_and, decide_eq_true (show 1 ≤ l.length by omega), Bool.true_and]
      exact decide_eq_decide.2 (by omega)
    · refine finB ⟨?_⟩
      have h1' := of_decide_eq_false h1
      rw [stepsB, hall, Bool.true_and, decide_eq_false (show ¬ 1 ≤ l.length by omega)]; rfl
end Go.Proofs.Ytbfjcbhpbldlcaa.Rx
