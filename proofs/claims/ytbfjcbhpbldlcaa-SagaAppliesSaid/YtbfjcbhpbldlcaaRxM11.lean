/- One word, and names, as the page has them. -/
import Derived.Test.YtbfjcbhpbldlcaaRxM10
set_option linter.unusedVariables false
set_option linter.unusedSimpArgs false
namespace Go.Rx
def digC (c : UInt8) : Bool := digN c.toNat
def signB : List UInt8 := [33, 36, 40, 41, 58, 61, 64, 91, 93, 123, 125]
def numL (s : ByteArray) : Nat := 1 + ((s.data.toList.drop 1).takeWhile digC).length
def oneI (s : ByteArray) (c : UInt8) : Int :=
  if letN c.toNat then wordL s else if ((c.toNat : Int) == 45) || digN c.toNat then (if (intR (s.extract 0 (numL s))).2 then (numL s : Int) else 0)
  else if (c.toNat : Int) == 34 then (textGo (s.data.toList.drop 1) 1 ⟨#[]⟩).1
  else if decide (2 < (s.size : Int)) && (s.extract 0 3 == ⟨#[46, 46, 46]⟩) then 3 else if signB.any (fun x => ((x.toNat : Int) == c.toNat)) then 1 else 0
theorem any_go {α : Type} {p : α → Bool} {l : List α} {k : Nat} (h : k < l.length) : (l.drop k).any p = (p l[k] || (l.drop (k + 1)).any p) := by
  rw [List.drop_eq_getElem_cons h, List.any_cons]
theorem any_end {α : Type} {p : α → Bool} {l : List α} {k : Nat} (h : l.length ≤ k) : (l.drop k).any p = false := by
  rw [List.drop_of_length_le h]; rfl
end Go.Rx
namespace Go.Proofs.Ytbfjcbhpbldlcaa.Rx
open Go.Rx Go.Proofs Go.Proofs.Ytbfjcbhpbldlcaa.RxH

theorem one_con (s : ByteArray) (hs : okS s) (h0 : 0 < s.size) : Con P 88 [Sx s] (I (oneI s s[0])) [] := by
  have hs' := hs
  simp only [okS] at hs
  refine Con.of T_ok Try.func88 rfl (by kernel_rfl) (by kernel_rfl) (aw_ofC T_ok 0 (by kernel_rfl) ?_)
  conv => whnf
  refine ⟨by omega, s[0], atB h0, ?_⟩
  conv => whnf
  refine AW.cut (fun _ : Unit => oneI s s[0] = if signB.any (fun x => ((x.toNat : Int) == s[0].toNat)) then 1 else 0) (fun _ => [(4, U8 s[0].toNat)]) (fun _ => []) [] (AW.block (aw_ofC T_ok 2009 (by kernel_rfl) ?_)) ?_
  rotate_left
  · rintro _ hI
    rw [hI]
    refine aw_of T_ok (by kernel_rfl) ?_
    conv => whnf
    refine ⟨rfl, ?_⟩
    conv => whnf
    refine AW.loop (fun k : Nat => k ≤ 11 ∧ (signB.drop k).any (fun x => ((x.toNat : Int) == s[0].toNat)) = signB.any (fun x => ((x.toNat : Int) == s[0].toNat))) (fun k => [(4, U8 s[0].toNat), (83, .lf (.pv (.sl 1 (signB.map fun c => [pU8 c.toNat])))), (84, Go.Rx.I 11), (85, Go.Rx.I k)]) (fun _ => []) (fun k => 11 - k) [] ?_ ?_
    · exact ⟨0, ⟨Nat.zero_le _, rfl⟩, ⟨rfl, rfl, rfl, rfl, trivial⟩, ⟨_, rfl⟩, rfl, rfl⟩
    rintro k ⟨hk, hpre⟩
    rw [← hpre]
    refine aw_of T_ok (by kernel_rfl) ?_
    conv => whnf
    split <;> rename_i hlt <;> conv => whnf
    · have hk11 : k < 11 := by have := of_decide_eq_true hlt; omega
      have hks : k < signB.length := hk11
      rw [any_go hks]
      refine ⟨by omega, [pU8 signB[k].toNat], by rw [Int.toNat_natCast, List.getElem?_map, List.getElem?_eq_getElem hks]; rfl, ?_⟩
      conv => whnf
      split <;> rename_i he <;> conv => whnf
      · exact finI ⟨by rw [if_pos (by rw [show ((signB[k].toNat : Int) == s[0].toNat) = true from he]; rfl)]⟩
      · refine ⟨k + 1, ⟨⟨by omega, ?_⟩, by omega⟩, ⟨rfl, rfl, rfl, congrArg Go.Rx.I (wrapI (by omega)), trivial⟩, ⟨[], rfl⟩, rfl, rfl⟩
        rw [show ((signB[k].toNat : Int) == s[0].toNat) = false from he, Bool.false_or]
    · have hks : signB.length ≤ k := by have := of_decide_eq_false hlt; show 11 ≤ k; omega
      exact finI ⟨by rw [any_end hks]; rfl⟩
  conv => whnf
  refine callS (letter2_con s[0].toNat) rfl ?_
  conv => whnf
  split <;> rename_i h1 <;> conv => whnf
  · rw [oneI, if_pos h1]
    refine AW.loop (fun k : Nat => k ≤ s.size ∧ k + ((s.data.toList.drop k).takeWhile wordC).length = runB wordC s) (fun k => [(0, Sx s), (3, Go.Rx.I k)]) (fun _ => []) (fun k => s.size - k) [] ?_ ?_
    · exact ⟨0, ⟨Nat.zero_le _, by rw [runB, List.drop_zero, Nat.zero_add]⟩, ⟨rfl, rfl, trivial⟩, ⟨[], rfl⟩, rfl, rfl⟩
    rintro k ⟨hk, hpre⟩
    have fin : k = runB wordC s → ∀ b, decide (12 < (k : Int)) = b → (if b then (0 : Int) else k) = wordL s := fun h b hb => by
      subst hb
      rw [wordL, ← h]
      by_cases c : 12 < k
      · rw [if_pos c, if_pos (decide_eq_true (by omega))]
      · rw [if_neg c, if_neg (by rw [decide_eq_false (by omega)]; decide)]
    refine aw_of T_ok (by kernel_rfl) ?_
    conv => whnf
    split <;> rename_i hlt <;> conv => whnf
    · have hks : k < s.size := by simpa using hlt
      refine ⟨by omega, s[k], atB hks, ?_⟩
      conv => whnf
      refine callS (letter2_con s[k].toNat) rfl ?_
      conv => whnf
      split <;> rename_i h2 <;> conv => whnf
      · have hw : wordC s[k] = true := by rw [wordC, wordN, h2]; rfl
        rw [run_go hks hw] at hpre
        exact ⟨k + 1, ⟨⟨by omega, hpre⟩, by omega⟩, ⟨rfl, congrArg Go.Rx.I (wrapI (by omega)), trivial⟩, ⟨[], rfl⟩, rfl, rfl⟩
      · refine ⟨by omega, s[k], atB hks, ?_⟩
        conv => whnf
        refine callS (digit2_con s[k].toNat) rfl ?_
        conv => whnf
        split <;> rename_i h3 <;> conv => whnf
        · have hw : wordC s[k] = true := by rw [wordC, wordN, h3, Bool.or_true]
          rw [run_go hks hw] at hpre
          exact ⟨k + 1, ⟨⟨by omega, hpre⟩, by omega⟩, ⟨rfl, congrArg Go.Rx.I (wrapI (by omega)), trivial⟩, ⟨[], rfl⟩, rfl, rfl⟩
        · have hw : wordC s[k] = false := by rw [wordC, wordN, h2, h3]; rfl
          rw [run_stop hks hw] at hpre
          split <;> rename_i h4 <;> conv => whnf
          · exact finI ⟨fin hpre _ h4⟩
          · exact finI ⟨fin hpre _ h4⟩
    · have hks : s.size ≤ k := by simpa using hlt
      rw [run_end hks] at hpre
      split <;> rename_i h4 <;> conv => whnf
      · exact finI ⟨fin hpre _ h4⟩
      · exact finI ⟨fin hpre _ h4⟩
  rw [oneI, if_neg (by rw [h1]; decide)]
  refine AW.cut (fun _ : Unit => True) (fun _ => [(0, Sx s), (4, U8 s[0].toNat), (35, Bl (((s[0].toNat : Int) == 45) || digN s[0].toNat))]) (fun _ => []) [] (aw_of T_ok (by kernel_rfl) ?_) ?_
  · conv => whnf
    split <;> rename_i h2 <;> conv => whnf
    · exact ⟨(), trivial, ⟨rfl, rfl, congrArg Bl (by rw [show ((s[0].toNat : Int) == 45) = true from h2]; rfl), trivial⟩, ⟨[], rfl⟩, rfl, rfl⟩
    · refine callS (digit2_con s[0].toNat) rfl ?_
      conv => whnf
      exact ⟨(), trivial, ⟨rfl, rfl, congrArg Bl (by rw [show ((s[0].toNat : Int) == 45) = false from h2]; rfl), trivial⟩, ⟨[], rfl⟩, rfl, rfl⟩
  rintro _ _
  refine aw_of T_ok (by kernel_rfl) ?_
  conv => whnf
  split <;> rename_i h2 <;> conv => whnf
  · rw [if_pos h2]
    refine AW.loop (fun k : Nat => 1 ≤ k ∧ k ≤ s.size ∧ k + ((s.data.toList.drop k).takeWhile digC).length = numL s) (fun k => [(0, Sx s), (3, Go.Rx.I k)]) (fun _ => []) (fun k => s.size - k) [] ?_ ?_
    · exact ⟨1, ⟨Nat.le_refl _, h0, rfl⟩, ⟨rfl, rfl, trivial⟩, ⟨[], rfl⟩, rfl, rfl⟩
    rintro k ⟨hk1, hk, hpre⟩
    have okx : okS (s.extract 0 k) := by simp only [okS, ByteArray.size_extract]; omega
    refine aw_of T_ok (by kernel_rfl) ?_
    conv => whnf
    split <;> rename_i hlt <;> conv => whnf
    · have hks : k < s.size := by simpa using hlt
      refine ⟨by omega, s[k], atB hks, ?_⟩
      conv => whnf
      refine callS (digit2_con s[k].toNat) rfl ?_
      conv => whnf
      split <;> rename_i h3 <;> conv => whnf
      · have hw : digC s[k] = true := h3
        rw [run_go hks hw] at hpre
        exact ⟨k + 1, ⟨⟨by omega, by omega, hpre⟩, by omega⟩, ⟨rfl, congrArg Go.Rx.I (wrapI (by omega)), trivial⟩, ⟨[], rfl⟩, rfl, rfl⟩
      · have hw : digC s[k] = false := h3
        rw [run_stop hks hw] at hpre
        refine ⟨by decide, by omega, by omega, ?_⟩
        conv => whnf
        refine callS (int_con (s.extract 0 k) okx) rfl ?_
        conv => whnf
        rw [← hpre]
        split <;> rename_i h4 <;> conv => whnf
        · exact finI ⟨by rw [if_neg (by rw [show (intR (s.extract 0 k)).2 = false by simpa using h4]; decide)]⟩
        · exact finI ⟨by rw [if_pos (by simpa using h4)]⟩
    · have hks : s.size ≤ k := by simpa using hlt
      rw [run_end hks] at hpre
      refine ⟨by decide, by omega, by omega, ?_⟩
      conv => whnf
      refine callS (int_con (s.extract 0 k) okx) rfl ?_
      conv => whnf
      rw [← hpre]
      split <;> rename_i h4 <;> conv => whnf
      · exact finI ⟨by rw [if_neg (by rw [show (intR (s.extract 0 k)).2 = false by simpa using h4]; decide)]⟩
      · exact finI ⟨by rw [if_pos (by simpa using h4)]⟩
  rw [if_neg (by rw [h2]; decide)]
  split <;> rename_i h3 <;> conv => whnf
  · rw [if_pos h3]
    refine callS (text_con s hs') rfl ?_
    conv => whnf
    exact finI ⟨rfl⟩
  rw [if_neg (by rw [h3]; decide)]
  split <;> rename_i h4 <;> conv => whnf
  · have h4' : 2 < (s.size : Int) := of_decide_eq_true h4
    refine ⟨by decide, by decide, by omega, ?_⟩
    conv => whnf
    split <;> rename_i h5 <;> conv => whnf
    · exact finI ⟨by rw [if_pos (by rw [show decide (2 < (s.size : Int)) = true from h4]; simpa using h5)]⟩
    · rw [if_neg (by rw [show (s.extract 0 3 == ⟨#[46, 46, 46]⟩) = false by simpa using h5, Bool.and_false]; decide)]
      exact ⟨(), rfl, ⟨rfl, trivial⟩, ⟨[], rfl⟩, rfl, rfl⟩
  · rw [if_neg (by rw [show decide (2 < (s.size : Int)) = false from h4, Bool.false_and]; decide)]
    exact ⟨(), rfl, ⟨rfl, trivial⟩, ⟨[], rfl⟩, rfl, rfl⟩
end Go.Proofs.Ytbfjcbhpbldlcaa.Rx
