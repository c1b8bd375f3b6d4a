/- Is a text a name? The page's answer, all of it. -/
import Derived.Test.YtbfjcbhpbldlcaaRxM9
set_option linter.unusedVariables false
set_option linter.unusedSimpArgs false
namespace Go.Rx
def badB (c : UInt8) : Bool := decide ((c.toNat : Int) < 32) || decide (126 < (c.toNat : Int))
def textGo : List UInt8 → Int → ByteArray → Int × ByteArray
  | [], _, _ => (0, ⟨#[]⟩)
  | c :: t, i, b =>
    if ((c.toNat : Int) == 34) = true then (if 40 < (b.size : Int) then (0, ⟨#[]⟩) else (i + 1, b))
    else if ((c.toNat : Int) == 92) = true then
      (match t with
       | [] => (0, ⟨#[]⟩)
       | e :: t' => if (((e.toNat : Int) != 34) && ((e.toNat : Int) != 92)) = true then (0, ⟨#[]⟩) else if badB e then (0, ⟨#[]⟩) else textGo t' (i + 2) (b.push e))
    else if badB c then (0, ⟨#[]⟩) else textGo t (i + 1) (b.push c)
theorem text_cons (c : UInt8) (t : List UInt8) (i : Int) (b : ByteArray) : textGo (c :: t) i b =
    if ((c.toNat : Int) == 34) = true then (if 40 < (b.size : Int) then (0, ⟨#[]⟩) else (i + 1, b))
    else if ((c.toNat : Int) == 92) = true then
      (match t with
       | [] => (0, ⟨#[]⟩)
       | e :: t' => if (((e.toNat : Int) != 34) && ((e.toNat : Int) != 92)) = true then (0, ⟨#[]⟩) else if badB e then (0, ⟨#[]⟩) else textGo t' (i + 2) (b.push e))
    else if badB c then (0, ⟨#[]⟩) else textGo t (i + 1) (b.push c) := by
  cases t <;> rw [textGo.eq_def]
theorem dropB (s : ByteArray) (k : Nat) (h : k < s.size) : s.data.toList.drop k = s[k] :: s.data.toList.drop (k + 1) := by
  rw [List.drop_eq_getElem_cons (by simpa using h)]; rfl
theorem dropE {s : ByteArray} {k : Nat} (h : s.size ≤ k) : s.data.toList.drop k = [] := List.drop_of_length_le (by simpa using h)
theorem push_rows (b : ByteArray) (c : UInt8) : byteRows (b.push c) = byteRows b ++ [[pU8 c.toNat]] := by
  unfold byteRows ByteArray.push
  simp
theorem rows_len (b : ByteArray) : (byteRows b).length = b.size := by simp [byteRows]
abbrev numS (p : Int × ByteArray) : AV := .tup [.lf (.pv (pI p.1)), .lf (.pv (pS p.2))]
theorem finS {a : Int} {c : ByteArray} {q : Int × ByteArray} (h : Fin (a, c) q) : ∃ zs, Fa WkA [Go.Rx.I a, Sx c] zs ∧ pack zs = some (numS q) := ⟨_, wk_refl _, by rw [← h.out]; rfl⟩
end Go.Rx
namespace Go.Proofs.Ytbfjcbhpbldlcaa.Rx
open Go.Rx Go.Proofs Go.Proofs.Ytbfjcbhpbldlcaa.RxH

theorem text_con (s : ByteArray) (hs : okS s) : Con P 94 [Sx s] (numS (textGo (s.data.toList.drop 1) 1 ⟨#[]⟩)) [] := by
  simp only [okS] at hs
  refine Con.of T_ok Try.func94 rfl (by kernel_rfl) (by kernel_rfl) (aw_of T_ok (by kernel_rfl) ?_)
  conv => whnf
  refine AW.loop (fun p : Nat × ByteArray => 1 ≤ p.1 ∧ p.1 ≤ s.size + 1 ∧ p.2.size < p.1 ∧ textGo (s.data.toList.drop p.1) p.1 p.2 = textGo (s.data.toList.drop 1) 1 ⟨#[]⟩) (fun p => [(0, Sx s), (4, .lf (.own 0 p.2.size)), (5, Go.Rx.I p.1)]) (fun p => [.arr 5 1 (byteRows p.2)]) (fun p => s.size + 1 - p.1) [.slot 4 5 1] ?_ ?_
  · exact ⟨rfl, (1, ⟨#[]⟩), ⟨Nat.le_refl _, by omega, by decide, rfl⟩, ⟨rfl, rfl, rfl, trivial⟩, ⟨[], rfl⟩, rfl, rfl⟩
  rintro ⟨k, b⟩ ⟨hk1, hk, hb, hpre⟩
  simp only at hk1 hk hb hpre
  rw [← hpre]
  refine aw_of T_ok (by kernel_rfl) ?_
  conv => whnf
  split <;> rename_i hlt <;> conv => whnf
  · have hks : k < s.size := by simpa using hlt
    rw [dropB s k hks]
    refine ⟨by omega, s[k], atB hks, ?_⟩
    conv => whnf
    split <;> rename_i h1 <;> conv => whnf
    · refine ⟨by simp [byteRows], ?_⟩
      conv => whnf
      split <;> rename_i h2 <;> conv => whnf
      · refine finS ⟨?_⟩
        rw [text_cons, if_pos h1, if_pos (of_decide_eq_true h2)]
      · refine AW.draw T_ok rfl (seqPl 0 6) (by kernel_rfl) (by kernel_rfl) ?_
        conv => whnf
        refine ⟨by simp [byteRows], b, rfl, ?_⟩
        conv => whnf
        refine finS ⟨?_⟩
        rw [text_cons, if_pos h1, if_neg (of_decide_eq_false h2)]
        exact congrArg (·, b) (wrapI (by omega))
    · have h1' : ¬ ((s[k].toNat : Int) == 34) = true := by rw [h1]; decide
      split <;> rename_i h2 <;> conv => whnf
      · have e1 : IntKind.i64.wrap ((k : Int) + 1) = (k : Int) + 1 := wrapI (by omega)
        split <;> rename_i h3 <;> conv => whnf
        · refine finS ⟨?_⟩
          have h3' : s.size ≤ k + 1 := by have : ((s.size : Int) ≤ IntKind.i64.wrap ((k : Int) + 1)) := of_decide_eq_true h3; rw [e1] at this; omega
          rw [dropE h3', text_cons, if_neg h1', if_pos h2]
        · have hks2 : k + 1 < s.size := by have : ¬ ((s.size : Int) ≤ IntKind.i64.wrap ((k : Int) + 1)) := of_decide_eq_false h3; rw [e1] at this; omega
          rw [dropB s (k + 1) hks2]
          have ix : s[(IntKind.i64.wrap ((k : Int) + 1)).toNat]? = some s[k + 1] := by rw [e1]; exact atB hks2
          refine ⟨by show 0 ≤ IntKind.i64.wrap ((k : Int) + 1); rw [e1]; omega, s[k + 1], ix, ?_⟩
          conv => whnf
          split <;> rename_i h4 <;> conv => whnf
          · refine ⟨by show 0 ≤ IntKind.i64.wrap ((k : Int) + 1); rw [e1]; omega, s[k + 1], ix, ?_⟩
            conv => whnf
            split <;> rename_i h5 <;> conv => whnf
            · refine finS ⟨?_⟩
              rw [text_cons, if_neg h1', if_pos h2]
              simp only
              rw [if_pos (by rw [show ((s[k + 1].toNat : Int) != 34) = true from h4, show ((s[k + 1].toNat : Int) != 92) = true from h5]; rfl)]
            · have hne : (((s[k + 1].toNat : Int) != 34) && ((s[k + 1].toNat : Int) != 92)) = false := by rw [show ((s[k + 1].toNat : Int) != 92) = false from h5, Bool.and_false]
              refine ⟨by show 0 ≤ IntKind.i64.wrap ((k : Int) + 1); rw [e1]; omega, s[k + 1], ix, ?_⟩
              conv => whnf
              split <;> rename_i h7 <;> conv => whnf
              · refine finS ⟨?_⟩
                have hbad : badB s[k + 1] = true := by rw [badB, show decide ((s[k + 1].toNat : Int) < 32) = true from h7]; rfl
                rw [text_cons, if_neg h1', if_pos h2]; simp only; rw [if_neg (by rw [hne]; decide), if_pos hbad]
              · split <;> rename_i h8 <;> conv => whnf
                · refine finS ⟨?_⟩
                  have hbad : badB s[k + 1] = true := by rw [badB, show decide (126 < (s[k + 1].toNat : Int)) = true from h8, Bool.or_true]
                  rw [text_cons, if_neg h1', if_pos h2]; simp only; rw [if_neg (by rw [hne]; decide), if_pos hbad]
                · have hbad : badB s[k + 1] = false := by rw [badB, show decide ((s[k + 1].toNat : Int) < 32) = false from h7, show decide (126 < (s[k + 1].toNat : Int)) = false from h8]; rfl
                  refine ⟨rfl, _, .inl rfl, ?_⟩
                  conv => whnf
                  refine ⟨by simp [byteRows], by show (b.size + 1) * 1 ≤ _; omega, ?_⟩
                  conv => whnf
                  refine ⟨(k + 2, b.push s[k + 1]), ⟨⟨by show 1 ≤ k + 2; omega, by show k + 2 ≤ _; omega, by show (b.push s[k + 1]).size < k + 2; rw [ByteArray.size_push]; omega, ?_⟩, by show _ - (k + 2) < _; omega⟩, ⟨rfl, congrArg (fun n => AV.lf (.own 0 n)) (ByteArray.size_push ..).symm, congrArg Go.Rx.I ?_, trivial⟩, ⟨[?r1], ?e1⟩, rfl, rfl⟩
                  case e1 => show _ = [Blk.arr _ _ (byteRows (b.push s[k + 1]))] ++ [_]; rw [push_rows]; rfl
                  · show textGo (s.data.toList.drop (k + 2)) ((k + 2 : Nat) : Int) _ = _
                    rw [text_cons, if_neg h1', if_pos h2]; simp only; rw [if_neg (by rw [hne]; decide), if_neg (by rw [hbad]; decide)]; rfl
                  · show IntKind.i64.wrap (IntKind.i64.wrap ((k : Int) + 1) + 1) = _
                    rw [e1]; rw [wrapI (by omega)]; show _ = ((k + 2 : Nat) : Int); omega
          · have hne : (((s[k + 1].toNat : Int) != 34) && ((s[k + 1].toNat : Int) != 92)) = false := by rw [show ((s[k + 1].toNat : Int) != 34) = false from h4]; rfl
            refine ⟨by show 0 ≤ IntKind.i64.wrap ((k : Int) + 1); rw [e1]; omega, s[k + 1], ix, ?_⟩
            conv => whnf
            split <;> rename_i h7 <;> conv => whnf
            · refine finS ⟨?_⟩
              have hbad : badB s[k + 1] = true := by rw [badB, show decide ((s[k + 1].toNat : Int) < 32) = true from h7]; rfl
              rw [text_cons, if_neg h1', if_pos h2]; simp only; rw [if_neg (by rw [hne]; decide), if_pos hbad]
            · split <;> rename_i h8 <;> conv => whnf
              · refine finS ⟨?_⟩
                have hbad : badB s[k + 1] = true := by rw [badB, show decide (126 < (s[k + 1].toNat : Int)) = true from h8, Bool.or_true]
                rw [text_cons, if_neg h1', if_pos h2]; simp only; rw [if_neg (by rw [hne]; decide), if_pos hbad]
              · have hbad : badB s[k + 1] = false := by rw [badB, show decide ((s[k + 1].toNat : Int) < 32) = false from h7, show decide (126 < (s[k + 1].toNat : Int)) = false from h8]; rfl
                refine ⟨rfl, _, .inl rfl, ?_⟩
                conv => whnf
                refine ⟨by simp [byteRows], by show (b.size + 1) * 1 ≤ _; omega, ?_⟩
                conv => whnf
                refine ⟨(k + 2, b.push s[k + 1]), ⟨⟨by show 1 ≤ k + 2; omega, by show k + 2 ≤ _; omega, by show (b.push s[k + 1]).size < k + 2; rw [ByteArray.size_push]; omega, ?_⟩, by show _ - (k + 2) < _; omega⟩, ⟨rfl, congrArg (fun n => AV.lf (.own 0 n)) (ByteArray.size_push ..).symm, congrArg Go.Rx.I ?_, trivial⟩, ⟨[?r2], ?e2⟩, rfl, rfl⟩
                case e2 => show _ = [Blk.arr _ _ (byteRows (b.push s[k + 1]))] ++ [_]; rw [push_rows]; rfl
                · show textGo (s.data.toList.drop (k + 2)) ((k + 2 : Nat) : Int) _ = _
                  rw [text_cons, if_neg h1', if_pos h2]; simp only; rw [if_neg (by rw [hne]; decide), if_neg (by rw [hbad]; decide)]; rfl
                · show IntKind.i64.wrap (IntKind.i64.wrap ((k : Int) + 1) + 1) = _
                  rw [e1]; rw [wrapI (by omega)]; show _ = ((k + 2 : Nat) : Int); omega
      · have h2' : ¬ ((s[k].toNat : Int) == 92) = true := by rw [h2]; decide
        split <;> rename_i h7 <;> conv => whnf
        · refine finS ⟨?_⟩
          have hbad : badB s[k] = true := by rw [badB, show decide ((s[k].toNat : Int) < 32) = true from h7]; rfl
          rw [text_cons, if_neg h1', if_neg h2', if_pos hbad]
        · split <;> rename_i h8 <;> conv => whnf
          · refine finS ⟨?_⟩
            have hbad : badB s[k] = true := by rw [badB, show decide (126 < (s[k].toNat : Int)) = true from h8, Bool.or_true]
            rw [text_cons, if_neg h1', if_neg h2', if_pos hbad]
          · have hbad : badB s[k] = false := by rw [badB, show decide ((s[k].toNat : Int) < 32) = false from h7, show decide (126 < (s[k].toNat : Int)) = false from h8]; rfl
            refine ⟨rfl, _, .inl rfl, ?_⟩
            conv => whnf
            refine ⟨by simp [byteRows], by show (b.size + 1) * 1 ≤ _; omega, ?_⟩
            conv => whnf
            refine ⟨(k + 1, b.push s[k]), ⟨⟨by show 1 ≤ k + 1; omega, by show k + 1 ≤ _; omega, by show (b.push s[k]).size < k + 1; rw [ByteArray.size_push]; omega, ?_⟩, by show _ - (k + 1) < _; omega⟩, ⟨rfl, congrArg (fun n => AV.lf (.own 0 n)) (ByteArray.size_push ..).symm, congrArg Go.Rx.I ?_, trivial⟩, ⟨[?r3], ?e3⟩, rfl, rfl⟩
            case e3 => show _ = [Blk.arr _ _ (byteRows (b.push s[k]))] ++ [_]; rw [push_rows]; rfl
            · show textGo (s.data.toList.drop (k + 1)) ((k + 1 : Nat) : Int) _ = _
              rw [text_cons, if_neg h1', if_neg h2', if_neg (by rw [hbad]; decide)]; rfl
            · show IntKind.i64.wrap ((k : Int) + 1) = _
              rw [wrapI (by omega)]; show _ = ((k + 1 : Nat) : Int); omega
  · have hks : s.size ≤ k := by simpa using hlt
    rw [dropE hks]
    exact finS ⟨rfl⟩
end Go.Proofs.Ytbfjcbhpbldlcaa.Rx
