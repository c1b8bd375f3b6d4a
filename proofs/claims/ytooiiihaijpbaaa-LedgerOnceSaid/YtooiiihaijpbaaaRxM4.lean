/- Bytes, short texts, numbers, services and their ops. -/
import Derived.Test.YtooiiihaijpbaaaRxM3
set_option linter.unusedVariables false
set_option linter.unusedSimpArgs false
namespace Go.Rx
abbrev U8 (n : Int) : AV := sc (.int .u8 n)
abbrev pU8 (n : Int) : PV := .sc (.int .u8 n)
def letN (n : Int) : Bool := (decide (97 ≤ n) && decide (n ≤ 122)) || (decide (65 ≤ n) && decide (n ≤ 90)) || (n == 95)
def digN (n : Int) : Bool := decide (48 ≤ n) && decide (n ≤ 57)
/-- Is a byte one that a text may have? Are all? -/
def okB (c : UInt8) : Bool := !(decide ((c.toNat : Int) < 32) || decide (126 < (c.toNat : Int)))
def plainB (s : ByteArray) : Bool := s.data.toList.all okB
def shortB (s : ByteArray) : Bool := plainB s && decide (s.size ≤ 40)
theorem atB {s : ByteArray} {k : Nat} (h : k < s.size) : s[k]? = some s[k] := by simp [h]
theorem plain_go {s : ByteArray} {k : Nat} (h : k < s.size) : (s.data.toList.drop k).all okB = (okB s[k] && (s.data.toList.drop (k + 1)).all okB) := by
  rw [List.drop_eq_getElem_cons (by simpa using h), List.all_cons]
  rfl
theorem plain_end {s : ByteArray} {k : Nat} (h : s.size ≤ k) : (s.data.toList.drop k).all okB = true := by
  rw [List.drop_of_length_le (by simpa using h)]; rfl
end Go.Rx
namespace Go.Proofs.Ytooiiihaijpbaaa.Rx
open Go.Rx Go.Proofs

theorem isNum_con (n : Int) : Con P 64 [I n] (Bl (decide (-1073741824 ≤ n) && decide (n ≤ 1073741824))) [] := by
  refine Con.of T_ok Try.func64 rfl (by kernel_rfl) (by kernel_rfl) (aw_of T_ok (by kernel_rfl) ?_)
  conv => whnf
  repeat' first | refine finB ?_ | (split <;> conv => whnf)
  all_goals (refine ⟨?_⟩; simp_all <;> omega)
theorem isService_con (n : Int) : Con P 31 [I n] (Bl (decide (1 ≤ n) && decide (n ≤ 4))) [] := by
  refine Con.of T_ok Try.func31 rfl (by kernel_rfl) (by kernel_rfl) (aw_of T_ok (by kernel_rfl) ?_)
  conv => whnf
  repeat' first | refine finB ?_ | (split <;> conv => whnf)
  all_goals (refine ⟨?_⟩; simp_all <;> omega)
theorem string_con (s : ByteArray) (hs : okS s) : Con P 43 [Sx s] (Bl (plainB s && decide (s.size ≤ 3000))) [] := by
  simp only [okS] at hs
  refine Con.of T_ok Try.func43 rfl (by kernel_rfl) (by kernel_rfl) (aw_of T_ok (by kernel_rfl) ?_)
  conv => whnf
  refine AW.loop (fun k : Nat => k ≤ s.size ∧ k ≤ 3001 ∧ plainB s = (s.data.toList.drop k).all okB) (fun k => [(0, Sx s), (3, Go.Rx.I k)]) (fun _ => []) (fun k => s.size - k) [] ?_ ?_
  · exact ⟨0, ⟨Nat.zero_le _, by omega, rfl⟩, ⟨rfl, rfl, trivial⟩, ⟨[], rfl⟩, rfl, rfl⟩
  · rintro k ⟨hk, hk2, hpre⟩
    refine aw_of T_ok (by kernel_rfl) ?_
    conv => whnf
    split <;> rename_i hlt <;> conv => whnf
    · have hks : k < s.size := by simpa using hlt
      split <;> rename_i h3 <;> conv => whnf
      · have h3' : k ≤ 3000 := by simp at h3; omega
        refine ⟨by omega, s[k], atB hks, ?_⟩
        conv => whnf
        rw [plain_go hks] at hpre
        split <;> rename_i h4 <;> conv => whnf
        · refine finB ⟨?_⟩
          rw [hpre, okB, show decide ((s[k].toNat : Int) < 32) = true from h4]; rfl
        · refine ⟨by omega, s[k], atB hks, ?_⟩
          conv => whnf
          split <;> rename_i h5 <;> conv => whnf
          · refine finB ⟨?_⟩
            rw [hpre, okB, show decide (126 < (s[k].toNat : Int)) = true from h5, Bool.or_true]; rfl
          · refine ⟨k + 1, ⟨⟨by omega, by omega, ?_⟩, by omega⟩, ⟨rfl, congrArg Go.Rx.I (wrapI (by omega)), trivial⟩, ⟨[], rfl⟩, rfl, rfl⟩
            rw [hpre, okB, show decide ((s[k].toNat : Int) < 32) = false from h4, show decide (126 < (s[k].toNat : Int)) = false from h5]; rfl
      · refine finB ⟨?_⟩
        have h3' : ¬ k ≤ 3000 := by simp at h3; omega
        rw [decide_eq_false (by omega), decide_eq_false (by omega), Bool.and_false]
    · refine finB ⟨?_⟩
      have hks : s.size ≤ k := by simpa using hlt
      rw [hpre, plain_end hks, Bool.true_and]
      exact decide_eq_decide.2 (by omega)
theorem short1_con (s : ByteArray) (hs : okS s) : Con P 26 [Sx s] (Bl (shortB s)) [] := by
  refine Con.of T_ok Try.func26 rfl (by kernel_rfl) (by kernel_rfl) (aw_of T_ok (by kernel_rfl) ?_)
  conv => whnf
  refine callS (string_con s hs) rfl ?_
  conv => whnf
  split <;> rename_i h <;> conv => whnf
  · refine finB ⟨?_⟩
    simp only [Bool.and_eq_true, decide_eq_true_eq] at h
    rw [shortB, h.1, Bool.true_and]
    exact decide_eq_decide.2 (by omega)
  · refine finB ⟨?_⟩
    rw [shortB]
    cases hp : plainB s with
    | false => rfl
    | true =>
      rw [hp, Bool.true_and] at h
      simp at h
      simp
      omega
end Go.Proofs.Ytooiiihaijpbaaa.Rx
