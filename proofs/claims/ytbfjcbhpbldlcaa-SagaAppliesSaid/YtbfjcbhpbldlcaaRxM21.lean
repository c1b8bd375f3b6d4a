/- What writes over answers. -/
import Derived.Test.YtbfjcbhpbldlcaaRxM20
set_option linter.unusedVariables false
set_option linter.unusedSimpArgs false
namespace Go.Rx
def spoilt : Step := ⟨⟨#[115, 112, 111, 105, 108, 116]⟩, 0, ⟨#[]⟩, ⟨#[]⟩, ⟨#[]⟩, 0⟩
theorem set_next {α β : Type} {e : α → β} {x : β} {l : List α} {k : Nat} (h : k < l.length) : ((l.take k).map (fun _ => x) ++ (l.drop k).map e).set (k : Int).toNat x = (l.take (k + 1)).map (fun _ => x) ++ (l.drop (k + 1)).map e := by
  have h1 : ((l.take k).map (fun _ => x)).length = k := by rw [List.length_map, List.length_take]; omega
  rw [Int.toNat_natCast, List.set_append_right _ _ (by omega), h1, Nat.sub_self, List.drop_eq_getElem_cons h, List.take_succ_eq_append_getElem h, List.map_append, List.map_cons, List.set_cons_zero, List.append_assoc]
  rfl
end Go.Rx
namespace Go.Proofs.Ytbfjcbhpbldlcaa.Rx
open Go.Rx Go.Proofs Go.Proofs.Ytbfjcbhpbldlcaa.RxH

theorem spoilSteps_con (l : List Step) (hl : l.length * 80 ≤ 140737488351232) : ConG P 54 [.arr 74 6 (l.map Step.enc)] [.lf (.own 0 l.length)] (.tup []) [.arr 74 6 (l.map fun _ => spoilt.enc)] := by
  have hm : (l.map Step.enc).length = l.length := List.length_map ..
  refine ConG.of T_ok Try.func54 rfl (by kernel_rfl) (by kernel_rfl) (aw_of T_ok (by kernel_rfl) ?_)
  conv => whnf
  refine AW.loop (fun k : Nat => k ≤ l.length) (fun k => [(0, .lf (.own 0 l.length)), (2, Go.Rx.I k)]) (fun k => [.arr 74 6 ((l.take k).map (fun _ => spoilt.enc) ++ (l.drop k).map Step.enc)]) (fun k => l.length - k) [] ?_ ?_
  · exact ⟨0, Nat.zero_le _, ⟨rfl, rfl, trivial⟩, ⟨[], rfl⟩, rfl, rfl⟩
  rintro k hk
  have hrl : ((l.take k).map (fun _ => spoilt.enc) ++ (l.drop k).map Step.enc).length = l.length := by simp; omega
  refine aw_of T_ok (by kernel_rfl) ?_
  conv => whnf
  refine ⟨hrl, ?_⟩
  conv => whnf
  split <;> rename_i hlt <;> conv => whnf
  · have hkl : k < l.length := by have := of_decide_eq_true hlt; omega
    refine ⟨hrl, by omega, by omega, ?_⟩
    conv => whnf
    refine ⟨rfl, hrl, (l[k]).enc, ?_, ?_⟩
    · show ((l.take k).map (fun _ => spoilt.enc) ++ (l.drop k).map Step.enc)[(k : Int).toNat]? = _
      rw [Int.toNat_natCast, List.getElem?_append_right (by simp; omega)]
      simp [Nat.min_eq_left hk, hkl]
    conv => whnf
    refine ⟨by decide, ?_⟩
    conv => whnf
    refine ⟨k + 1, ⟨by omega, by omega⟩, ⟨rfl, congrArg Go.Rx.I (wrapI (by omega)), trivial⟩, ⟨[], ?e⟩, rfl, rfl⟩
    case e =>
      rw [List.append_nil]
      exact congrArg (fun r => [Blk.arr _ 6 r]) (set_next (e := Step.enc) (x := spoilt.enc) hkl)
  · have hkl : k = l.length := by have := of_decide_eq_false hlt; omega
    subst hkl
    refine ⟨[], [0], [], [], rfl, ?_, rfl, trivial, rfl⟩
    show some [Blk.arr _ 6 ((l.take l.length).map (fun _ => spoilt.enc) ++ (l.drop l.length).map Step.enc)] = _
    rw [List.take_length, List.drop_length, List.map_nil, List.append_nil]
end Go.Proofs.Ytbfjcbhpbldlcaa.Rx
