/- Acts of some kinds, in turn. -/
import Derived.Test.YtooiiihaijpbaaaRxD12
set_option linter.unusedVariables false
set_option linter.unusedSimpArgs false
namespace Go.Rx
def onlyA (out : Int) (ks : List Int) (a : LAct) (i : Nat) : LAct := ⟨(ks[i % ks.length]?).getD 0, a.key, a.of', a.op, a.n, if 0 ≤ out ∧ i % 2 = 0 then out else a.out, a.who⟩
def onlyL (out : Int) (ks : List Int) (l : List LAct) : List LAct := l.zipIdx.map fun q => onlyA out ks q.1 q.2
def onlyS (p : LScript) (out sv : Int) (ks : List Int) : LScript := ⟨if 0 < sv then ⟨sv, [], []⟩ else p.g, if 0 < sv then IntKind.i64.wrap (sv - 1) else p.service, onlyL out ks p.l⟩
theorem onlyL_len (out : Int) (ks : List Int) (l : List LAct) : (onlyL out ks l).length = l.length := by simp [onlyL]
theorem onlyL_take {out : Int} {ks : List Int} {l : List LAct} {k : Nat} (h : k < l.length) : (onlyL out ks l).take (k + 1) = (onlyL out ks l).take k ++ [onlyA out ks l[k] k] := by
  rw [take_succ' (by rw [onlyL_len]; exact h)]
  simp [onlyL]
theorem onlyS_ok {p : LScript} (h : p.Ok) (out sv : Int) (ks : List Int) : (onlyS p out sv ks).Ok := by
  refine ⟨?_, by show (onlyL out ks p.l).length * 64 ≤ _; rw [onlyL_len]; exact h.ll, fun a ha => ?_⟩
  · show (if 0 < sv then _ else _ : Ledger).Ok
    split
    · exact ⟨by show (0 : Nat) * 56 ≤ _; omega, by show (0 : Nat) * 8 ≤ _; omega, fun e he => by cases he⟩
    · exact h.g
  · replace ha : a ∈ onlyL out ks p.l := ha
    obtain ⟨q, hq, rfl⟩ := List.mem_map.1 ha
    obtain ⟨x, i⟩ := q
    have := List.mem_zipIdx hq
    exact h.each x (by rw [this.2.2]; exact List.getElem_mem _)
end Go.Rx
namespace Go.Proofs.Ytooiiihaijpbaaa.Rx
open Go.Rx Go.Proofs Go.Proofs.Ytooiiihaijpbaaa.RxH

abbrev zeroS : Blk := .var [.pv (pI 0), .pv (.sc (.slice none 0 0)), .pv (.sc (.slice none 0 0)), .pv (pI 0), .pv (.sc (.slice none 0 0))]
set_option maxHeartbeats 2000000 in
theorem only_con (p : LScript) (h : p.Ok) (out sv : Int) (ks : List Int) (hks : 0 < ks.length ∧ ks.length ≤ 100) : Con P 30 [encScript p, I out, I sv, .lf (.pv (encInts ks))] (encScript (onlyS p out sv ks)) [] := by
  have hll := h.ll
  have hlm : (p.l.map LAct.enc).length = p.l.length := List.length_map ..
  have hkm : (ks.map fun n => [pI n]).length = ks.length := List.length_map ..
  obtain ⟨c0, c1, c2, c3, hc⟩ : ∃ c0 c1 c2 c3, (0 < sv ∧ c0 = pI sv ∧ c1 = .sc (.slice none 0 0) ∧ c2 = .sc (.slice none 0 0) ∧ c3 = pI (IntKind.i64.wrap (sv - 1))) ∨ (¬ 0 < sv ∧ c0 = pI p.g.service ∧ c1 = encEntries p.g.entries ∧ c2 = encInts p.g.known ∧ c3 = pI p.service) := by
    by_cases hs : 0 < sv
    · exact ⟨_, _, _, _, .inl ⟨hs, rfl, rfl, rfl, rfl⟩⟩
    · exact ⟨_, _, _, _, .inr ⟨hs, rfl, rfl, rfl, rfl⟩⟩
  have hw : WkL (.pv c0) (.pv (pI (onlyS p out sv ks).g.service)) ∧ WkL (.pv c1) (.pv (encEntries (onlyS p out sv ks).g.entries)) ∧ WkL (.pv c2) (.pv (encInts (onlyS p out sv ks).g.known)) ∧ WkL (.pv c3) (.pv (pI (onlyS p out sv ks).service)) := by
    rcases hc with ⟨hs, rfl, rfl, rfl, rfl⟩ | ⟨hs, rfl, rfl, rfl, rfl⟩
    · simp only [onlyS, if_pos hs]
      exact ⟨wkE _, wkN 5, wkN 1, wkE _⟩
    · simp only [onlyS, if_neg hs]
      exact ⟨wkE _, wkE _, wkE _, wkE _⟩
  refine Con.of T_ok Try.func30 rfl (by kernel_rfl) (by kernel_rfl) (aw_ofC T_ok 1003 (by kernel_rfl) ?_)
  conv => whnf
  refine AW.cut (fun _ : Unit => True) (fun _ => [(1, Go.Rx.I out), (2, Go.Rx.I sv), (3, .lf (.pv (encInts ks))), (4, .lf (.ptr 0 0)), (8, .lf (.ptr 1 0)), (9, .lf (.ptr 2 0))]) (fun _ => [scriptV p, zeroS, .var [.pv c0, .pv c1, .pv c2, .pv c3, .pv (.sc (.slice none 0 0))]]) [] (aw_of T_ok (by kernel_rfl) ?_) ?_
  · conv => whnf
    split <;> rename_i h1 <;> conv => whnf
    · have h1' : 0 < sv := of_decide_eq_true h1
      rcases hc with ⟨_, rfl, rfl, rfl, rfl⟩ | ⟨hs, _⟩
      · exact ⟨(), trivial, ⟨rfl, rfl, rfl, rfl, rfl, rfl, trivial⟩, ⟨[], rfl⟩, rfl, rfl⟩
      · exact absurd h1' hs
    · have h1' : ¬ 0 < sv := of_decide_eq_false h1
      rcases hc with ⟨hs, _⟩ | ⟨_, rfl, rfl, rfl, rfl⟩
      · exact absurd hs h1'
      · exact ⟨(), trivial, ⟨rfl, rfl, rfl, rfl, rfl, rfl, trivial⟩, ⟨[], rfl⟩, rfl, rfl⟩
  rintro _ _
  clear hc
  refine aw_of T_ok (by kernel_rfl) ?_
  conv => whnf
  refine AW.loop (fun k : Nat => k ≤ p.l.length) (fun k => [(1, Go.Rx.I out), (3, .lf (.pv (encInts ks))), (4, .lf (.ptr 0 0)), (8, .lf (.ptr 1 0)), (9, .lf (.ptr 2 0)), (10, Go.Rx.I k)]) (fun k => [scriptV p, zeroS, .var [.pv c0, .pv c1, .pv c2, .pv c3, .own 3 k], .arr 44 7 (((onlyL out ks p.l).take k).map LAct.enc)]) (fun k => p.l.length - k) [.cell 2 4 44 7] ?_ ?_
  · exact ⟨rfl, 0, Nat.zero_le _, ⟨rfl, rfl, rfl, rfl, rfl, rfl, trivial⟩, ⟨[], rfl⟩, rfl, rfl⟩
  rintro k hk
  have hlen : (((onlyL out ks p.l).take k).map LAct.enc).length = k := by rw [List.length_map, List.length_take, onlyL_len]; omega
  refine aw_of T_ok (by kernel_rfl) ?_
  conv => whnf
  split <;> rename_i hlt <;> conv => whnf
  rotate_left
  · have hke : k = p.l.length := by have := of_decide_eq_false hlt; omega
    subst hke
    refine ⟨hlen, ?_⟩
    refine ⟨[encScript (onlyS p out sv ks)], ⟨.inr (.inr ⟨_, _, rfl, rfl, hw.1, hw.2.1, hw.2.2.1, hw.2.2.2, ?_, trivial⟩), trivial⟩, rfl⟩
    refine .inl ?_
    show Lf.pv (.sl 7 (((onlyL out ks p.l).take p.l.length).map LAct.enc)) = Lf.pv (.sl 7 ((onlyL out ks p.l).map LAct.enc))
    rw [List.take_of_length_le (by rw [onlyL_len]; exact Nat.le_refl _)]
  have hkl : k < p.l.length := by have := of_decide_eq_true hlt; omega
  have hmod : k % ks.length < ks.length := Nat.mod_lt _ hks.1
  have hkind : onlyA out ks p.l[k] k = ⟨ks[k % ks.length], (p.l[k]).key, (p.l[k]).of', (p.l[k]).op, (p.l[k]).n, if 0 ≤ out ∧ k % 2 = 0 then out else (p.l[k]).out, (p.l[k]).who⟩ := by rw [onlyA, List.getElem?_eq_getElem hmod]; rfl
  have htk := onlyL_take (out := out) (ks := ks) hkl
  refine ⟨by omega, (p.l[k]).enc, by simp [hkl], ?_⟩
  conv => whnf
  refine ⟨by omega, by omega, by omega, ?_⟩
  conv => whnf
  rw [show (k : Int) % ((ks.map fun n => [pI n]).length : Nat) = ((k % ks.length : Nat) : Int) by rw [hkm]; rfl]
  refine ⟨by omega, [pI ks[k % ks.length]], by rw [Int.toNat_natCast, List.getElem?_map, List.getElem?_eq_getElem hmod]; rfl, ?_⟩
  conv => whnf
  split <;> rename_i h1 <;> conv => whnf
  · have h1' : 0 ≤ out := of_decide_eq_true h1
    refine ⟨by omega, by decide, by omega, ?_⟩
    conv => whnf
    split <;> rename_i h2 <;> conv => whnf
    · have h2' : k % 2 = 0 := by have := eq_of_beq h2; omega
      have em : ((onlyL out ks p.l).take (k + 1)).map LAct.enc = ((onlyL out ks p.l).take k).map LAct.enc ++ [[pI ks[k % ks.length], pI (p.l[k]).key, pI (p.l[k]).of', pI (p.l[k]).op, pI (p.l[k]).n, pI out, pS (p.l[k]).who]] := by
        rw [htk, List.map_append, List.map_cons, List.map_nil, hkind, if_pos ⟨h1', h2'⟩]
      refine ⟨rfl, _, .inl rfl, ?_⟩
      conv => whnf
      refine ⟨hlen, by show (k + 1) * 64 ≤ _; omega, ?_⟩
      conv => whnf
      refine ⟨k + 1, ⟨by omega, by omega⟩, ⟨rfl, rfl, rfl, rfl, rfl, congrArg Go.Rx.I (wrapI (by omega)), trivial⟩, ⟨[?r1, ?s1], ?e1⟩, rfl, rfl⟩
      case e1 =>
        show _ = [scriptV p, zeroS, Blk.var [.pv c0, .pv c1, .pv c2, .pv c3, .own 3 (k + 1)], Blk.arr _ _ (((onlyL out ks p.l).take (k + 1)).map LAct.enc)] ++ [_, _]
        rw [em]; rfl
    · have h2' : ¬ k % 2 = 0 := fun e => by rw [show ((k : Int) % 2 == 0) = true from beq_iff_eq.2 (by omega)] at h2; cases h2
      have em : ((onlyL out ks p.l).take (k + 1)).map LAct.enc = ((onlyL out ks p.l).take k).map LAct.enc ++ [[pI ks[k % ks.length], pI (p.l[k]).key, pI (p.l[k]).of', pI (p.l[k]).op, pI (p.l[k]).n, pI (p.l[k]).out, pS (p.l[k]).who]] := by
        rw [htk, List.map_append, List.map_cons, List.map_nil, hkind, if_neg (fun e => h2' e.2)]
      refine ⟨rfl, _, .inl rfl, ?_⟩
      conv => whnf
      refine ⟨hlen, by show (k + 1) * 64 ≤ _; omega, ?_⟩
      conv => whnf
      refine ⟨k + 1, ⟨by omega, by omega⟩, ⟨rfl, rfl, rfl, rfl, rfl, congrArg Go.Rx.I (wrapI (by omega)), trivial⟩, ⟨[?r2, ?s2], ?e2⟩, rfl, rfl⟩
      case e2 =>
        show _ = [scriptV p, zeroS, Blk.var [.pv c0, .pv c1, .pv c2, .pv c3, .own 3 (k + 1)], Blk.arr _ _ (((onlyL out ks p.l).take (k + 1)).map LAct.enc)] ++ [_, _]
        rw [em]; rfl
  · have h1' : ¬ 0 ≤ out := of_decide_eq_false h1
    have em : ((onlyL out ks p.l).take (k + 1)).map LAct.enc = ((onlyL out ks p.l).take k).map LAct.enc ++ [[pI ks[k % ks.length], pI (p.l[k]).key, pI (p.l[k]).of', pI (p.l[k]).op, pI (p.l[k]).n, pI (p.l[k]).out, pS (p.l[k]).who]] := by
      rw [htk, List.map_append, List.map_cons, List.map_nil, hkind, if_neg (fun e => h1' e.1)]
    refine ⟨rfl, _, .inl rfl, ?_⟩
    conv => whnf
    refine ⟨hlen, by show (k + 1) * 64 ≤ _; omega, ?_⟩
    conv => whnf
    refine ⟨k + 1, ⟨by omega, by omega⟩, ⟨rfl, rfl, rfl, rfl, rfl, congrArg Go.Rx.I (wrapI (by omega)), trivial⟩, ⟨[?r3, ?s3], ?e3⟩, rfl, rfl⟩
    case e3 =>
      show _ = [scriptV p, zeroS, Blk.var [.pv c0, .pv c1, .pv c2, .pv c3, .own 3 (k + 1)], Blk.arr _ _ (((onlyL out ks p.l).take (k + 1)).map LAct.enc)] ++ [_, _]
      rw [em]; rfl
theorem ledgerCalls_con (p : LScript) (h : p.Ok) : Con P 6 [encScript p] (Bl true) [] := by
  have c1 := only_con p h (-1) 0 [0, 6, 1] (by decide)
  refine Con.of T_ok Try.func6 rfl (by kernel_rfl) (by kernel_rfl) (aw_of T_ok (by kernel_rfl) ?_)
  conv => whnf
  refine ⟨rfl, ?_⟩
  conv => whnf
  refine callU c1 (fun _ => rfl) ?_
  conv => whnf
  refine callS (ledgerExact_con _ (onlyS_ok h _ _ _)) rfl ?_
  conv => whnf
  exact finB ⟨rfl⟩
theorem ledgerUndos_con (p : LScript) (h : p.Ok) : Con P 7 [encScript p] (Bl true) [] := by
  have c1 := only_con p h (-1) 0 [0, 4, 7, 5] (by decide)
  refine Con.of T_ok Try.func7 rfl (by kernel_rfl) (by kernel_rfl) (aw_of T_ok (by kernel_rfl) ?_)
  conv => whnf
  refine ⟨rfl, ?_⟩
  conv => whnf
  refine callU c1 (fun _ => rfl) ?_
  conv => whnf
  refine callS (ledgerExact_con _ (onlyS_ok h _ _ _)) rfl ?_
  conv => whnf
  exact finB ⟨rfl⟩
theorem ledgerLost_con (p : LScript) (h : p.Ok) : Con P 8 [encScript p] (Bl true) [] := by
  have c1 := only_con p h (3) 0 [0, 4, 1, 5] (by decide)
  refine Con.of T_ok Try.func8 rfl (by kernel_rfl) (by kernel_rfl) (aw_of T_ok (by kernel_rfl) ?_)
  conv => whnf
  refine ⟨rfl, ?_⟩
  conv => whnf
  refine callU c1 (fun _ => rfl) ?_
  conv => whnf
  refine callS (ledgerExact_con _ (onlyS_ok h _ _ _)) rfl ?_
  conv => whnf
  exact finB ⟨rfl⟩
theorem ledgerRefused_con (p : LScript) (h : p.Ok) : Con P 9 [encScript p] (Bl true) [] := by
  have c1 := only_con p h (1) 0 [0, 4, 1, 5] (by decide)
  refine Con.of T_ok Try.func9 rfl (by kernel_rfl) (by kernel_rfl) (aw_of T_ok (by kernel_rfl) ?_)
  conv => whnf
  refine ⟨rfl, ?_⟩
  conv => whnf
  refine callU c1 (fun _ => rfl) ?_
  conv => whnf
  refine callS (ledgerExact_con _ (onlyS_ok h _ _ _)) rfl ?_
  conv => whnf
  exact finB ⟨rfl⟩
theorem ledgerAccount_con (p : LScript) (h : p.Ok) : Con P 10 [encScript p] (Bl true) [] := by
  have c1 := only_con p h (-1) 1 [0, 4, 1, 7, 5, 6] (by decide)
  refine Con.of T_ok Try.func10 rfl (by kernel_rfl) (by kernel_rfl) (aw_of T_ok (by kernel_rfl) ?_)
  conv => whnf
  refine ⟨rfl, ?_⟩
  conv => whnf
  refine callU c1 (fun _ => rfl) ?_
  conv => whnf
  refine callS (ledgerExact_con _ (onlyS_ok h _ _ _)) rfl ?_
  conv => whnf
  exact finB ⟨rfl⟩
theorem ledgerInventory_con (p : LScript) (h : p.Ok) : Con P 11 [encScript p] (Bl true) [] := by
  have c1 := only_con p h (-1) 2 [0, 4, 1, 7, 5, 6] (by decide)
  refine Con.of T_ok Try.func11 rfl (by kernel_rfl) (by kernel_rfl) (aw_of T_ok (by kernel_rfl) ?_)
  conv => whnf
  refine ⟨rfl, ?_⟩
  conv => whnf
  refine callU c1 (fun _ => rfl) ?_
  conv => whnf
  refine callS (ledgerExact_con _ (onlyS_ok h _ _ _)) rfl ?_
  conv => whnf
  exact finB ⟨rfl⟩
theorem ledgerBooking_con (p : LScript) (h : p.Ok) : Con P 12 [encScript p] (Bl true) [] := by
  have c1 := only_con p h (-1) 3 [0, 4, 1, 7, 5, 6] (by decide)
  refine Con.of T_ok Try.func12 rfl (by kernel_rfl) (by kernel_rfl) (aw_of T_ok (by kernel_rfl) ?_)
  conv => whnf
  refine ⟨rfl, ?_⟩
  conv => whnf
  refine callU c1 (fun _ => rfl) ?_
  conv => whnf
  refine callS (ledgerExact_con _ (onlyS_ok h _ _ _)) rfl ?_
  conv => whnf
  exact finB ⟨rfl⟩
theorem ledgerNotifier_con (p : LScript) (h : p.Ok) : Con P 13 [encScript p] (Bl true) [] := by
  have c1 := only_con p h (-1) 4 [0, 4, 1, 7, 5, 6] (by decide)
  refine Con.of T_ok Try.func13 rfl (by kernel_rfl) (by kernel_rfl) (aw_of T_ok (by kernel_rfl) ?_)
  conv => whnf
  refine ⟨rfl, ?_⟩
  conv => whnf
  refine callU c1 (fun _ => rfl) ?_
  conv => whnf
  refine callS (ledgerExact_con _ (onlyS_ok h _ _ _)) rfl ?_
  conv => whnf
  exact finB ⟨rfl⟩
end Go.Proofs.Ytooiiihaijpbaaa.Rx
