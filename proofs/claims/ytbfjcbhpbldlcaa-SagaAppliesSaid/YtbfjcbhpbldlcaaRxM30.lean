/- Sagas end: the law. -/
import Derived.Test.YtbfjcbhpbldlcaaRxM29
set_option linter.unusedVariables false
set_option linter.unusedSimpArgs false
namespace Go.Rx
structure Inn (s0 : Saga) (l : List Rec) (c : Int) (k : Nat) (went : Bool) (s : Saga) : Prop where
  le : k ≤ l.length
  ok : s.Ok
  may : sagaB s = true
  no : went = false → s = s0 ∧ ∀ j < k, ∀ r, l[(((j : Int) + c) % l.length).toNat]? = some r → (applyS s r).2 ≠ 0
  yes : went = true → Good s0 s
theorem inn_end {s0 s : Saga} {l : List Rec} {c : Int} {k : Nat} (h : Inn s0 l c k false s) (hk : k = l.length) (hs : ∃ r ∈ l, (applyS s0 r).2 = 0) : False := by
  obtain ⟨rfl, hn⟩ := h.no rfl
  obtain ⟨r, hr, he⟩ := hs
  obtain ⟨j, hj, rfl⟩ := List.mem_iff_getElem.1 hr
  have hp : 0 < (l.length : Int) := by omega
  obtain ⟨q, hq⟩ : ∃ q : Int, q = ((j : Int) - c) % l.length := ⟨_, rfl⟩
  have h0 : 0 ≤ q := by rw [hq]; exact Int.emod_nonneg _ (by omega)
  have h1 : q < l.length := by rw [hq]; exact Int.emod_lt_of_pos _ hp
  have h2 : (q + c) % l.length = j := by
    rw [hq, Int.emod_add_emod, Int.sub_add_cancel, Int.emod_eq_of_lt (by omega) (by omega)]
  have h3 := hn q.toNat (by omega) l[j] (by rw [Int.toNat_of_nonneg h0, h2]; simp [hj])
  exact h3 he
end Go.Rx
namespace Go.Proofs.Ytbfjcbhpbldlcaa.Rx
open Go.Rx Go.Proofs Go.Proofs.Ytbfjcbhpbldlcaa.RxH

set_option maxHeartbeats 1000000 in
set_option maxRecDepth 100000 in
theorem sagaEnds_con (R : List Rec) (S : List ByteArray) (N : List Int) (G : List Saga) (h : AskOk R S N G) : Con P 8 [encAsk R S N G] (Bl true) [] := by
  have hG : (G.map Saga.enc).length = G.length := List.length_map ..
  have hGl := h.hG
  obtain ⟨hv, hheavy⟩ := heavy14_con R S N G h
  refine Con.of T_ok Try.func8 rfl (by kernel_rfl) (by kernel_rfl) (aw_of T_ok (by kernel_rfl) ?_)
  conv => whnf
  refine callS hheavy rfl ?_
  conv => whnf
  split <;> rename_i hh <;> conv => whnf
  · exact finB ⟨rfl⟩
  refine AW.loop (fun i : Nat => i ≤ G.length) (fun i => [(1, .lf (.ptr 0 0)), (3, Go.Rx.I i)]) (fun _ => [askV R S N G]) (fun i => G.length - i) [] ?_ ?_
  · exact ⟨0, Nat.zero_le _, ⟨rfl, rfl, trivial⟩, ⟨[], rfl⟩, rfl, rfl⟩
  rintro i hi
  refine aw_of T_ok (by kernel_rfl) ?_
  conv => whnf
  split <;> rename_i hlt <;> conv => whnf
  rotate_left
  · refine callS (pair4_con _ _ _) rfl ?_
    conv => whnf
    refine callS wakes_con rfl ?_
    conv => whnf
    exact finB ⟨rfl⟩
  have hiG : i < G.length := by have := of_decide_eq_true hlt; omega
  have hs := h.hGs _ (List.getElem_mem hiG)
  have hrow : (G.map Saga.enc)[i]? = some (G[i]).enc := by simp [hiG]
  generalize G[i] = s at hs hrow
  split <;> rename_i h6 <;> conv => whnf
  rotate_left
  · refine callS (pair4_con _ _ _) rfl ?_
    conv => whnf
    refine callS wakes_con rfl ?_
    conv => whnf
    exact finB ⟨rfl⟩
  have h6i : i < 6 := by have := of_decide_eq_true h6; omega
  refine ⟨by omega, s.enc, hrow, ?_⟩
  conv => whnf
  refine callS (check_con s hs) rfl ?_
  conv => whnf
  refine callS (num_con _ (by split <;> decide)) rfl ?_
  conv => whnf
  cases hmay : sagaB s with
  | false =>
    rw [if_neg (by decide)]
    conv => whnf
    exact ⟨i + 1, ⟨by omega, by omega⟩, ⟨rfl, congrArg Go.Rx.I (wrapI (by omega)), trivial⟩, ⟨_, rfl⟩, rfl, rfl⟩
  | true =>
  rw [if_pos rfl]
  conv => whnf
  refine AW.loop (fun p : Nat × Saga => p.2.Ok ∧ sagaB p.2 = true ∧ roomI p.2 + 24 * p.1 ≤ 408) (fun p => [(1, .lf (.ptr 0 0)), (3, Go.Rx.I i), (4, .lf (.ptr 1 0)), (5, Go.Rx.I p.1)]) (fun p => [askV R S N G, sagaV p.2]) (fun p => 18 - p.1) [] ?_ ?_
  · exact ⟨(0, s), ⟨hs, hmay, by have := room_eq (parts_iff.1 hmay); have := need_low (parts_iff.1 hmay); simp only; split at * <;> omega⟩, ⟨rfl, rfl, rfl, rfl, trivial⟩, ⟨[], rfl⟩, rfl, rfl⟩
  rintro ⟨n, s⟩ ⟨hok, hmy, hroom⟩
  simp only at hok hmy hroom
  have hr0 := room_eq (parts_iff.1 hmy)
  have hn0 := need_low (parts_iff.1 hmy)
  have hn17 : n ≤ 17 := by split at hr0 <;> omega
  refine aw_of T_ok (by kernel_rfl) ?_
  conv => whnf
  split <;> rename_i hlt2 <;> conv => whnf
  rotate_left
  · have := of_decide_eq_false hlt2; simp only at this; omega
  refine callU (records_con R S N G h s.id) (fun _ => rfl) ?_
  conv => whnf
  refine callU (need_con s hok) (fun _ => rfl) ?_
  rw [needP, if_pos hmy]
  conv => whnf
  refine callS (num_con 0 (by decide)) rfl ?_
  conv => whnf
  have hlen := recs_len R s.id
  have hm : ((recsL R s.id).map Rec.enc).length = (recsL R s.id).length := List.length_map ..
  have hex : s.status = 0 → ∃ r ∈ recsL R s.id, (applyS s r).2 = 0 := some_goes R hmy
  have hrok := recs_ok h.hRs s.id
  generalize recsL R s.id = l at hlen hm hex hrok
  obtain ⟨c, hc⟩ : ∃ c : Int, c = 7 * i + 5 * n := ⟨_, rfl⟩
  refine AW.loop (fun p : Nat × Bool × Saga => Inn s l c p.1 p.2.1 p.2.2) (fun p => [(1, .lf (.ptr 0 0)), (3, Go.Rx.I i), (4, .lf (.ptr 1 0)), (5, Go.Rx.I n), (6, .lf (.pv (encRecs l))), (7, Go.Rx.I (roomI s)), (9, Bl p.2.1), (10, Go.Rx.I p.1)]) (fun p => [askV R S N G, sagaV p.2.2]) (fun p => l.length - p.1) [] ?_ ?_
  · exact ⟨(0, false, s), ⟨Nat.zero_le _, hok, hmy, fun _ => ⟨rfl, fun j hj => absurd hj (Nat.not_lt_zero _)⟩, fun e => by cases e⟩, ⟨rfl, rfl, rfl, rfl, rfl, rfl, rfl, rfl, trivial⟩, ⟨[], rfl⟩, rfl, rfl⟩
  rintro ⟨k, went, x⟩ hinn
  simp only at hinn
  have hkl := hinn.le
  cases went with
  | true =>
    have hgood := hinn.yes rfl
    have hn16 : n ≤ 16 := by rw [if_pos hgood.st] at hr0; omega
    refine aw_of T_ok (by kernel_rfl) ?_
    conv => whnf
    split <;> rename_i hlt3 <;> conv => whnf
    all_goals
      split <;> rename_i hgt <;> conv => whnf
      · have := of_decide_eq_true hgt; omega
      · exact ⟨(n + 1, x), ⟨⟨hinn.ok, hinn.may, by have := hgood.room; simp only; omega⟩, by simp only; omega⟩, ⟨rfl, rfl, rfl, congrArg Go.Rx.I (wrapI (by omega)), trivial⟩, ⟨_, rfl⟩, rfl, rfl⟩
  | false =>
  obtain ⟨hxs, hno⟩ := hinn.no rfl
  subst hxs
  refine aw_of T_ok (by kernel_rfl) ?_
  conv => whnf
  split <;> rename_i hlt3 <;> conv => whnf
  rotate_left
  · have hke : k = l.length := by have := of_decide_eq_false hlt3; omega
    split <;> rename_i hst <;> conv => whnf
    · exact (inn_end hinn hke (hex (eq_of_beq hst))).elim
    · exact ⟨i + 1, ⟨by omega, by omega⟩, ⟨rfl, congrArg Go.Rx.I (wrapI (by omega)), trivial⟩, ⟨_, rfl⟩, rfl, rfl⟩
  have hkl' : k < l.length := by have := of_decide_eq_true hlt3; simp only at this; omega
  have w1 : IntKind.i64.wrap (IntKind.i64.wrap ((k : Int) + IntKind.i64.wrap ((i : Int) * 7)) + IntKind.i64.wrap ((n : Int) * 5)) = (k : Int) + c := by
    rw [wrapI (n := (i : Int) * 7) (by omega), wrapI (n := (n : Int) * 5) (by omega), wrapI (n := (k : Int) + (i : Int) * 7) (by omega), wrapI (by omega), hc]; omega
  have hc0 : 0 ≤ c := by omega
  have hc1 : c ≤ 1000 := by omega
  clear hc
  show _ ∧ _ ∧ IntKind.i64.wrap (IntKind.i64.wrap ((k : Int) + IntKind.i64.wrap ((i : Int) * 7)) + IntKind.i64.wrap ((n : Int) * 5)) ≤ _ ∧ _
  rw [w1, hm]
  have hp : 0 < (l.length : Int) := by omega
  obtain ⟨q, hq⟩ : ∃ q : Nat, (q : Int) = ((k : Int) + c) % l.length := ⟨(((k : Int) + c) % l.length).toNat, Int.toNat_of_nonneg (Int.emod_nonneg _ (by omega))⟩
  have hql : q < l.length := by have := Int.emod_lt_of_pos ((k : Int) + c) hp; omega
  refine ⟨by omega, hp, by omega, ?_⟩
  rw [← hq]
  conv => whnf
  have hrowq : (l.map Rec.enc)[((q : Int)).toNat]? = some (l[q]).enc := by simp [hql]
  have hrq := hrok _ (List.getElem_mem hql)
  have hat : ∀ r, l[(((k : Int) + c) % l.length).toNat]? = some r → r = l[q] := fun r hr => by
    rw [← hq, Int.toNat_natCast, List.getElem?_eq_getElem hql] at hr; exact (Option.some.inj hr).symm
  generalize l[q] = r at hrowq hrq hat
  refine ⟨by omega, r.enc, hrowq, ?_⟩
  conv => whnf
  have ca := apply_con x r hok hrq
  have her := apply_err x r
  have hgd : (applyS x r).2 = 0 → Go.Rx.Good x (applyS x r).1 := apply_good hmy
  have hxok := apply_ok (r := r) hok
  have hne : (applyS x r).2 ≠ 0 → ∀ r2, l[(((k : Int) + c) % l.length).toNat]? = some r2 → (applyS x r2).2 ≠ 0 := fun h r' hr' => by rw [hat r' hr']; exact h
  generalize applyS x r = p at ca her hgd hxok hne
  obtain ⟨y, e⟩ := p
  simp only at her hgd hxok hne
  refine callU ca (fun _ => rfl) ?_
  conv => whnf
  refine callS (num_con e her) rfl ?_
  conv => whnf
  split <;> rename_i hen <;> conv => whnf
  · have hen0 : e ≠ 0 := fun h0 => by subst h0; cases hen
    refine ⟨(k + 1, false, x), ⟨⟨hkl', hok, hmy, fun _ => ⟨rfl, fun j hj r' hr' => ?_⟩, fun e => by cases e⟩, by simp only; omega⟩, ⟨rfl, rfl, rfl, rfl, rfl, rfl, rfl, congrArg Go.Rx.I (wrapI (by simp only; omega)), trivial⟩, ⟨_, rfl⟩, rfl, rfl⟩
    rcases Nat.lt_or_ge j k with hjk | hjk
    · exact hno j hjk r' hr'
    · have : j = k := by simp only at hj; omega
      subst this
      exact hne hen0 r' hr'
  have he0 : e = 0 := by simpa using hen
  have hg := hgd he0
  have cn := need_con y hxok
  rw [needP, if_pos hg.may] at cn
  refine callU cn (fun _ => rfl) ?_
  conv => whnf
  refine callS (num_con 0 (by decide)) rfl ?_
  conv => whnf
  have hwk : IntKind.i64.wrap ((k : Int) + 1) = ((k + 1 : Nat) : Int) := wrapI (by omega)
  have hxr := room_eq (parts_iff.1 hmy)
  rw [if_pos hg.st] at hxr
  have hgr := hg.room
  have hd0 := hg.d0
  have hd1 := hg.d1
  have hpd := (parts_iff.1 hmy).d1
  have hp0 := (parts_iff.1 hmy).d0
  have hpl := (parts_len (parts_iff.1 hmy)).2.1
  split <;> rename_i t1 <;> conv => whnf
  · have := of_decide_eq_true t1; rw [wrapI (by omega)] at this; exact absurd this (by simp only; omega)
  split <;> rename_i t2 <;> conv => whnf
  · rw [show (x.status != 0) = false from by rw [hg.st]; rfl] at t2; cases t2
  split <;> rename_i t3 <;> conv => whnf
  · have := of_decide_eq_true t3; exact absurd this (by simp only; omega)
  split <;> rename_i t4 <;> conv => whnf
  · have := of_decide_eq_true t4; rw [wrapI (by simp only; omega)] at this; exact absurd this (by simp only; omega)
  split <;> rename_i t5 <;> conv => whnf
  · have hyb := hg.bk t5
    have hyl := hg.lf t5
    split <;> rename_i t6 <;> conv => whnf
    · rw [show y.back = true from hyb] at t6; cases t6
    split <;> rename_i t7 <;> conv => whnf
    rotate_left
    · rw [show (x.back) = true from t5] at t7; cases t7
    split <;> rename_i t8 <;> conv => whnf
    · have := of_decide_eq_true t8; exact absurd this (by simp only; omega)
    exact ⟨(k + 1, true, y), ⟨⟨hkl', hxok, hg.may, fun e => (by cases e), fun _ => hg⟩, Nat.sub_lt_sub_left hkl' (Nat.lt_succ_self k)⟩, ⟨rfl, rfl, rfl, rfl, rfl, rfl, rfl, congrArg Go.Rx.I hwk, trivial⟩, ⟨_, rfl⟩, rfl, rfl⟩
  split <;> rename_i t7 <;> conv => whnf
  · rw [show (x.back) = false from t5] at t7; cases t7
  exact ⟨(k + 1, true, y), ⟨⟨hkl', hxok, hg.may, fun e => (by cases e), fun _ => hg⟩, Nat.sub_lt_sub_left hkl' (Nat.lt_succ_self k)⟩, ⟨rfl, rfl, rfl, rfl, rfl, rfl, rfl, congrArg Go.Rx.I hwk, trivial⟩, ⟨_, rfl⟩, rfl, rfl⟩
end Go.Proofs.Ytbfjcbhpbldlcaa.Rx
