/- The texts of the proof, part 7, in order. -/
import Derived.Test.YtlkbokedadngfaaGreatDoorZf
import Derived.KernelRfl
import Derived.Test.YtlkbokedadngfaaGreatDoorZe
/- Worlds with a saga that are made, ticks, and counts. -/
set_option linter.unusedVariables false
set_option linter.unusedSimpArgs false
namespace Go.Rx
def cntE : List Entry → Int × Int → Int × Int
  | [], p => p
  | e :: l, p => cntE l (if e.back then (p.1, IntKind.i64.wrap (p.2 + 1)) else (IntKind.i64.wrap (p.1 + 1), p.2))
def cntL : List Ledger → Int × Int → Int × Int
  | [], p => p
  | g :: l, p => cntL l (cntE g.entries p)
def countsW (w : Wd) : Int × Int := cntL w.ledgers (0, 0)
theorem cntE_go {l : List Entry} {k : Nat} {p : Int × Int} (h : k < l.length) : cntE (l.drop k) p = cntE (l.drop (k + 1)) (if l[k].back then (p.1, IntKind.i64.wrap (p.2 + 1)) else (IntKind.i64.wrap (p.1 + 1), p.2)) := by rw [List.drop_eq_getElem_cons h, cntE]
theorem cntE_end {l : List Entry} {k : Nat} {p : Int × Int} (h : l.length ≤ k) : cntE (l.drop k) p = p := by rw [List.drop_of_length_le h, cntE]
theorem cntL_go {l : List Ledger} {k : Nat} {p : Int × Int} (h : k < l.length) : cntL (l.drop k) p = cntL (l.drop (k + 1)) (cntE l[k].entries p) := by rw [List.drop_eq_getElem_cons h, cntL]
theorem cntL_end {l : List Ledger} {k : Nat} {p : Int × Int} (h : l.length ≤ k) : cntL (l.drop k) p = p := by rw [List.drop_of_length_le h, cntL]
abbrev wdB (p : Wd × Bool) : AV := .tup [.agg p.1.lfs, .lf (.pv (pB p.2))]
theorem finWBo {w : Wd} {b : Bool} {q : Wd × Bool} (h : Fin (w, b) q) : ∃ zs, Fa WkA [.agg w.lfs, Bl b] zs ∧ pack zs = some (wdB q) := ⟨_, wk_refl _, by rw [← h.out]; rfl⟩
def tickOk (w : Wd) : Bool := (tickWd w).2 == 0 && (worldB (tickWd w).1 && ((tickWd w).1.lives.length == w.lives.length))
def ticksW : Nat → Wd → Wd × Bool
  | 0, w => (w, true)
  | k + 1, w => if tickOk w then ticksW k (tickWd w).1 else (w, false)
/-- Ticks may be made: no step on the way fails. -/
structure TickIn (w : Wd) : Prop where
  ok : w.Ok
  go : worldB w = true → w.clock < 1073741824 → GoOk 2000 { w with clock := IntKind.i64.wrap (w.clock + 1) }
  out : (tickWd w).2 = 0 → (tickWd w).1.Ok
def TicksIn : Nat → Wd → Prop
  | 0, _ => True
  | k + 1, w => TickIn w ∧ (tickOk w = true → TicksIn k (tickWd w).1)
def opA (i : Nat) : ByteArray := if i % 4 = 0 then ⟨#[99, 114, 101, 100, 105, 116]⟩ else if i % 4 = 1 then ⟨#[116, 97, 107, 101]⟩ else if i % 4 = 2 then ⟨#[98, 111, 111, 107]⟩ else ⟨#[114, 101, 99, 97, 108, 108]⟩
def opB (i : Nat) : ByteArray := if i % 4 = 0 then ⟨#[100, 101, 98, 105, 116]⟩ else if i % 4 = 1 then ⟨#[112, 117, 116]⟩ else if i % 4 = 2 then ⟨#[99, 97, 110, 99, 101, 108]⟩ else ⟨#[115, 101, 110, 100]⟩
def madeStep (i : Nat) : Step := ⟨bytesOf [byteZ (IntKind.i64.wrap (97 + (i : Int)))], IntKind.i64.wrap (1 + (i : Int) % 4), opA i, opB i, ⟨#[119]⟩, IntKind.i64.wrap (1 + (i : Int))⟩
def madeR (n : Nat) : Rec := ⟨1, 1, 0, ⟨#[107]⟩, ⟨#[98]⟩, (List.range n).map madeStep⟩
def madeX (n : Nat) (outs : List Int) : Wd × Int := beginWd (newWd 9000 outs).1 (madeR n)
def madeW (n : Nat) (outs : List Int) : Wd × Bool := ((madeX n outs).1, (newWd 9000 outs).2 == 0 && ((madeX n outs).2 == 0 && (worldB (madeX n outs).1 && ((madeX n outs).1.lives.length == 1))))
theorem opA_size (i : Nat) : (opA i).size ≤ 6 := by
  unfold opA; repeat' split
  all_goals decide
theorem opB_size (i : Nat) : (opB i).size ≤ 6 := by
  unfold opB; repeat' split
  all_goals decide
theorem madeR_ok (n : Nat) (hn : n ≤ 100) : (madeR n).Ok := ⟨by show (1 : Nat) ≤ _; omega, by show (1 : Nat) ≤ _; omega, by show ((List.range n).map madeStep).length * 80 ≤ _; rw [List.length_map, List.length_range]; omega, fun x hx => by
  obtain ⟨i, _, rfl⟩ := List.mem_map.1 (show x ∈ (List.range n).map madeStep from hx)
  exact ⟨by show (1 : Nat) ≤ _; omega, by show (opA i).size ≤ _; have := opA_size i; omega, by show (opB i).size ≤ _; have := opB_size i; omega, by show (1 : Nat) ≤ _; omega⟩⟩
theorem zWd_ok : zWd.Ok := ⟨⟨by show (0 : Nat) ≤ _; omega, by show (0 : Nat) ≤ _; omega⟩, by show (0 : Nat) ≤ _; omega, by show (0 : Nat) ≤ _; omega, by show (0 : Nat) ≤ _; omega, fun g hg => (by cases hg), fun v hv => (by cases hv)⟩
theorem newWd_ok (size : Int) (outs : List Int) : (newWd size outs).1.Ok := by
  unfold newWd
  split
  · split
    · rename_i h
      exact (worldB_iff.1 h).wok
    · exact zWd_ok
  · exact zWd_ok
abbrev madeB (p : Wd) (i n : Nat) : List Blk := [.var zWdV, .var p.lfs, .var [.pv (pI 1), .pv (pI 1), .pv (pI 0), .pv (pS ⟨#[107]⟩), .pv (pS ⟨#[98]⟩), .own 3 ((List.range i).map madeStep).length], .arr n 6 (((List.range i).map madeStep).map Step.enc)]
theorem madeB_eq {i : Nat} {st : List PV} {ty : Nat} (h : st = (madeStep i).enc) (x y z u a b : Blk) :
    [a, b, Blk.var [.pv (pI 1), .pv (pI 1), .pv (pI 0), .pv (pS ⟨#[107]⟩), .pv (pS ⟨#[98]⟩), .own 3 (((List.range i).map madeStep).length + 1)], .arr ty 6 (((List.range i).map madeStep).map Step.enc ++ [st]), x, y, z, u] =
      [a, b, .var [.pv (pI 1), .pv (pI 1), .pv (pI 0), .pv (pS ⟨#[107]⟩), .pv (pS ⟨#[98]⟩), .own 3 ((List.range (i + 1)).map madeStep).length], .arr ty 6 (((List.range (i + 1)).map madeStep).map Step.enc)] ++ [x, y, z, u] := by
  rw [h, List.range_succ, List.map_append, List.map_append, List.length_append]
  rfl
end Go.Rx
namespace Go.Proofs.YtlkbokedadngfaaGreatDoor.Rx
open Go.Rx Go.Proofs Go.Proofs.YtlkbokedadngfaaGreatDoor.RxH
theorem num16_con (n : Int) : Con P 10 [Go.Rx.I n] (Go.Rx.I n) [] := by
  refine Con.of T_ok Tryz.func10 rfl (by kernel_rfl) (by kernel_rfl) (aw_of T_ok (by kernel_rfl) ?_)
  conv => whnf
  exact finI ⟨rfl⟩
theorem counts_con (w : Wd) (hw : w.Ok) : Con P 6 [encWd w] (pairI (countsW w)) [] := by
  have hgm : (w.ledgers.map Ledger.enc).length = w.ledgers.length := List.length_map ..
  have hgl := hw.gl
  obtain ⟨q, hq⟩ : ∃ q, q = countsW w := ⟨_, rfl⟩
  rw [← hq]
  rw [countsW] at hq
  refine Con.of T_ok Tryz.func6 rfl (by kernel_rfl) (by kernel_rfl) (aw_of T_ok (by kernel_rfl) ?_)
  conv => whnf
  refine AW.loop (fun p : Nat × Int × Int => p.1 ≤ w.ledgers.length ∧ q = cntL (w.ledgers.drop p.1) p.2) (fun p => [(1, .lf (.ptr 0 0)), (4, Go.Rx.I p.2.1), (5, Go.Rx.I p.2.2), (6, Go.Rx.I p.1)]) (fun _ => [.var w.lfs]) (fun p => w.ledgers.length - p.1) [] ?_ ?_
  · exact ⟨(0, 0, 0), ⟨Nat.zero_le _, hq⟩, ⟨rfl, rfl, rfl, rfl, trivial⟩, ⟨[], rfl⟩, rfl, rfl⟩
  rintro ⟨k, a, b⟩ ⟨hk, hpre⟩
  simp only at hk hpre
  refine aw_of T_ok (by kernel_rfl) ?_
  conv => whnf
  split <;> rename_i hlt <;> conv => whnf
  · have hkl : k < w.ledgers.length := by have : (k : Int) < ((w.ledgers.map Ledger.enc).length : Int) := of_decide_eq_true hlt
                                          omega
    have hrow : (w.ledgers.map Ledger.enc)[k]? = some w.ledgers[k].enc := by simp [hkl]
    have hok := hw.ledgers w.ledgers[k] (List.getElem_mem hkl)
    rw [cntL_go hkl] at hpre
    generalize w.ledgers[k] = g at hrow hok hpre
    have hel := hok.el
    have hem : (g.entries.map Entry.enc).length = g.entries.length := List.length_map ..
    refine AW.loop (fun p : Nat × Int × Int => p.1 ≤ g.entries.length ∧ q = cntL (w.ledgers.drop (k + 1)) (cntE (g.entries.drop p.1) p.2)) (fun p => [(1, .lf (.ptr 0 0)), (4, Go.Rx.I p.2.1), (5, Go.Rx.I p.2.2), (6, Go.Rx.I k), (7, Go.Rx.I p.1)]) (fun _ => [.var w.lfs]) (fun p => g.entries.length - p.1) [] ?_ ?_
    · exact ⟨(0, a, b), ⟨Nat.zero_le _, hpre⟩, ⟨rfl, rfl, rfl, rfl, rfl, trivial⟩, ⟨[], rfl⟩, rfl, rfl⟩
    rintro ⟨j, c, d⟩ ⟨hj, hpre⟩
    simp only at hj hpre
    refine aw_of T_ok (by kernel_rfl) ?_
    conv => whnf
    refine ⟨by omega, _, hrow, ?_⟩
    conv => whnf
    split <;> rename_i hlt2 <;> conv => whnf
    · have hjl : j < g.entries.length := by have : (j : Int) < ((g.entries.map Entry.enc).length : Int) := of_decide_eq_true hlt2
                                            omega
      have hrow2 : (g.entries.map Entry.enc)[j]? = some g.entries[j].enc := by simp [hjl]
      rw [cntE_go hjl] at hpre
      generalize g.entries[j] = e at hrow2 hpre
      have wj : IntKind.i64.wrap ((j : Int) + 1) = ((j + 1 : Nat) : Int) := wrapI (by omega)
      refine ⟨by omega, _, hrow, ?_⟩
      conv => whnf
      refine ⟨by omega, _, hrow2, ?_⟩
      conv => whnf
      split <;> rename_i hb <;> conv => whnf
      · rw [if_pos hb] at hpre
        exact ⟨(j + 1, c, _), ⟨⟨hjl, hpre⟩, by show g.entries.length - (j + 1) < g.entries.length - j; omega⟩, ⟨rfl, rfl, rfl, rfl, congrArg Go.Rx.I wj, trivial⟩, ⟨[], rfl⟩, rfl, rfl⟩
      · rw [if_neg (by rw [show e.back = false from hb]; decide)] at hpre
        exact ⟨(j + 1, _, d), ⟨⟨hjl, hpre⟩, by show g.entries.length - (j + 1) < g.entries.length - j; omega⟩, ⟨rfl, rfl, rfl, rfl, congrArg Go.Rx.I wj, trivial⟩, ⟨[], rfl⟩, rfl, rfl⟩
    · have hjl : g.entries.length ≤ j := by have : ¬ (j : Int) < ((g.entries.map Entry.enc).length : Int) := of_decide_eq_false hlt2
                                            omega
      rw [cntE_end hjl] at hpre
      exact ⟨(k + 1, c, d), ⟨⟨hkl, hpre⟩, by show w.ledgers.length - (k + 1) < w.ledgers.length - k; omega⟩, ⟨rfl, rfl, rfl, congrArg Go.Rx.I (wrapI (by omega)), trivial⟩, ⟨[], rfl⟩, rfl, rfl⟩
  · have hkl : w.ledgers.length ≤ k := by have : ¬ (k : Int) < ((w.ledgers.map Ledger.enc).length : Int) := of_decide_eq_false hlt
                                          omega
    rw [cntL_end hkl] at hpre
    exact ⟨_, wk_refl _, by rw [hpre]; rfl⟩
theorem ticks_con (n : Nat) (w : Wd) (hn : n ≤ 100000) (h : TicksIn n w) : Con P 5 [encWd w, Go.Rx.I n] (wdB (ticksW n w)) [] := by
  obtain ⟨q, hq⟩ : ∃ q, q = ticksW n w := ⟨_, rfl⟩
  rw [← hq]
  refine Con.of T_ok Tryz.func5 rfl (by kernel_rfl) (by kernel_rfl) (aw_of T_ok (by kernel_rfl) ?_)
  conv => whnf
  refine AW.loop (fun p : Nat × Wd => p.1 ≤ n ∧ TicksIn (n - p.1) p.2 ∧ q = ticksW (n - p.1) p.2) (fun p => [(1, Go.Rx.I n), (2, .lf (.ptr 0 0)), (4, .lf (.ptr 1 0)), (6, Go.Rx.I p.1)]) (fun p => [.var p.2.lfs, .var zWdV]) (fun p => n - p.1) [] ?_ ?_
  · exact ⟨(0, w), ⟨Nat.zero_le _, h, hq⟩, ⟨rfl, rfl, rfl, rfl, trivial⟩, ⟨[], rfl⟩, rfl, rfl⟩
  rintro ⟨k, x⟩ ⟨hk, hin, hpre⟩
  simp only at hk hin hpre
  refine aw_of T_ok (by kernel_rfl) ?_
  conv => whnf
  split <;> rename_i hlt <;> conv => whnf
  · have hkl : k < n := by have := of_decide_eq_true hlt; omega
    have e : n - k = (n - (k + 1)) + 1 := by omega
    rw [e] at hin hpre
    obtain ⟨ht, hgo⟩ := hin
    have ct := tickWd_con x ht.ok ht.go
    have c16 := fun he => world16_con (tickWd x).1 (ht.out he)
    rw [ticksW] at hpre
    have hto : tickOk x = ((tickWd x).2 == 0 && (worldB (tickWd x).1 && ((tickWd x).1.lives.length == x.lives.length))) := rfl
    generalize tickWd x = y at ct c16 hpre hgo hto
    obtain ⟨y, er⟩ := y
    simp only at c16 hpre hto hgo
    generalize worldB y = wb at c16 hto
    refine callU ct (fun _ => rfl) ?_
    conv => whnf
    refine callS (num16_con er) rfl ?_
    conv => whnf
    split <;> rename_i h1 <;> conv => whnf
    · have h1' : (er == 0) = false := by have h2 : (er != 0) = true := h1; simpa using h2
      rw [h1'] at hto
      exact finWBo ⟨by rw [hpre, if_neg (by rw [hto]; simp)]⟩
    have h1' : (er == 0) = true := by have h2 : (er != 0) = false := h1; simpa using h2
    rw [h1', Bool.true_and] at hto
    refine callS (c16 (eq_of_beq h1')) rfl ?_
    conv => whnf
    cases wb with
    | false =>
      conv => whnf
      exact finWBo ⟨by rw [hpre, if_neg (by rw [hto]; simp)]⟩
    | true =>
    rw [Bool.true_and] at hto
    conv => whnf
    split <;> rename_i h3 <;> conv => whnf
    · have h3' : tickOk x = false := by
        have h4 : (((y.lives.map Live.enc).length : Int) != ((x.lives.map Live.enc).length : Int)) = true := h3
        rw [List.length_map, List.length_map] at h4
        rw [hto]; simp at h4 ⊢; omega
      exact finWBo ⟨by rw [hpre, if_neg (by rw [h3']; simp)]⟩
    · have h3' : tickOk x = true := by
        have h4 : (((y.lives.map Live.enc).length : Int) != ((x.lives.map Live.enc).length : Int)) = false := h3
        rw [List.length_map, List.length_map] at h4
        rw [hto]; simp at h4 ⊢; omega
      rw [if_pos h3'] at hpre
      exact ⟨(k + 1, y), ⟨⟨hkl, hgo h3', hpre⟩, by show n - (k + 1) < n - k; omega⟩, ⟨rfl, rfl, rfl, congrArg Go.Rx.I (wrapI (by omega)), trivial⟩, ⟨[_], rfl⟩, rfl, rfl⟩
  · have hkl : n ≤ k := by have := of_decide_eq_false hlt; omega
    have e : n - k = 0 := by omega
    rw [e, ticksW] at hpre
    exact finWBo ⟨hpre.symm⟩
theorem made_con (n : Nat) (hn : n ≤ 100) (outs : List Int) (ho : outs.length * 8 ≤ 140737488351232) (hx : (madeX n outs).1.Ok) : Con P 4 [Go.Rx.I n, .lf (.pv (encInts outs))] (wdB (madeW n outs)) [] := by
  have cn := newWd_con 9000 outs ho
  have cb := beginWd_con (newWd 9000 outs).1 (newWd_ok 9000 outs) (madeR n) (madeR_ok n hn)
  have cw := world16_con (madeX n outs).1 hx
  have hq : madeW n outs = ((madeX n outs).1, (newWd 9000 outs).2 == 0 && ((madeX n outs).2 == 0 && (worldB (madeX n outs).1 && ((madeX n outs).1.lives.length == 1)))) := rfl
  have hX : madeX n outs = beginWd (newWd 9000 outs).1 (madeR n) := rfl
  rw [← hX] at cb
  obtain ⟨q, he⟩ : ∃ q, q = madeW n outs := ⟨_, rfl⟩
  rw [← he] at hq ⊢
  clear hX hx
  generalize madeX n outs = x at cb cw hq
  generalize newWd 9000 outs = p at cn cb hq
  obtain ⟨p, e1⟩ := p
  obtain ⟨x, e2⟩ := x
  simp only at cb cw hq
  generalize worldB x = wb at cw hq
  refine Con.of T_ok Tryz.func4 rfl (by kernel_rfl) (by kernel_rfl) (aw_of T_ok (by kernel_rfl) ?_)
  conv => whnf
  refine callU cn (fun _ => rfl) ?_
  conv => whnf
  refine AW.loop (fun i : Nat => i ≤ n) (fun i => [(0, Go.Rx.I n), (4, .lf (.ptr 0 0)), (6, .lf (.ptr 1 0)), (7, Go.Rx.I e1), (8, .lf (.ptr 2 0)), (9, Go.Rx.I i)]) (fun i => madeB p i 52) (fun i => n - i) [.cell 2 5 52 6] ?_ ?_
  · exact ⟨rfl, 0, Nat.zero_le _, ⟨rfl, rfl, rfl, rfl, rfl, rfl, trivial⟩, ⟨[], rfl⟩, rfl, rfl⟩
  intro i hi
  have hTl : ((List.range i).map madeStep).length = i := by rw [List.length_map, List.length_range]
  have hTm : (((List.range i).map madeStep).map Step.enc).length = ((List.range i).map madeStep).length := List.length_map ..
  refine aw_of T_ok (by kernel_rfl) ?_
  conv => whnf
  split <;> rename_i hlt <;> conv => whnf
  · have hil : i < n := by have := of_decide_eq_true hlt; omega
    have wi : IntKind.i64.wrap ((i : Int) + 1) = ((i + 1 : Nat) : Int) := wrapI (by omega)
    have hm4 : 0 ≤ (i : Int) % 4 ∧ (i : Int) % 4 < ((4 : Nat) : Int) := by omega
    have h4 : i % 4 = 0 ∨ i % 4 = 1 ∨ i % 4 = 2 ∨ i % 4 = 3 := by omega
    have h4' : ((i : Int) % 4).toNat = i % 4 := by omega
    have hs1 : ([[pS ⟨#[99, 114, 101, 100, 105, 116]⟩], [pS ⟨#[116, 97, 107, 101]⟩], [pS ⟨#[98, 111, 111, 107]⟩], [pS ⟨#[114, 101, 99, 97, 108, 108]⟩]] : List (List PV))[((i : Int) % 4).toNat]? = some [pS (opA i)] := by
      rw [h4']; unfold opA
      rcases h4 with h | h | h | h <;> rw [h] <;> rfl
    have hs2 : ([[pS ⟨#[100, 101, 98, 105, 116]⟩], [pS ⟨#[112, 117, 116]⟩], [pS ⟨#[99, 97, 110, 99, 101, 108]⟩], [pS ⟨#[115, 101, 110, 100]⟩]] : List (List PV))[((i : Int) % 4).toNat]? = some [pS (opB i)] := by
      rw [h4']; unfold opB
      rcases h4 with h | h | h | h <;> rw [h] <;> rfl
    have hz : [[PV.sc (.int .u8 (IntKind.u8.wrap (IntKind.i64.wrap (97 + (i : Int)))))]] = byteRows (bytesOf [byteZ (IntKind.i64.wrap (97 + (i : Int)))]) := by rw [byteZ_wrap]; rfl
    have hsn : [pS (bytesOf [byteZ (IntKind.i64.wrap (97 + (i : Int)))]), pI (IntKind.i64.wrap (1 + (i : Int) % 4)), pS (opA i), pS (opB i), pS ⟨#[119]⟩, pI (IntKind.i64.wrap (1 + (i : Int)))] = (madeStep i).enc := rfl
    generalize opA i = s1 at hs1 hsn
    generalize opB i = s2 at hs2 hsn
    generalize bytesOf [byteZ (IntKind.i64.wrap (97 + (i : Int)))] = nm at hz hsn
    refine AW.draw T_ok rfl (.one 0 (.one 1 (.one 2 (.one 3 (.one 4 (.one 7 (.one 8 (.one 9 (.one 11 (.one 12 (.one 16 (.one 17 (.one 20 (.one 21 (.three 5 (.one 6 (.two 10 (listPl [13, 14, 15, 18, 19, 22, 23, 24, 25, 26]) 15 (listPl [18, 19, 10, 13, 14, 22, 23, 24, 25, 26])))
      10 (.one 13 (.one 14 (.two 5 (listPl [6, 15, 18, 19, 22, 23, 24, 25, 26]) 15 (listPl [18, 19, 5, 6, 22, 23, 24, 25, 26])))) 15 (.one 18 (.one 19 (.two 5 (listPl [6, 10, 13, 14, 22, 23, 24, 25, 26]) 10 (listPl [13, 14, 5, 6, 22, 23, 24, 25, 26]))))))))))))))))))) (by kernel_rfl) (by kernel_rfl) ?_
    conv => whnf
    refine .inl ⟨by omega, by decide, by omega, ?_⟩
    conv => whnf
    refine .inl ⟨by omega, by decide, by omega, ?_⟩
    conv => whnf
    refine .inl ⟨by omega, by decide, by omega, ?_⟩
    conv => whnf
    refine ⟨?_, ?_, ?_⟩ <;> conv => whnf
    · refine ⟨rfl, _, hz, ?_⟩
      conv => whnf
      refine ⟨?_, ?_⟩ <;> conv => whnf
      · refine ⟨rfl, hm4.1, hm4.2, ?_⟩
        conv => whnf
        refine ⟨rfl, rfl, _, hs1, ?_⟩
        conv => whnf
        refine ⟨rfl, hm4.1, hm4.2, ?_⟩
        conv => whnf
        refine ⟨rfl, rfl, _, hs2, ?_⟩
        conv => whnf
        refine ⟨rfl, _, .inl rfl, ?_⟩
        conv => whnf
        refine ⟨hTm, by show (((List.range i).map madeStep).length + 1) * 80 ≤ _; rw [hTl]; omega, ?_⟩
        conv => whnf
        refine ⟨i + 1, ⟨hil, by omega⟩, ⟨rfl, rfl, rfl, rfl, rfl, congrArg Go.Rx.I wi, trivial⟩, ⟨[?x1a, ?x1b, ?x1c, ?x1d], ?x1e⟩, rfl, rfl⟩
        case x1e => exact madeB_eq hsn _ _ _ _ _ _
      · refine ⟨rfl, hm4.1, hm4.2, ?_⟩
        conv => whnf
        refine ⟨rfl, rfl, _, hs2, ?_⟩
        conv => whnf
        refine ⟨rfl, hm4.1, hm4.2, ?_⟩
        conv => whnf
        refine ⟨rfl, rfl, _, hs1, ?_⟩
        conv => whnf
        refine ⟨rfl, _, .inl rfl, ?_⟩
        conv => whnf
        refine ⟨hTm, by show (((List.range i).map madeStep).length + 1) * 80 ≤ _; rw [hTl]; omega, ?_⟩
        conv => whnf
        refine ⟨i + 1, ⟨hil, by omega⟩, ⟨rfl, rfl, rfl, rfl, rfl, congrArg Go.Rx.I wi, trivial⟩, ⟨[?x2a, ?x2b, ?x2c, ?x2d], ?x2e⟩, rfl, rfl⟩
        case x2e => exact madeB_eq hsn _ _ _ _ _ _
    · refine ⟨rfl, hm4.1, hm4.2, ?_⟩
      conv => whnf
      refine ⟨rfl, rfl, _, hs1, ?_⟩
      conv => whnf
      refine ⟨?_, ?_⟩ <;> conv => whnf
      · refine ⟨rfl, _, hz, ?_⟩
        conv => whnf
        refine ⟨rfl, hm4.1, hm4.2, ?_⟩
        conv => whnf
        refine ⟨rfl, rfl, _, hs2, ?_⟩
        conv => whnf
        refine ⟨rfl, _, .inl rfl, ?_⟩
        conv => whnf
        refine ⟨hTm, by show (((List.range i).map madeStep).length + 1) * 80 ≤ _; rw [hTl]; omega, ?_⟩
        conv => whnf
        refine ⟨i + 1, ⟨hil, by omega⟩, ⟨rfl, rfl, rfl, rfl, rfl, congrArg Go.Rx.I wi, trivial⟩, ⟨[?x3a, ?x3b, ?x3c, ?x3d], ?x3e⟩, rfl, rfl⟩
        case x3e => exact madeB_eq hsn _ _ _ _ _ _
      · refine ⟨rfl, hm4.1, hm4.2, ?_⟩
        conv => whnf
        refine ⟨rfl, rfl, _, hs2, ?_⟩
        conv => whnf
        refine ⟨rfl, _, hz, ?_⟩
        conv => whnf
        refine ⟨rfl, _, .inl rfl, ?_⟩
        conv => whnf
        refine ⟨hTm, by show (((List.range i).map madeStep).length + 1) * 80 ≤ _; rw [hTl]; omega, ?_⟩
        conv => whnf
        refine ⟨i + 1, ⟨hil, by omega⟩, ⟨rfl, rfl, rfl, rfl, rfl, congrArg Go.Rx.I wi, trivial⟩, ⟨[?x4a, ?x4b, ?x4c, ?x4d], ?x4e⟩, rfl, rfl⟩
        case x4e => exact madeB_eq hsn _ _ _ _ _ _
    · refine ⟨rfl, hm4.1, hm4.2, ?_⟩
      conv => whnf
      refine ⟨rfl, rfl, _, hs2, ?_⟩
      conv => whnf
      refine ⟨?_, ?_⟩ <;> conv => whnf
      · refine ⟨rfl, _, hz, ?_⟩
        conv => whnf
        refine ⟨rfl, hm4.1, hm4.2, ?_⟩
        conv => whnf
        refine ⟨rfl, rfl, _, hs1, ?_⟩
        conv => whnf
        refine ⟨rfl, _, .inl rfl, ?_⟩
        conv => whnf
        refine ⟨hTm, by show (((List.range i).map madeStep).length + 1) * 80 ≤ _; rw [hTl]; omega, ?_⟩
        conv => whnf
        refine ⟨i + 1, ⟨hil, by omega⟩, ⟨rfl, rfl, rfl, rfl, rfl, congrArg Go.Rx.I wi, trivial⟩, ⟨[?x5a, ?x5b, ?x5c, ?x5d], ?x5e⟩, rfl, rfl⟩
        case x5e => exact madeB_eq hsn _ _ _ _ _ _
      · refine ⟨rfl, hm4.1, hm4.2, ?_⟩
        conv => whnf
        refine ⟨rfl, rfl, _, hs1, ?_⟩
        conv => whnf
        refine ⟨rfl, _, hz, ?_⟩
        conv => whnf
        refine ⟨rfl, _, .inl rfl, ?_⟩
        conv => whnf
        refine ⟨hTm, by show (((List.range i).map madeStep).length + 1) * 80 ≤ _; rw [hTl]; omega, ?_⟩
        conv => whnf
        refine ⟨i + 1, ⟨hil, by omega⟩, ⟨rfl, rfl, rfl, rfl, rfl, congrArg Go.Rx.I wi, trivial⟩, ⟨[?x6a, ?x6b, ?x6c, ?x6d], ?x6e⟩, rfl, rfl⟩
        case x6e => exact madeB_eq hsn _ _ _ _ _ _
  · have hil : i = n := by have := of_decide_eq_false hlt; omega
    subst hil
    refine ⟨hTm, ?_⟩
    conv => whnf
    refine callU cb (fun _ => rfl) ?_
    conv => whnf
    have done : ∀ b, b = (e1 == 0 && (e2 == 0 && (wb && (x.lives.length == 1)))) → Fin (x, b) q := fun b hb => ⟨by rw [hq, hb]⟩
    have hlm : ((x.lives.map Live.enc).length : Int) = x.lives.length := by rw [List.length_map]
    have hle : (((x.lives.map Live.enc).length : Int) == 1) = (x.lives.length == 1) := by
      rw [hlm, Bool.eq_iff_iff]; simp; omega
    refine AW.draw T_ok rfl (.one 0 (.one 1 (.one 2 (.one 3 (.one 4 (.one 5 (.one 6 (.one 7 (.one 8 (.one 9 (.one 10 (.one 11 (.one 12 (.one 13 (.one 14 (.two 15 (.two 16 (listPl [17, 18, 19, 20]) 19 (listPl [16, 17, 18, 20])) 19 (listPl [15, 16, 17, 18, 20]))))))))))))))))) (by kernel_rfl) (by kernel_rfl) ?_
    conv => whnf
    refine callS (num16_con e1) rfl ?_
    conv => whnf
    split <;> rename_i h1 <;> conv => whnf
    · have h1' : (e1 == 0) = true := h1
      refine callS (num16_con e2) rfl ?_
      conv => whnf
      split <;> rename_i h2 <;> conv => whnf
      · have h2' : (e2 == 0) = true := h2
        refine callS cw rfl ?_
        conv => whnf
        cases wb with
        | false =>
          conv => whnf
          have d := done false (by rw [h1', h2']; rfl)
          refine ⟨?_, ?_⟩ <;> conv => whnf
          · refine ⟨?_, ?_⟩ <;> conv => whnf
            · exact finWBo d
            · exact finWBo d
          · exact finWBo d
        | true =>
          conv => whnf
          have d := done (x.lives.length == 1) (by rw [h1', h2']; rfl)
          rw [← hle] at d
          refine ⟨?_, ?_⟩ <;> conv => whnf
          · refine ⟨?_, ?_⟩ <;> conv => whnf
            · exact finWBo d
            · exact finWBo d
          · exact finWBo d
      · have h2' : (e2 == 0) = false := h2
        have d := done false (by rw [h1', h2']; rfl)
        refine ⟨?_, ?_⟩ <;> conv => whnf
        · refine ⟨?_, ?_⟩ <;> conv => whnf
          · exact finWBo d
          · exact finWBo d
        · exact finWBo d
    · have h1' : (e1 == 0) = false := h1
      have d := done false (by rw [h1']; rfl)
      refine ⟨?_, ?_⟩ <;> conv => whnf
      · refine ⟨?_, ?_⟩ <;> conv => whnf
        · exact finWBo d
        · exact finWBo d
      · exact finWBo d
end Go.Proofs.YtlkbokedadngfaaGreatDoor.Rx

/- What the laws by made worlds lean on: a world is awake. -/
set_option linter.unusedVariables false
set_option linter.unusedSimpArgs false
namespace Go.Rx
def tk (w : Wd) : Wd := { w with clock := IntKind.i64.wrap (w.clock + 1) }
theorem readyW_may {w : Wd} {r : Rec} (h : (readyW w r).2 = 0) : worldB w = true ∧ beginsB r = true ∧ r.id = ((w.lives.length + 1 : Nat) : Int) ∧ keyI (sagasL w.lives) r.key < 0 ∧ (roomW w r).2 = 0 ∧ (roomW w r).1 = true ∧ readyW w r = jappP w.file r ∧ (jappP w.file r).2 = 0 := by
  unfold readyW at h ⊢
  split at h
  · cases h
  rename_i h1
  rw [if_neg h1]
  split at h
  · rename_i h2
    rw [if_pos h2]
    split at h
    · rename_i h3
      rw [if_pos h3]
      simp only [Bool.or_eq_true, Bool.not_eq_true', bne_iff_ne, ne_eq, decide_eq_true_eq, not_or, Bool.not_eq_false, Decidable.not_not, Int.not_le] at h1
      refine ⟨h1.1, h1.2.1, ?_, h1.2.2.2, h2, h3, rfl, h⟩
      have hl := (worldB_iff.1 h1.1).len
      rw [h1.2.2.1, wrapI (by omega)]; simp
    · cases h
  · rename_i h2; exact absurd h h2
theorem beginS_ok {r : Rec} (h : r.Ok) : (beginS r).1.Ok := by
  unfold beginS
  split
  · exact zS_ok
  · exact ⟨h.key, h.body, h.steps⟩
theorem crash_file {f : FileS} (h : f.Ok) (hb : fileB f = true) : (crashP f f.tail.size).1.Ok := file_ok (sync_may hb)
theorem beginWd_ok {w : Wd} {r : Rec} (hw : w.Ok) (hr : r.Ok) : (beginWd w r).1.Ok := by
  unfold beginWd
  split
  · rename_i h
    obtain ⟨h1, _, _, _, _, _, h7, h8⟩ := readyW_may h
    have hb : fileB (readyW w r).1 = true := by rw [h7]; exact app_file h8
    have hl := (worldB_iff.1 h1).len
    refine ⟨crash_file (file_ok hb) hb, hw.gl, by show (w.lives ++ [_]).length * 200 ≤ _; rw [List.length_append, List.length_singleton]; omega, hw.ol, hw.ledgers, fun v hv => ?_⟩
    rcases List.mem_append.1 hv with e | e
    · exact hw.lives v e
    · rw [List.mem_singleton.1 e]
      exact ⟨beginS_ok hr, zRec_ok⟩
  · exact zWd_ok
theorem madeX_ok (n : Nat) (hn : n ≤ 100) (outs : List Int) : (madeX n outs).1.Ok := beginWd_ok (newWd_ok 9000 outs) (madeR_ok n hn)
theorem tickWd_goes {w : Wd} (h : worldB w = true) (hc : w.clock < 1073741824) : tickWd w = ((goW 2000 (tk w)).1, 0) := by
  rw [tickWd, if_pos h, if_neg (by omega)]; rfl
theorem tickIn_of {w : Wd} (h : worldB w = true) (ho : w.clock < 1073741824 → okGo 2000 (tk w) = true) : TickIn w := by
  have hi := worldB_iff.1 h
  refine ⟨hi.wok, fun _ hc => ?_, fun he => ?_⟩
  · exact (hi.clock hc).goOk (by omega) (ho hc)
  · by_cases hc : w.clock < 1073741824
    · rw [tickWd_goes h hc]
      exact ((hi.clock hc).goEnd (k := 2000) (by omega)).wok
    · rw [tickWd, if_pos h, if_pos (by omega)] at he; cases he
/-- All ticks on the way, looked at. -/
def ticksB : Nat → Wd → Bool
  | 0, _ => true
  | k + 1, w => okGo 2000 (tk w) && (tickOk w && ticksB k (tickWd w).1)
theorem ticksIn_of : ∀ {k : Nat} {w : Wd}, worldB w = true → ticksB k w = true → TicksIn k w
  | 0, w, _, _ => trivial
  | k + 1, w, h, ht => by
    rw [ticksB, Bool.and_eq_true, Bool.and_eq_true] at ht
    refine ⟨tickIn_of h fun _ => ht.1, fun he => ticksIn_of ?_ ht.2.2⟩
    rw [tickOk, Bool.and_eq_true, Bool.and_eq_true] at he
    exact he.2.1
theorem ticksB_ok : ∀ {k : Nat} {w : Wd}, ticksB k w = true → (ticksW k w).2 = true
  | 0, w, _ => rfl
  | k + 1, w, ht => by
    rw [ticksB, Bool.and_eq_true, Bool.and_eq_true] at ht
    rw [ticksW, if_pos ht.2.1]
    exact ticksB_ok ht.2.2
theorem made_may {n : Nat} {outs : List Int} (h : (madeW n outs).2 = true) : worldB (madeW n outs).1 = true := by
  simp only [madeW, Bool.and_eq_true] at h
  exact h.2.2.1
/-! ### Nothing to do -/
def wakeW : Wd := (newWd 999 []).1
def wakeX : Wd × Int := beginWd wakeW b0
def wakeB : Bool := ((newWd 999 []).2 == 0) && (worldB wakeW && ((wakeX.2 == 0) && (worldB wakeX.1 && (okGo 2000 (tk wakeX.1) && ((tickWd wakeX.1).2 == 0 && (((idleWd (tickWd wakeX.1).1).2 == 0 && (idleWd (tickWd wakeX.1).1).1) && (tickWd wakeX.1).1.lives.length == 1))))))
theorem wake_all : wakeB = true := by kernel_rfl
theorem wake_step : stepWd wakeW = (zWd, 3) ∧ dueI wakeW = none := ⟨by kernel_rfl, by kernel_rfl⟩
theorem b0_ok : b0.Ok := recB_ok (by kernel_rfl)
end Go.Rx
namespace Go.Proofs.YtlkbokedadngfaaGreatDoor.Rx
open Go.Rx Go.Proofs Go.Proofs.YtlkbokedadngfaaGreatDoor.RxH
theorem wakes16_con : Con P 7 [] (Bl true) [] := by
  have hall := wake_all
  simp only [wakeB, Bool.and_eq_true, beq_iff_eq] at hall
  obtain ⟨a1, a2, a3, a4, a5, a6, ⟨a7, a8⟩, a9⟩ := hall
  have cn := newWd_con 999 [] (by decide)
  have hw : (newWd 999 []).1 = wakeW := rfl
  have cs := stepWd_con wakeW (newWd_ok 999 []) (fun _ => (worldB_iff.1 a2).stepOk (by omega) (.inr wake_step.2))
  have cb := beginWd_con wakeW (newWd_ok 999 []) b0 b0_ok
  have hx : beginWd wakeW b0 = wakeX := rfl
  rw [wake_step.1] at cs
  rw [hx] at cb
  have ht := tickIn_of a4 (fun _ => a5)
  have ct := tickWd_con wakeX.1 ht.ok ht.go
  have ci := idleWd_con (tickWd wakeX.1).1 (ht.out a6)
  generalize idleWd (tickWd wakeX.1).1 = id at ci a7 a8
  generalize tickWd wakeX.1 = y at ct ci a6 a9
  generalize wakeX = x at cb ct a3
  generalize newWd 999 [] = p at cn a1 hw
  obtain ⟨p, e1⟩ := p
  obtain ⟨x, e2⟩ := x
  obtain ⟨y, e3⟩ := y
  obtain ⟨b, e4⟩ := id
  simp only at a1 a3 a6 a7 a8 a9 hw ct ci
  subst a1 a3 a6 a7 a8 hw
  have hlm : ((y.lives.map Live.enc).length : Int) = 1 := by rw [List.length_map, a9]; rfl
  refine Con.of T_ok Tryz.func7 rfl (by kernel_rfl) (by kernel_rfl) (aw_of T_ok (by kernel_rfl) ?_)
  conv => whnf
  refine callP cn ⟨.inl rfl, .inr (.inl ⟨_, _, rfl, rfl, wkN 1⟩), trivial⟩ (fun _ => rfl) ?_
  conv => whnf
  refine callU cs (fun _ => rfl) ?_
  conv => whnf
  refine ⟨rfl, ?_⟩
  conv => whnf
  refine callU cb (fun _ => rfl) ?_
  conv => whnf
  refine callU ct (fun _ => rfl) ?_
  conv => whnf
  refine callU ci (fun _ => rfl) ?_
  conv => whnf
  refine callS (num16_con 0) rfl ?_
  conv => whnf
  refine callS (num16_con 3) rfl ?_
  conv => whnf
  refine callS (num16_con 0) rfl ?_
  conv => whnf
  refine callS (num16_con 0) rfl ?_
  conv => whnf
  refine callS (num16_con 0) rfl ?_
  conv => whnf
  exact finB ⟨by show (((y.lives.map Live.enc).length : Int) == 1) = true; rw [hlm]; rfl⟩
end Go.Proofs.YtlkbokedadngfaaGreatDoor.Rx

/- Made worlds, run by the kernel: commits. -/
set_option linter.unusedVariables false
set_option linter.unusedSimpArgs false
namespace Go.Rx
/-- A made world, ticked: its first saga, and counts. -/
def endsMade (n : Nat) (outs : List Int) (t : Nat) (p : Saga → Int × Int → Bool) : Bool :=
  (madeW n outs).2 && (ticksB t (madeW n outs).1 && (match (ticksW t (madeW n outs).1).1.lives with
    | v :: _ => p v.saga (countsW (ticksW t (madeW n outs).1).1)
    | [] => false))
structure EndsAt (n : Nat) (outs : List Int) (t : Nat) (p : Saga → Int × Int → Bool) (v : Live) (l : List Live) : Prop where
  may : (madeW n outs).2 = true
  ticks : TicksIn t (madeW n outs).1
  ok : (ticksW t (madeW n outs).1).2 = true
  lives : (ticksW t (madeW n outs).1).1.lives = v :: l
  is : p v.saga (countsW (ticksW t (madeW n outs).1).1) = true
  wok : (ticksW t (madeW n outs).1).1.Ok
theorem ticksW_ok : ∀ {k : Nat} {w : Wd}, w.Ok → TicksIn k w → (ticksW k w).1.Ok
  | 0, w, h, _ => h
  | k + 1, w, h, ht => by
    rw [ticksW]
    split
    · rename_i he
      refine ticksW_ok (ht.1.out ?_) (ht.2 he)
      rw [tickOk, Bool.and_eq_true] at he
      exact eq_of_beq he.1
    · exact h
theorem ends_of {n : Nat} {outs : List Int} {t : Nat} {p : Saga → Int × Int → Bool} (h : endsMade n outs t p = true) : ∃ v l, EndsAt n outs t p v l := by
  rw [endsMade, Bool.and_eq_true, Bool.and_eq_true] at h
  obtain ⟨h1, h2, h3⟩ := h
  have hm := made_may h1
  have ht := ticksIn_of hm h2
  split at h3
  · rename_i v l hl
    exact ⟨v, l, h1, ht, ticksB_ok h2, hl, h3, ticksW_ok (worldB_iff.1 hm).wok ht⟩
  · cases h3
def isCommit (n : Nat) (s : Saga) (c : Int × Int) : Bool := s.status == 1 && (c.1 == n && c.2 == 0)
theorem commit_all : ((List.range 5).all fun i => endsMade (i + 1) [] 1 (isCommit (i + 1))) = true := by kernel_rfl
end Go.Rx

/- The law: sagas that go well are committed. -/
set_option linter.unusedVariables false
set_option linter.unusedSimpArgs false
namespace Go.Proofs.YtlkbokedadngfaaGreatDoor.Rx
open Go.Rx Go.Proofs Go.Proofs.YtlkbokedadngfaaGreatDoor.RxH
theorem worldCommits_con (p : WScript) (h : p.Ok) : Con P 3 [encWScript p] (Bl true) [] := by
  refine Con.of T_ok Tryz.func3 rfl (by kernel_rfl) (by kernel_rfl) (aw_of T_ok (by kernel_rfl) ?_)
  conv => whnf
  refine AW.loop (fun k : Nat => k ≤ 5) (fun k => [(1, .lf (.ptr 0 0)), (3, Go.Rx.I ((k + 1 : Nat) : Int))]) (fun _ => [.var [.pv (pI p.w.clock), .pv (pS p.w.file.safe), .pv (pS p.w.file.tail), .pv (pI p.w.file.cap), .pv (encLedgers p.w.ledgers), .pv (encLives p.w.lives), .pv (encInts p.w.outs), .pv (pI p.w.taken), .pv (encWActs p.l)]]) (fun k => 5 - k) [] ?_ ?_
  · exact ⟨0, Nat.zero_le _, ⟨rfl, rfl, trivial⟩, ⟨[], rfl⟩, rfl, rfl⟩
  intro k hk
  refine aw_of T_ok (by kernel_rfl) ?_
  conv => whnf
  split <;> rename_i hlt <;> conv => whnf
  · have hkl : k < 5 := by have : ((k + 1 : Nat) : Int) ≤ 5 := of_decide_eq_true hlt
                           omega
    obtain ⟨v, l, hE⟩ := ends_of (List.all_eq_true.1 commit_all k (List.mem_range.2 hkl))
    have cm := made_con (k + 1) (by omega) [] (by decide) (madeX_ok (k + 1) (by omega) [])
    have ct := ticks_con 1 _ (by omega) hE.ticks
    have cc := counts_con _ hE.wok
    have e1 := hE.may
    have e2 := hE.ok
    have e3 := hE.lives
    have e4 := hE.is
    clear hE
    generalize madeW (k + 1) [] = x at cm ct cc e1 e2 e3 e4
    obtain ⟨x, b⟩ := x
    simp only at ct cc e1 e2 e3 e4
    subst e1
    generalize ticksW 1 x = y at ct cc e2 e3 e4
    obtain ⟨y, b⟩ := y
    simp only at cc e2 e3 e4
    subst e2
    generalize countsW y = c at cc e4
    obtain ⟨did, back⟩ := c
    simp only [isCommit, Bool.and_eq_true, beq_iff_eq] at e4
    obtain ⟨e4, e5, e6⟩ := e4
    have hrow : (y.lives.map Live.enc)[(0 : Int).toNat]? = some v.enc := by rw [e3]; rfl
    refine callP cm ⟨.inl rfl, .inr (.inl ⟨_, _, rfl, rfl, wkN 1⟩), trivial⟩ (fun _ => rfl) ?_
    conv => whnf
    refine callU ct (fun _ => rfl) ?_
    conv => whnf
    refine callS cc rfl ?_
    conv => whnf
    refine ⟨by decide, _, hrow, ?_⟩
    conv => whnf
    split <;> rename_i t1 <;> conv => whnf
    · have t1' : (v.saga.status != 1) = true := t1
      rw [e4] at t1'; cases t1'
    split <;> rename_i t2 <;> conv => whnf
    · have t2' : (did != ((k + 1 : Nat) : Int)) = true := t2
      rw [e5] at t2'; simp at t2'
    split <;> rename_i t3 <;> conv => whnf
    · have t3' : (back != 0) = true := t3
      rw [e6] at t3'; cases t3'
    exact ⟨k + 1, ⟨hkl, by omega⟩, ⟨rfl, congrArg Go.Rx.I (wrapI (by omega)), trivial⟩, ⟨[_], rfl⟩, rfl, rfl⟩
  · refine callS wakes16_con rfl ?_
    conv => whnf
    exact finB ⟨rfl⟩
end Go.Proofs.YtlkbokedadngfaaGreatDoor.Rx
