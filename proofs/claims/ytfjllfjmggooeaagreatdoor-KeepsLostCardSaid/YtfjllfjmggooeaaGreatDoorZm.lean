/- The texts of the proof, part 13, in order. -/
import Derived.Test.YtfjllfjmggooeaaGreatDoorZl
import Derived.Test.YtfjllfjmggooeaaGreatDoorZk
import Derived.KernelRfl
/- Acts of some kinds, outcomes of some kinds, in turn; the laws of what is kept that use them. -/
set_option linter.unusedVariables false
set_option linter.unusedSimpArgs false
set_option maxRecDepth 8000
namespace Go.Rx
def onlyWA (ks : List Int) (a : WAct) (i : Nat) : WAct := ⟨if i % 2 = 0 then (ks[i / 2 % ks.length]?).getD 0 else a.act, a.n, a.r⟩
def onlyWL (ks : List Int) (l : List WAct) : List WAct := l.zipIdx.map fun q => onlyWA ks q.1 q.2
def onlyW (p : WScript) (ks : List Int) : WScript := ⟨p.w, onlyWL ks p.l⟩
theorem onlyWL_len (ks : List Int) (l : List WAct) : (onlyWL ks l).length = l.length := by simp [onlyWL]
theorem onlyWL_take {ks : List Int} {l : List WAct} {k : Nat} (h : k < l.length) : (onlyWL ks l).take (k + 1) = (onlyWL ks l).take k ++ [onlyWA ks l[k] k] := by
  rw [take_succ' (by rw [onlyWL_len]; exact h)]
  simp [onlyWL]
theorem onlyW_ok {p : WScript} (h : p.Ok) (ks : List Int) : (onlyW p ks).Ok := by
  refine ⟨h.w, by show (onlyWL ks p.l).length * 96 ≤ _; rw [onlyWL_len]; exact h.len, fun a ha => ?_⟩
  replace ha : a ∈ onlyWL ks p.l := ha
  obtain ⟨q, hq, rfl⟩ := List.mem_map.1 ha
  obtain ⟨x, i⟩ := q
  have := List.mem_zipIdx hq
  exact h.each x (by rw [this.2.2]; exact List.getElem_mem _)
def outsOf (ks : List Int) (m : Nat) : List Int := (List.range 40).map fun i => (ks[(i + m) % ks.length]?).getD 0
def outsW (p : WScript) (ks : List Int) : WScript := ⟨{ p.w with outs := outsOf ks p.l.length }, p.l⟩
theorem outsOf_take {ks : List Int} {m k : Nat} (h : k < 40) : (outsOf ks m).take (k + 1) = (outsOf ks m).take k ++ [(ks[(k + m) % ks.length]?).getD 0] := by
  rw [take_succ' (by simp [outsOf]; exact h)]
  simp [outsOf]
theorem outsW_ok {p : WScript} (h : p.Ok) (ks : List Int) : (outsW p ks).Ok :=
  ⟨⟨h.w.file, h.w.gl, h.w.ll, by show (outsOf ks p.l.length).length * 8 ≤ _; simp [outsOf], h.w.ledgers, h.w.lives⟩, h.len, h.each⟩
abbrev zScrV : Blk := .var (zWdV ++ [.pv (.sc (.slice none 0 0))])
end Go.Rx
namespace Go.Proofs.YtfjllfjmggooeaaGreatDoor.Rx
open Go.Rx Go.Proofs Go.Proofs.YtfjllfjmggooeaaGreatDoor.RxH
set_option maxHeartbeats 2000000 in
theorem onlyW_con (p : WScript) (h : p.Ok) (ks : List Int) (hks : 0 < ks.length ∧ ks.length ≤ 100) : Con P 38 [encWScript p, .lf (.pv (encInts ks))] (encWScript (onlyW p ks)) [] := by
  have hll := h.len
  have hlm : (p.l.map WAct.enc).length = p.l.length := List.length_map ..
  have hkm : (intRows ks).length = ks.length := List.length_map ..
  refine Con.of T_ok Tryz.func38 rfl (by kernel_rfl) (by kernel_rfl) (aw_of T_ok (by kernel_rfl) ?_)
  conv => whnf
  refine AW.loop (fun k : Nat => k ≤ p.l.length) (fun k => [(1, .lf (.pv (encInts ks))), (2, .lf (.ptr 0 0)), (4, .lf (.ptr 1 0)), (5, .lf (.ptr 2 0)), (6, Go.Rx.I k)]) (fun k => [scrV p, zScrV, .var (p.w.lfs ++ [.own 3 k]), .arr 75 8 (((onlyWL ks p.l).take k).map WAct.enc)]) (fun k => p.l.length - k) [.cell 2 8 75 8] ?_ ?_
  · exact ⟨rfl, 0, Nat.zero_le _, ⟨rfl, rfl, rfl, rfl, rfl, trivial⟩, ⟨[], rfl⟩, rfl, rfl⟩
  rintro k hk
  have hlen : (((onlyWL ks p.l).take k).map WAct.enc).length = k := by rw [List.length_map, List.length_take, onlyWL_len]; omega
  refine aw_of T_ok (by kernel_rfl) ?_
  conv => whnf
  split <;> rename_i hlt <;> conv => whnf
  rotate_left
  · have hke : k = p.l.length := by have : ¬ (k : Int) < ((p.l.map WAct.enc).length : Int) := of_decide_eq_false hlt
                                    omega
    subst hke
    refine ⟨hlen, ?_⟩
    conv => whnf
    refine finA ⟨?_⟩
    have e : (onlyWL ks p.l).take p.l.length = onlyWL ks p.l := List.take_of_length_le (by rw [onlyWL_len]; exact Nat.le_refl _)
    rw [e]; rfl
  have hkl : k < p.l.length := by have : (k : Int) < ((p.l.map WAct.enc).length : Int) := of_decide_eq_true hlt
                                  omega
  have hrow : (p.l.map WAct.enc)[k]? = some p.l[k].enc := by simp [hkl]
  have hmod : k / 2 % ks.length < ks.length := Nat.mod_lt _ hks.1
  have hkrow : (intRows ks)[k / 2 % ks.length]? = some [pI ((ks[k / 2 % ks.length]?).getD 0)] := by
    rw [List.getElem?_map, List.getElem?_eq_getElem hmod]; rfl
  have htk := onlyWL_take (ks := ks) hkl
  generalize p.l[k] = a at hrow htk
  refine ⟨by omega, _, hrow, ?_⟩
  conv => whnf
  refine .inl ⟨by omega, by omega, by omega, ?_⟩
  conv => whnf
  split <;> rename_i h2 <;> conv => whnf
  · have h2' : k % 2 = 0 := by have h3 : ((k : Int) % 2 == 0) = true := h2
                               have := eq_of_beq h3
                               omega
    refine ⟨by omega, by decide, by omega, ?_⟩
    conv => whnf
    refine .inl ⟨by omega, by show (0 : Int) < (((intRows ks).length : Nat) : Int); omega, by omega, ?_⟩
    conv => whnf
    have hix : (k : Int) / 2 % (((intRows ks).length : Nat) : Int) = ((k / 2 % ks.length : Nat) : Int) := by rw [hkm]; rfl
    refine ⟨by rw [hix]; omega, _, by rw [hix]; exact hkrow, ?_⟩
    conv => whnf
    refine ⟨rfl, _, .inl rfl, ?_⟩
    conv => whnf
    refine ⟨hlen, by show (k + 1) * 96 ≤ _; omega, ?_⟩
    conv => whnf
    refine ⟨k + 1, ⟨by omega, by omega⟩, ⟨rfl, rfl, rfl, rfl, congrArg Go.Rx.I (wrapI (by omega)), trivial⟩, ⟨[?r1, ?s1], ?e1⟩, rfl, rfl⟩
    case e1 =>
      show _ = [scrV p, zScrV, Blk.var (p.w.lfs ++ [.own 3 (k + 1)]), Blk.arr _ _ (((onlyWL ks p.l).take (k + 1)).map WAct.enc)] ++ [_, _]
      have e : ((onlyWL ks p.l).take (k + 1)).map WAct.enc = ((onlyWL ks p.l).take k).map WAct.enc ++ [[pI ((ks[k / 2 % ks.length]?).getD 0), pI a.n, pI a.r.kind, pI a.r.id, pI a.r.n, pS a.r.key, pS a.r.body, encSteps a.r.steps]] := by
        rw [htk, List.map_append, List.map_cons, List.map_nil, onlyWA, if_pos h2']
      rw [e]; rfl
  · have h2' : ¬ k % 2 = 0 := fun e => by
      have h3 : ((k : Int) % 2 == 0) = false := h2
      rw [show ((k : Int) % 2 == 0) = true from beq_iff_eq.2 (by omega)] at h3; cases h3
    refine ⟨rfl, _, .inl rfl, ?_⟩
    conv => whnf
    refine ⟨hlen, by show (k + 1) * 96 ≤ _; omega, ?_⟩
    conv => whnf
    refine ⟨k + 1, ⟨by omega, by omega⟩, ⟨rfl, rfl, rfl, rfl, congrArg Go.Rx.I (wrapI (by omega)), trivial⟩, ⟨[?r2, ?s2], ?e2⟩, rfl, rfl⟩
    case e2 =>
      show _ = [scrV p, zScrV, Blk.var (p.w.lfs ++ [.own 3 (k + 1)]), Blk.arr _ _ (((onlyWL ks p.l).take (k + 1)).map WAct.enc)] ++ [_, _]
      have e : ((onlyWL ks p.l).take (k + 1)).map WAct.enc = ((onlyWL ks p.l).take k).map WAct.enc ++ [[pI a.act, pI a.n, pI a.r.kind, pI a.r.id, pI a.r.n, pS a.r.key, pS a.r.body, encSteps a.r.steps]] := by
        rw [htk, List.map_append, List.map_cons, List.map_nil, onlyWA, if_neg h2']
      rw [e]; rfl
set_option maxHeartbeats 2000000 in
theorem outsW_con (p : WScript) (h : p.Ok) (ks : List Int) (hks : 0 < ks.length ∧ ks.length ≤ 100) : Con P 39 [encWScript p, .lf (.pv (encInts ks))] (encWScript (outsW p ks)) [] := by
  have hll := h.len
  have hlm : (p.l.map WAct.enc).length = p.l.length := List.length_map ..
  have hkm : (intRows ks).length = ks.length := List.length_map ..
  have ho40 : (outsOf ks p.l.length).length = 40 := by simp [outsOf]
  refine Con.of T_ok Tryz.func39 rfl (by kernel_rfl) (by kernel_rfl) (aw_of T_ok (by kernel_rfl) ?_)
  conv => whnf
  refine callU (copyWorld_con p.w h.w) (fun _ => rfl) ?_
  conv => whnf
  refine AW.loop (fun k : Nat => k ≤ 40) (fun k => [(1, .lf (.pv (encInts ks))), (2, .lf (.ptr 0 0)), (4, .lf (.ptr 1 0)), (5, .lf (.ptr 2 0)), (6, Go.Rx.I k)]) (fun k => [scrV p, zScrV, .var [.pv (pI p.w.clock), .pv (pS p.w.file.safe), .pv (pS p.w.file.tail), .pv (pI p.w.file.cap), .pv (encLedgers p.w.ledgers), .pv (encLives p.w.lives), .own 3 k, .pv (pI p.w.taken), .pv (encWActs p.l)], .arr 3 1 (intRows ((outsOf ks p.l.length).take k))]) (fun k => 40 - k) [.cell 2 6 3 1] ?_ ?_
  · exact ⟨rfl, 0, Nat.zero_le _, ⟨rfl, rfl, rfl, rfl, rfl, trivial⟩, ⟨[], rfl⟩, rfl, rfl⟩
  rintro k hk
  have hlen : (intRows ((outsOf ks p.l.length).take k)).length = k := by rw [intRows, List.length_map, List.length_take, ho40]; omega
  refine aw_of T_ok (by kernel_rfl) ?_
  conv => whnf
  split <;> rename_i hlt <;> conv => whnf
  rotate_left
  · have hke : k = 40 := by have : ¬ (k : Int) < 40 := of_decide_eq_false hlt
                            omega
    subst hke
    refine ⟨hlen, ?_⟩
    conv => whnf
    refine finA ⟨?_⟩
    have e : (outsOf ks p.l.length).take 40 = outsOf ks p.l.length := List.take_of_length_le (by rw [ho40]; exact Nat.le_refl _)
    rw [e]; rfl
  have hkl : k < 40 := by have : (k : Int) < 40 := of_decide_eq_true hlt
                          omega
  have hmod : (k + p.l.length) % ks.length < ks.length := Nat.mod_lt _ hks.1
  have hkrow : (intRows ks)[(k + p.l.length) % ks.length]? = some [pI ((ks[(k + p.l.length) % ks.length]?).getD 0)] := by
    rw [List.getElem?_map, List.getElem?_eq_getElem hmod]; rfl
  have htk := outsOf_take (ks := ks) (m := p.l.length) hkl
  refine AW.draw T_ok rfl (seqPl 0 19) (by kernel_rfl) (by kernel_rfl) ?_
  conv => whnf
  have hwr : IntKind.i64.wrap ((k : Int) + ((p.l.map WAct.enc).length : Nat)) = ((k + p.l.length : Nat) : Int) := by rw [hlm, wrapI (by omega)]; omega
  have hix : IntKind.i64.wrap ((k : Int) + ((p.l.map WAct.enc).length : Nat)) % (((intRows ks).length : Nat) : Int) = (((k + p.l.length) % ks.length : Nat) : Int) := by rw [hkm, hwr]; rfl
  refine .inl ⟨by rw [hwr]; omega, by show (0 : Int) < (((intRows ks).length : Nat) : Int); omega, by rw [hwr]; omega, ?_⟩
  conv => whnf
  refine ⟨by rw [hix]; omega, _, by rw [hix]; exact hkrow, ?_⟩
  conv => whnf
  refine ⟨rfl, _, .inl rfl, ?_⟩
  conv => whnf
  refine ⟨hlen, by show (k + 1) * 8 ≤ _; omega, ?_⟩
  conv => whnf
  refine ⟨k + 1, ⟨by omega, by omega⟩, ⟨rfl, rfl, rfl, rfl, congrArg Go.Rx.I (wrapI (by omega)), trivial⟩, ⟨[?r1], ?e1⟩, rfl, rfl⟩
  case e1 =>
    show _ = [scrV p, zScrV, Blk.var [.pv (pI p.w.clock), .pv (pS p.w.file.safe), .pv (pS p.w.file.tail), .pv (pI p.w.file.cap), .pv (encLedgers p.w.ledgers), .pv (encLives p.w.lives), .own 3 (k + 1), .pv (pI p.w.taken), .pv (encWActs p.l)], Blk.arr _ _ (intRows ((outsOf ks p.l.length).take (k + 1)))] ++ [_]
    have e : intRows ((outsOf ks p.l.length).take (k + 1)) = intRows ((outsOf ks p.l.length).take k) ++ [[pI ((ks[(k + p.l.length) % ks.length]?).getD 0)]] := by
      rw [htk, intRows, intRows, List.map_append]; rfl
    rw [e]; rfl
theorem keepsRefused_con (p : WScript) (h : p.Ok) : Con P 10 [encWScript p] (Bl true) [] := by
  have c1 := outsW_con p h [1, 0, 0] (by decide)
  have c2 := onlyW_con (outsW p [1, 0, 0]) (outsW_ok h _) [4, 3, 0, 6, 2] (by decide)
  have c3 := worldKeeps_con (onlyW (outsW p [1, 0, 0]) [4, 3, 0, 6, 2]) (onlyW_ok (outsW_ok h _) _)
  refine Con.of T_ok Tryz.func10 rfl (by kernel_rfl) (by kernel_rfl) (aw_of T_ok (by kernel_rfl) ?_)
  conv => whnf
  refine ⟨rfl, ?_⟩
  conv => whnf
  refine callU c1 (fun _ => rfl) ?_
  conv => whnf
  refine ⟨rfl, ?_⟩
  conv => whnf
  refine callU c2 (fun _ => rfl) ?_
  conv => whnf
  refine callS c3 rfl ?_
  conv => whnf
  exact finB ⟨rfl⟩
theorem keepsFails_con (p : WScript) (h : p.Ok) : Con P 11 [encWScript p] (Bl true) [] := by
  have c1 := outsW_con p h [2, 2, 0, 2] (by decide)
  have c2 := onlyW_con (outsW p [2, 2, 0, 2]) (outsW_ok h _) [4, 3, 0, 6, 2] (by decide)
  have c3 := worldKeeps_con (onlyW (outsW p [2, 2, 0, 2]) [4, 3, 0, 6, 2]) (onlyW_ok (outsW_ok h _) _)
  refine Con.of T_ok Tryz.func11 rfl (by kernel_rfl) (by kernel_rfl) (aw_of T_ok (by kernel_rfl) ?_)
  conv => whnf
  refine ⟨rfl, ?_⟩
  conv => whnf
  refine callU c1 (fun _ => rfl) ?_
  conv => whnf
  refine ⟨rfl, ?_⟩
  conv => whnf
  refine callU c2 (fun _ => rfl) ?_
  conv => whnf
  refine callS c3 rfl ?_
  conv => whnf
  exact finB ⟨rfl⟩
theorem keepsLost_con (p : WScript) (h : p.Ok) : Con P 12 [encWScript p] (Bl true) [] := by
  have c1 := outsW_con p h [3, 0, 3, 3] (by decide)
  have c2 := onlyW_con (outsW p [3, 0, 3, 3]) (outsW_ok h _) [4, 3, 0, 6, 2] (by decide)
  have c3 := worldKeeps_con (onlyW (outsW p [3, 0, 3, 3]) [4, 3, 0, 6, 2]) (onlyW_ok (outsW_ok h _) _)
  refine Con.of T_ok Tryz.func12 rfl (by kernel_rfl) (by kernel_rfl) (aw_of T_ok (by kernel_rfl) ?_)
  conv => whnf
  refine ⟨rfl, ?_⟩
  conv => whnf
  refine callU c1 (fun _ => rfl) ?_
  conv => whnf
  refine ⟨rfl, ?_⟩
  conv => whnf
  refine callU c2 (fun _ => rfl) ?_
  conv => whnf
  refine callS c3 rfl ?_
  conv => whnf
  exact finB ⟨rfl⟩
end Go.Proofs.YtfjllfjmggooeaaGreatDoor.Rx

/- Worlds whose answers all come: a step. -/
set_option linter.unusedVariables false
set_option linter.unusedSimpArgs false
namespace Go.Rx
theorem sync_cmp {l : List Ledger} {v : Live} {x : Saga} {c : Int} (hs : sagaB v.saga = true) (hst : v.saga.status = 0) (hp : v.put = true) (hr : recB v.write = true) (hx : Nx v.saga v.write x) (hn : x.status = 0 → needN x + 1 ≤ needN v.saga) :
    mu ⟨x, 0, c, zRec, false⟩ + 1 ≤ mu v ∧ frI ⟨x, 0, c, zRec, false⟩ ≤ frI v ∧ pot l ⟨x, 0, c, zRec, false⟩ ≤ pot l v ∧ kn ⟨x, 0, c, zRec, false⟩ ≤ kn v := by
  have hk := rec_kind hr
  have hnl := need_low (parts_iff.1 hs)
  have hz : (zRec).kind = 0 := rfl
  have h1 : mu ⟨x, 0, c, zRec, false⟩ + 1 ≤ mu v ∧ frI ⟨x, 0, c, zRec, false⟩ ≤ frI v := by
    unfold mu frI
    simp only [hst, if_true, hp, hz, Bool.false_eq_true, if_false]
    rw [if_neg (by omega : ¬ v.write.kind = 0)]
    by_cases hxs : x.status = 0
    · have := hn hxs
      rw [if_pos hxs, if_pos hxs]
      omega
    · rw [if_neg hxs, if_neg hxs]
      omega
  refine ⟨h1.1, h1.2, ?_⟩
  have hpg := pot_ge l v hs
  have hkg : v.write.kind = 6 → 0 ≤ kn v := fun e => (kn_ge hs (fun h => by omega)).1
  cases hx with
  | call hk hn hb ho hd =>
    unfold pot kn
    simp [hst, hb, hk, hz]
  | done hk hn hb ho =>
    unfold pot kn
    simp [hst, hb, hk, hz]
  | abort hk hb ho =>
    unfold pot kn
    simp only [hst, hb, hk, hz, if_true, Bool.false_eq_true, if_false]
    have e : cntD l { v.saga with back := true, left := v.saga.done + 1 } (v.saga.done + 1).toNat = cntD l v.saga (v.saga.done + 1).toNat := cntD_congr (l := l) (l' := l) (s := { v.saga with back := true, left := v.saga.done + 1 }) (s' := v.saga) (fun _ => rfl) _
    simp only [show ¬ (0 : Int) = 5 by decide, show ¬ (4 : Int) = 5 by decide, if_false]
    rw [← hst, ← hb] at *
    exact ⟨Int.le_of_eq e, Int.le_refl _⟩
  | undone hk hn hb hl =>
    unfold pot kn
    simp only [hst, hb, hk, hz, if_true]
    have e : cntD l { v.saga with left := v.saga.left - 1 } (v.saga.left - 1).toNat = cntD l v.saga (v.saga.left - 1).toNat := cntD_congr (l := l) (l' := l) (s := { v.saga with left := v.saga.left - 1 }) (s' := v.saga) (fun _ => rfl) _
    simp only [show ¬ (0 : Int) = 5 by decide, if_false]
    rw [← hst, ← hb] at *
    exact ⟨Int.le_of_eq e, Int.le_refl _⟩
  | ends hk hn he =>
    have e1 : pot l ⟨{ v.saga with status := v.write.n }, 0, c, zRec, false⟩ = 0 := by unfold pot; rw [if_neg (by show ¬ v.write.n = 0; omega)]
    have e2 : kn ⟨{ v.saga with status := v.write.n }, 0, c, zRec, false⟩ = 0 := by unfold kn; rw [if_neg (by show ¬ v.write.n = 0; omega)]
    rw [e1, e2]
    exact ⟨hpg.1, hkg hk⟩
theorem EInv.build {w W : Wd} (h : EInv w) (hW : WInv W (1073741824 + 1)) {i : Nat} {v x : Live} (hi : w.lives[i]? = some v) (hl : W.lives = w.lives.set i x) (ho : W.outs = w.outs) (htr : x.tries ≤ 1073741824) (hroom : frI x - frI v ≤ roomF W.file - roomF w.file)
    (hpot : ∀ g ∈ W.ledgers, (g.entries.length : Int) + sumI (pot W.ledgers) W.lives ≤ 190) (hkn : ∀ g ∈ W.ledgers, (g.known.length : Int) + sumI kn W.lives ≤ 300) (hmu : mu x + 1 ≤ mu v) (htk : W.taken ≤ w.taken + 1) :
    EInv W ∧ sumI mu W.lives + 1 ≤ sumI mu w.lives := by
  have e1 : sumI mu W.lives = sumI mu w.lives - mu v + mu x := by rw [hl]; exact sumI_set hi
  have e2 : sumI frI W.lives = sumI frI w.lives - frI v + frI x := by rw [hl]; exact sumI_set hi
  have hr := h.room
  have hk := h.tkn
  have h0 : 0 ≤ sumI mu W.lives := sumI_ge fun u hu => (mu_ge (hW.saga hu)).1
  refine ⟨⟨hW.lower (by omega) fun u hu => ?_, by rw [ho]; exact h.outs, by omega, hpot, hkn, by omega⟩, by omega⟩
  rw [hl] at hu
  rcases mem_set_cases hu with e | e
  · rw [e]; exact htr
  · exact (h.inv.lives u e).t1
theorem EInv.step {w : Wd} (h : EInv w) (he : (stepW w).2 = 0) : EInv (stepW w).1 ∧ sumI mu (stepW w).1.lives + 1 ≤ sumI mu w.lives := by
  have hw := h.inv.went (by omega) he
  have hs' := h.inv.step (by omega) he
  generalize (stepW w).1 = W at hw hs'
  have hents := h.ents
  have hknown := h.known
  cases hw with
  | sync i v hi hst hp hk hr hf =>
    have hmem := List.mem_of_getElem? hi
    have hsg := h.inv.saga hmem
    simp only [fitsL, Bool.and_eq_true, beq_iff_eq] at hf
    have hgo := apply_goes hsg hr hf.1 hst hf.2.2
    have hgood := apply_good hsg hgo
    rw [(apply_went hsg hgo).2.2.2.2] at hgood
    have hnx := nx_of hsg hr hf.2.2
    generalize nextS v.saga v.write = x at hnx hgood hs' ⊢
    have hn : x.status = 0 → needN x + 1 ≤ needN v.saga := fun e => by
      have := hgood.room
      rw [room_eq (parts_iff.1 hsg), room_eq (parts_iff.1 hgood.may), if_pos hst, if_pos e] at this
      omega
    obtain ⟨c1, c2, c3, c4⟩ := sync_cmp (l := w.ledgers) (c := w.clock) hsg hst hp hr hnx hn
    refine h.build hs' hi rfl rfl (by show (0 : Int) ≤ _; omega) (by show frI ⟨x, 0, w.clock, zRec, false⟩ - frI v ≤ roomF (crashP w.file w.file.tail.size).1 - roomF w.file; rw [sync_room h.inv.file]; omega) (fun g hg => ?_) (fun g hg => ?_) c1 (by show w.taken ≤ _; omega)
    · have := hents g hg
      have e : sumI (pot w.ledgers) (w.lives.set i ⟨x, 0, w.clock, zRec, false⟩) = sumI (pot w.ledgers) w.lives - pot w.ledgers v + pot w.ledgers ⟨x, 0, w.clock, zRec, false⟩ := sumI_set hi
      show (g.entries.length : Int) + sumI (pot w.ledgers) (w.lives.set i ⟨x, 0, w.clock, zRec, false⟩) ≤ 190
      omega
    · have := hknown g hg
      have e : sumI kn (w.lives.set i ⟨x, 0, w.clock, zRec, false⟩) = sumI kn w.lives - kn v + kn ⟨x, 0, w.clock, zRec, false⟩ := sumI_set hi
      show (g.known.length : Int) + sumI kn (w.lives.set i ⟨x, 0, w.clock, zRec, false⟩) ≤ 300
      omega
  | app i v hi hst hp hk hr hf hj =>
    have hmem := List.mem_of_getElem? hi
    have hsg := h.inv.saga hmem
    have hkk := rec_kind hr
    have hfr : frI v ≤ sumI frI w.lives := sumI_mem (fun u hu => fr_ge (h.inv.saga hu)) hmem
    have hroom := h.room
    have hnl := need_low (parts_iff.1 hsg)
    have hfv : frI v = 24 * needN v.saga := by unfold frI; simp [hst, hp]
    have hfx : frI { v with put := true } = 24 * needN v.saga - 24 := by unfold frI; simp [hst]
    have hj2 := (japp24 h.inv.file hr hk (by omega)).2
    have hmv : mu v = 3 * needN v.saga - 1 := by unfold mu; rw [if_pos hst, if_neg (by omega), hp]; rfl
    have hmx : mu { v with put := true } = 3 * needN v.saga - 2 := by unfold mu; simp only [hst, if_true]; rw [if_neg (by omega)]
    refine h.build hs' hi rfl rfl (h.inv.lives v hmem).t1 (by show frI { v with put := true } - frI v ≤ roomF (jappP w.file v.write).1 - roomF w.file; omega) (fun g hg => ?_) (fun g hg => ?_) (by omega) (by show w.taken ≤ _; omega)
    · have := hents g hg
      have e : sumI (pot w.ledgers) (w.lives.set i { v with put := true }) = sumI (pot w.ledgers) w.lives - pot w.ledgers v + pot w.ledgers { v with put := true } := sumI_set hi
      have e2 : pot w.ledgers { v with put := true } = pot w.ledgers v := rfl
      show (g.entries.length : Int) + sumI (pot w.ledgers) (w.lives.set i { v with put := true }) ≤ 190
      omega
    · have := hknown g hg
      have e : sumI kn (w.lives.set i { v with put := true }) = sumI kn w.lives - kn v + kn { v with put := true } := sumI_set hi
      have e2 : kn { v with put := true } = kn v := rfl
      show (g.known.length : Int) + sumI kn (w.lives.set i { v with put := true }) ≤ 300
      omega
  | dec i v k n hi hst hw hp hc =>
    have hmem := List.mem_of_getElem? hi
    have hz : v.write.kind = 0 := by rw [hw]; rfl
    have hk : ¬ k = 0 ∧ ¬ k = 3 ∧ ¬ k = 4 ∧ ¬ k = 5 := by omega
    have hfx : frI { v with write := ⟨k, v.saga.id, n, ⟨#[]⟩, ⟨#[]⟩, []⟩ } = frI v := rfl
    have hmv : mu v = 3 * needN v.saga := by unfold mu; rw [if_pos hst, if_pos hz]; omega
    have hmx : mu { v with write := ⟨k, v.saga.id, n, ⟨#[]⟩, ⟨#[]⟩, []⟩ } = 3 * needN v.saga - 1 := by unfold mu; simp only [hst, if_true]; rw [if_neg hk.1, hp]; rfl
    have hpx : pot w.ledgers { v with write := ⟨k, v.saga.id, n, ⟨#[]⟩, ⟨#[]⟩, []⟩ } = pot w.ledgers v := by unfold pot; simp only [hst, hz]; rw [if_neg hk.2.2.2, if_neg hk.2.2.1, if_neg hk.2.1]; rfl
    have hkx : kn { v with write := ⟨k, v.saga.id, n, ⟨#[]⟩, ⟨#[]⟩, []⟩ } = kn v := by unfold kn; simp only [hst, hz]; rw [if_neg hk.2.2.2, if_neg hk.2.2.1, if_neg hk.2.1]; rfl
    refine h.build hs' hi rfl rfl (h.inv.lives v hmem).t1 (by rw [hfx]; show _ ≤ roomF w.file - roomF w.file; omega) (fun g hg => ?_) (fun g hg => ?_) (by omega) (by show w.taken ≤ _; omega)
    · have := hents g hg
      have e : sumI (pot w.ledgers) (w.lives.set i { v with write := ⟨k, v.saga.id, n, ⟨#[]⟩, ⟨#[]⟩, []⟩ }) = sumI (pot w.ledgers) w.lives - pot w.ledgers v + pot w.ledgers { v with write := ⟨k, v.saga.id, n, ⟨#[]⟩, ⟨#[]⟩, []⟩ } := sumI_set hi
      show (g.entries.length : Int) + sumI (pot w.ledgers) (w.lives.set i { v with write := ⟨k, v.saga.id, n, ⟨#[]⟩, ⟨#[]⟩, []⟩ }) ≤ 190
      omega
    · have := hknown g hg
      have e : sumI kn (w.lives.set i { v with write := ⟨k, v.saga.id, n, ⟨#[]⟩, ⟨#[]⟩, []⟩ }) = sumI kn w.lives - kn v + kn { v with write := ⟨k, v.saga.id, n, ⟨#[]⟩, ⟨#[]⟩, []⟩ } := sumI_set hi
      show (g.known.length : Int) + sumI kn (w.lives.set i { v with write := ⟨k, v.saga.id, n, ⟨#[]⟩, ⟨#[]⟩, []⟩ }) ≤ 300
      omega
  | call i v j st g g' a hi hst hd hw hp hc =>
    have hmem := List.mem_of_getElem? hi
    have hsg := h.inv.saga hmem
    have hpt := parts_iff.1 hsg
    have hz : v.write.kind = 0 := by rw [hw]; rfl
    have hlv := h.inv.lives v hmem
    have hml := most_le hpt
    have hl0 := hpt.l0
    have hl1 := hpt.l1
    have hj5 := hc.inn.i5
    have ht0 := hlv.t0
    have ht1 := hlv.t1
    have ha := ans_of (c := w.clock) (v := v) (a := a) ⟨h.inv.c0, h.inv.c1⟩ ⟨ht0, by omega⟩ ⟨hl0, by omega⟩
    have h01 := hc.does.a01 h.out
    generalize (if (answeredL w.clock v a).2.2 = true then { (answeredL w.clock v a).1 with write := (answeredL w.clock v a).2.1 } else (answeredL w.clock v a).1) = x at ha hs' ⊢
    have hmv : mu v = 3 * needN v.saga := by unfold mu; rw [if_pos hst, if_pos hz]; omega
    -- what is told of the live behind: a record is written
    have fin : ∀ (k n : Int), x = { v with write := ⟨k, v.saga.id, n, ⟨#[]⟩, ⟨#[]⟩, []⟩ } → ¬ k = 0 →
        (∀ y ∈ w.ledgers.set (st.service - 1).toNat g', (y.entries.length : Int) + (sumI (pot w.ledgers) w.lives - pot w.ledgers v + pot (w.ledgers.set (st.service - 1).toNat g') x) ≤ 190) →
        (∀ y ∈ w.ledgers.set (st.service - 1).toNat g', (y.known.length : Int) + (sumI kn w.lives - kn v + kn x) ≤ 300) →
        EInv { w with ledgers := w.ledgers.set (st.service - 1).toNat g', taken := w.taken + 1, lives := w.lives.set i x } ∧ sumI mu (w.lives.set i x) + 1 ≤ sumI mu w.lives := fun k n hx hk he hkn => by
      have hmx : mu x = 3 * needN v.saga - 1 := by rw [hx]; unfold mu; simp only [hst, if_true]; rw [if_neg hk, hp]; rfl
      have hfx : frI x = frI v := by rw [hx]; rfl
      refine h.build hs' hi rfl rfl (by rw [hx]; exact ht1) (by rw [hfx]; show _ ≤ roomF w.file - roomF w.file; omega) (fun y hy => ?_) (fun y hy => ?_) (by omega) (by show w.taken + 1 ≤ _; omega)
      · have e : sumI (pot (w.ledgers.set (st.service - 1).toNat g')) (w.lives.set i x) = sumI (pot w.ledgers) w.lives - pot w.ledgers v + pot (w.ledgers.set (st.service - 1).toNat g') x :=
          sumI_set2 hi fun k u hu hne => pot_same fun n => hc.other h.inv hi hu hne n
        have := he y hy
        show (y.entries.length : Int) + sumI (pot (w.ledgers.set (st.service - 1).toNat g')) (w.lives.set i x) ≤ 190
        omega
      · have e : sumI kn (w.lives.set i x) = sumI kn w.lives - kn v + kn x := sumI_set hi
        have := hkn y hy
        show (y.known.length : Int) + sumI kn (w.lives.set i x) ≤ 300
        omega
    have hgm : g ∈ w.ledgers := List.mem_of_getElem? hc.at'.led
    -- what a ledger has behind the call
    have grows : ∀ (de dk : Int), (g'.entries.length : Int) ≤ g.entries.length + de → (g'.known.length : Int) ≤ g.known.length + dk → 0 ≤ de → 0 ≤ dk → ∀ y ∈ w.ledgers.set (st.service - 1).toNat g', ∃ z ∈ w.ledgers, (y.entries.length : Int) ≤ z.entries.length + de ∧ (y.known.length : Int) ≤ z.known.length + dk := fun de dk h1 h2 h3 h4 y hy => by
      rcases mem_led hy with e | e
      · exact ⟨g, hgm, by rw [e]; exact h1, by rw [e]; exact h2⟩
      · exact ⟨y, e, by omega, by omega⟩
    have hil : ∀ no : Bool, ((if no then g.entries else g.entries ++ [entryW v.saga]).length : Int) = g.entries.length + (if no then 0 else 1) ∧ ((insL g.known (posL g.known (entryW v.saga).key) (entryW v.saga).key).length : Int) = g.known.length + 1 := fun no => by
      have := ins_len (x := (entryW v.saga).key) (posL_le g.known (entryW v.saga).key)
      cases no <;> simp <;> omega
    cases hbk : v.saga.back with
    | false =>
      obtain ⟨hout, hdn⟩ := hc.fw hbk
      have hpv : pot w.ledgers v = fwd v.saga.done := by unfold pot; simp [hst, hbk, hz]
      have hkv : kn v = 10 - v.saga.done := by unfold kn; simp [hst, hbk, hz]
      rcases h01 with ⟨ha0, hg'⟩ | ⟨ha1, hg', hnk⟩
      · have hx : x = { v with write := ⟨3, v.saga.id, v.saga.done, ⟨#[]⟩, ⟨#[]⟩, []⟩ } := by
          cases ha with
          | done _ _ _ => rfl
          | wait h _ _ _ => omega
          | gave h _ _ => omega
          | abort h _ => omega
          | stuck h _ => omega
          | undone _ _ hb => rw [hbk] at hb; cases hb
        have hpx : pot (w.ledgers.set (st.service - 1).toNat g') x = fwd (v.saga.done + 1) := by rw [hx]; unfold pot; simp [hst, hbk]
        have hkx : kn x = 10 - (v.saga.done + 1) := by rw [hx]; unfold kn; simp [hst, hbk]
        have hfw : fwd (v.saga.done + 1) + 1 ≤ fwd v.saga.done := by unfold fwd; split <;> split <;> omega
        have hle : (g'.entries.length : Int) ≤ g.entries.length + 1 ∧ (g'.known.length : Int) ≤ g.known.length + 1 := by
          rcases hg' with rfl | ⟨_, rfl⟩
          · omega
          · have := hil (noneAt w v.saga)
            rw [(hc.fwd hbk).1] at this ⊢
            simp only at this ⊢
            omega
        refine fin 3 _ hx (by decide) (fun y hy => ?_) (fun y hy => ?_)
        · obtain ⟨z, hz, z1, z2⟩ := grows 1 1 hle.1 hle.2 (by omega) (by omega) y hy
          have := hents z hz
          omega
        · obtain ⟨z, hz, z1, z2⟩ := grows 1 1 hle.1 hle.2 (by omega) (by omega) y hy
          have := hknown z hz
          omega
      · subst hg'
        rw [set_led hc.at'.led] at fin
        have hx : x = { v with write := ⟨4, v.saga.id, 0, ⟨#[]⟩, ⟨#[]⟩, []⟩ } := by
          cases ha with
          | abort _ _ => rfl
          | wait h _ _ _ => omega
          | gave h _ _ => omega
          | done h _ _ => omega
          | stuck h hb => rw [hbk] at hb; cases hb
          | undone h _ _ => omega
        have hnd : didB w.ledgers v.saga j = false := by
          cases hd : didB w.ledgers v.saga j with
          | false => rfl
          | true =>
            rw [hc.did] at hd
            have := done_known (ledger_parts hc.at'.may).2.2.2.1 hd
            rw [(hc.fwd hbk).2] at hnk
            simp only at hnk
            rw [this] at hnk
            cases hnk
        have hpx : pot w.ledgers x = cntD w.ledgers v.saga (v.saga.done + 1).toNat := by rw [hx]; unfold pot; simp [hst, hbk]
        have hkx : kn x = v.saga.done + 1 := by rw [hx]; unfold kn; simp [hst, hbk]
        have hjn : (v.saga.done + 1).toNat = j + 1 := by omega
        have hcd := cntD_le w.ledgers v.saga j
        rw [hjn, cntD, hnd] at hpx
        simp only [Bool.false_eq_true, if_false] at hpx
        have hfw : fwd v.saga.done = 8 - j := by unfold fwd; rw [if_pos (by omega)]; omega
        rw [set_led hc.at'.led] at hs'
        rw [set_led hc.at'.led]
        refine fin 4 _ hx (by decide) (fun y hy => ?_) (fun y hy => ?_)
        · have := hents y hy
          omega
        · have := hknown y hy
          omega
    | true =>
      have hlf := hc.bw hbk
      have hpv : pot w.ledgers v = cntD w.ledgers v.saga v.saga.left.toNat := by unfold pot; simp [hst, hbk, hz]
      have hkv : kn v = v.saga.left := by unfold kn; simp [hst, hbk, hz]
      have hjn : v.saga.left.toNat = j + 1 := by omega
      have hjm : (v.saga.left - 1).toNat = j := by omega
      rcases h01 with ⟨ha0, hg'⟩ | ⟨ha1, hg', hnk⟩
      · have hx : x = { v with write := ⟨5, v.saga.id, v.saga.left - 1, ⟨#[]⟩, ⟨#[]⟩, []⟩ } := by
          cases ha with
          | undone _ _ _ => rfl
          | wait h _ _ _ => omega
          | gave h _ _ => omega
          | abort h _ => omega
          | stuck h _ => omega
          | done _ _ hb => rw [hbk] at hb; cases hb
        have hsame : ∀ n, didB (w.ledgers.set (st.service - 1).toNat g') v.saga n = didB w.ledgers v.saga n := fun n => by
          refine didB_set hc.at'.led ?_
          rcases hg' with rfl | ⟨_, rfl⟩
          · rfl
          · show doneB (if noneAt w v.saga then g.entries else g.entries ++ [entryW v.saga]) _ = _
            split
            · rfl
            · exact doneB_app (.inr (by rw [hc.bwd hbk]))
        have hpx : pot (w.ledgers.set (st.service - 1).toNat g') x = cntD w.ledgers v.saga j := by
          rw [hx]; unfold pot; simp only [hst, hbk, if_true]
          rw [hjm]
          exact cntD_congr hsame j
        have hkx : kn x = v.saga.left - 1 := by rw [hx]; unfold kn; simp [hst, hbk]
        rw [hjn, cntD] at hpv
        have hno := hc.none' hbk
        have hle : (g'.entries.length : Int) ≤ g.entries.length + (if didB w.ledgers v.saga j then 1 else 0) ∧ (g'.known.length : Int) ≤ g.known.length + 1 := by
          rcases hg' with rfl | ⟨_, rfl⟩
          · constructor
            · split <;> omega
            · omega
          · have := hil (noneAt w v.saga)
            rw [hno] at this ⊢
            simp only at this ⊢
            cases hd : didB w.ledgers v.saga j <;> simp [hd] at this ⊢ <;> omega
        refine fin 5 _ hx (by decide) (fun y hy => ?_) (fun y hy => ?_)
        · obtain ⟨z, hz, z1, z2⟩ := grows (if didB w.ledgers v.saga j then 1 else 0) 1 hle.1 hle.2 (by split <;> omega) (by omega) y hy
          have := hents z hz
          omega
        · obtain ⟨z, hz, z1, z2⟩ := grows (if didB w.ledgers v.saga j then 1 else 0) 1 hle.1 hle.2 (by split <;> omega) (by omega) y hy
          have := hknown z hz
          omega
      · subst hg'
        rw [set_led hc.at'.led] at fin
        have hx : x = { v with write := ⟨6, v.saga.id, 3, ⟨#[]⟩, ⟨#[]⟩, []⟩ } := by
          cases ha with
          | stuck _ _ => rfl
          | wait h _ _ _ => omega
          | gave h _ _ => omega
          | done h _ _ => omega
          | abort h hb => rw [hbk] at hb; cases hb
          | undone h _ _ => omega
        have hpx : pot w.ledgers x = pot w.ledgers v := by rw [hx]; unfold pot; simp [hst, hbk, hz]
        have hkx : kn x = kn v := by rw [hx]; unfold kn; simp [hst, hbk, hz]
        rw [set_led hc.at'.led] at hs'
        rw [set_led hc.at'.led]
        refine fin 6 _ hx (by decide) (fun y hy => ?_) (fun y hy => ?_)
        · have := hents y hy
          omega
        · have := hknown y hy
          omega
end Go.Rx

/- Worlds whose answers all come: no step fails, and they end. -/
set_option linter.unusedVariables false
set_option linter.unusedSimpArgs false
namespace Go.Rx
theorem EInv.goes {w : Wd} (h : EInv w) : (stepW w).2 = 0 ∨ dueI w = none := by
  cases hd : dueI w with
  | none => exact .inr rfl
  | some i =>
    left
    obtain ⟨v, hi, hb⟩ := dueI_some hd
    rw [stepW_at hd hi]
    have hst := dueB_st hb
    have hmem : v ∈ w.lives := List.mem_of_getElem? hi
    have hl := h.inv.lives v hmem
    have hs := h.inv.saga hmem
    have hnl := need_low (parts_iff.1 hs)
    have hm : (moveW w v).2.2 = 0 := by
      by_cases hk : v.write.kind = 0
      · have e : moveW w v = nextW w v := by rw [moveW, if_neg (by rw [hk]; decide)]
        rw [e]
        cases h1 : (!v.saga.back && (v.saga.done == (v.saga.steps.length : Int))) with
        | true => rw [nextW]; simp only; rw [if_pos h1]
        | false =>
        cases h2 : (v.saga.back && (v.saga.left == 0)) with
        | true => rw [nextW]; simp only; rw [if_neg (by rw [h1]; decide), if_pos h2]
        | false =>
        cases h3 : (!v.saga.back && !v.saga.out) with
        | true => rw [nextW]; simp only; rw [if_neg (by rw [h1]; decide), if_neg (by rw [h2]; decide), if_pos h3]
        | false =>
        have hdn : (doneAt w v.saga).2.2 = 0 := by
          obtain ⟨j, hj⟩ := call_at hs hst h1 h2 h3
          obtain ⟨g, st, hc⟩ := h.inv.callAt hs hj
          have hgm : g ∈ w.ledgers := List.mem_of_getElem? hc.led
          have e1 := h.ents g hgm
          have e2 := h.known g hgm
          have s1 : 0 ≤ sumI (pot w.ledgers) w.lives := sumI_ge fun u hu => (pot_ge w.ledgers u (h.inv.saga hu)).1
          have s2 : 0 ≤ sumI kn w.lives := sumI_ge fun u hu => (h.inv.kn0 hu).1
          rw [doneAt, hc.gAt, doL]
          split
          · rfl
          split
          · rfl
          rw [if_neg (by omega)]
        rw [nextW]; simp only; rw [if_neg (by rw [h1]; decide), if_neg (by rw [h2]; decide), if_neg (by rw [h3]; decide), if_pos hdn]
      · have e : moveW w v = writtenW w v := by rw [moveW, if_pos (by simpa using hk)]
        rw [e]
        have hr : ¬ v.write.kind = 1 ∧ recB v.write = true ∧ fitsL v = true := by
          rcases hl.wr with e | e
          · exact absurd (hl.zero.2 e.1) hk
          · exact e
        cases hp : v.put with
        | true => rw [writtenW, if_pos hp]
        | false =>
          have hfr : frI v ≤ sumI frI w.lives := sumI_mem (fun u hu => fr_ge (h.inv.saga hu)) hmem
          have hroom := h.room
          have hfv : frI v = 24 * needN v.saga := by unfold frI; simp [hst, hp]
          have hj := (japp24 h.inv.file hr.2.1 hr.1 (by omega)).1
          rw [writtenW, if_neg (by rw [hp]; decide), if_pos hj]
    rw [if_pos hm]
theorem EInv.mu0 {w : Wd} (h : EInv w) : 0 ≤ sumI mu w.lives ∧ sumI mu w.lives ≤ 1020 := by
  have h1 : 0 ≤ sumI mu w.lives := sumI_ge fun u hu => (mu_ge (h.inv.saga hu)).1
  have h2 : sumI mu w.lives ≤ 51 * w.lives.length := sumI_bd fun u hu => (mu_ge (h.inv.saga hu)).2
  have h3 := h.inv.len
  omega
theorem EInv.run : ∀ (k : Nat) {w : Wd}, EInv w → sumI mu w.lives ≤ k → EInv (goW k w).1 ∧ dueI (goW k w).1 = none ∧ okGo k w = true
  | 0, w, h, hk => by
    refine ⟨h, ?_, rfl⟩
    show dueI w = none
    rcases h.goes with e | e
    · have h1 := h.step e
      have := h1.1.mu0.1
      omega
    · exact e
  | k + 1, w, h, hk => by
    rcases h.goes with e | e
    · have h1 := h.step e
      have ih := EInv.run k h1.1 (by omega)
      rw [goW_go e]
      refine ⟨ih.1, ih.2.1, ?_⟩
      rw [okGo, e, ih.2.2]; simp
    · rw [goW_end e]
      refine ⟨h, e, ?_⟩
      rw [okGo, e]; rfl
/-- Who waits, waits no longer than so. -/
def DInv (D : Int) (w : Wd) : Prop := ∀ v ∈ w.lives, v.saga.status = 0 → v.due ≤ D ∨ v.due ≤ w.clock
theorem DInv.step {D : Int} {w : Wd} (h : EInv w) (hd : DInv D w) (he : (stepW w).2 = 0) : DInv D (stepW w).1 ∧ (stepW w).1.clock = w.clock ∧ (stepW w).1.lives.length = w.lives.length := by
  have hw := h.inv.went (by omega) he
  generalize (stepW w).1 = W at hw
  cases hw with
  | sync i v hi hst hp hk hr hf =>
    refine ⟨fun u hu hs => ?_, rfl, List.length_set⟩
    rcases mem_set_cases hu with e | e
    · rw [e]; exact .inr (Int.le_refl _)
    · exact hd u e hs
  | app i v hi hst hp hk hr hf hj =>
    refine ⟨fun u hu hs => ?_, rfl, List.length_set⟩
    rcases mem_set_cases hu with e | e
    · rw [e]; exact hd v (List.mem_of_getElem? hi) hst
    · exact hd u e hs
  | dec i v k n hi hst hw hp hc =>
    refine ⟨fun u hu hs => ?_, rfl, List.length_set⟩
    rcases mem_set_cases hu with e | e
    · rw [e]; exact hd v (List.mem_of_getElem? hi) hst
    · exact hd u e hs
  | call i v j st g g' a hi hst hdd hw hp hc =>
    have hmem := List.mem_of_getElem? hi
    have hpt := parts_iff.1 (h.inv.saga hmem)
    have hlv := h.inv.lives v hmem
    have hml := most_le hpt
    have hl0 := hpt.l0
    have hl1 := hpt.l1
    have ht0 := hlv.t0
    have ht1 := hlv.t1
    have ha := ans_of (c := w.clock) (v := v) (a := a) ⟨h.inv.c0, h.inv.c1⟩ ⟨ht0, by omega⟩ ⟨hl0, by omega⟩
    have h01 := hc.does.a01 h.out
    refine ⟨fun u hu hs => ?_, rfl, List.length_set⟩
    rcases mem_set_cases hu with e | e
    · rw [e] at hs ⊢
      generalize (if (answeredL w.clock v a).2.2 = true then { (answeredL w.clock v a).1 with write := (answeredL w.clock v a).2.1 } else (answeredL w.clock v a).1) = x at ha hs ⊢
      have hdv := hd v hmem hst
      cases ha with
      | wait h2 _ _ _ => omega
      | gave _ _ _ => exact hdv
      | abort _ _ => exact hdv
      | stuck _ _ => exact hdv
      | undone _ _ _ => exact hdv
      | done _ _ _ => exact hdv
    · exact hd u e hs
theorem DInv.run {D : Int} : ∀ (k : Nat) {w : Wd}, EInv w → DInv D w → DInv D (goW k w).1 ∧ (goW k w).1.clock = w.clock ∧ (goW k w).1.lives.length = w.lives.length
  | 0, w, _, hd => ⟨hd, rfl, rfl⟩
  | k + 1, w, h, hd => by
    rcases h.goes with e | e
    · have h1 := DInv.step h hd e
      have ih := DInv.run k (h.step e).1 h1.1
      rw [goW_go e]
      exact ⟨ih.1, ih.2.1.trans h1.2.1, ih.2.2.trans h1.2.2⟩
    · rw [goW_end e]
      exact ⟨hd, rfl, rfl⟩
theorem dueGo_none {c : Int} : ∀ {l : List Live} {k : Nat}, dueGo c l k = none → ∀ v ∈ l, dueB c v = false
  | [], k, _, v, hv => by cases hv
  | a :: l, k, h, v, hv => by
    rw [dueGo] at h
    split at h
    · cases h
    · rename_i ha
      rcases List.mem_cons.1 hv with e | e
      · rw [e]; simpa using ha
      · exact dueGo_none h v e
/-- Nobody is due, and nobody waits: all have ended. -/
theorem idle_of {D : Int} {w : Wd} (hd : DInv D w) (hn : dueI w = none) (hD : D ≤ w.clock) : idleB w = true := by
  rw [idleB, Bool.not_eq_true', List.any_eq_false]
  intro v hv hs
  have hst : v.saga.status = 0 := eq_of_beq hs
  have h1 := dueGo_none hn v hv
  rw [dueB, hs, Bool.true_and, Bool.or_eq_false_iff, Bool.not_eq_false', decide_eq_true_eq] at h1
  rcases hd v hv hst with h2 | h2 <;> omega
theorem EInv.clock {w : Wd} (h : EInv w) (hc : w.clock < 1073741824) : EInv (tk w) := ⟨h.inv.clock hc, h.outs, h.room, h.ents, h.known, h.tkn⟩
theorem EInv.may {w : Wd} (h : EInv w) : worldB w = true := worldB_iff.2 h.inv
/-- A tick. -/
theorem EInv.tick {D : Int} {w : Wd} (h : EInv w) (hd : DInv D w) (hc : w.clock < 1073741824) : TickIn w ∧ (tickWd w).2 = 0 ∧ EInv (tickWd w).1 ∧ DInv D (tickWd w).1 ∧ (tickWd w).1.clock = w.clock + 1 ∧ dueI (tickWd w).1 = none := by
  have hc0 := h.inv.c0
  have e : (tk w).clock = w.clock + 1 := wrapI (by omega)
  have h2 := h.clock hc
  have hd2 : DInv D (tk w) := fun v hv hs => by
    rcases hd v hv hs with h | h
    · exact .inl h
    · right; rw [e]; omega
  have hr := EInv.run 2000 h2 (by have := h2.mu0.2; omega)
  have hr2 := DInv.run 2000 h2 hd2
  rw [tickWd_goes h.may hc]
  exact ⟨tickIn_of h.may fun _ => hr.2.2, rfl, hr.1, hr2.1, hr2.2.1.trans e, hr.2.1⟩
end Go.Rx

/- A saga whose calls go well, one answer lost: a tick does all that is due; it waits once, and is committed. -/
set_option linter.unusedVariables false
set_option linter.unusedSimpArgs false
namespace Go.Rx
structure CLive (t : Int) (v : Live) : Prop where
  bk : v.saga.back = false
  st : v.saga.status = 0 ∨ v.saga.status = 1
  wr : v.write.kind = 0 ∨ v.write.kind = 2 ∨ v.write.kind = 3 ∨ (v.write.kind = 6 ∧ v.write.n = 1)
  tr : v.tries ≤ 1 ∧ (t < 2 → v.tries ≤ 0)
structure CInv (n : Nat) (w : Wd) : Prop where
  outs : w.outs = [0, 3]
  len : w.lives.length = 1
  each : ∀ v ∈ w.lives, CLive w.taken v ∧ v.saga.steps.length = n
def cM (w : Wd) : Int := sumI mu w.lives + (if w.taken < 2 then 2 - w.taken else 0)
/-- Who waits has had the lost answer. -/
def CD (D : Int) (w : Wd) : Prop := ∀ v ∈ w.lives, v.saga.status = 0 → (v.due ≤ w.clock ∨ (2 ≤ w.taken ∧ v.due ≤ D)) ∧ (w.taken < 2 → w.clock + 8 ≤ D)
theorem CLive.next {t : Int} {v : Live} {x : Saga} (h : CLive t v) (hx : Nx v.saga v.write x) (c : Int) : CLive t ⟨x, 0, c, zRec, false⟩ ∧ x.steps = v.saga.steps := by
  have hw := h.wr
  have tr : (0 : Int) ≤ 1 ∧ (t < 2 → (0 : Int) ≤ 0) := ⟨by omega, fun _ => Int.le_refl _⟩
  cases hx with
  | call hk hn hb ho hlt => exact ⟨⟨h.bk, h.st, .inl rfl, tr⟩, rfl⟩
  | done hk hn hb ho => exact ⟨⟨h.bk, h.st, .inl rfl, tr⟩, rfl⟩
  | abort hk hb ho => omega
  | undone hk hn hb hl => omega
  | ends hk hn he =>
    have e : v.write.n = 1 := by omega
    exact ⟨⟨h.bk, .inr e, .inl rfl, tr⟩, rfl⟩
theorem CInv.out {n : Nat} {w : Wd} (h : CInv n w) (hk : 0 ≤ w.taken) : (w.taken = 1 ∧ outW w = 3) ∨ (¬ w.taken = 1 ∧ outW w = 0) := by
  have ho := h.outs
  unfold outW
  rw [ho]
  by_cases h0 : w.taken = 0
  · right; rw [h0]; exact ⟨by decide, rfl⟩
  by_cases h1 : w.taken = 1
  · left; rw [h1]; exact ⟨rfl, rfl⟩
  · right; rw [if_neg (by simp only [List.length_cons, List.length_nil]; omega)]; exact ⟨h1, rfl⟩
theorem Does.ans {g g' : Ledger} {x : Entry} {no : Bool} {out a : Int} (h : Does g x no out g' a) (ho : out = 0 ∨ out = 3) : (out = 0 ∧ a = 0) ∨ (out = 3 ∧ a = 2) := by
  cases h with
  | known hk => rcases ho with e | e <;> subst e <;> first | exact .inl ⟨rfl, rfl⟩ | exact .inr ⟨rfl, rfl⟩
  | refused _ h2 => omega
  | happens _ _ _ _ => rcases ho with e | e <;> subst e <;> first | exact .inl ⟨rfl, rfl⟩ | exact .inr ⟨rfl, rfl⟩
theorem cM_set {w W : Wd} {i : Nat} {v x : Live} (hi : w.lives[i]? = some v) (hl : W.lives = w.lives.set i x) (h : mu x + (if W.taken < 2 then 2 - W.taken else 0) + 1 ≤ mu v + (if w.taken < 2 then 2 - w.taken else 0)) : cM W + 1 ≤ cM w := by
  have e : sumI mu (w.lives.set i x) = sumI mu w.lives - mu v + mu x := sumI_set hi
  unfold cM
  rw [hl, e]
  omega
theorem CInv.put {n : Nat} {w W : Wd} (h : CInv n w) {i : Nat} {v x : Live} (hi : w.lives[i]? = some v) (hl : W.lives = w.lives.set i x) (ho : W.outs = w.outs) (ht : w.taken ≤ W.taken) (hx : CLive W.taken x) (hs : x.saga.steps.length = n) : CInv n W := by
  refine ⟨ho.trans h.outs, by rw [hl, List.length_set]; exact h.len, fun u hu => ?_⟩
  rw [hl] at hu
  rcases mem_set_cases hu with e | e
  · rw [e]; exact ⟨hx, hs⟩
  · obtain ⟨k1, k2⟩ := h.each u e
    exact ⟨⟨k1.bk, k1.st, k1.wr, k1.tr.1, fun hlt => k1.tr.2 (by omega)⟩, k2⟩
theorem CD.put {D : Int} {w W : Wd} (h : CD D w) {i : Nat} {v x : Live} (hi : w.lives[i]? = some v) (hl : W.lives = w.lives.set i x) (hc : W.clock = w.clock) (ht : w.taken ≤ W.taken) (hst : v.saga.status = 0)
    (hx : x.saga.status = 0 → (x.due ≤ w.clock ∨ (2 ≤ W.taken ∧ x.due ≤ D)) ∧ (W.taken < 2 → w.clock + 8 ≤ D)) : CD D W := by
  intro u hu hs
  rw [hl] at hu
  rw [hc]
  rcases mem_set_cases hu with e | e
  · rw [e] at hs ⊢; exact hx hs
  · have := h u e hs
    exact ⟨this.1.imp id fun q => ⟨by omega, q.2⟩, fun q => this.2 (by omega)⟩
theorem CInv.went {n : Nat} {D : Int} {w W : Wd} {tb : Int} (h : CInv n w) (hd : CD D w) (hw : WInv w tb) (ht : tb ≤ 4611686018427387902) (hs : Went w W) : CInv n W ∧ CD D W ∧ cM W + 1 ≤ cM w ∧ W.clock = w.clock := by
  cases hs with
  | sync i v hi hst hp hk hr hf =>
    have hmem := List.mem_of_getElem? hi
    have hsg := hw.saga hmem
    have hkk := rec_kind hr
    simp only [fitsL, Bool.and_eq_true, beq_iff_eq] at hf
    have hgo := apply_goes hsg hr hf.1 hst hf.2.2
    have hgood := apply_good hsg hgo
    rw [(apply_went hsg hgo).2.2.2.2] at hgood
    have hnx := nx_of hsg hr hf.2.2
    obtain ⟨hc, hlen⟩ := h.each v hmem
    generalize nextS v.saga v.write = x at hnx hgood
    obtain ⟨c1, c2⟩ := hc.next hnx w.clock
    have hnl := need_low (parts_iff.1 hsg)
    have hmv : mu v = 3 * needN v.saga - 2 := by unfold mu; rw [if_pos hst, if_neg (by omega), if_pos hp]
    have hmx : mu ⟨x, 0, w.clock, zRec, false⟩ ≤ mu v - 1 := by
      by_cases e : x.status = 0
      · have := hgood.room
        rw [room_eq (parts_iff.1 hsg), room_eq (parts_iff.1 hgood.may), if_pos hst, if_pos e] at this
        have e2 : mu ⟨x, 0, w.clock, zRec, false⟩ = 3 * needN x - 0 := by unfold mu; rw [if_pos e]; rfl
        omega
      · have e2 : mu ⟨x, 0, w.clock, zRec, false⟩ = 0 := by unfold mu; rw [if_neg e]
        omega
    have hdv := hd v hmem hst
    exact ⟨h.put hi rfl rfl (Int.le_refl _) c1 (by show x.steps.length = n; rw [c2]; exact hlen), hd.put hi rfl rfl (Int.le_refl _) hst fun _ => ⟨.inl (Int.le_refl _), hdv.2⟩,
      cM_set hi rfl (by show mu ⟨x, 0, w.clock, zRec, false⟩ + (if w.taken < 2 then 2 - w.taken else 0) + 1 ≤ _; omega), rfl⟩
  | app i v hi hst hp hk hr hf hj =>
    have hmem := List.mem_of_getElem? hi
    have hkk := rec_kind hr
    obtain ⟨hc, hlen⟩ := h.each v hmem
    have hmv : mu v = 3 * needN v.saga - 1 := by unfold mu; rw [if_pos hst, if_neg (by omega), hp]; rfl
    have hmx : mu { v with put := true } = 3 * needN v.saga - 2 := by unfold mu; simp only [hst, if_true]; rw [if_neg (by omega)]
    have hdv := hd v hmem hst
    exact ⟨h.put hi rfl rfl (Int.le_refl _) ⟨hc.bk, hc.st, hc.wr, hc.tr⟩ hlen, hd.put hi rfl rfl (Int.le_refl _) hst fun _ => hdv,
      cM_set hi rfl (by show mu { v with put := true } + (if w.taken < 2 then 2 - w.taken else 0) + 1 ≤ _; omega), rfl⟩
  | dec i v k m hi hst hwz hp hc0 =>
    have hmem := List.mem_of_getElem? hi
    obtain ⟨hc, hlen⟩ := h.each v hmem
    have hb := hc.bk
    have hz : v.write.kind = 0 := by rw [hwz]; rfl
    have hk : (k = 2) ∨ (k = 6 ∧ m = 1) := by
      rcases hc0 with e | e | e
      · exact .inr ⟨e.1, e.2.1⟩
      · rw [hb] at e; exact absurd e.2.2.1 (by decide)
      · exact .inl e.1
    have hmv : mu v = 3 * needN v.saga := by unfold mu; rw [if_pos hst, if_pos hz]; omega
    have hmx : mu { v with write := ⟨k, v.saga.id, m, ⟨#[]⟩, ⟨#[]⟩, []⟩ } = 3 * needN v.saga - 1 := by unfold mu; simp only [hst, if_true]; rw [if_neg (by omega), hp]; rfl
    have hdv := hd v hmem hst
    refine ⟨h.put hi rfl rfl (Int.le_refl _) ⟨hc.bk, hc.st, ?_, hc.tr⟩ hlen, hd.put hi rfl rfl (Int.le_refl _) hst fun _ => hdv,
      cM_set hi rfl (by show mu { v with write := ⟨k, v.saga.id, m, ⟨#[]⟩, ⟨#[]⟩, []⟩ } + (if w.taken < 2 then 2 - w.taken else 0) + 1 ≤ _; omega), rfl⟩
    show k = 0 ∨ k = 2 ∨ k = 3 ∨ (k = 6 ∧ m = 1)
    omega
  | call i v j st g g' a hi hst hdd hwz hp hc0 =>
    have hmem := List.mem_of_getElem? hi
    have hsg := hw.saga hmem
    have hpt := parts_iff.1 hsg
    have hlv := hw.lives v hmem
    have hml := most_le hpt
    have hl0 := hpt.l0
    have hl1 := hpt.l1
    have ht0 := hlv.t0
    have ht1 := hlv.t1
    have hk0 := hw.k0
    have ha := ans_of (c := w.clock) (v := v) (a := a) ⟨hw.c0, hw.c1⟩ ⟨ht0, by omega⟩ ⟨hl0, by omega⟩
    obtain ⟨hc, hlen⟩ := h.each v hmem
    have hb := hc.bk
    have htr := hc.tr
    have hz : v.write.kind = 0 := by rw [hwz]; rfl
    have hdv := hd v hmem hst
    have hout := h.out hk0
    have h03 := hc0.does.ans (by omega)
    have hmv : mu v = 3 * needN v.saga := by unfold mu; rw [if_pos hst, if_pos hz]; omega
    generalize (if (answeredL w.clock v a).2.2 = true then { (answeredL w.clock v a).1 with write := (answeredL w.clock v a).2.1 } else (answeredL w.clock v a).1) = x at ha ⊢
    cases ha with
    | wait h2 hb2 due hdue =>
      have htk : w.taken = 1 := by omega
      have hd8 := hdv.2 (by omega)
      have hmx : mu { v with tries := v.tries + 1, due := due } = mu v := rfl
      refine ⟨h.put hi rfl rfl (by show w.taken ≤ w.taken + 1; omega) ⟨hc.bk, hc.st, hc.wr, ?_, ?_⟩ hlen, hd.put hi rfl rfl (by show w.taken ≤ w.taken + 1; omega) hst fun _ => ⟨.inr ⟨?_, ?_⟩, ?_⟩, cM_set hi rfl ?_, rfl⟩
      · show v.tries + 1 ≤ 1; omega
      · show w.taken + 1 < 2 → _; omega
      · show 2 ≤ w.taken + 1; omega
      · show due ≤ D; omega
      · show w.taken + 1 < 2 → _; omega
      · show mu { v with tries := v.tries + 1, due := due } + (if w.taken + 1 < 2 then 2 - (w.taken + 1) else 0) + 1 ≤ _
        rw [if_neg (by omega), if_pos (by omega)]; omega
    | gave h2 hb2 ht4 => omega
    | abort h2 hb2 => omega
    | stuck h2 hb2 => rw [hb] at hb2; cases hb2
    | undone h1 h2 hb2 => rw [hb] at hb2; cases hb2
    | done h1 h2 hb2 =>
      have hmx : mu { v with write := ⟨3, v.saga.id, v.saga.done, ⟨#[]⟩, ⟨#[]⟩, []⟩ } = 3 * needN v.saga - 1 := by unfold mu; simp only [hst, if_true]; rw [if_neg (by omega), hp]; rfl
      refine ⟨h.put hi rfl rfl (by show w.taken ≤ w.taken + 1; omega) ⟨hc.bk, hc.st, .inr (.inr (.inl rfl)), htr.1, fun q => htr.2 ?_⟩ hlen, hd.put hi rfl rfl (by show w.taken ≤ w.taken + 1; omega) hst fun _ => ⟨hdv.1.imp id fun q => ⟨?_, q.2⟩, fun q => hdv.2 ?_⟩, cM_set hi rfl ?_, rfl⟩
      · have q' : w.taken + 1 < 2 := q; omega
      · show 2 ≤ w.taken + 1; omega
      · have q' : w.taken + 1 < 2 := q; omega
      · show mu { v with write := ⟨3, v.saga.id, v.saga.done, ⟨#[]⟩, ⟨#[]⟩, []⟩ } + (if w.taken + 1 < 2 then 2 - (w.taken + 1) else 0) + 1 ≤ _
        split <;> split <;> omega
theorem cM_ge {w : Wd} {tb : Int} (hw : WInv w tb) : 0 ≤ cM w ∧ cM w ≤ 51 * w.lives.length + 2 := by
  have h1 : 0 ≤ sumI mu w.lives := sumI_ge fun v hv => (mu_ge (hw.saga hv)).1
  have h2 : sumI mu w.lives ≤ 51 * w.lives.length := sumI_bd fun v hv => (mu_ge (hw.saga hv)).2
  have h3 := hw.k0
  unfold cM
  split <;> omega
/-- As many steps as are due. -/
theorem CInv.run {n : Nat} {D : Int} : ∀ (k : Nat) {w : Wd} {tb : Int}, KInv w tb → tb + k ≤ 4611686018427387902 → CInv n w → CD D w → cM w ≤ k → CInv n (goW k w).1 ∧ CD D (goW k w).1 ∧ dueI (goW k w).1 = none ∧ (goW k w).1.clock = w.clock
  | 0, w, tb, hK, ht, h, hd, hk => by
    refine ⟨h, hd, ?_, rfl⟩
    show dueI w = none
    rcases hK.goes (by omega) with e | e
    · have hw := hK.inv.went (by omega) e
      have h1 := h.went hd hK.inv (by omega) hw
      have := (cM_ge (hK.inv.step (by omega) e)).1
      omega
    · exact e
  | k + 1, w, tb, hK, ht, h, hd, hk => by
    rcases hK.goes (by omega) with e | e
    · have hw := hK.inv.went (by omega) e
      have h1 := h.went hd hK.inv (by omega) hw
      have ih := CInv.run k (hK.step (by omega) e).1 (by omega) h1.1 h1.2.1 (by omega)
      rw [goW_go e]
      exact ⟨ih.1, ih.2.1, ih.2.2.1, ih.2.2.2.trans h1.2.2.2⟩
    · rw [goW_end e]
      exact ⟨h, hd, e, rfl⟩
/-- Nobody is due: who is pending has had the lost answer, and waits no longer than so. -/
theorem CD.none' {D : Int} {w : Wd} (hd : CD D w) (hn : dueI w = none) : ∀ v ∈ w.lives, v.saga.status = 0 → w.clock < v.due ∧ 2 ≤ w.taken ∧ v.due ≤ D := fun v hv hs => by
  have h1 := dueGo_none hn v hv
  rw [dueB, hs, show ((0 : Int) == 0) = true from rfl, Bool.true_and, Bool.or_eq_false_iff, Bool.not_eq_false', decide_eq_true_eq] at h1
  have h2 := hd v hv hs
  omega
/-- Ticks, each of which does all that is due. -/
structure CTick (n : Nat) (D : Int) (w W : Wd) : Prop where
  ok : tickOk w = true
  goes : (tickWd w).2 = 0
  is : (tickWd w).1 = W
  c : CInv n W
  d : CD D W
  due : dueI W = none
  clock : W.clock = w.clock + 1
theorem CInv.tick {n : Nat} {D : Int} {w : Wd} {tb : Int} (hK : KInv w tb) (ht : tb ≤ 1000000) (h : CInv n w) (hc : w.clock < 1073741824) (hd : CD D (tk w)) : ∃ W, CTick n D w W ∧ KInv W (tb + 2000) := by
  have hc0 := hK.inv.c0
  have e : (tk w).clock = w.clock + 1 := wrapI (by omega)
  have hK2 : KInv (tk w) tb := hK.clock hc
  have hC2 : CInv n (tk w) := ⟨h.outs, h.len, h.each⟩
  have hM : cM (tk w) ≤ (2000 : Nat) := by have := (cM_ge hK2.inv).2; rw [hC2.len] at this; omega
  have hr := CInv.run 2000 hK2 (by omega) hC2 hd hM
  have htw := tickWd_goes (hK.may (by omega)) hc
  have hk := hK.ticked ht (by rw [htw])
  rw [htw] at hk
  refine ⟨(goW 2000 (tk w)).1, ⟨?_, by rw [htw], by rw [htw], hr.1, hr.2.1, hr.2.2.1, hr.2.2.2.trans e⟩, hk.1⟩
  rw [tickOk, htw]
  simp only [beq_self_eq_true, Bool.true_and, Bool.and_eq_true, beq_iff_eq]
  exact ⟨hk.1.may (by omega), by rw [hr.1.len, h.len]⟩
/-- From a time on at which nobody waits: the first tick. -/
theorem CD.first {w : Wd} (hc : 0 ≤ w.clock ∧ w.clock < 1073741824) (h : ∀ v ∈ w.lives, v.saga.status = 0 → v.due ≤ w.clock) : CD (w.clock + 9) (tk w) := fun v hv hs => by
  have e : (tk w).clock = w.clock + 1 := wrapI (by omega)
  have := h v hv hs
  rw [e]
  exact ⟨.inl (by omega), fun _ => by omega⟩
theorem CD.next {D : Int} {w : Wd} (hc : 0 ≤ w.clock ∧ w.clock < 1073741824) (hd : CD D w) (hn : dueI w = none) : CD D (tk w) := fun v hv hs => by
  obtain ⟨h1, h2, h3⟩ := hd.none' hn v hv hs
  exact ⟨.inr ⟨h2, h3⟩, fun q => by have q' : w.taken < 2 := q; omega⟩
theorem CTick.done {n : Nat} {D : Int} {w : Wd} (h : CInv n w) (hd : CD D w) (hn : dueI w = none) (hD : D ≤ w.clock) : ∀ v ∈ w.lives, v.saga.status = 1 := fun v hv => by
  rcases (h.each v hv).1.st with e | e
  · have := hd.none' hn v hv e
    omega
  · exact e
/-- So many ticks behind the first one. -/
theorem CInv.ticks {n : Nat} {D : Int} : ∀ (k : Nat) {w : Wd} {tb : Int}, KInv w tb → tb + 2000 * k ≤ 1000000 → CInv n w → CD D w → dueI w = none → w.clock + k ≤ 1073741824 →
    (ticksW k w).2 = true ∧ TicksIn k w ∧ KInv (ticksW k w).1 (tb + 2000 * k) ∧ CInv n (ticksW k w).1 ∧ CD D (ticksW k w).1 ∧ dueI (ticksW k w).1 = none ∧ (ticksW k w).1.clock = w.clock + k
  | 0, w, tb, hK, _, h, hd, hn, _ => ⟨rfl, trivial, hK.more (by omega), h, hd, hn, by show w.clock = w.clock + ((0 : Nat) : Int); omega⟩
  | k + 1, w, tb, hK, ht, h, hd, hn, hc => by
    have hc0 := hK.inv.c0
    obtain ⟨W, hT, hKW⟩ := h.tick hK (by omega) (by omega) (hd.next ⟨hc0, by omega⟩ hn)
    have ih := CInv.ticks k hKW (by omega) hT.c hT.d hT.due (by rw [hT.clock]; omega)
    have e : ticksW (k + 1) w = ticksW k W := by rw [ticksW, if_pos hT.ok, hT.is]
    rw [e]
    refine ⟨ih.1, ⟨⟨hK.inv.wok, hK.tickGo (by omega), fun _ => by rw [hT.is]; exact hKW.inv.wok⟩, fun _ => by rw [hT.is]; exact ih.2.1⟩, ih.2.2.1.more (by omega), ih.2.2.2.1, ih.2.2.2.2.1, ih.2.2.2.2.2.1, ?_⟩
    rw [ih.2.2.2.2.2.2, hT.clock]; omega
theorem CInv.ticks1 {n : Nat} {w : Wd} {tb : Int} (k : Nat) (hK : KInv w tb) (ht : tb + 2000 * (k + 1) ≤ 1000000) (h : CInv n w) (hdue : ∀ v ∈ w.lives, v.saga.status = 0 → v.due ≤ w.clock) (hc : w.clock + k + 1 ≤ 1073741824) (h8 : 8 ≤ k) :
    (ticksW (k + 1) w).2 = true ∧ TicksIn (k + 1) w ∧ KInv (ticksW (k + 1) w).1 (tb + 2000 * (k + 1)) ∧ CInv n (ticksW (k + 1) w).1 ∧ ∀ v ∈ (ticksW (k + 1) w).1.lives, v.saga.status = 1 := by
  have hc0 := hK.inv.c0
  obtain ⟨W, hT, hKW⟩ := h.tick hK (by omega) (by omega) (CD.first ⟨hc0, by omega⟩ hdue)
  have ih := CInv.ticks k hKW (by omega) hT.c hT.d hT.due (by rw [hT.clock]; omega)
  have e : ticksW (k + 1) w = ticksW k W := by rw [ticksW, if_pos hT.ok, hT.is]
  rw [e]
  refine ⟨ih.1, ⟨⟨hK.inv.wok, hK.tickGo (by omega), fun _ => by rw [hT.is]; exact hKW.inv.wok⟩, fun _ => by rw [hT.is]; exact ih.2.1⟩, ih.2.2.1.more (by omega), ih.2.2.2.1, ?_⟩
  exact CTick.done ih.2.2.2.1 ih.2.2.2.2.1 ih.2.2.2.2.2.1 (by rw [ih.2.2.2.2.2.2, hT.clock]; omega)
end Go.Rx

/- What a committed saga has done, counted. -/
set_option linter.unusedVariables false
set_option linter.unusedSimpArgs false
namespace Go.Rx
def keysE (l : List Ledger) : List Int := l.flatMap fun g => g.entries.map Entry.key
theorem cntE_all : ∀ {l : List Entry} {p : Int × Int}, (∀ e ∈ l, e.back = false) → 0 ≤ p.1 → p.1 + l.length ≤ 1000000 → cntE l p = (p.1 + l.length, p.2)
  | [], p, _, _, _ => by rw [cntE]; simp
  | e :: l, p, h, h0, h1 => by
    rw [List.length_cons] at h1 ⊢
    rw [cntE, h e (List.mem_cons_self ..), if_neg (by decide), wrapI (by omega), cntE_all (fun x hx => h x (List.mem_cons_of_mem _ hx)) (by simp only; omega) (by simp only; omega)]
    simp only [Prod.mk.injEq, and_true]
    omega
theorem cntL_all : ∀ {l : List Ledger} {p : Int × Int}, (∀ g ∈ l, ∀ e ∈ g.entries, e.back = false) → 0 ≤ p.1 → p.1 + (keysE l).length ≤ 1000000 → cntL l p = (p.1 + (keysE l).length, p.2)
  | [], p, _, _, _ => by rw [cntL]; simp [keysE]
  | g :: l, p, h, h0, h1 => by
    have e : ((keysE (g :: l)).length : Int) = g.entries.length + (keysE l).length := by simp [keysE]
    rw [cntL, cntE_all (h g (List.mem_cons_self ..)) h0 (by omega), cntL_all (fun x hx => h x (List.mem_cons_of_mem _ hx)) (by simp only; omega) (by simp only; omega)]
    simp only [Prod.mk.injEq, and_true]
    omega
theorem keys_nodup {g : Ledger} (h : ledgerB g = true) : (g.entries.map Entry.key).Nodup := by
  simp only [ledgerB, Bool.and_eq_true] at h
  have he := h.2.2.2.1
  rw [List.nodup_iff_pairwise_ne, List.pairwise_iff_getElem]
  intro i j hi hj hij
  rw [List.length_map] at hi hj
  have := rng_at he hj
  rw [entryAt, List.getElem?_eq_getElem hj] at this
  simp only [Bool.and_eq_true, Bool.not_eq_true', List.any_eq_false, beq_iff_eq] at this
  have h2 := this.2.2.1 g.entries[i] (List.mem_iff_getElem.2 ⟨i, by rw [List.length_take]; omega, by rw [List.getElem_take]⟩)
  simpa using h2
theorem nodup_flat {β : Type} [DecidableEq β] {α : Type} {f : α → List β} : ∀ {l : List α}, (∀ a ∈ l, (f a).Nodup) → (∀ (i j : Nat) (a b : α) (x : β), l[i]? = some a → l[j]? = some b → x ∈ f a → x ∈ f b → i = j) → (l.flatMap f).Nodup
  | [], _, _ => by simp
  | a :: l, h1, h2 => by
    rw [List.flatMap_cons, List.nodup_append]
    refine ⟨h1 a (List.mem_cons_self ..), nodup_flat (fun b hb => h1 b (List.mem_cons_of_mem _ hb)) (fun i j b c x hi hj hx hy => by have := h2 (i + 1) (j + 1) b c x (by simpa using hi) (by simpa using hj) hx hy; omega), fun x hx y hy e => ?_⟩
    subst e
    obtain ⟨b, hb, hyb⟩ := List.mem_flatMap.1 hy
    obtain ⟨j, hj, hjb⟩ := List.mem_iff_getElem.1 hb
    have := h2 0 (j + 1) a b x rfl (by simp [hj, hjb]) hx hyb
    omega
theorem KInv.counts {w : Wd} {tb : Int} (h : KInv w tb) {v : Live} (hl : w.lives = [v]) (hst : v.saga.status = 1) : countsW w = ((v.saga.steps.length : Int), 0) := by
  have hm : v ∈ w.lives := by rw [hl]; exact List.mem_cons_self ..
  have hld := ledgersB_iff.1 h.inv.ledgers
  have hsgL := h.inv.sgL 0 v.saga (by rw [sagasL, hl]; rfl)
  have hid := hsgL.1
  have hln := hsgL.2
  have hsnd := (h.eff.snd v hm).1
  -- whose an entry is
  have own : ∀ g ∈ w.ledgers, ∀ e ∈ g.entries, ∃ n, n < v.saga.steps.length ∧ e.back = false ∧ e.key = callKey v.saga.id n ∧ ∃ st, v.saga.steps[n]? = some st ∧ st.service = g.service := fun g hg e he => by
    obtain ⟨i, s, n, st, h1, h2, h3, h4⟩ := h.eff.keys.en g hg e he
    rw [sagasL, hl] at h1
    have hi0 : i = 0 := by
      rcases i with _ | i
      · rfl
      · simp at h1
    subst hi0
    have hs : v.saga = s := by simpa using h1
    subst hs
    have hn := (List.getElem?_eq_some_iff.1 h2).1
    obtain ⟨st', g', e1, e2, e3, e4, e5, _⟩ := h.sound hm hn
    rw [e1] at h2
    cases h2
    rcases h4 with ⟨q1, q2⟩ | ⟨q1, q2⟩
    · exact ⟨n, hn, q2, q1, st, e1, h3⟩
    · exfalso
      have hu := (hsnd.e hst n hn).2
      rw [e5] at hu
      obtain ⟨k, hk, hkg⟩ := List.mem_iff_getElem.1 hg
      have hsv := (hld.at' k g (by rw [List.getElem?_eq_getElem hk, hkg])).1
      have hgg : g' = g := by
        rw [h3, hsv, show (((k + 1 : Nat) : Int) - 1).toNat = k by omega, List.getElem?_eq_getElem hk, hkg] at e2
        exact (Option.some.inj e2).symm
      rw [hgg, hasK, List.any_eq_false] at hu
      exact hu e he (by rw [q1]; simp)
  have hinj : ∀ {a b : Nat}, a < 5 → b < 5 → callKey v.saga.id a = callKey v.saga.id b → a = b := fun {a b} ha hb e => by
    rw [(keys_at hid ha).1, (keys_at hid hb).1] at e; omega
  have hnd : (keysE w.ledgers).Nodup := by
    refine nodup_flat (fun g hg => by obtain ⟨k, hk⟩ := List.getElem?_of_mem hg; exact keys_nodup (hld.at' k g hk).2) fun i j a b x hi hj hx hy => ?_
    obtain ⟨e, he, rfl⟩ := List.mem_map.1 hx
    obtain ⟨e', he', hk⟩ := List.mem_map.1 hy
    obtain ⟨n, hn, _, q1, st, q2, q3⟩ := own a (List.mem_of_getElem? hi) e he
    obtain ⟨n', hn', _, p1, st', p2, p3⟩ := own b (List.mem_of_getElem? hj) e' he'
    have en : n' = n := hinj (by omega) (by omega) (by rw [← p1, ← q1, hk])
    subst en
    rw [q2] at p2
    cases p2
    have s1 := (hld.at' i a hi).1
    have s2 := (hld.at' j b hj).1
    omega
  have hK : ((List.range v.saga.steps.length).map fun n : Nat => callKey v.saga.id (n : Int)).Nodup := by
    rw [List.nodup_iff_pairwise_ne, List.pairwise_iff_getElem]
    intro i j hi hj hij
    rw [List.length_map, List.length_range] at hi hj
    rw [List.getElem_map, List.getElem_map, List.getElem_range, List.getElem_range]
    intro e
    have := hinj (show i < 5 by omega) (show j < 5 by omega) e
    omega
  have hlen : (keysE w.ledgers).length = v.saga.steps.length := by
    have hp := ((List.perm_ext_iff_of_nodup hnd hK).2 fun x => ⟨fun hx => ?_, fun hx => ?_⟩).length_eq
    · rw [hp, List.length_map, List.length_range]
    · obtain ⟨g, hg, hx⟩ := List.mem_flatMap.1 hx
      obtain ⟨e, he, rfl⟩ := List.mem_map.1 hx
      obtain ⟨n, hn, _, q1, _⟩ := own g hg e he
      exact List.mem_map.2 ⟨n, List.mem_range.2 hn, q1.symm⟩
    · obtain ⟨n, hn, rfl⟩ := List.mem_map.1 hx
      have hn' := List.mem_range.1 hn
      obtain ⟨st, g, e1, e2, e3, e4, e5, _⟩ := h.sound hm hn'
      have hd := (hsnd.e hst n hn').1
      rw [e4, hasK, List.any_eq_true] at hd
      obtain ⟨e, he, hk⟩ := hd
      exact List.mem_flatMap.2 ⟨g, List.mem_of_getElem? e2, List.mem_map.2 ⟨e, he, by simpa using hk⟩⟩
  rw [countsW, cntL_all (fun g hg e he => by obtain ⟨_, _, q, _⟩ := own g hg e he; exact q) (by simp only; omega) (by simp only; omega), hlen]
  simp
end Go.Rx

/- Made worlds, run by the kernel: commits. -/
set_option linter.unusedVariables false
set_option linter.unusedSimpArgs false
namespace Go.Rx
end Go.Rx

/- A made saga whose answer is lost once, wherever it crashes: plain. -/
set_option linter.unusedVariables false
set_option linter.unusedSimpArgs false
namespace Go.Rx
theorem crash_made : (List.range 5).all (fun k => (madeW (k + 1) [0, 3]).2) = true := by kernel_rfl
/-- What holds from step to step. -/
structure CAll (n : Nat) (w : Wd) (tb : Int) (i : Int) : Prop where
  k : KInv w tb
  c : CInv n w
  d : CD 1000 w
  clock : w.clock ≤ i
theorem CAll.made {n : Nat} (h1 : 1 ≤ n) (h5 : n ≤ 5) : CAll n (madeW n [0, 3]).1 0 0 ∧ (madeW n [0, 3]).2 = true := by
  have hm := List.all_eq_true.1 crash_made (n - 1) (List.mem_range.2 (by omega))
  rw [show n - 1 + 1 = n by omega] at hm
  refine ⟨?_, hm⟩
  have hm' := hm
  simp only [madeW, Bool.and_eq_true, beq_iff_eq] at hm'
  obtain ⟨e1, e2, _, e4⟩ := hm'
  have hK := KInv.news e1
  have hb := hK.begins (Int.le_refl 0) e2
  show CAll n (madeX n [0, 3]).1 0 0
  have hr : (readyW (newWd 9000 [0, 3]).1 (madeR n)).2 = 0 := by
    have e2' : (beginWd (newWd 9000 [0, 3]).1 (madeR n)).2 = 0 := e2
    rw [beginWd] at e2'
    split at e2'
    · assumption
    · exact e2'
  have hB := (readyW_may hr).2.1
  have hw : (newWd 9000 [0, 3]).1 = ⟨0, (newF 9000).1, newL, [], [0, 3], 0⟩ := by
    have e1' := e1
    rw [newWd] at e1' ⊢
    split at e1'
    · rename_i q1
      rw [if_pos q1]
      split at e1'
      · rename_i q2; rw [if_pos q2]
      · cases e1'
    · rename_i q1; exact absurd e1' q1
  have hx : (madeX n [0, 3]).1 = { (newWd 9000 [0, 3]).1 with file := (crashP (readyW (newWd 9000 [0, 3]).1 (madeR n)).1 (readyW (newWd 9000 [0, 3]).1 (madeR n)).1.tail.size).1, lives := (newWd 9000 [0, 3]).1.lives ++ [⟨(beginS (madeR n)).1, 0, (newWd 9000 [0, 3]).1.clock, zRec, false⟩] } := by
    rw [madeX, beginWd, if_pos hr]
  have hlv : (madeX n [0, 3]).1.lives = [⟨newS (madeR n), 0, 0, zRec, false⟩] := by rw [hx, hw, begin_newS hB]; rfl
  have hcl : (madeX n [0, 3]).1.clock = 0 := by rw [hx, hw]
  refine ⟨hb.1, ⟨by rw [hx, hw], by rw [hlv]; rfl, fun v hv => ?_⟩, fun v hv hs => ?_, by rw [hcl]; exact Int.le_refl _⟩
  · rw [hlv] at hv
    have : v = ⟨newS (madeR n), 0, 0, zRec, false⟩ := by simpa using hv
    subst this
    refine ⟨⟨rfl, .inl rfl, .inl rfl, by show (0 : Int) ≤ 1; omega, fun _ => Int.le_refl _⟩, ?_⟩
    show ((List.range n).map madeStep).length = n
    rw [List.length_map, List.length_range]
  · rw [hlv] at hv
    have : v = ⟨newS (madeR n), 0, 0, zRec, false⟩ := by simpa using hv
    subst this
    rw [hcl]
    exact ⟨.inl (Int.le_refl 0), fun _ => by omega⟩
theorem CAll.step {n : Nat} {w : Wd} {tb i : Int} (h : CAll n w tb i) (ht : tb ≤ 500000) (hi : 0 ≤ i ∧ i ≤ 100) :
    ((stepWd w).2 = 0 ∧ CAll n (stepWd w).1 (tb + 2000) (i + 1)) ∨ ((stepWd w).2 = 3 ∧ (tickWd w).2 = 0 ∧ CAll n (tickWd w).1 (tb + 2000) (i + 1)) := by
  have hmay := h.k.may (show tb ≤ 1073741824 by omega)
  have hcl := h.clock
  have hc0 := h.k.inv.c0
  rcases h.k.goes (by omega) with e | e
  · left
    have hs : stepWd w = ((stepW w).1, 0) := by rw [stepWd, if_pos hmay, if_pos e]
    have hk := h.k.stepped (show tb ≤ 1000000 by omega) (by rw [hs])
    have hw := h.c.went h.d h.k.inv (by omega) (h.k.inv.went (by omega) e)
    rw [hs] at hk ⊢
    exact ⟨rfl, hk.1, hw.1, hw.2.1, by have := hw.2.2.2; show (stepW w).1.clock ≤ i + 1; omega⟩
  · right
    have e3 : stepW w = (w, 3) := by rw [stepW, e]
    have hs : stepWd w = (zWd, 3) := by rw [stepWd, if_pos hmay, e3, if_neg (show ¬ (3 : Int) = 0 by decide)]
    obtain ⟨W, hT, hKW⟩ := h.c.tick h.k (by omega) (by omega) (h.d.next ⟨hc0, by omega⟩ e)
    rw [hs, hT.is]
    exact ⟨rfl, hT.goes, hKW, hT.c, hT.d, by rw [hT.clock]; omega⟩
theorem CAll.crash {n : Nat} {w : Wd} {tb i : Int} (h : CAll n w tb i) (ht : 0 ≤ tb ∧ tb ≤ 500000) (keep : Int) :
    CInv n (crashWd w keep).1 ∧ (crashWd w keep).1.clock = w.clock ∧ ∀ v ∈ (crashWd w keep).1.lives, v.saga.status = 0 → v.due ≤ (crashWd w keep).1.clock := by
  have hb := h.k.may (show tb ≤ 1073741824 by omega)
  obtain ⟨A, y, hj⟩ := h.k.jrn
  have hfile : w.file = ⟨catR (A.take y), catR (A.drop y), w.file.cap⟩ := by rw [← hj.safe, ← hj.tail]
  have hfb := h.k.inv.file
  rw [hfile] at hfb
  obtain ⟨m, x, m1, m2, m3, m4, m5, m6⟩ := jcrash hj.good hj.le hfb keep
  rw [← hfile] at m3
  obtain ⟨z, z1, z2, z3⟩ := hj.pre m m2 m1
  have hall : (A.take m).all recB = true := List.all_eq_true.2 fun r hr => (hj.good r (List.mem_of_mem_take hr)).b
  have hof : ofP (A.take m) = (z, 0) := by rw [ofP, if_pos hall, z1]
  have e : crashWd w keep = ({ w with file := ⟨catR (A.take m), ⟨#[]⟩, w.file.cap⟩, lives := freshL w.clock z }, 0) := by
    rw [crashWd, if_pos hb, m3, m5, if_pos rfl, hof, if_pos rfl]
  rw [e]
  refine ⟨⟨h.c.outs, ?_, fun v hv => ?_⟩, rfl, fun v hv _ => ?_⟩
  · show (freshL w.clock z).length = 1
    rw [freshL, List.length_map, z2.len, h.c.len]
  · obtain ⟨k, hk⟩ := List.getElem?_of_mem (show v ∈ freshL w.clock z from hv)
    obtain ⟨f1, f2⟩ := fresh_at hk
    have hkl : k < w.lives.length := by rw [← z2.len]; exact (List.getElem?_eq_some_iff.1 f1).1
    have hu := List.getElem?_eq_getElem hkl
    have hum := List.getElem_mem hkl
    generalize w.lives[k] = u at hu hum
    obtain ⟨c1, c2⟩ := h.c.each u hum
    rw [f2]
    rcases z2.is k u _ hu f1 with q | ⟨q1, q2⟩
    · rw [q]
      exact ⟨⟨c1.bk, c1.st, .inl rfl, by show (0 : Int) ≤ 1; omega, fun _ => Int.le_refl _⟩, c2⟩
    · have hlv := h.k.inv.lives u hum
      have hkk : ¬ u.write.kind = 0 := fun e0 => by
        rcases hlv.wr with w1 | w1
        · rw [w1.2] at q1; cases q1
        · have := rec_kind w1.2.1; omega
      obtain ⟨g1, g2, g3, g4⟩ := hlv.fits hkk
      have hn := c1.next (nx_of (h.k.inv.saga hum) g1 g2) w.clock
      rw [q2]
      exact ⟨hn.1, by show (nextS u.saga u.write).steps.length = n; rw [hn.2]; exact c2⟩
  · obtain ⟨k, hk⟩ := List.getElem?_of_mem (show v ∈ freshL w.clock z from hv)
    rw [(fresh_at hk).2]
    exact Int.le_refl _
/-- Behind a crash and so many ticks. -/
structure CEnd (n : Nat) (W : Wd) : Prop where
  k : KInv W 1000000
  one : ∃ v, W.lives = [v] ∧ v.saga.status = 1
  counts : countsW W = ((n : Int), 0)
theorem CAll.ends {n : Nat} {w : Wd} {tb i : Int} (h : CAll n w tb i) (ht : 0 ≤ tb ∧ tb ≤ 500000) (hi : i ≤ 100) (keep : Int) :
    (ticksW 24 (crashWd w keep).1).2 = true ∧ TicksIn 24 (crashWd w keep).1 ∧ CEnd n (ticksW 24 (crashWd w keep).1).1 := by
  obtain ⟨c1, c2, c3⟩ := h.crash ht keep
  obtain ⟨k1, k2, _⟩ := h.k.crashed ⟨ht.1, by omega⟩ keep
  have hcl := h.clock
  obtain ⟨t1, t2, t3, t4, t5⟩ := c1.ticks1 (w := (crashWd w keep).1) 23 k2 (by omega) c3 (by omega) (by omega)
  have hlen := t4.len
  obtain ⟨v, hv⟩ : ∃ v, (ticksW (23 + 1) (crashWd w keep).1).1.lives = [v] := by
    match hL : (ticksW (23 + 1) (crashWd w keep).1).1.lives with
    | [] => rw [hL] at hlen; cases hlen
    | [v] => exact ⟨v, rfl⟩
    | _ :: _ :: _ => rw [hL] at hlen; simp at hlen
  have hvm : v ∈ (ticksW (23 + 1) (crashWd w keep).1).1.lives := by rw [hv]; exact List.mem_cons_self ..
  have hst := t5 v hvm
  refine ⟨t1, t2, t3.more (by omega), ⟨v, hv, hst⟩, ?_⟩
  rw [t3.counts hv hst, (t4.each v hvm).2]
end Go.Rx

/- The law of crashes behind each step. -/
set_option linter.unusedVariables false
set_option linter.unusedSimpArgs false
set_option maxRecDepth 8000
namespace Go.Proofs.YtfjllfjmggooeaaGreatDoor.Rx
open Go.Rx Go.Proofs Go.Proofs.YtfjllfjmggooeaaGreatDoor.RxH
set_option maxHeartbeats 8000000 in
theorem keepsCrashes_con (p : WScript) (h : p.Ok) : Con P 8 [encWScript p] (Bl true) [] := by
  have hlm : (p.l.map WAct.enc).length = p.l.length := List.length_map ..
  have hll := h.len
  obtain ⟨n, hn⟩ : ∃ n : Nat, n = 1 + p.l.length % 5 := ⟨_, rfl⟩
  have hn5 : 1 ≤ n ∧ n ≤ 5 := by omega
  obtain ⟨hA, hmay⟩ := CAll.made hn5.1 hn5.2
  have cm := made_con n (by omega) [0, 3] (by decide) (madeX_ok n (by omega) [0, 3])
  have en : IntKind.i64.wrap (1 + ((p.l.map WAct.enc).length : Int) % 5) = (n : Int) := by rw [wrapI (by omega)]; omega
  rw [← en] at cm
  generalize madeW n [0, 3] = x at cm hA hmay
  obtain ⟨w0, b⟩ := x
  simp only at hA hmay
  subst hmay
  refine Con.of T_ok Tryz.func8 rfl (by kernel_rfl) (by kernel_rfl) (aw_of T_ok (by kernel_rfl) ?_)
  conv => whnf
  refine .inl ⟨by omega, by decide, by omega, ?_⟩
  conv => whnf
  refine ⟨rfl, ?_⟩
  conv => whnf
  refine callU cm (fun _ => rfl) ?_
  conv => whnf
  refine AW.loop (fun q : Nat × Wd => q.1 ≤ 60 ∧ CAll n q.2 (2000 * (q.1 : Int)) (q.1 : Int)) (fun q => [(1, .lf (.ptr 0 0)), (3, Go.Rx.I n), (4, .lf (.ptr 2 0)), (6, Go.Rx.I q.1)]) (fun q => [scrV p, .frz 1 (intRows [0, 3]), .var q.2.lfs]) (fun q => 60 - q.1) [] ?_ ?_
  · exact ⟨(0, w0), ⟨Nat.zero_le _, hA⟩, ⟨rfl, by rw [← en]; rfl, rfl, rfl, trivial⟩, ⟨[], rfl⟩, rfl, rfl⟩
  rintro ⟨i, w⟩ ⟨hi, hA⟩
  simp only at hi hA
  have wi : IntKind.i64.wrap ((i : Int) + 1) = ((i + 1 : Nat) : Int) := wrapI (by omega)
  have hw := hA.k.inv.wok
  have hb := hA.k.may (show 2000 * (i : Int) ≤ 1073741824 by omega)
  refine aw_of T_ok (by kernel_rfl) ?_
  conv => whnf
  split <;> rename_i hlt <;> conv => whnf
  rotate_left
  · have cf := file9_con w.file hw.file
    rw [hA.k.inv.file] at cf
    refine callS cf rfl ?_
    conv => whnf
    refine callS wakes16_con rfl ?_
    conv => whnf
    exact finB ⟨rfl⟩
  have hil : i < 60 := by have : (i : Int) < 60 := of_decide_eq_true hlt
                          omega
  refine AW.loop (fun k : Nat => k ≤ 5) (fun k => [(1, .lf (.ptr 0 0)), (3, Go.Rx.I n), (4, .lf (.ptr 2 0)), (6, Go.Rx.I i), (7, Go.Rx.I ((6 * k : Nat) : Int))]) (fun k => [scrV p, .frz 1 (intRows [0, 3]), .var w.lfs]) (fun k => 5 - k) [] ?_ ?_
  · exact ⟨0, Nat.zero_le _, ⟨rfl, rfl, rfl, rfl, rfl, trivial⟩, ⟨[], rfl⟩, rfl, rfl⟩
  intro k hk
  have wk : IntKind.i64.wrap (((6 * k : Nat) : Int) + 6) = ((6 * (k + 1) : Nat) : Int) := by rw [wrapI (by omega)]; omega
  refine aw_of T_ok (by kernel_rfl) ?_
  conv => whnf
  split <;> rename_i hlt2 <;> conv => whnf
  rotate_left
  · -- a step, or a tick
    have cs := stepWd_con w hw (fun _ => hA.k.stepGo (by omega))
    have ct := tickWd_con w hw (hA.k.tickGo (by omega))
    rcases hA.step (by omega) ⟨by omega, by omega⟩ with ⟨e1, hA2⟩ | ⟨e1, e2, hA2⟩
    · generalize stepWd w = g at cs e1 hA2
      obtain ⟨g, e⟩ := g
      simp only at e1 hA2
      subst e1
      have hA3 : CAll n g (2000 * ((i + 1 : Nat) : Int)) ((i + 1 : Nat) : Int) := by
        rw [show 2000 * ((i + 1 : Nat) : Int) = 2000 * (i : Int) + 2000 by omega, show ((i + 1 : Nat) : Int) = (i : Int) + 1 by omega]; exact hA2
      have cw := world16_con g hA2.k.inv.wok
      rw [hA2.k.may (by omega)] at cw
      refine callU cs (fun _ => rfl) ?_
      conv => whnf
      refine callS (num16_con 0) rfl ?_
      conv => whnf
      refine callS (num16_con 0) rfl ?_
      conv => whnf
      refine callS cw rfl ?_
      conv => whnf
      exact ⟨(i + 1, g), ⟨⟨hil, hA3⟩, by simp only; omega⟩, ⟨rfl, rfl, rfl, congrArg Go.Rx.I wi, trivial⟩, ⟨[_], rfl⟩, rfl, rfl⟩
    · generalize stepWd w = g0 at cs e1
      obtain ⟨g0, e⟩ := g0
      simp only at e1
      subst e1
      generalize tickWd w = g at ct e2 hA2
      obtain ⟨g, e⟩ := g
      simp only at e2 hA2
      subst e2
      have hA3 : CAll n g (2000 * ((i + 1 : Nat) : Int)) ((i + 1 : Nat) : Int) := by
        rw [show 2000 * ((i + 1 : Nat) : Int) = 2000 * (i : Int) + 2000 by omega, show ((i + 1 : Nat) : Int) = (i : Int) + 1 by omega]; exact hA2
      have cw := world16_con g hA2.k.inv.wok
      rw [hA2.k.may (by omega)] at cw
      refine callU cs (fun _ => rfl) ?_
      conv => whnf
      refine callS (num16_con 3) rfl ?_
      conv => whnf
      refine callU ct (fun _ => rfl) ?_
      conv => whnf
      refine callS (num16_con 0) rfl ?_
      conv => whnf
      refine callS cw rfl ?_
      conv => whnf
      exact ⟨(i + 1, g), ⟨⟨hil, hA3⟩, by simp only; omega⟩, ⟨rfl, rfl, rfl, congrArg Go.Rx.I wi, trivial⟩, ⟨[_], rfl⟩, rfl, rfl⟩
  have hk5 : k < 5 := by have : ((6 * k : Nat) : Int) ≤ 24 := of_decide_eq_true hlt2
                         omega
  -- a crash
  obtain ⟨x, l, f, z, h1, h2, h3, h4, h5, h6, h7, h8⟩ := hA.k.crashIn (show 2000 * (i : Int) ≤ 1000000 by omega) ((6 * k : Nat) : Int)
  have cs := crashWd_con w hw hb ((6 * k : Nat) : Int) x l f z h1 h2 h3 h4 h5 h6 h7
  rw [← h8] at cs
  obtain ⟨s1, s2, _⟩ := hA.k.crashed (show 0 ≤ 2000 * (i : Int) ∧ 2000 * (i : Int) ≤ 1000000 by omega) ((6 * k : Nat) : Int)
  obtain ⟨t1, t2, t3⟩ := hA.ends ⟨by omega, by omega⟩ (by omega) ((6 * k : Nat) : Int)
  have hc1 := (hA.crash ⟨by omega, by omega⟩ ((6 * k : Nat) : Int)).1.len
  clear h1 h2 h3 h4 h5 h6 h7 h8
  generalize crashWd w ((6 * k : Nat) : Int) = g at cs s1 s2 t1 t2 t3 hc1
  obtain ⟨g, e⟩ := g
  simp only at s1 s2 t1 t2 t3 hc1
  subst s1
  have cw := world16_con g s2.inv.wok
  rw [s2.may (by omega)] at cw
  have csd := sound_con g s2.inv.wok s2
  have ctk := ticks_con 24 g (by omega) t2
  generalize ticksW 24 g = W at ctk t1 t3
  obtain ⟨W, b⟩ := W
  simp only at t1 t3
  subst t1
  have csd2 := sound_con W t3.k.inv.wok t3.k
  have cc := counts_con W t3.k.inv.wok
  rw [t3.counts] at cc
  obtain ⟨v, hv, hst⟩ := t3.one
  have hgl : (g.lives.map Live.enc).length = 1 := by rw [List.length_map]; exact hc1
  refine callU cs (fun _ => rfl) ?_
  conv => whnf
  refine callS (num16_con 0) rfl ?_
  conv => whnf
  refine callS cw rfl ?_
  conv => whnf
  split <;> rename_i q1 <;> conv => whnf
  · exfalso
    have q2 : ((((g.lives.map Live.enc).length : Nat) : Int) != 1) = true := q1
    rw [hgl] at q2; cases q2
  refine callS csd rfl ?_
  conv => whnf
  refine callU ctk (fun _ => rfl) ?_
  conv => whnf
  refine callS cc rfl ?_
  conv => whnf
  refine callS csd2 rfl ?_
  conv => whnf
  have hrow : (W.lives.map Live.enc)[(0 : Int).toNat]? = some v.enc := by rw [hv]; rfl
  refine ⟨by decide, _, hrow, ?_⟩
  conv => whnf
  split <;> rename_i q1 <;> conv => whnf
  · exfalso
    have q2 : (v.saga.status != 1) = true := q1
    rw [hst] at q2; cases q2
  split <;> rename_i q3 <;> conv => whnf
  · exfalso
    have q2 : ((n : Int) != (n : Int)) = true := q3
    simp at q2
  exact ⟨k + 1, ⟨by omega, by omega⟩, ⟨rfl, rfl, rfl, rfl, congrArg Go.Rx.I wk, trivial⟩, ⟨[_], rfl⟩, rfl, rfl⟩
end Go.Proofs.YtfjllfjmggooeaaGreatDoor.Rx

/- The world with which the law of ends begins: plain. -/
set_option linter.unusedVariables false
set_option linter.unusedSimpArgs false
namespace Go.Rx
def endDue (c : Int) (v : Live) : Int := if IntKind.i64.wrap (c + 8) < v.due then IntKind.i64.wrap (c + 8) else v.due
def endLive (c : Int) (v : Live) : Live := { v with due := endDue c v }
def endOut (o : Int) : Int := if (o != 1) = true then 0 else o
def endW (w : Wd) : Wd := ⟨within w.clock 1000, ⟨w.file.safe, w.file.tail, 60000⟩, w.ledgers, w.lives.map (endLive (within w.clock 1000)), w.outs.map endOut, within w.taken 1000⟩
def pendGo : List Live → Int → Int
  | [], n => n
  | v :: l, n => pendGo l (if (v.saga.status == 0) = true then IntKind.i64.wrap (n + 1) else n)
theorem pend_go {l : List Live} {k : Nat} {n : Int} (h : k < l.length) : pendGo (l.drop k) n = pendGo (l.drop (k + 1)) (if (l[k].saga.status == 0) = true then IntKind.i64.wrap (n + 1) else n) := by rw [List.drop_eq_getElem_cons h, pendGo]
theorem pend_end {l : List Live} {k : Nat} {n : Int} (h : l.length ≤ k) : pendGo (l.drop k) n = n := by rw [List.drop_of_length_le h, pendGo]
theorem pend_bd : ∀ {l : List Live} {n : Int}, 0 ≤ n → n + l.length ≤ 1000000 → n ≤ pendGo l n ∧ pendGo l n ≤ n + l.length ∧ (pendGo l n = n → l.any (fun v => v.saga.status == 0) = false)
  | [], n, h0, h1 => by simp [pendGo]
  | v :: l, n, h0, h1 => by
    rw [List.length_cons] at h1 ⊢
    rw [pendGo, List.any_cons]
    cases hs : (v.saga.status == 0) with
    | true =>
      rw [if_pos rfl, wrapI (by omega)]
      have ih := pend_bd (l := l) (n := n + 1) (by omega) (by omega)
      exact ⟨by omega, by omega, fun e => by omega⟩
    | false =>
      rw [if_neg (by decide)]
      have ih := pend_bd (l := l) (n := n) h0 (by omega)
      exact ⟨ih.1, by omega, fun e => by rw [Bool.false_or]; exact ih.2.2 e⟩
theorem sumR_sumI : ∀ l : List Live, sumI (fun v => roomI v.saga) l = sumR (sagasL l)
  | [] => rfl
  | v :: l => by
    have ih := sumR_sumI l
    show roomI v.saga + sumI (fun v => roomI v.saga) l = roomI v.saga + sumR (sagasL l)
    rw [ih]
theorem sumI_map {f g : Live → Int} {e : Live → Live} (h : ∀ v, f (e v) = g v) : ∀ l : List Live, sumI f (l.map e) = sumI g l
  | [] => rfl
  | v :: l => by
    show f (e v) + sumI f (l.map e) = g v + sumI g l
    rw [h, sumI_map h l]
theorem end_inv {w : Wd} (h : worldB w = true) (hneed : roomGo w.lives 0 ≤ roomF ⟨w.file.safe, w.file.tail, 60000⟩) (hl : ∀ g ∈ w.ledgers, g.entries.length ≤ 30 ∧ g.known.length ≤ 100) :
    EInv (endW w) ∧ DInv ((endW w).clock + 8) (endW w) := by
  have hi := worldB_iff.1 h
  have hc := within_lt (i := w.clock) (n := 1000) (by decide)
  have hk := within_lt (i := w.taken) (n := 1000) (by decide)
  have hlen := hi.len
  have hw8 : IntKind.i64.wrap (within w.clock 1000 + 8) = within w.clock 1000 + 8 := wrapI (by omega)
  have hdue : ∀ v : Live, 0 ≤ v.due → 0 ≤ endDue (within w.clock 1000) v ∧ endDue (within w.clock 1000) v ≤ within w.clock 1000 + 8 ∧ endDue (within w.clock 1000) v ≤ v.due := fun v h0 => by
    unfold endDue
    rw [hw8]
    split <;> omega
  have hsg : sagasL (w.lives.map (endLive (within w.clock 1000))) = sagasL w.lives := by
    rw [sagasL, sagasL, List.map_map]; rfl
  have hf := fileB_iff.1 hi.file
  have hfile : fileB ⟨w.file.safe, w.file.tail, 60000⟩ = true := fileB_iff.2 ⟨by show (1 : Int) ≤ 60000; decide, by show (60000 : Int) ≤ 60000; decide, by have := hf.2.1; have := hf.2.2; show (w.file.safe.size : Int) + w.file.tail.size ≤ (60000 : Int); omega⟩
  have hbd : ∀ v ∈ w.lives, 0 ≤ roomI v.saga ∧ roomI v.saga ≤ 408 := fun v hv => room_bd (hi.saga hv)
  rw [roomGo_eq hbd (Int.le_refl 0) (by omega)] at hneed
  have hinv : WInv (endW w) 1073741824 := by
    refine ⟨hc.1, by show within w.clock 1000 ≤ _; omega, hk.1, by show within w.taken 1000 ≤ _; omega, ?_, ?_, hfile, hi.ledgers, ?_, fun v hv => ?_⟩
    · show (w.outs.map endOut).length ≤ 400
      rw [List.length_map]; exact hi.ol
    · rw [List.any_eq_false]
      intro o ho
      obtain ⟨o', ho', rfl⟩ := List.mem_map.1 (show o ∈ w.outs.map endOut from ho)
      unfold endOut
      split
      · decide
      · rename_i hne
        have e : o' = 1 := by simpa using hne
        rw [e]; decide
    · show togB (sagasL (w.lives.map (endLive (within w.clock 1000)))) = true
      rw [hsg]; exact hi.tog
    · obtain ⟨u, hu, rfl⟩ := List.mem_map.1 (show v ∈ w.lives.map (endLive (within w.clock 1000)) from hv)
      have hlv := hi.lives u hu
      have hd := hdue u hlv.d0
      have hd1 := hlv.d1
      exact ⟨hlv.t0, hlv.t1, hd.1, by show endDue (within w.clock 1000) u ≤ _; omega, hlv.wr⟩
  have hlen2 : ((w.lives.map (endLive (within w.clock 1000))).length : Int) = w.lives.length := by rw [List.length_map]
  refine ⟨⟨hinv, fun o ho => ?_, ?_, fun g hg => ?_, fun g hg => ?_, ?_⟩, fun v hv _ => ?_⟩
  · obtain ⟨o', ho', rfl⟩ := List.mem_map.1 (show o ∈ w.outs.map endOut from ho)
    unfold endOut
    split
    · exact .inl rfl
    · rename_i hne; right; simpa using hne
  · show sumI frI (w.lives.map (endLive (within w.clock 1000))) ≤ roomF ⟨w.file.safe, w.file.tail, 60000⟩
    have e1 : sumI frI (w.lives.map (endLive (within w.clock 1000))) = sumI frI w.lives := sumI_map (fun _ => rfl) _
    have e2 : sumI frI w.lives ≤ sumI (fun v => roomI v.saga) w.lives := sumI_le fun v hv => by
      have hr := room_eq (parts_iff.1 (hi.saga hv))
      unfold frI
      show _ ≤ roomI v.saga
      rw [hr]
      split
      · split <;> omega
      · omega
    rw [sumR_sumI] at e2
    omega
  · have h1 := (hl g hg).1
    have h2 : sumI (pot (endW w).ledgers) (endW w).lives ≤ 8 * (endW w).lives.length := sumI_bd fun v hv => (pot_ge _ v (hinv.saga hv)).2
    have h3 : ((endW w).lives.length : Int) = w.lives.length := hlen2
    omega
  · have h1 := (hl g hg).2
    have h2 : sumI kn (endW w).lives ≤ 10 * (endW w).lives.length := sumI_bd fun v hv => (hinv.kn0 hv).2
    have h3 : ((endW w).lives.length : Int) = w.lives.length := hlen2
    omega
  · have h2 : sumI mu (endW w).lives ≤ 51 * (endW w).lives.length := sumI_bd fun v hv => (mu_ge (hinv.saga hv)).2
    have h3 : ((endW w).lives.length : Int) = w.lives.length := hlen2
    show within w.taken 1000 + sumI mu (endW w).lives ≤ 3000
    omega
  · obtain ⟨u, hu, rfl⟩ := List.mem_map.1 (show v ∈ w.lives.map (endLive (within w.clock 1000)) from hv)
    left
    exact (hdue u (hi.lives u hu).d0).2.1
end Go.Rx

/- The law of ends. -/
set_option linter.unusedVariables false
set_option linter.unusedSimpArgs false
set_option maxRecDepth 8000
namespace Go.Rx
theorem set_next2 {α β : Type} {e e' : α → β} {l : List α} {k : Nat} (h : k < l.length) : ((l.take k).map e' ++ (l.drop k).map e).set k (e' l[k]) = (l.take (k + 1)).map e' ++ (l.drop (k + 1)).map e := by
  have h1 : ((l.take k).map e').length = k := by rw [List.length_map, List.length_take]; omega
  rw [List.set_append_right _ _ (by omega), h1, Nat.sub_self, List.drop_eq_getElem_cons h, List.take_succ_eq_append_getElem h, List.map_append, List.map_cons, List.set_cons_zero, List.append_assoc]
  rfl
theorem get_next2 {α β : Type} {e e' : α → β} {l : List α} {k : Nat} (h : k < l.length) : ((l.take k).map e' ++ (l.drop k).map e)[k]? = some (e l[k]) := by
  have h1 : ((l.take k).map e').length = k := by rw [List.length_map, List.length_take]; omega
  rw [List.getElem?_append_right (by omega), h1, Nat.sub_self, List.drop_eq_getElem_cons h]; rfl
end Go.Rx
namespace Go.Proofs.YtfjllfjmggooeaaGreatDoor.Rx
open Go.Rx Go.Proofs Go.Proofs.YtfjllfjmggooeaaGreatDoor.RxH
theorem heavy14Z_con : Con P 22 [.agg [.pv (encRecs []), .pv (encStrs []), .pv (encInts []), .pv (encSagas [])]] (Bl false) [] := by
  have c := heavy11V_con [] [] [] (by decide) (fun r hr => (List.not_mem_nil hr).elim) (by decide)
  have e : heavy11B [] [] [] = false := by decide
  rw [e] at c
  refine Con.of T_ok Tryz.func22 rfl (by kernel_rfl) (by kernel_rfl) (aw_of T_ok (by kernel_rfl) ?_)
  conv => whnf
  refine AW.loop (fun _ : Unit => True) (fun _ => [(1, .lf (.ptr 0 0)), (3, Go.Rx.I 0), (4, Go.Rx.I 0)]) (fun _ => [.var [.pv (encRecs []), .pv (encStrs []), .pv (encInts []), .pv (encSagas [])]]) (fun _ => 0) [] ?_ ?_
  · exact ⟨(), trivial, ⟨rfl, rfl, rfl, trivial⟩, ⟨[], rfl⟩, rfl, rfl⟩
  rintro _ _
  refine aw_of T_ok (by kernel_rfl) ?_
  conv => whnf
  refine callS c rfl ?_
  conv => whnf
  exact finB ⟨rfl⟩
/-- The world at hand, its slices the call's own: the blocks behind the script's. -/
abbrev endB (p : WScript) (c f3 t : PV) (R : List (List PV)) (O : List (List PV)) : List Blk :=
  [scrV p, .arr 47 3 (p.w.ledgers.map Ledger.enc), .arr 44 18 R, .arr 3 1 O, .var [.pv c, .pv (pS p.w.file.safe), .pv (pS p.w.file.tail), .pv f3, .own 1 p.w.ledgers.length, .own 2 p.w.lives.length, .own 3 p.w.outs.length, .pv t]]
set_option maxHeartbeats 8000000 in
theorem worldEnds_con (p : WScript) (h : p.Ok) : Con P 3 [encWScript p] (Bl true) [] := by
  obtain ⟨hv, ch⟩ := heavy16_con p h
  have cw := world16_con p.w h.w
  have cf := fun hb => free9_con p.w.file h.w.file hb
  have cc := copyWorldO_con p.w h.w
  have hgm : (p.w.ledgers.map Ledger.enc).length = p.w.ledgers.length := List.length_map ..
  have hgl := h.w.gl
  have hll := h.w.ll
  have hol := h.w.ol
  refine Con.of T_ok Tryz.func3 rfl (by kernel_rfl) (by kernel_rfl) (aw_of T_ok (by kernel_rfl) ?_)
  conv => whnf
  refine callS ch rfl ?_
  conv => whnf
  cases hv <;> conv => whnf
  rotate_left
  · exact finB ⟨rfl⟩
  refine callS cw rfl ?_
  conv => whnf
  split <;> rename_i hb <;> conv => whnf
  · exact finB ⟨rfl⟩
  have hb' : worldB p.w = true := by have hb2 : (!(worldB p.w)) = false := hb
                                     simpa using hb2
  have cf := cf (worldB_file hb')
  refine callS cf rfl ?_
  conv => whnf
  split <;> rename_i hfr <;> conv => whnf
  · exact finB ⟨rfl⟩
  refine ⟨_, _, _, wk_refl _, cc, .inr ?_⟩
  conv => whnf
  refine callS (within_con p.w.clock 1000 (by decide)) rfl ?_
  conv => whnf
  refine callS (within_con p.w.taken 1000 (by decide)) rfl ?_
  conv => whnf
  have hc := within_lt (i := p.w.clock) (n := 1000) (by decide)
  have hi := worldB_iff.1 hb'
  have hlen := hi.len
  have hbd : ∀ v ∈ p.w.lives, 0 ≤ roomI v.saga ∧ roomI v.saga ≤ 408 := fun v hv => room_bd (hi.saga hv)
  obtain ⟨e', he'⟩ : ∃ e' : Live → List PV, e' = fun v => (endLive (within p.w.clock 1000) v).enc := ⟨_, rfl⟩
  refine AW.loop (fun q : Nat × Int × Int => q.1 ≤ p.w.lives.length ∧ roomGo (p.w.lives.drop q.1) q.2.1 = roomGo p.w.lives 0 ∧ pendGo (p.w.lives.drop q.1) q.2.2 = pendGo p.w.lives 0)
    (fun q => [(1, .lf (.ptr 0 0)), (3, .lf (.ptr 4 0)), (4, Go.Rx.I q.2.2), (5, Go.Rx.I q.2.1), (6, Go.Rx.I q.1)])
    (fun q => endB p (pI (within p.w.clock 1000)) (pI 60000) (pI (within p.w.taken 1000)) ((p.w.lives.take q.1).map e' ++ (p.w.lives.drop q.1).map Live.enc) (intRows p.w.outs)) (fun q => p.w.lives.length - q.1) [] ?_ ?_
  · exact ⟨(0, 0, 0), ⟨Nat.zero_le _, rfl, rfl⟩, ⟨rfl, rfl, rfl, rfl, rfl, trivial⟩, ⟨[], rfl⟩, rfl, rfl⟩
  rintro ⟨k, need, pend⟩ ⟨hk, hneed, hpend⟩
  simp only at hk hneed hpend
  have hrl : ((p.w.lives.take k).map e' ++ (p.w.lives.drop k).map Live.enc).length = p.w.lives.length := by simp; omega
  refine aw_of T_ok (by kernel_rfl) ?_
  conv => whnf
  refine ⟨hrl, ?_⟩
  conv => whnf
  split <;> rename_i hlt <;> conv => whnf
  · have hkl : k < p.w.lives.length := by have : (k : Int) < ((p.w.lives.length : Nat) : Int) := of_decide_eq_true hlt
                                          omega
    have hrow := get_next2 (e := Live.enc) (e' := e') hkl
    have hset := set_next2 (e := Live.enc) (e' := e') hkl
    rw [room_go hkl] at hneed
    rw [pend_go hkl] at hpend
    have hvb := hbd _ (List.getElem_mem hkl)
    generalize p.w.lives[k] = v at hrow hset hneed hpend hvb
    refine ⟨hrl, by omega, by omega, ?_⟩
    conv => whnf
    refine ⟨hrl, rfl, hrl, _, hrow, ?_⟩
    conv => whnf
    refine callS (need9_con v.saga) rfl ?_
    conv => whnf
    refine AW.draw T_ok rfl (seqPl 0 16) (by kernel_rfl) (by kernel_rfl) ?_
    conv => whnf
    refine ⟨hrl, by omega, by omega, ?_⟩
    conv => whnf
    refine ⟨hrl, rfl, hrl, _, hrow, ?_⟩
    conv => whnf
    refine ⟨hrl, by omega, by omega, ?_⟩
    conv => whnf
    refine ⟨hrl, rfl, hrl, _, hrow, by decide, ?_⟩
    conv => whnf
    have hsl : ∀ r, (((p.w.lives.take k).map e' ++ (p.w.lives.drop k).map Live.enc).set k r).length = p.w.lives.length := fun r => by rw [List.length_set]; exact hrl
    have hsr : ∀ r, (((p.w.lives.take k).map e' ++ (p.w.lives.drop k).map Live.enc).set k r)[k]? = some r := fun r => List.getElem?_set_self (by rw [hrl]; exact hkl)
    refine ⟨hsl _, by omega, by omega, ?_⟩
    conv => whnf
    refine ⟨hsl _, hsl _, rfl, hsl _, _, hsr _, ?_⟩
    conv => whnf
    have hev : e' v = (endLive (within p.w.clock 1000) v).enc := by rw [he']
    rw [hev] at hset
    have wk : IntKind.i64.wrap ((k : Int) + 1) = ((k + 1 : Nat) : Int) := wrapI (by omega)
    split <;> rename_i hst <;> conv => whnf
    · have hst' : (v.saga.status == 0) = true := hst
      rw [if_pos hst'] at hpend
      refine ⟨(k + 1, _, _), ⟨⟨by simp only; omega, hneed, hpend⟩, by simp only; omega⟩, ⟨rfl, rfl, rfl, rfl, congrArg Go.Rx.I wk, trivial⟩, ⟨[], ?e1⟩, rfl, rfl⟩
      case e1 =>
        rw [List.append_nil]
        show [_, _, Blk.arr _ _ (List.set _ k (endLive (within p.w.clock 1000) v).enc), _, _] = [_, _, Blk.arr _ _ ((p.w.lives.take (k + 1)).map e' ++ (p.w.lives.drop (k + 1)).map Live.enc), _, _]
        rw [hset]
    · have hst' : (v.saga.status == 0) = false := hst
      rw [if_neg (by rw [hst']; decide)] at hpend
      refine ⟨(k + 1, _, _), ⟨⟨by simp only; omega, hneed, hpend⟩, by simp only; omega⟩, ⟨rfl, rfl, rfl, rfl, congrArg Go.Rx.I wk, trivial⟩, ⟨[], ?e2⟩, rfl, rfl⟩
      case e2 =>
        rw [List.append_nil]
        show [_, _, Blk.arr _ _ (List.set _ k (endLive (within p.w.clock 1000) v).enc), _, _] = [_, _, Blk.arr _ _ ((p.w.lives.take (k + 1)).map e' ++ (p.w.lives.drop (k + 1)).map Live.enc), _, _]
        rw [hset]
  have hkl : p.w.lives.length ≤ k := by have : ¬ (k : Int) < ((p.w.lives.length : Nat) : Int) := of_decide_eq_false hlt
                                        omega
  rw [room_end hkl] at hneed
  rw [pend_end hkl] at hpend
  have hR : (p.w.lives.take k).map e' ++ (p.w.lives.drop k).map Live.enc = (endW p.w).lives.map Live.enc := by
    rw [List.take_of_length_le hkl, List.drop_of_length_le hkl, List.map_nil, List.append_nil, he']
    show _ = (p.w.lives.map (endLive (within p.w.clock 1000))).map Live.enc
    rw [List.map_map]; rfl
  have hRl : ((endW p.w).lives.map Live.enc).length = p.w.lives.length := by rw [← hR]; exact hrl
  clear hrl
  -- the outcomes
  refine AW.loop (fun i : Nat => i ≤ p.w.outs.length) (fun i => [(1, .lf (.ptr 0 0)), (3, .lf (.ptr 4 0)), (4, Go.Rx.I pend), (5, Go.Rx.I need), (7, Go.Rx.I i)])
    (fun i => endB p (pI (within p.w.clock 1000)) (pI 60000) (pI (within p.w.taken 1000)) ((endW p.w).lives.map Live.enc) ((p.w.outs.take i).map (fun o => [pI (endOut o)]) ++ (p.w.outs.drop i).map (fun o => [pI o]))) (fun i => p.w.outs.length - i) [] ?_ ?_
  · exact ⟨0, Nat.zero_le _, ⟨rfl, rfl, rfl, rfl, rfl, trivial⟩, ⟨[], by rw [List.append_nil, ← hR]; rfl⟩, rfl, rfl⟩
  clear hlt hk hkl hR he' e' k
  intro k hk
  have hrl : ((p.w.outs.take k).map (fun o => [pI (endOut o)]) ++ (p.w.outs.drop k).map (fun o => [pI o])).length = p.w.outs.length := by simp; omega
  refine aw_of T_ok (by kernel_rfl) ?_
  conv => whnf
  refine ⟨hrl, ?_⟩
  conv => whnf
  split <;> rename_i hlt <;> conv => whnf
  · have hkl : k < p.w.outs.length := by have : (k : Int) < ((p.w.outs.length : Nat) : Int) := of_decide_eq_true hlt
                                         omega
    have hrow := get_next2 (e := fun o => [pI o]) (e' := fun o => [pI (endOut o)]) hkl
    have hset := set_next2 (e := fun o => [pI o]) (e' := fun o => [pI (endOut o)]) hkl
    have htk : (p.w.outs.take k).map (fun o => [pI (endOut o)]) ++ (p.w.outs.drop k).map (fun o => [pI o]) = (p.w.outs.take k).map (fun o => [pI (endOut o)]) ++ [pI p.w.outs[k]] :: (p.w.outs.drop (k + 1)).map (fun o => [pI o]) := by rw [List.drop_eq_getElem_cons hkl]; rfl
    have htk2 : (p.w.outs.take (k + 1)).map (fun o => [pI (endOut o)]) ++ (p.w.outs.drop (k + 1)).map (fun o => [pI o]) = (p.w.outs.take k).map (fun o => [pI (endOut o)]) ++ [pI (endOut p.w.outs[k])] :: (p.w.outs.drop (k + 1)).map (fun o => [pI o]) := by
      rw [List.take_succ_eq_append_getElem hkl, List.map_append, List.append_assoc]; rfl
    have wk : IntKind.i64.wrap ((k : Int) + 1) = ((k + 1 : Nat) : Int) := wrapI (by omega)
    generalize p.w.outs[k] = o at hrow hset htk htk2
    refine ⟨hrl, by omega, by omega, ?_⟩
    conv => whnf
    refine ⟨rfl, hrl, _, hrow, ?_⟩
    conv => whnf
    split <;> rename_i hne <;> conv => whnf
    · have hne' : (o != 1) = true := hne
      have e0 : endOut o = 0 := by rw [endOut, if_pos hne']
      rw [e0] at hset
      refine ⟨hrl, by omega, by omega, ?_⟩
      conv => whnf
      refine ⟨rfl, hrl, _, hrow, ?_⟩
      conv => whnf
      refine ⟨by decide, ?_⟩
      conv => whnf
      refine ⟨k + 1, ⟨hkl, by omega⟩, ⟨rfl, rfl, rfl, rfl, congrArg Go.Rx.I wk, trivial⟩, ⟨[], ?e1⟩, rfl, rfl⟩
      case e1 =>
        rw [List.append_nil]
        show [_, _, _, Blk.arr _ _ (List.set _ k [pI 0]), _] = [_, _, _, Blk.arr _ _ ((p.w.outs.take (k + 1)).map (fun o => [pI (endOut o)]) ++ (p.w.outs.drop (k + 1)).map (fun o => [pI o])), _]
        rw [hset]
    · have hne' : (o != 1) = false := hne
      have e0 : endOut o = o := by rw [endOut, if_neg (by rw [hne']; decide)]
      rw [e0] at htk2
      refine ⟨k + 1, ⟨hkl, by omega⟩, ⟨rfl, rfl, rfl, rfl, congrArg Go.Rx.I wk, trivial⟩, ⟨[], ?e2⟩, rfl, rfl⟩
      case e2 =>
        rw [List.append_nil]
        show endB _ _ _ _ _ _ = endB _ _ _ _ _ ((p.w.outs.take (k + 1)).map (fun o => [pI (endOut o)]) ++ (p.w.outs.drop (k + 1)).map (fun o => [pI o]))
        rw [htk2, htk]
  have hkl : p.w.outs.length ≤ k := by have : ¬ (k : Int) < ((p.w.outs.length : Nat) : Int) := of_decide_eq_false hlt
                                       omega
  have hO : (p.w.outs.take k).map (fun o => [pI (endOut o)]) ++ (p.w.outs.drop k).map (fun o => [pI o]) = intRows (endW p.w).outs := by
    rw [List.take_of_length_le hkl, List.drop_of_length_le hkl, List.map_nil, List.append_nil]
    show _ = (p.w.outs.map endOut).map _
    rw [List.map_map]; rfl
  have hOl : (intRows (endW p.w).outs).length = p.w.outs.length := by rw [← hO]; exact hrl
  clear hrl
  -- the ledgers
  have hld := ledgersB_iff.1 hi.ledgers
  have cf2 := free9_con (⟨p.w.file.safe, p.w.file.tail, 60000⟩ : FileS) ⟨h.w.file.safe, h.w.file.tail⟩ (fileB_iff.2 ⟨by show (1 : Int) ≤ 60000; decide, by show (60000 : Int) ≤ 60000; decide, by have := fileB_iff.1 hi.file; show (p.w.file.safe.size : Int) + p.w.file.tail.size ≤ (60000 : Int); omega⟩)
  refine AW.loop (fun i : Nat => i ≤ p.w.ledgers.length ∧ (∀ (j : Nat) (g : Ledger), j < i → p.w.ledgers[j]? = some g → g.entries.length ≤ 30 ∧ g.known.length ≤ 100) ∧ (1 ≤ i → need ≤ roomF ⟨p.w.file.safe, p.w.file.tail, 60000⟩)) (fun i => [(1, .lf (.ptr 0 0)), (3, .lf (.ptr 4 0)), (4, Go.Rx.I pend), (5, Go.Rx.I need), (8, Go.Rx.I i)])
    (fun _ => endB p (pI (within p.w.clock 1000)) (pI 60000) (pI (within p.w.taken 1000)) ((endW p.w).lives.map Live.enc) (intRows (endW p.w).outs)) (fun i => p.w.ledgers.length - i) [] ?_ ?_
  · exact ⟨0, ⟨Nat.zero_le _, fun j g hj => absurd hj (Nat.not_lt_zero _), fun h1 => absurd h1 (by decide)⟩, ⟨rfl, rfl, rfl, rfl, rfl, trivial⟩, ⟨[], by rw [List.append_nil, ← hO]⟩, rfl, rfl⟩
  clear hlt hk hkl hO k
  rintro k ⟨hk, hall, hnd⟩
  refine aw_of T_ok (by kernel_rfl) ?_
  conv => whnf
  refine ⟨hgm, ?_⟩
  conv => whnf
  split <;> rename_i hlt <;> conv => whnf
  · have hkl : k < p.w.ledgers.length := by have : (k : Int) < ((p.w.ledgers.length : Nat) : Int) := of_decide_eq_true hlt
                                            omega
    have hrow : (p.w.ledgers.map Ledger.enc)[k]? = some p.w.ledgers[k].enc := by simp [hkl]
    have hkg : p.w.ledgers[k]? = some p.w.ledgers[k] := List.getElem?_eq_getElem hkl
    have wk : IntKind.i64.wrap ((k : Int) + 1) = ((k + 1 : Nat) : Int) := wrapI (by omega)
    generalize p.w.ledgers[k] = g at hrow hkg
    have hem : (g.entries.map Entry.enc).length = g.entries.length := List.length_map ..
    have hkm : (intRows g.known).length = g.known.length := List.length_map ..
    refine ⟨hgm, by omega, by omega, ?_⟩
    conv => whnf
    refine ⟨hgm, rfl, hgm, _, hrow, ?_⟩
    conv => whnf
    split <;> rename_i h1 <;> conv => whnf
    · exact finB ⟨rfl⟩
    have h1' : g.entries.length ≤ 30 := by have : ¬ ((g.entries.map Entry.enc).length : Int) > 30 := of_decide_eq_false h1
                                           omega
    refine ⟨hgm, by omega, by omega, ?_⟩
    conv => whnf
    refine ⟨hgm, rfl, hgm, _, hrow, ?_⟩
    conv => whnf
    split <;> rename_i h2 <;> conv => whnf
    · exact finB ⟨rfl⟩
    have h2' : g.known.length ≤ 100 := by have : ¬ ((intRows g.known).length : Int) > 100 := of_decide_eq_false h2
                                          omega
    refine callS cf2 rfl ?_
    conv => whnf
    split <;> rename_i h3 <;> conv => whnf
    · exact finB ⟨rfl⟩
    have h3' : need ≤ roomF ⟨p.w.file.safe, p.w.file.tail, 60000⟩ := Int.not_lt.1 (of_decide_eq_false h3)
    refine ⟨k + 1, ⟨⟨hkl, fun j g' hj hg' => ?_, fun _ => h3'⟩, by omega⟩, ⟨rfl, rfl, rfl, rfl, congrArg Go.Rx.I wk, trivial⟩, ⟨[], rfl⟩, rfl, rfl⟩
    rcases Nat.lt_or_ge j k with hj2 | hj2
    · exact hall j g' hj2 hg'
    · have : j = k := by omega
      rw [this, hkg] at hg'
      cases hg'
      exact ⟨h1', h2'⟩
  have hkl : k = p.w.ledgers.length := by have : ¬ (k : Int) < ((p.w.ledgers.length : Nat) : Int) := of_decide_eq_false hlt
                                          omega
  subst hkl
  have hneed2 := hnd (by rw [hld.len]; decide)
  rw [hneed] at hneed2
  obtain ⟨hE, hD⟩ := end_inv hb' hneed2 (fun g hg => by
    obtain ⟨j, hj⟩ := List.getElem?_of_mem hg
    exact hall j g (List.getElem?_eq_some_iff.1 hj).1 hj)
  have hpb := pend_bd (l := p.w.lives) (n := 0) (Int.le_refl 0) (by omega)
  rw [← hpend] at hpb
  have hpz : pend = 0 → idleB (endW p.w) = true := fun e => by
    have ha := hpb.2.2 e
    rw [idleB, Bool.not_eq_true', List.any_eq_false]
    intro v hv
    obtain ⟨u, hu, rfl⟩ := List.mem_map.1 (show v ∈ p.w.lives.map (endLive (within p.w.clock 1000)) from hv)
    rw [List.any_eq_false] at ha
    exact ha u hu
  have hcap : ∀ q : Nat, IntKind.i64.wrap (IntKind.i64.wrap (IntKind.i64.wrap (2 * pend) * 5) * 9) = 90 * pend := fun _ => by
    rw [wrapI (show -9223372036854775808 ≤ 2 * pend ∧ 2 * pend ≤ 9223372036854775807 by omega), wrapI (show -9223372036854775808 ≤ 2 * pend * 5 ∧ 2 * pend * 5 ≤ 9223372036854775807 by omega), wrapI (by omega)]; omega
  generalize hc0 : (endW p.w).clock + 8 = D at hD
  clear hlt hk hall hnd hneed2 hneed
  -- the ticks
  have hEw := hE.inv.wok
  have ci0 := idleWd_con (endW p.w) hEw
  have hi0 : idleWd (endW p.w) = (idleB (endW p.w), 0) := by rw [idleWd, if_pos hE.may]
  rw [hi0] at ci0
  have hcl0 : (endW p.w).clock + 8 = D := hc0
  have hclb : (endW p.w).clock ≤ 1000 := by show within p.w.clock 1000 ≤ 1000; omega
  refine AW.loop (fun q : Nat × Wd => q.1 ≤ 8 ∧ EInv q.2 ∧ DInv D q.2 ∧ q.2.clock = (endW p.w).clock + q.1 ∧ (q.1 = 0 → q.2 = endW p.w) ∧ (1 ≤ q.1 → dueI q.2 = none ∧ 1 ≤ pend))
    (fun q => [(1, .lf (.ptr 0 0)), (3, .lf (.ptr 4 0)), (4, Go.Rx.I pend), (9, Go.Rx.I q.1)])
    (fun q => match q.1 with
      | 0 => endB p (pI (within p.w.clock 1000)) (pI 60000) (pI (within p.w.taken 1000)) ((endW p.w).lives.map Live.enc) (intRows (endW p.w).outs)
      | _ + 1 => [scrV p, .frz 3 (p.w.ledgers.map Ledger.enc), .frz 18 ((endW p.w).lives.map Live.enc), .frz 1 (intRows (endW p.w).outs), .var q.2.lfs]) (fun q => 8 - q.1) [] ?_ ?_
  · exact ⟨(0, endW p.w), ⟨Nat.zero_le _, hE, hD, by simp, fun _ => rfl, fun q => absurd q (show ¬ (1 : Nat) ≤ 0 by decide)⟩, ⟨rfl, rfl, rfl, rfl, trivial⟩, ⟨[], rfl⟩, rfl, rfl⟩
  rintro ⟨n, w⟩ ⟨hn, hEn, hDn, hcn, hz, hd⟩
  simp only at hn hEn hDn hcn hz hd
  have wn : IntKind.i64.wrap ((n : Int) + 1) = ((n + 1 : Nat) : Int) := wrapI (by omega)
  have hwok := hEn.inv.wok
  have ci := idleWd_con w hwok
  have hiw : idleWd w = (idleB w, 0) := by rw [idleWd, if_pos hEn.may]
  rw [hiw] at ci
  obtain ⟨t1, t2, t3, t4, t5, t6⟩ := hEn.tick hDn (show w.clock < 1073741824 by omega)
  have ct := tickWd_con w hwok t1.go
  have hid : 8 ≤ n → idleB w = true := fun h8 => idle_of hDn (hd (by omega)).1 (by omega)
  generalize tickWd w = g at ct t2 t3 t4 t5 t6
  obtain ⟨g, e⟩ := g
  simp only at t2 t3 t4 t5 t6
  subst t2
  have hgl2 : (p.w.ledgers.map Ledger.enc).length = p.w.ledgers.length := hgm
  cases n with
  | zero =>
    have hw0 : w = endW p.w := hz rfl
    subst hw0
    clear ci
    refine aw_of T_ok (by kernel_rfl) ?_
    conv => whnf
    split <;> rename_i hlt <;> conv => whnf
    rotate_left
    · have hp0 : pend = 0 := by
        have q : ¬ (((0 : Nat) : Int) < IntKind.i64.wrap (IntKind.i64.wrap (IntKind.i64.wrap (2 * pend) * 5) * 9)) := of_decide_eq_false hlt
        rw [hcap 0] at q
        omega
      rw [hpz hp0] at ci0
      refine ⟨hgm, ?_⟩
      conv => whnf
      refine ⟨hRl, ?_⟩
      conv => whnf
      refine ⟨hOl, ?_⟩
      conv => whnf
      refine callS ci0 rfl ?_
      conv => whnf
      refine callS (num16_con 0) rfl ?_
      conv => whnf
      refine callW heavy14Z_con ⟨.inr (.inr ⟨_, _, rfl, rfl, wkN 6, wkN 1, wkN 1, wkN 9, trivial⟩), trivial⟩ rfl ?_
      conv => whnf
      refine callS wakes16_con rfl ?_
      conv => whnf
      exact finB ⟨rfl⟩
    refine ⟨hgm, ?_⟩
    conv => whnf
    refine ⟨hRl, ?_⟩
    conv => whnf
    refine ⟨hOl, ?_⟩
    conv => whnf
    refine callS ci0 rfl ?_
    conv => whnf
    refine callS (num16_con 0) rfl ?_
    conv => whnf
    cases hib : idleB (endW p.w) <;> rw [hib] at ci0 <;> conv => whnf
    · have hp1 : 1 ≤ pend := by
        rcases Int.lt_or_le 0 pend with q | q
        · omega
        · have := hpz (by omega)
          rw [hib] at this; cases this
      refine ⟨hgm, ?_⟩
      conv => whnf
      refine ⟨hRl, ?_⟩
      conv => whnf
      refine ⟨hOl, ?_⟩
      conv => whnf
      refine callU ct (fun _ => rfl) ?_
      conv => whnf
      refine callS (num16_con 0) rfl ?_
      conv => whnf
      exact ⟨(1, g), ⟨⟨by show 1 ≤ 8; decide, t3, t4, by rw [t5]; rfl, fun q => absurd (show (1 : Nat) = 0 from q) (by decide), fun _ => ⟨t6, hp1⟩⟩, by show 8 - 1 < 8 - 0; decide⟩, ⟨rfl, rfl, rfl, congrArg Go.Rx.I wn, trivial⟩, ⟨[_], rfl⟩, rfl, rfl⟩
    · refine ⟨hgm, ?_⟩
      conv => whnf
      refine ⟨hRl, ?_⟩
      conv => whnf
      refine ⟨hOl, ?_⟩
      conv => whnf
      refine callS ci0 rfl ?_
      conv => whnf
      refine callS (num16_con 0) rfl ?_
      conv => whnf
      refine callW heavy14Z_con ⟨.inr (.inr ⟨_, _, rfl, rfl, wkN 6, wkN 1, wkN 1, wkN 9, trivial⟩), trivial⟩ rfl ?_
      conv => whnf
      refine callS wakes16_con rfl ?_
      conv => whnf
      exact finB ⟨rfl⟩
  | succ n =>
    obtain ⟨hd1, hp1⟩ := hd (by omega)
    refine aw_of T_ok (by kernel_rfl) ?_
    conv => whnf
    split <;> rename_i hlt <;> conv => whnf
    rotate_left
    · exfalso
      have q : ¬ (((n + 1 : Nat) : Int) < IntKind.i64.wrap (IntKind.i64.wrap (IntKind.i64.wrap (2 * pend) * 5) * 9)) := of_decide_eq_false hlt
      rw [hcap 0] at q
      omega
    refine callS ci rfl ?_
    conv => whnf
    refine callS (num16_con 0) rfl ?_
    conv => whnf
    cases hib : idleB w <;> rw [hib] at ci <;> conv => whnf
    · have hn7 : n + 1 < 8 := by
        rcases Nat.lt_or_ge (n + 1) 8 with q | q
        · exact q
        · have := hid q
          rw [hib] at this; cases this
      refine callU ct (fun _ => rfl) ?_
      conv => whnf
      refine callS (num16_con 0) rfl ?_
      conv => whnf
      exact ⟨(n + 2, g), ⟨⟨by show n + 2 ≤ 8; omega, t3, t4, by rw [t5, hcn]; show _ = _ + ((n + 2 : Nat) : Int); omega, fun q => absurd (show n + 2 = 0 from q) (by omega), fun _ => ⟨t6, hp1⟩⟩, by show 8 - (n + 2) < 8 - (n + 1); omega⟩, ⟨rfl, rfl, rfl, congrArg Go.Rx.I wn, trivial⟩, ⟨[_], rfl⟩, rfl, rfl⟩
    · refine callS ci rfl ?_
      conv => whnf
      refine callS (num16_con 0) rfl ?_
      conv => whnf
      refine callW heavy14Z_con ⟨.inr (.inr ⟨_, _, rfl, rfl, wkN 6, wkN 1, wkN 1, wkN 9, trivial⟩), trivial⟩ rfl ?_
      conv => whnf
      refine callS wakes16_con rfl ?_
      conv => whnf
      exact finB ⟨rfl⟩
end Go.Proofs.YtfjllfjmggooeaaGreatDoor.Rx
