/- How much a script is; that something happens at all. -/
import Derived.Test.YtooiiihaijpbaaaRxD10
set_option linter.unusedVariables false
set_option linter.unusedSimpArgs false
namespace Go.Rx
structure LScript where
  g : Ledger
  service : Int
  l : List LAct
abbrev encActs (l : List LAct) : PV := .sl 7 (l.map LAct.enc)
abbrev encScript (p : LScript) : AV := .agg [.pv (pI p.g.service), .pv (encEntries p.g.entries), .pv (encInts p.g.known), .pv (pI p.service), .pv (encActs p.l)]
abbrev scriptV (p : LScript) : Blk := .var [.pv (pI p.g.service), .pv (encEntries p.g.entries), .pv (encInts p.g.known), .pv (pI p.service), .pv (encActs p.l)]
structure LScript.Ok (p : LScript) : Prop where
  g : p.g.Ok
  ll : p.l.length * 64 ≤ 140737488351232
  each : ∀ a ∈ p.l, okS a.who
def credit : ByteArray := ⟨#[99, 114, 101, 100, 105, 116]⟩
def wW : ByteArray := ⟨#[119]⟩
def gW0 : Ledger := ⟨1, [], []⟩
def gW1 : Ledger := ⟨1, [⟨5, false, credit, wW, 3⟩], [5]⟩
theorem w0_ok : gW0.Ok := ⟨by decide, by decide, fun e he => by cases he⟩
theorem w1_ok : gW1.Ok := ⟨by decide, by decide, fun e he => by
  have : e = ⟨5, false, credit, wW, 3⟩ := by simpa [gW1] using he
  subst this
  exact ⟨by decide, by decide⟩⟩
theorem wk1 : newP 1 = (gW0, 0) := by kernel_rfl
theorem wk2 : callL gW0 5 credit wW 3 0 = (gW1, 0, 0) := by kernel_rfl
theorem wk3 : callL gW1 5 credit wW 3 0 = (gW1, 0, 0) := by kernel_rfl
end Go.Rx
namespace Go.Proofs.Ytooiiihaijpbaaa.Rx
open Go.Rx Go.Proofs Go.Proofs.Ytooiiihaijpbaaa.RxH

theorem wakes_con : Con P 20 [] (Bl true) [] := by
  have c1 := new_con 1
  rw [wk1] at c1
  have c2 := call_con gW0 w0_ok 5 credit wW 3 0
  rw [wk2] at c2
  have c3 := call_con gW1 w1_ok 5 credit wW 3 0
  rw [wk3] at c3
  refine Con.of T_ok Try.func20 rfl (by kernel_rfl) (by kernel_rfl) (aw_of T_ok (by kernel_rfl) ?_)
  conv => whnf
  refine callU c1 (fun _ => rfl) ?_
  conv => whnf
  refine ⟨_, _, _, wk_refl _, c2, .inr ?_⟩
  conv => whnf
  refine ⟨rfl, ?_⟩
  conv => whnf
  refine ⟨rfl, ?_⟩
  conv => whnf
  refine ⟨_, _, _, wk_refl _, c3, .inr ?_⟩
  conv => whnf
  refine callS (num_con 0 (by decide)) rfl ?_
  conv => whnf
  refine callS (num_con 0 (by decide)) rfl ?_
  conv => whnf
  refine callS (num_con 0 (by decide)) rfl ?_
  conv => whnf
  refine ⟨rfl, ?_⟩
  exact finB ⟨rfl⟩
theorem ledgerWeight_con (g : Ledger) (h : g.Ok) : ∃ n, Con P 39 [encLedger g] (Go.Rx.I n) [] := by
  have hm : (g.entries.map Entry.enc).length = g.entries.length := List.length_map ..
  have hel := h.el
  obtain ⟨ws, hws⟩ : ∃ ws, ws = g.entries.map fun e => ((e.who.size : Int) / 8) := ⟨_, rfl⟩
  obtain ⟨n0, hn0⟩ : ∃ n0, n0 = IntKind.i64.wrap (((g.entries.map Entry.enc).length : Int) + ((g.known.map fun n => [pI n]).length : Nat)) := ⟨_, rfl⟩
  refine ⟨capSum ws n0, Con.of T_ok Try.func39 rfl (by kernel_rfl) (by kernel_rfl) (aw_of T_ok (by kernel_rfl) ?_)⟩
  conv => whnf
  refine AW.loop (fun p : Nat × Int => p.1 ≤ g.entries.length ∧ capSum (ws.drop p.1) p.2 = capSum ws n0) (fun p => [(1, .lf (.ptr 0 0)), (3, Go.Rx.I p.2), (4, Go.Rx.I p.1)]) (fun _ => [ledgerV g]) (fun p => g.entries.length - p.1) [] ?_ ?_
  · exact ⟨(0, n0), ⟨Nat.zero_le _, rfl⟩, ⟨rfl, by rw [hn0]; rfl, rfl, trivial⟩, ⟨[], rfl⟩, rfl, rfl⟩
  rintro ⟨k, n⟩ ⟨hk, hsum⟩
  simp only at hk hsum
  have hwl : ws.length = g.entries.length := by rw [hws]; simp
  refine aw_of T_ok (by kernel_rfl) ?_
  conv => whnf
  split <;> rename_i hlt <;> conv => whnf
  · have hkl : k < g.entries.length := by have := of_decide_eq_true hlt; simp only at this; omega
    split <;> rename_i h2 <;> conv => whnf
    · have h2' : n < 1048576 := of_decide_eq_true h2
      have hwho := (h.each _ (List.getElem_mem hkl)).who
      simp only [okS] at hwho
      refine ⟨by show (0 : Int) ≤ (k : Int); omega, (g.entries[k]).enc, by simp [hkl], ?_⟩
      conv => whnf
      refine ⟨by omega, by decide, by omega, ?_⟩
      conv => whnf
      rw [capSum_go (by omega) h2', show ws[k]'(by omega) = ((g.entries[k]).who.size : Int) / 8 by simp [hws]] at hsum
      exact ⟨(k + 1, _), ⟨⟨by simp only; omega, hsum⟩, by simp only; omega⟩, ⟨rfl, rfl, congrArg Go.Rx.I (wrapI (by simp only; omega)), trivial⟩, ⟨_, rfl⟩, rfl, rfl⟩
    · have h2' : ¬ n < 1048576 := of_decide_eq_false h2
      rw [capSum_stop h2'] at hsum
      exact finI ⟨hsum⟩
  · have hkl : g.entries.length ≤ k := by have := of_decide_eq_false hlt; simp only at this; omega
    rw [List.drop_of_length_le (by omega), capSum] at hsum
    exact finI ⟨hsum⟩
theorem heavy9_con (p : LScript) (h : p.Ok) : ∃ b, Con P 21 [encScript p] (Bl b) [] := by
  obtain ⟨n1, c1⟩ := ledgerWeight_con p.g h.g
  have hm : (p.l.map LAct.enc).length = p.l.length := List.length_map ..
  have hll := h.ll
  obtain ⟨ws, hws⟩ : ∃ ws, ws = p.l.map fun e => ((e.who.size : Int) / 8) := ⟨_, rfl⟩
  obtain ⟨n0, hn0⟩ : ∃ n0, n0 = IntKind.i64.wrap (n1 + ((p.l.map LAct.enc).length : Nat)) := ⟨_, rfl⟩
  refine ⟨decide (900 < capSum ws n0), Con.of T_ok Try.func21 rfl (by kernel_rfl) (by kernel_rfl) (aw_of T_ok (by kernel_rfl) ?_)⟩
  conv => whnf
  refine AW.draw T_ok rfl (listPl [0, 1, 3, 4, 5, 2, 6, 7]) (by kernel_rfl) (by kernel_rfl) ?_
  conv => whnf
  refine callS c1 rfl ?_
  conv => whnf
  refine AW.loop (fun q : Nat × Int => q.1 ≤ p.l.length ∧ capSum (ws.drop q.1) q.2 = capSum ws n0) (fun q => [(1, .lf (.ptr 0 0)), (3, Go.Rx.I q.2), (4, Go.Rx.I q.1)]) (fun _ => [scriptV p]) (fun q => p.l.length - q.1) [] ?_ ?_
  · exact ⟨(0, n0), ⟨Nat.zero_le _, rfl⟩, ⟨rfl, by rw [hn0]; rfl, rfl, trivial⟩, ⟨[], rfl⟩, rfl, rfl⟩
  rintro ⟨k, n⟩ ⟨hk, hsum⟩
  simp only at hk hsum
  have hwl : ws.length = p.l.length := by rw [hws]; simp
  refine aw_of T_ok (by kernel_rfl) ?_
  conv => whnf
  split <;> rename_i hlt <;> conv => whnf
  · have hkl : k < p.l.length := by have := of_decide_eq_true hlt; simp only at this; omega
    split <;> rename_i h2 <;> conv => whnf
    · have h2' : n < 1048576 := of_decide_eq_true h2
      have hwho := h.each _ (List.getElem_mem hkl)
      simp only [okS] at hwho
      refine ⟨by show (0 : Int) ≤ (k : Int); omega, (p.l[k]).enc, by simp [hkl], ?_⟩
      conv => whnf
      refine ⟨by omega, by decide, by omega, ?_⟩
      conv => whnf
      rw [capSum_go (by omega) h2', show ws[k]'(by omega) = ((p.l[k]).who.size : Int) / 8 by simp [hws]] at hsum
      exact ⟨(k + 1, _), ⟨⟨by simp only; omega, hsum⟩, by simp only; omega⟩, ⟨rfl, rfl, congrArg Go.Rx.I (wrapI (by simp only; omega)), trivial⟩, ⟨_, rfl⟩, rfl, rfl⟩
    · have h2' : ¬ n < 1048576 := of_decide_eq_false h2
      rw [capSum_stop h2'] at hsum
      exact finB ⟨by rw [hsum]⟩
  · have hkl : p.l.length ≤ k := by have := of_decide_eq_false hlt; simp only at this; omega
    rw [List.drop_of_length_le (by omega), capSum] at hsum
    exact finB ⟨by rw [hsum]⟩
end Go.Proofs.Ytooiiihaijpbaaa.Rx
