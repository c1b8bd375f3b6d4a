/- The texts of the proof, part 5, in order. -/
import Derived.Test.YteebnpkoephjnaaGreatZd
/- The arguments of the journals' laws, opened. -/
namespace Go.Proofs.YteebnpkoephjnaaGreat.Rx
open Go.Rx Go.Rx.Lift Go.Proofs

theorem opFile : Opens P 30 FileS.enc FileS.Ok := by
  have h := opens_struct (total := 3) Tryz.underlying30 (by kernel_rfl) (from_cons 1 rfl rfl (by kernel_rfl) opStr (from_cons 1 rfl rfl (by kernel_rfl) opStr (from_last 1 rfl rfl (by kernel_rfl) rfl opInt)))
  exact opens_iso (fun q : ByteArray × ByteArray × Int => ⟨q.1, q.2.1, q.2.2⟩) (fun _ => rfl) (fun _ h => ⟨h.1, h.2.1⟩) h
theorem opFAct : Opens P 81 FAct.enc (fun a => okS a.s) := by
  have h := opens_struct (total := 3) Tryz.underlying81 (by kernel_rfl) (from_cons 1 rfl rfl (by kernel_rfl) opInt (from_cons 1 rfl rfl (by kernel_rfl) opInt (from_last 1 rfl rfl (by kernel_rfl) rfl opStr)))
  exact opens_iso (fun q : Int × Int × ByteArray => ⟨q.1, q.2.1, q.2.2⟩) (fun _ => rfl) (fun _ h => h.2.2) h
theorem opScript12 : Opens P 33 (fun q : FileS × Int × List FAct => [pS q.1.safe, pS q.1.tail, pI q.1.cap, pI q.2.1, encFActs q.2.2]) (fun q => q.1.Ok ∧ q.2.2.length * 32 ≤ 140737488351232 ∧ ∀ a ∈ q.2.2, okS a.s) := by
  have h := opens_struct (total := 5) Tryz.underlying33 (by kernel_rfl) (from_cons 3 rfl rfl (by kernel_rfl) opFile (from_cons 1 rfl rfl (by kernel_rfl) opInt (from_last 1 rfl rfl (by kernel_rfl) rfl (opens_slice (sz := 3) (B := 32) Tryz.underlying31 (by kernel_rfl) (by decide) (by kernel_rfl) opFAct))))
  exact opens_iso id (fun _ => rfl) (fun _ h => ⟨h.1, h.2.2.1, h.2.2.2⟩) h
theorem opAsk13 : Opens P 35 (fun q : (List Rec × List ByteArray × List Int) × FileS × Int × List FAct => [encRecs q.1.1, encStrs q.1.2.1, encInts q.1.2.2, pS q.2.1.safe, pS q.2.1.tail, pI q.2.1.cap, pI q.2.2.1, encFActs q.2.2.2]) (fun q => Ask13 q.1.1 q.1.2.1 q.2.1 q.2.2.2 ∧ q.1.2.2.length ≤ 140737488351232) := by
  have h := opens_struct (total := 8) Tryz.underlying35 (by kernel_rfl) (from_cons 3 rfl rfl (by kernel_rfl) opAsk11 (from_last 5 rfl rfl (by kernel_rfl) rfl opScript12))
  exact opens_iso id (fun _ => rfl) (fun q h => ⟨⟨⟨h.1.1.1, h.1.1.2, h.1.2.1.1, h.1.2.1.2⟩, h.2.1, h.2.2.1, h.2.2.2⟩, by
    have h8 := h.1.2.2
    show q.1.2.2.length ≤ _
    omega⟩) h
end Go.Proofs.YteebnpkoephjnaaGreat.Rx

/- The page's files and records; which files the law makes. -/
set_option linter.unusedVariables false
set_option linter.unusedSimpArgs false
namespace Go.Rx
theorem capSum_ge : ∀ (l : List Int) (n : Int), 0 ≤ n → (∀ x ∈ l, 0 ≤ x ∧ x ≤ 140737488351232) → n ≤ 150000000000000 → n ≤ capSum l n
  | [], n, _, _, _ => Int.le_refl _
  | x :: l, n, h0, h, hn => by
    have hx := h x (List.mem_cons_self ..)
    rw [capSum]
    split
    · rw [wrapI (by omega)]
      have := capSum_ge l (n + x) (by omega) (fun y hy => h y (List.mem_cons_of_mem _ hy)) (by omega)
      omega
    · exact Int.le_refl _
theorem capSum_each : ∀ (l : List Int) (n : Int), 0 ≤ n → n ≤ 150000000000000 → (∀ x ∈ l, 0 ≤ x ∧ x ≤ 140737488351232) → capSum l n < 1048576 → ∀ x ∈ l, x ≤ capSum l n
  | [], n, _, _, _, _, x, hx => (List.not_mem_nil hx).elim
  | y :: l, n, h0, hn, h, hc, x, hx => by
    have hy := h y (List.mem_cons_self ..)
    have hl : ∀ x ∈ l, 0 ≤ x ∧ x ≤ 140737488351232 := fun z hz => h z (List.mem_cons_of_mem _ hz)
    by_cases c : n < 1048576
    · have e : capSum (y :: l) n = capSum l (n + y) := by rw [capSum, if_pos c, wrapI (by omega)]
      rw [e] at hc ⊢
      rcases List.mem_cons.1 hx with rfl | hx
      · have := capSum_ge l (n + x) (by omega) hl (by omega)
        omega
      · exact capSum_each l (n + y) (by omega) (by omega) hl hc x hx
    · rw [capSum, if_neg c] at hc
      exact absurd hc c
theorem texts_le {S : List ByteArray} {N : List Int} (hS : ∀ s ∈ S, okS s) (hl : S.length * 16 ≤ 140737488351232) (hN : N.length ≤ 140737488351232) (h : heavy2B S N = false) : ∀ s ∈ S, s.size ≤ 7000 := fun s hs => by
  have hb : ∀ x ∈ (S.map fun s => (s.size : Int)), 0 ≤ x ∧ x ≤ 140737488351232 := fun x hx => by
    obtain ⟨t, ht, rfl⟩ := List.mem_map.1 hx
    have : t.size ≤ 140737488351232 := hS t ht
    omega
  have h1 := capSum_ge (S.map fun s => (s.size : Int)) S.length (by omega) hb (by omega)
  have h2 := capSum_each (S.map fun s => (s.size : Int)) S.length (by omega) (by omega) hb
  have hm := List.mem_map_of_mem (f := fun s : ByteArray => (s.size : Int)) hs
  unfold heavy2B at h
  rw [List.length_map] at h
  have ht : textsW S = capSum (S.map fun s => (s.size : Int)) S.length := rfl
  by_cases c : textsW S < 1048576
  · rw [← ht] at h1 h2
    have h3 := h2 c _ hm
    have h4 : ¬ 7000 < IntKind.i64.wrap (textsW S + (N.length : Int)) := of_decide_eq_false h
    rw [wrapI (by omega)] at h4
    omega
  · exfalso
    have hup : ∀ (l : List Int) (n : Int), 0 ≤ n → n ≤ 150000000000000 → (∀ x ∈ l, 0 ≤ x ∧ x ≤ 140737488351232) → capSum l n ≤ 150000000000000 := fun l => by
      induction l with
      | nil => intro n _ hn _; exact hn
      | cons y l ih =>
        intro n h0 hn hl
        rw [capSum]
        have hy := hl y (List.mem_cons_self ..)
        split
        · rw [wrapI (by omega)]
          exact ih _ (by omega) (by omega) fun z hz => hl z (List.mem_cons_of_mem _ hz)
        · exact hn
    have h5 := hup (S.map fun s => (s.size : Int)) S.length (by omega) (by omega) hb
    rw [← ht] at h5
    have h4 : ¬ 7000 < IntKind.i64.wrap (textsW S + (N.length : Int)) := of_decide_eq_false h
    rw [wrapI (by omega)] at h4
    omega
abbrev cutI (s : ByteArray) (i : Nat) : Nat := (IntKind.i64.wrap (IntKind.i64.wrap ((s.size : Int) - 1) - i)).toNat
def var4 (s : ByteArray) (i : Nat) : List FileS :=
  [⟨s, ⟨#[]⟩, 9000⟩, ⟨s, ⟨#[120]⟩, 9000⟩, ⟨s.extract 0 (cutI s i), ⟨#[]⟩, 9000⟩, ⟨s ++ ⟨#[0, 0, 0, 16]⟩, ⟨#[]⟩, IntKind.i64.wrap (IntKind.i64.wrap ((s.size : Int) + 4) + i)⟩]
def fileStep (r : Rec) (i : Nat) (x : ByteArray × List FileS) : ByteArray × List FileS :=
  if (recB r && ((bytes9R r).2 && decide (x.1.size + (bytes9R r).1.size ≤ 7000))) = true then (x.1 ++ (bytes9R r).1, x.2 ++ var4 (x.1 ++ (bytes9R r).1) i) else x
def filesG : List Rec → Nat → ByteArray × List FileS → ByteArray × List FileS
  | [], _, x => x
  | r :: R, i, x => if 8 ≤ i then x else filesG R (i + 1) (fileStep r i x)
def txtF (s t : ByteArray) : FileS := ⟨s ++ t, ⟨#[]⟩, 20000⟩
def filesL (R : List Rec) (S : List ByteArray) (F : FileS) : List FileS := (filesG R 0 (⟨#[]⟩, [F, ⟨⟨#[]⟩, ⟨#[]⟩, 50⟩])).2 ++ (S.take 2).map (txtF (filesG R 0 (⟨#[]⟩, [F, ⟨⟨#[]⟩, ⟨#[]⟩, 50⟩])).1)
structure FsOk (f : FileS) : Prop where
  ok : f.Ok
  le : f.safe.size ≤ 1000000
def FsAll (l : List FileS) : Prop := ∀ f ∈ l, FsOk f
theorem FsAll.app {l m : List FileS} (h : FsAll l) (k : FsAll m) : FsAll (l ++ m) := fun f hf => by
  rcases List.mem_append.1 hf with h1 | h1
  · exact h f h1
  · exact k f h1
theorem step_ok {r : Rec} {i : Nat} {x : ByteArray × List FileS} (h1 : x.1.size ≤ 7000) (h2 : FsAll x.2) : (fileStep r i x).1.size ≤ 7000 ∧ FsAll (fileStep r i x).2 ∧ (fileStep r i x).2.length ≤ x.2.length + 4 := by
  unfold fileStep
  split
  · rename_i hc
    simp only [Bool.and_eq_true, decide_eq_true_eq] at hc
    have hs : (x.1 ++ (bytes9R r).1).size = x.1.size + (bytes9R r).1.size := ByteArray.size_append
    refine ⟨by show (x.1 ++ (bytes9R r).1).size ≤ 7000; omega, h2.app fun f hf => ?_, by show (x.2 ++ var4 _ i).length ≤ _; rw [List.length_append]; exact Nat.le_refl _⟩
    generalize x.1 ++ (bytes9R r).1 = s at hs hf
    have hs7 : s.size ≤ 7000 := by omega
    have e1 : (s.extract 0 (cutI s i)).size ≤ s.size := by rw [ByteArray.size_extract]; omega
    have e2 : (s ++ ⟨#[0, 0, 0, 16]⟩).size = s.size + 4 := ByteArray.size_append
    simp only [var4, List.mem_cons, List.not_mem_nil, or_false] at hf
    rcases hf with rfl | rfl | rfl | rfl
    · exact ⟨⟨by show s.size ≤ _; omega, Nat.zero_le _⟩, by show s.size ≤ _; omega⟩
    · exact ⟨⟨by show s.size ≤ _; omega, by show (1 : Nat) ≤ _; omega⟩, by show s.size ≤ _; omega⟩
    · exact ⟨⟨by show (s.extract 0 (cutI s i)).size ≤ _; omega, Nat.zero_le _⟩, by show (s.extract 0 (cutI s i)).size ≤ _; omega⟩
    · exact ⟨⟨by show (s ++ ⟨#[0, 0, 0, 16]⟩).size ≤ _; omega, Nat.zero_le _⟩, by show (s ++ ⟨#[0, 0, 0, 16]⟩).size ≤ _; omega⟩
  · exact ⟨h1, h2, by omega⟩
theorem filesG_ok : ∀ (R : List Rec) (i : Nat) (x : ByteArray × List FileS), i ≤ 8 → x.1.size ≤ 7000 → FsAll x.2 → x.2.length ≤ 2 + 4 * i → (filesG R i x).1.size ≤ 7000 ∧ FsAll (filesG R i x).2 ∧ (filesG R i x).2.length ≤ 34
  | [], i, x, hi, h1, h2, h3 => ⟨h1, h2, by show x.2.length ≤ 34; omega⟩
  | r :: R, i, x, hi, h1, h2, h3 => by
    rw [filesG]
    split
    · exact ⟨h1, h2, by omega⟩
    · obtain ⟨a, b, c⟩ := step_ok (r := r) (i := i) h1 h2
      exact filesG_ok R (i + 1) _ (by omega) a b (by omega)
theorem files_ok {R : List Rec} {S : List ByteArray} {F : FileS} (hF : FsOk F) (hS : ∀ s ∈ S, s.size ≤ 7000) : FsAll (filesL R S F) ∧ (filesL R S F).length ≤ 36 := by
  obtain ⟨a, b, c⟩ := filesG_ok R 0 (⟨#[]⟩, [F, ⟨⟨#[]⟩, ⟨#[]⟩, 50⟩]) (by omega) (Nat.zero_le _) (fun f hf => by
    simp only [List.mem_cons, List.not_mem_nil, or_false] at hf
    rcases hf with rfl | rfl
    · exact hF
    · exact ⟨⟨Nat.zero_le _, Nat.zero_le _⟩, Nat.zero_le _⟩) (Nat.le_refl _)
  refine ⟨b.app fun f hf => ?_, ?_⟩
  · obtain ⟨t, ht, rfl⟩ := List.mem_map.1 hf
    have h7 := hS t (List.mem_of_mem_take ht)
    have e : (txtF (filesG R 0 (⟨#[]⟩, [F, ⟨⟨#[]⟩, ⟨#[]⟩, 50⟩])).1 t).safe.size = (filesG R 0 (⟨#[]⟩, [F, ⟨⟨#[]⟩, ⟨#[]⟩, 50⟩])).1.size + t.size := ByteArray.size_append
    exact ⟨⟨by show ByteArray.size _ ≤ _; omega, Nat.zero_le _⟩, by omega⟩
  · rw [filesL, List.length_append, List.length_map, List.length_take]; omega
end Go.Rx
namespace Go.Proofs.YteebnpkoephjnaaGreat.Rx
open Go.Rx Go.Proofs Go.Proofs.YteebnpkoephjnaaGreat.RxB
theorem file9_con (f : FileS) (h : f.Ok) : Con P 9 [encFile f] (Bl (fileB f)) [] := by
  have h1 := h.safe
  have h2 := h.tail
  obtain ⟨q, hq⟩ : ∃ q, q = fileB f := ⟨_, rfl⟩
  rw [← hq]
  refine Con.of T_ok Tryz.func9 rfl (by kernel_rfl) (by kernel_rfl) (aw_of T_ok (by kernel_rfl) ?_)
  conv => whnf
  refine callS (between_con f.cap 1 60000) rfl ?_
  conv => whnf
  split <;> rename_i t1 <;> conv => whnf
  · have hc : (decide (1 ≤ f.cap) && decide (f.cap ≤ 60000)) = true := t1
    simp only [Bool.and_eq_true, decide_eq_true_eq] at hc
    split <;> rename_i t2 <;> conv => whnf
    · have a2 : (f.safe.size : Int) ≤ f.cap := of_decide_eq_true t2
      refine finB ⟨?_⟩
      rw [hq, wrapI (by omega), fileB, decide_eq_true hc.1, decide_eq_true hc.2, Bool.true_and, Bool.true_and, decide_eq_decide]
      omega
    · have a2 : ¬ (f.safe.size : Int) ≤ f.cap := of_decide_eq_false t2
      refine finB ⟨?_⟩
      rw [hq, eq_comm, ← Bool.not_eq_true, fileB_iff]
      omega
  · have hc : (decide (1 ≤ f.cap) && decide (f.cap ≤ 60000)) = false := t1
    refine finB ⟨?_⟩
    rw [hq, fileB, ← Bool.and_assoc, hc]; rfl
theorem free9_con (f : FileS) (h : f.Ok) (hb : fileB f = true) : Con P 16 [encFile f] (Go.Rx.I (roomF f)) [] := by
  obtain ⟨h1, h2, h3⟩ := fileB_iff.1 hb
  refine Con.of T_ok Tryz.func16 rfl (by kernel_rfl) (by kernel_rfl) (aw_of T_ok (by kernel_rfl) ?_)
  conv => whnf
  exact finI ⟨by rw [wrapI (n := f.cap - f.safe.size) (by omega), wrapI (by omega), roomF]⟩
set_option maxHeartbeats 1000000 in
theorem scan9_con (s : ByteArray) (hs : s.size ≤ 1000000) : Con P 7 [Sx s] (.tup [.lf (.own 0 (scanS s).1.length), .lf (.pv (pI (scanN s)))]) [.arr 49 6 ((scanS s).1.map Rec.enc)] := by
  have hN : scanN s = s.size - (scanS s).2.size := rfl
  obtain ⟨res, hres⟩ : ∃ res, res = scanS s := ⟨_, rfl⟩
  rw [hN, ← hres]
  refine ConG.con (ConG.of T_ok Tryz.func7 rfl (by kernel_rfl) (by kernel_rfl) (aw_of T_ok (by kernel_rfl) ?_)) rfl
  conv => whnf
  refine AW.loop (fun p : Nat × List Rec × Nat => p.2.2 ≤ s.size ∧ 8 * p.2.1.length + (s.size - p.2.2) ≤ s.size ∧ s.size - p.2.2 < p.1 ∧ (p.2.1 ++ (scanG p.1 (s.extract p.2.2 s.size)).1, (scanG p.1 (s.extract p.2.2 s.size)).2) = res)
    (fun p => [(0, Sx s), (4, .lf (.own 0 p.2.1.length)), (5, Go.Rx.I p.2.2)]) (fun p => [.arr 49 6 (p.2.1.map Rec.enc)]) (fun p => s.size - p.2.2) [.slot 4 49 6] ?_ ?_
  · refine ⟨rfl, (s.size + 1, [], 0), ⟨Nat.zero_le _, by show 8 * 0 + (s.size - 0) ≤ _; omega, by show s.size - 0 < s.size + 1; omega, ?_⟩, ⟨rfl, rfl, rfl, trivial⟩, ⟨[], rfl⟩, rfl, rfl⟩
    have e : s.extract 0 s.size = s := ba_ext (by rw [ba_ex, List.drop_zero, Nat.sub_zero, List.take_of_length_le (by rw [ba_len]; exact Nat.le_refl _)])
    show ([] ++ (scanG (s.size + 1) (s.extract 0 s.size)).1, (scanG (s.size + 1) (s.extract 0 s.size)).2) = res
    rw [e, hres]; rfl
  rintro ⟨f, l, k⟩ ⟨hk, hl, hf, hinv⟩
  simp only at hk hl hf hinv
  have htz : (s.extract k s.size).size = s.size - k := by rw [ByteArray.size_extract]; omega
  have hts : okS (s.extract k s.size) := by show (s.extract k s.size).size ≤ _; omega
  have stop : (takeR (s.extract k s.size)).2.2 ≠ 0 → res = (l, s.extract k s.size) := fun e => by
    rw [← hinv, scan_stop e, List.append_nil]
  have ct := unpack_con (s.extract k s.size) hts
  have eat := take_eat (s := s.extract k s.size)
  have hstep : ∀ f', f = f' + 1 → scanG f (s.extract k s.size) = if (takeR (s.extract k s.size)).2.2 = 0 then ((takeR (s.extract k s.size)).1 :: (scanG f' (takeR (s.extract k s.size)).2.1).1, (scanG f' (takeR (s.extract k s.size)).2.1).2) else ([], s.extract k s.size) := fun f' e => by rw [e, scanG]
  obtain ⟨u1, u2, u3⟩ := unp_take (s.extract k s.size)
  generalize takeR (s.extract k s.size) = x at eat stop hstep u1 u2 u3
  obtain ⟨r, rest, e⟩ := x
  simp only at eat stop hstep u1 u2 u3
  generalize unpR (s.extract k s.size) = y at ct u1 u2 u3
  obtain ⟨r', rest', ok⟩ := y
  simp only at ct u1 u2 u3
  subst u1 u2
  refine aw_of T_ok (by kernel_rfl) ?_
  conv => whnf
  refine ⟨Int.natCast_nonneg k, Int.ofNat_le.2 hk, Int.le_refl _, ?_⟩
  conv => whnf
  refine ⟨_, _, _, wk_refl _, ct, .inr ?_⟩
  conv => whnf
  cases ok
  · have he : e ≠ 0 := by rw [u3]; show (10 : Int) ≠ 0; decide
    have hr := stop he
    rw [hr]
    conv => whnf
    refine ⟨[], [0], [.lf (.own 0 l.length), Go.Rx.I k], [.lf (.own 0 l.length), Go.Rx.I k], rfl, rfl, rfl, wk_refl _, ?_⟩
    have hks : k = s.size - (s.extract k s.size).size := by omega
    exact congrArg (fun n : Nat => some (AV.tup [.lf (.own 0 l.length), .lf (.pv (pI n))])) hks
  · have he : e = 0 := u3
    obtain ⟨hg, hx⟩ := eat he
    obtain ⟨hrest, hsz⟩ := ext_tail hk hx
    have h8 := frR_size hg
    obtain ⟨f', rfl⟩ : ∃ f', f = f' + 1 := ⟨f - 1, by omega⟩
    have hst := hstep f' rfl
    rw [if_pos he] at hst
    conv => whnf
    refine ⟨List.length_map .., ?_⟩
    conv => whnf
    refine ⟨rfl, _, .inl rfl, ?_⟩
    conv => whnf
    refine ⟨List.length_map .., by show (l.length + 1) * 80 ≤ _; omega, ?_⟩
    conv => whnf
    refine ⟨(f', l ++ [r'], s.size - rest'.size), ⟨⟨by show s.size - rest'.size ≤ s.size; omega, ?zp, ?zq, ?zw⟩, by show s.size - (s.size - rest'.size) < s.size - k; omega⟩, ⟨rfl, ?zu, ?zv, trivial⟩, ⟨[?zr1, ?zr2, ?zr3], ?zb⟩, rfl, rfl⟩
    case zp => show 8 * (l ++ [r']).length + (s.size - (s.size - rest'.size)) ≤ s.size; rw [List.length_append, List.length_singleton]; omega
    case zq => show s.size - (s.size - rest'.size) < f'; omega
    case zw =>
      show ((l ++ [r']) ++ (scanG f' (s.extract (s.size - rest'.size) s.size)).1, (scanG f' (s.extract (s.size - rest'.size) s.size)).2) = res
      rw [← hinv, hst, hrest, List.append_assoc]; rfl
    case zu => exact congrArg (fun n => AV.lf (.own 0 n)) (show l.length + 1 = (l ++ [r']).length by rw [List.length_append]; rfl)
    case zv =>
      have : IntKind.i64.wrap ((s.size : Int) - rest'.size) = ((s.size - rest'.size : Nat) : Int) := by rw [wrapI (by omega)]; omega
      exact congrArg Go.Rx.I this
    case zb =>
      show _ = [Blk.arr _ 6 ((l ++ [r']).map Rec.enc)] ++ [_, _, _]
      rw [List.map_append]
      rfl
end Go.Proofs.YteebnpkoephjnaaGreat.Rx

/- A journal that is cut off anywhere: the law's body. -/
set_option linter.unusedVariables false
set_option linter.unusedSimpArgs false
namespace Go.Rx
theorem call_b {i : Nat} (h : i < 6) : recB ⟨2, 1 + (i : Int), (i : Int) % 5, ⟨#[]⟩, ⟨#[]⟩, []⟩ = true := by
  have : i = 0 ∨ i = 1 ∨ i = 2 ∨ i = 3 ∨ i = 4 ∨ i = 5 := by omega
  rcases this with rfl | rfl | rfl | rfl | rfl | rfl <;> decide
theorem good_nine {r : Rec} (h : recB r = true) : ((bytes9R r).2 = true → GoodR r ∧ (bytes9R r).1 = frR r) ∧ (bytes9R r).1.size ≤ 4008 := by
  refine ⟨fun e => ?_, (nine_eq h).2.1⟩
  unfold bytes9R at e ⊢
  split at e
  · cases e
  · rename_i hn
    rw [if_neg hn]
    exact ⟨⟨h, by omega⟩, rfl⟩
abbrev intRs (l : List Int) : List (List PV) := l.map fun n => [pI n]
theorem intRs_snoc (l : List Int) (x : Int) : intRs (l ++ [x]) = intRs l ++ [[pI x]] := List.map_append
theorem ends_get {A : List Rec} {k : Nat} (h : k < A.length) : (intRs (endsL A))[k]? = some [pI ((catR (A.take (k + 1))).size : Int)] := by
  simp [intRs, endsL, h]
end Go.Rx
namespace Go.Proofs.YteebnpkoephjnaaGreat.Rx
open Go.Rx Go.Proofs Go.Proofs.YteebnpkoephjnaaGreat.RxB
end Go.Proofs.YteebnpkoephjnaaGreat.Rx

/- Which files the law makes, walked. -/
set_option linter.unusedVariables false
set_option linter.unusedSimpArgs false
namespace Go.Rx
abbrev fileRows (L : List FileS) : List (List PV) := L.map FileS.enc
theorem fileRows_app (a b : List FileS) : fileRows (a ++ b) = fileRows a ++ fileRows b := List.map_append
theorem nine_ge {r : Rec} (h : recB r = true) (h2 : (bytes9R r).2 = true) : 24 ≤ (bytes9R r).1.size := by
  obtain ⟨g, e⟩ := (good_nine h).1 h2
  have := (plain_le (small_of h)).1
  rw [e, frR_size g]; omega
theorem filesG_drop {R : List Rec} {i : Nat} (h : i < R.length) (h8 : i < 8) (x : ByteArray × List FileS) : filesG (R.drop i) i x = filesG (R.drop (i + 1)) (i + 1) (fileStep R[i] i x) := by
  rw [List.drop_eq_getElem_cons h, filesG, if_neg (by omega)]
theorem filesG_end {R : List Rec} {i : Nat} (h : R.length ≤ i ∨ 8 ≤ i) (x : ByteArray × List FileS) : filesG (R.drop i) i x = x := by
  rcases h with h | h
  · rw [List.drop_of_length_le h]; rfl
  · cases R.drop i with
    | nil => rfl
    | cons r l => rw [filesG, if_pos h]
end Go.Rx
namespace Go.Proofs.YteebnpkoephjnaaGreat.Rx
open Go.Rx Go.Proofs Go.Proofs.YteebnpkoephjnaaGreat.RxB
set_option maxRecDepth 100000 in
set_option maxHeartbeats 4000000 in
theorem files_con (R : List Rec) (S : List ByteArray) (N : List Int) (F : FileS) (n : Int) (A : List FAct) (h : Ask13 R S F A) (hS : ∀ s ∈ S, s.size ≤ 7000) :
    Con P 5 [encAsk13 R S N F n A] (.lf (.own 0 (filesL R S F).length)) [.arr 30 3 (fileRows (filesL R S F))] := by
  have hRm : (R.map Rec.enc).length = R.length := List.length_map ..
  have hlen := h.a11.len
  have hstr := h.a11.strs
  have hSm : (S.map fun s => [pS s]).length = S.length := List.length_map ..
  obtain ⟨X, hX⟩ : ∃ X, X = filesG R 0 (⟨#[]⟩, [F, ⟨⟨#[]⟩, ⟨#[]⟩, 50⟩]) := ⟨_, rfl⟩
  have hfl : filesL R S F = X.2 ++ (S.take 2).map (txtF X.1) := by rw [filesL, ← hX]
  obtain ⟨fs, hfs⟩ : ∃ fs, fs = filesL R S F := ⟨_, rfl⟩
  rw [← hfs]
  rw [← hfs] at hfl
  refine ConG.con (ConG.of T_ok Tryz.func5 rfl (by kernel_rfl) (by kernel_rfl) (aw_ofC T_ok 1003 (by kernel_rfl) ?_)) rfl
  conv => whnf
  refine AW.cut (fun _ : Unit => X.1.size ≤ 7000 ∧ X.2.length ≤ 34) (fun _ => [(1, .lf (.ptr 0 0)), (3, .lf (.own 1 X.2.length)), (4, Sx X.1)]) (fun _ => [ask13V R S N F n A, .arr 30 3 (fileRows X.2)]) [] (aw_of T_ok (by kernel_rfl) ?_) ?_
  · conv => whnf
    refine AW.loop (fun p : Nat × ByteArray × List FileS => p.1 ≤ R.length ∧ p.1 ≤ 8 ∧ filesG (R.drop p.1) p.1 p.2 = X ∧ p.2.1.size ≤ 7000 ∧ p.2.2.length ≤ 2 + 4 * p.1) (fun p => [(1, .lf (.ptr 0 0)), (3, .lf (.own 1 p.2.2.length)), (4, Sx p.2.1), (5, Go.Rx.I p.1)]) (fun p => [ask13V R S N F n A, .arr 30 3 (fileRows p.2.2)]) (fun p => R.length - p.1) [] ?_ ?_
    · exact ⟨(0, ⟨#[]⟩, [F, ⟨⟨#[]⟩, ⟨#[]⟩, 50⟩]), ⟨Nat.zero_le _, Nat.zero_le _, hX.symm, Nat.zero_le _, Nat.le_refl _⟩, ⟨rfl, rfl, rfl, rfl, trivial⟩, ⟨[], rfl⟩, rfl, rfl⟩
    rintro ⟨i, s, L⟩ ⟨hi, hi8, hinv, hs, hL⟩
    simp only at hi hi8 hinv hs hL
    have wi : IntKind.i64.wrap ((i : Int) + 1) = ((i + 1 : Nat) : Int) := wrapI (by omega)
    have done : (R.length ≤ i ∨ 8 ≤ i) → (s, L) = X := fun e => by rw [← hinv, filesG_end e]
    refine aw_of T_ok (by kernel_rfl) ?_
    conv => whnf
    split <;> rename_i t1 <;> conv => whnf
    rotate_left
    · have a1 : ¬ (i : Int) < ((R.map Rec.enc).length : Int) := of_decide_eq_false t1
      have e := done (.inl (by omega))
      subst e
      exact ⟨(), ⟨hs, by show L.length ≤ 34; omega⟩, ⟨rfl, rfl, rfl, trivial⟩, ⟨[], rfl⟩, rfl, rfl⟩
    have a1 : (i : Int) < ((R.map Rec.enc).length : Int) := of_decide_eq_true t1
    split <;> rename_i t2 <;> conv => whnf
    rotate_left
    · have a2 : ¬ (i : Int) < 8 := of_decide_eq_false t2
      have e := done (.inr (by omega))
      subst e
      exact ⟨(), ⟨hs, by show L.length ≤ 34; omega⟩, ⟨rfl, rfl, rfl, trivial⟩, ⟨[], rfl⟩, rfl, rfl⟩
    have a2 : (i : Int) < 8 := of_decide_eq_true t2
    have hiR : i < R.length := by omega
    have hrow : (R.map Rec.enc)[i]? = some R[i].enc := by simp [hiR]
    have hr := h.a11.each _ (List.getElem_mem hiR)
    rw [filesG_drop hiR (by omega)] at hinv
    generalize R[i] = r at hrow hr hinv
    have c9 := rec9_con r hr
    have skip : fileStep r i (s, L) = (s, L) → ∃ p : Nat × ByteArray × List FileS, ((p.1 ≤ R.length ∧ p.1 ≤ 8 ∧ filesG (R.drop p.1) p.1 p.2 = X ∧ p.2.1.size ≤ 7000 ∧ p.2.2.length ≤ 2 + 4 * p.1) ∧ R.length - p.1 < R.length - i) ∧ p = (i + 1, s, L) := fun e =>
      ⟨_, ⟨⟨by show i + 1 ≤ _; omega, by show i + 1 ≤ 8; omega, by rw [← e]; exact hinv, hs, by show L.length ≤ 2 + 4 * (i + 1); omega⟩, by show R.length - (i + 1) < R.length - i; omega⟩, rfl⟩
    refine ⟨by omega, _, hrow, ?_⟩
    conv => whnf
    refine callS c9 rfl ?_
    conv => whnf
    split <;> rename_i t3 <;> conv => whnf
    · have hb : recB r = false := by simpa using t3
      obtain ⟨p, hp, rfl⟩ := skip (by rw [fileStep, hb]; rfl)
      exact ⟨_, hp, ⟨rfl, rfl, rfl, congrArg Go.Rx.I wi, trivial⟩, ⟨[], rfl⟩, rfl, rfl⟩
    have hb : recB r = true := by simpa using t3
    have cb := bytes9_con r (small_of hb)
    have hge := nine_ge hb
    have hz9 := (good_nine hb).2
    have hst : fileStep r i (s, L) = if ((bytes9R r).2 && decide (s.size + (bytes9R r).1.size ≤ 7000)) = true then (s ++ (bytes9R r).1, L ++ var4 (s ++ (bytes9R r).1) i) else (s, L) := by rw [fileStep, hb, Bool.true_and]
    generalize bytes9R r = y at cb hge hz9 hst
    obtain ⟨b, ok⟩ := y
    simp only at hge hz9 hst
    refine ⟨by omega, _, hrow, ?_⟩
    conv => whnf
    refine callS cb rfl ?_
    conv => whnf
    cases ok
    · obtain ⟨p, hp, rfl⟩ := skip (by rw [hst]; rfl)
      exact ⟨_, hp, ⟨rfl, rfl, rfl, congrArg Go.Rx.I wi, trivial⟩, ⟨[], rfl⟩, rfl, rfl⟩
    conv => whnf
    have wsb : IntKind.i64.wrap ((s.size : Int) + b.size) = (s.size : Int) + b.size := wrapI (by omega)
    split <;> rename_i t4 <;> conv => whnf
    · have a4 : IntKind.i64.wrap ((s.size : Int) + b.size) > 7000 := of_decide_eq_true t4
      rw [wsb] at a4
      obtain ⟨p, hp, rfl⟩ := skip (by rw [hst, if_neg]; simp only [Bool.true_and, decide_eq_true_eq]; omega)
      exact ⟨_, hp, ⟨rfl, rfl, rfl, congrArg Go.Rx.I wi, trivial⟩, ⟨[], rfl⟩, rfl, rfl⟩
    have a4 : ¬ IntKind.i64.wrap ((s.size : Int) + b.size) > 7000 := of_decide_eq_false t4
    rw [wsb] at a4
    rw [if_pos (by simp only [Bool.true_and, decide_eq_true_eq]; omega)] at hst
    have hb24 := hge rfl
    have hsb : (s ++ b).size = s.size + b.size := ByteArray.size_append
    refine ⟨by show s.size + b.size ≤ _; omega, ?_⟩
    conv => whnf
    have wc : IntKind.i64.wrap (IntKind.i64.wrap (((s ++ b).size : Int) - 1) - i) = ((s ++ b).size : Int) - 1 - i := by rw [wrapI (n := ((s ++ b).size : Int) - 1) (by omega), wrapI (by omega)]
    refine ⟨by decide, by show (0 : Int) ≤ IntKind.i64.wrap (IntKind.i64.wrap (((s ++ b).size : Int) - 1) - i); rw [wc]; omega, by show IntKind.i64.wrap (IntKind.i64.wrap (((s ++ b).size : Int) - 1) - i) ≤ ((s ++ b).size : Int); rw [wc]; omega, ?_⟩
    conv => whnf
    refine ⟨by show (s ++ b).size + 4 ≤ _; omega, ?_⟩
    conv => whnf
    refine ⟨rfl, _, .inl rfl, ?_⟩
    conv => whnf
    refine ⟨List.length_map .., by show (L.length + 4) * 40 ≤ _; omega, ?_⟩
    conv => whnf
    rw [hst] at hinv
    refine ⟨(i + 1, s ++ b, L ++ var4 (s ++ b) i), ⟨⟨by show i + 1 ≤ _; omega, by show i + 1 ≤ 8; omega, hinv, by show (s ++ b).size ≤ 7000; omega, ?za⟩, by show R.length - (i + 1) < R.length - i; omega⟩, ⟨rfl, ?zb, rfl, congrArg Go.Rx.I wi, trivial⟩, ⟨[?zc], ?zd⟩, rfl, rfl⟩
    case za => show (L ++ var4 (s ++ b) i).length ≤ 2 + 4 * (i + 1); rw [List.length_append]; show L.length + 4 ≤ _; omega
    case zb => exact congrArg (fun m => AV.lf (.own 1 m)) (show L.length + 4 = (L ++ var4 (s ++ b) i).length by rw [List.length_append]; rfl)
    case zd =>
      show _ = [ask13V R S N F n A, Blk.arr _ 3 (fileRows (L ++ var4 (s ++ b) i))] ++ [_]
      rw [fileRows_app]
      rfl
  rintro _ ⟨hX1, hX2⟩
  refine aw_of T_ok (by kernel_rfl) ?_
  conv => whnf
  refine AW.loop (fun k : Nat => k ≤ 2 ∧ k ≤ S.length) (fun k => [(1, .lf (.ptr 0 0)), (3, .lf (.own 1 (X.2 ++ (S.take k).map (txtF X.1)).length)), (4, Sx X.1), (8, Go.Rx.I k)]) (fun k => [ask13V R S N F n A, .arr 30 3 (fileRows (X.2 ++ (S.take k).map (txtF X.1)))]) (fun k => 2 - k) [] ?_ ?_
  · have e : X.2 ++ (S.take 0).map (txtF X.1) = X.2 := by rw [List.take_zero, List.map_nil, List.append_nil]
    refine ⟨0, ⟨by omega, by omega⟩, ⟨rfl, congrArg (fun L : List FileS => AV.lf (.own 1 L.length)) e.symm, rfl, rfl, trivial⟩, ⟨[], ?zz⟩, rfl, rfl⟩
    case zz => exact congrArg (fun L : List FileS => [ask13V R S N F n A, Blk.arr 30 3 (fileRows L)]) e.symm
  rintro k ⟨hk, hkS⟩
  have wk : IntKind.i64.wrap ((k : Int) + 1) = ((k + 1 : Nat) : Int) := wrapI (by omega)
  have done : (S.length ≤ k ∨ 2 ≤ k) → X.2 ++ (S.take k).map (txtF X.1) = fs := fun e => by
    rw [hfl]
    rcases e with e | e
    · rw [List.take_of_length_le e, List.take_of_length_le (by omega)]
    · rw [show k = 2 by omega]
  have hLl : (X.2 ++ (S.take k).map (txtF X.1)).length = X.2.length + k := by rw [List.length_append, List.length_map, List.length_take]; omega
  have hnx : k < S.length → X.2 ++ (S.take (k + 1)).map (txtF X.1) = X.2 ++ (S.take k).map (txtF X.1) ++ [txtF X.1 (S[k]?.getD ⟨#[]⟩)] := fun e => by
    rw [take_succ' e, List.map_append, ← List.append_assoc, List.getElem?_eq_getElem e]; rfl
  generalize X.2 ++ (S.take k).map (txtF X.1) = L at done hLl hnx
  refine aw_of T_ok (by kernel_rfl) ?_
  conv => whnf
  split <;> rename_i t1 <;> conv => whnf
  rotate_left
  · have a1 : ¬ (k : Int) < ((S.map fun s => [pS s]).length : Int) := of_decide_eq_false t1
    have e := done (.inl (by omega))
    subst e
    exact ⟨[], [1], [.lf (.own 0 L.length)], [.lf (.own 0 L.length)], rfl, rfl, rfl, wk_refl _, rfl⟩
  have a1 : (k : Int) < ((S.map fun s => [pS s]).length : Int) := of_decide_eq_true t1
  split <;> rename_i t2 <;> conv => whnf
  rotate_left
  · have a2 : ¬ (k : Int) < 2 := of_decide_eq_false t2
    have e := done (.inr (by omega))
    subst e
    exact ⟨[], [1], [.lf (.own 0 L.length)], [.lf (.own 0 L.length)], rfl, rfl, rfl, wk_refl _, rfl⟩
  have a2 : (k : Int) < 2 := of_decide_eq_true t2
  have hkl : k < S.length := by omega
  have hrow : (S.map fun s => [pS s])[k]? = some [pS (S[k]?.getD ⟨#[]⟩)] := by simp [hkl]
  have h7 : (S[k]?.getD ⟨#[]⟩).size ≤ 7000 := by rw [List.getElem?_eq_getElem hkl]; exact hS _ (List.getElem_mem hkl)
  have hn2 := hnx hkl
  generalize S[k]?.getD ⟨#[]⟩ = t at hrow h7 hn2
  refine ⟨by omega, _, hrow, ?_⟩
  conv => whnf
  refine ⟨by show X.1.size + t.size ≤ _; omega, ?_⟩
  conv => whnf
  refine ⟨rfl, _, .inl rfl, ?_⟩
  conv => whnf
  refine ⟨List.length_map .., by show (L.length + 1) * 40 ≤ _; omega, ?_⟩
  conv => whnf
  refine ⟨k + 1, ⟨⟨by omega, hkl⟩, by omega⟩, ⟨rfl, ?ya, rfl, congrArg Go.Rx.I wk, trivial⟩, ⟨[?yb], ?yc⟩, rfl, rfl⟩
  case ya => exact congrArg (fun m => AV.lf (.own 1 m)) (show L.length + 1 = (X.2 ++ (S.take (k + 1)).map (txtF X.1)).length by rw [hn2, List.length_append]; rfl)
  case yc =>
    show _ = [ask13V R S N F n A, Blk.arr _ 3 (fileRows (X.2 ++ (S.take (k + 1)).map (txtF X.1)))] ++ [_]
    rw [hn2, fileRows_app]
    rfl
end Go.Proofs.YteebnpkoephjnaaGreat.Rx

/- A journal with a byte another one: the law's body. -/
set_option linter.unusedVariables false
set_option linter.unusedSimpArgs false
namespace Go.Rx
def rotR (i : Nat) : Rec := ⟨2 + (i : Int), 1 + (i : Int), if i = 4 then 1 else 0, ⟨#[]⟩, ⟨#[]⟩, []⟩
abbrev rotL (n : Nat) : List Rec := (List.range n).map rotR
abbrev rotRow (i : Nat) : List PV := [pI (rotR i).kind, pI (rotR i).id, pI (rotR i).n, pS ⟨#[]⟩, pS ⟨#[]⟩, .sc (.slice none 0 0)]
abbrev rotRows (n : Nat) : List (List PV) := (List.range n).map rotRow
theorem rot_b {i : Nat} (h : i < 5) : recB (rotR i) = true := by
  have : i = 0 ∨ i = 1 ∨ i = 2 ∨ i = 3 ∨ i = 4 := by omega
  rcases this with rfl | rfl | rfl | rfl | rfl <;> decide
theorem rot_size {i : Nat} : (plainS (rotR i)).size = 16 := bare_size (by show ¬ 2 + (i : Int) = 1; omega)
theorem rot_good {i : Nat} (h : i < 5) : GoodR (rotR i) := ⟨rot_b h, by rw [rot_size]; decide⟩
theorem rot_all {n : Nat} (h : n ≤ 5) : ∀ r ∈ rotL n, GoodR r := fun r hr => by
  obtain ⟨i, hi, rfl⟩ := List.mem_map.1 hr
  have := List.mem_range.1 hi
  exact rot_good (by omega)
theorem rot_snoc (n : Nat) : rotL (n + 1) = rotL n ++ [rotR n] := by rw [rotL, List.range_succ, List.map_append]; rfl
theorem rotRows_snoc (n : Nat) : rotRows (n + 1) = rotRows n ++ [rotRow n] := by rw [rotRows, List.range_succ, List.map_append]; rfl
theorem rot_len (n : Nat) : (rotL n).length = n := by simp
theorem rotRows_len (n : Nat) : (rotRows n).length = n := by simp
theorem rot_cat : ∀ n, n ≤ 5 → (catR (rotL n)).size = 24 * n
  | 0, _ => rfl
  | n + 1, h => by
    rw [rot_snoc, catR_app, catR_one, ByteArray.size_append, rot_cat n (by omega), frR_size (rot_good (by omega)), rot_size]; omega
theorem rot_take {n : Nat} (h : n ≤ 5) : (rotL 5).take n = rotL n := by
  rw [rotL, ← List.map_take, List.take_range, Nat.min_eq_left h]
theorem rotRows_take {n : Nat} (h : n ≤ 5) : (rotRows 5).take n = rotRows n := by
  rw [rotRows, ← List.map_take, List.take_range, Nat.min_eq_left h]
theorem rot_wk (n : Nat) : WkL (.pv (.sl 6 (rotRows n))) (.pv (encRecs (rotL n))) := by
  have e : encRecs (rotL n) = .sl 6 ((List.range n).map fun i => (rotR i).enc) := by show PV.sl 6 _ = _; rw [rotL, List.map_map]; rfl
  rw [e]
  exact wkR (fa_maps (fun i => ⟨wkPE _, wkPE _, wkPE _, wkPE _, wkPE _, wkPN 6, trivial⟩) _)
theorem scan_rest : ∀ (f : Nat) (s : ByteArray), (scanG f s).2.size ≤ s.size
  | 0, s => Nat.le_refl _
  | f + 1, s => by
    rw [scanG]
    split
    · rename_i e
      obtain ⟨g, hs⟩ := take_eat e
      have h1 := congrArg ByteArray.size hs
      rw [ByteArray.size_append] at h1
      have := scan_rest f (takeR s).2.1
      show (scanG f (takeR s).2.1).2.size ≤ _
      omega
    · exact Nat.le_refl _
/-- With a byte another one: the records ahead are told, the one that it is in is not told as it was. -/
theorem rot_scan {k : Nat} {v : UInt8} {z : ByteArray} (hk : k < 120) (hv : (catR (rotL 5)).data.toList[k]? ≠ some v) (hz : z.data.toList = (catR (rotL 5)).data.toList.set k v) :
    ∃ l', (scanS z).1 = rotL (k / 24) ++ l' ∧ (∀ r, l'[0]? = some r → r ≠ rotR (k / 24)) ∧ k / 24 * 24 ≤ scanN z ∧ z.size = 120 := by
  have hn : k / 24 < 5 := by omega
  obtain ⟨n, hnk⟩ : ∃ n, n = k / 24 := ⟨_, rfl⟩
  rw [← hnk] at hn ⊢
  have hs1 := rot_cat n (by omega)
  have hs5 := rot_cat 5 (by omega)
  have hsp : catR (rotL 5) = catR (rotL n) ++ catR ((rotL 5).drop n) := by rw [← catR_app, ← rot_take (n := n) (by omega), List.take_append_drop]
  have hd : (rotL 5).drop n = rotR n :: (rotL 5).drop (n + 1) := by
    rw [List.drop_eq_getElem_cons (by rw [rot_len]; omega)]
    simp [rotL]
  have hfz : (frR (rotR n)).size = 24 := by rw [frR_size (rot_good hn), rot_size]
  have hz0 : z.size = 120 := by
    have := congrArg List.length hz
    rw [List.length_set, ba_len, ba_len] at this
    omega
  obtain ⟨junk, hj⟩ : ∃ junk : ByteArray, junk = bytesOf ((catR ((rotL 5).drop n)).data.toList.set (k - 24 * n) v) := ⟨_, rfl⟩
  have hjl : junk.data.toList = (catR ((rotL 5).drop n)).data.toList.set (k - 24 * n) v := by rw [hj]; rfl
  have hzj : z = catR (rotL n) ++ junk := ba_ext (by
    rw [hz, ba_app, hjl, hsp, ba_app, List.set_append_right _ _ (by rw [ba_len]; omega), ba_len, hs1])
  have hzs : z.size = 24 * n + junk.size := by rw [hzj, ByteArray.size_append, hs1]
  have hsc : scanS z = (rotL n ++ (scanG (121 - n) junk).1, (scanG (121 - n) junk).2) := by
    rw [scanS, hz0, hzj]
    have := scan_cat (t := junk) (rotL n) (121 - n) (rot_all (by omega))
    rw [rot_len, show 121 - n + n = 120 + 1 by omega] at this
    exact this
  refine ⟨(scanG (121 - n) junk).1, by rw [hsc], fun r hr e => ?_, ?_, hz0⟩
  · subst e
    rw [show 121 - n = (120 - n) + 1 by omega, scanG] at hr
    split at hr
    · rename_i ht
      obtain ⟨g, hs⟩ := take_eat ht
      have hr' : (takeR junk).1 = rotR n := by simpa using hr
      rw [hr'] at hs
      -- the bytes of this record stand there, yet one is another
      have h1 := congrArg (fun b : ByteArray => b.data.toList[k - 24 * n]?) hs
      simp only [ba_app] at h1
      rw [hjl, List.getElem?_set_self (by rw [ba_len, hd]; show _ < (frR (rotR n) ++ _).size; rw [ByteArray.size_append]; omega), List.getElem?_append_left (by rw [ba_len]; omega)] at h1
      refine hv ?_
      rw [hsp, ba_app, List.getElem?_append_right (by rw [ba_len]; omega), ba_len, hs1, hd]
      show (frR (rotR n) ++ catR ((rotL 5).drop (n + 1))).data.toList[k - 24 * n]? = _
      rw [ba_app, List.getElem?_append_left (by rw [ba_len]; omega), ← h1]
    · cases hr
  · rw [scanN, hsc]
    have := scan_rest (121 - n) junk
    show n * 24 ≤ z.size - (scanG (121 - n) junk).2.size
    omega
end Go.Rx

/- A journal with a byte another one: the law's body, walked. -/
set_option linter.unusedVariables false
set_option linter.unusedSimpArgs false
namespace Go.Rx
theorem rot_bytes {i : Nat} (h : i < 5) : bytes9R (rotR i) = (frR (rotR i), true) := by
  rw [bytes9R, if_neg (by rw [rot_size]; decide)]
theorem rot_kind (i : Nat) (h : i < 5) : (rotR i).n = if (rotR i).kind = 6 then 1 else 0 := by
  have : i = 0 ∨ i = 1 ∨ i = 2 ∨ i = 3 ∨ i = 4 := by omega
  rcases this with rfl | rfl | rfl | rfl | rfl <;> rfl
theorem scan_good : ∀ (f : Nat) (s : ByteArray), ∀ r ∈ (scanG f s).1, GoodR r
  | 0, s, r, hr => (List.not_mem_nil hr).elim
  | f + 1, s, r, hr => by
    rw [scanG] at hr
    split at hr
    · rename_i e
      rcases List.mem_cons.1 hr with rfl | h
      · exact (take_eat e).1
      · exact scan_good f _ r h
    · exact (List.not_mem_nil hr).elim
theorem scan_steps (s : ByteArray) : ∀ r ∈ (scanS s).1, r.steps.length * 80 ≤ 140737488351232 := fun r hr => by
  have := (small_of (scan_good _ _ r hr).b).len
  omega
theorem byte_other (c : UInt8) (m : Int) : byteZ ((c.toNat : Int) + IntKind.u8.wrap (IntKind.i64.wrap (1 + m % 255))) ≠ c := fun e => by
  have h1 := byteZ_nat ((c.toNat : Int) + IntKind.u8.wrap (IntKind.i64.wrap (1 + m % 255)))
  rw [e, u8_wrap, wrapI (by omega)] at h1
  have := c.toNat_lt
  omega
end Go.Rx
namespace Go.Proofs.YteebnpkoephjnaaGreat.Rx
open Go.Rx Go.Proofs Go.Proofs.YteebnpkoephjnaaGreat.RxB
end Go.Proofs.YteebnpkoephjnaaGreat.Rx

/- Journals, exact: the law's body. -/
set_option linter.unusedVariables false
set_option linter.unusedSimpArgs false
namespace Go.Rx
theorem safe_le {F : FileS} {A : List FAct} (h : decide (6000 < heavy12N F A) = false) : F.safe.size ≤ 6000 := by
  have h1 : ¬ 6000 < heavy12N F A := of_decide_eq_false h
  have h2 := heavy12_ge A ((F.safe.size : Int) + F.tail.size + A.length)
  unfold heavy12N at h1
  omega
/-- What adding a record to a file makes, by what the page asks. -/
theorem japp_nine {f : FileS} {r : Rec} : jappP f r = if fileB f then (if recB r then (if (bytes9R r).2 then (if (bytes9R r).1.size ≤ roomF f then (⟨f.safe, f.tail ++ (bytes9R r).1, f.cap⟩, 0) else (zF, 7)) else (zF, 2)) else (zF, 1)) else (zF, 1) := by
  unfold jappP
  by_cases c1 : fileB f = true
  rotate_left
  · rw [if_neg c1, if_neg c1]
  rw [if_pos c1, if_pos c1]
  by_cases c2 : recB r = true
  rotate_left
  · have e : bytesR r = (⟨#[]⟩, 1) := by rw [bytesR, if_neg c2]
    rw [e, if_neg c2]; rfl
  rw [if_pos c2, (nine_eq c2).1]
  by_cases c3 : (bytes9R r).2 = true
  rotate_left
  · rw [if_neg c3, if_neg c3]; rfl
  rw [if_pos c3, if_pos c3]
  show (if (0 : Int) = 0 then fappP f (bytes9R r).1 else _) = _
  rw [if_pos rfl, fappP, if_pos c1]
  by_cases c4 : (bytes9R r).1.size ≤ roomF f
  · rw [if_neg (by omega), if_pos c4]
  · rw [if_pos (by omega), if_neg c4]
theorem scan_many : ∀ (f : Nat) (s : ByteArray), 8 * (scanG f s).1.length + (scanG f s).2.size ≤ s.size
  | 0, s => by show 8 * 0 + s.size ≤ s.size; omega
  | f + 1, s => by
    rw [scanG]
    split
    · rename_i e
      obtain ⟨g, hs⟩ := take_eat e
      have h1 := congrArg ByteArray.size hs
      rw [ByteArray.size_append, frR_size g] at h1
      have := scan_many f (takeR s).2.1
      simp only [List.length_cons]
      omega
    · show 8 * 0 + s.size ≤ s.size; omega
theorem file_self (x : FileS) : ((x.safe == x.safe) && ((x.tail == x.tail) && ((x.cap == x.cap) && true))) = true := by simp
end Go.Rx
namespace Go.Proofs.YteebnpkoephjnaaGreat.Rx
open Go.Rx Go.Proofs Go.Proofs.YteebnpkoephjnaaGreat.RxB
set_option maxRecDepth 100000 in
set_option maxHeartbeats 8000000 in
theorem journalExact_con (R : List Rec) (S : List ByteArray) (N : List Int) (F : FileS) (n0 : Int) (As : List FAct) (h : Ask13 R S F As) (hN : N.length ≤ 140737488351232) : Con P 3 [encAsk13 R S N F n0 As] (Bl true) [] := by
  have hRm : (R.map Rec.enc).length = R.length := List.length_map ..
  have hlen := h.a11.len
  have chv := heavy13_con R S N F n0 As h
  by_cases hv : (heavy11B R S N || decide (6000 < heavy12N F As)) = true
  · rw [hv] at chv
    refine Con.of T_ok Tryz.func3 rfl (by kernel_rfl) (by kernel_rfl) (aw_of T_ok (by kernel_rfl) ?_)
    conv => whnf
    refine callS chv rfl ?_
    conv => whnf
    exact finB ⟨rfl⟩
  have hv' : (heavy11B R S N || decide (6000 < heavy12N F As)) = false := by simpa using hv
  rw [hv'] at chv
  rw [Bool.or_eq_false_iff] at hv'
  have hS7 := texts_le h.a11.txt h.a11.strs hN (Bool.or_eq_false_iff.1 hv'.1).2
  have hF : FsOk F := ⟨h.file, by have := safe_le hv'.2; omega⟩
  obtain ⟨hfs, hfl⟩ := files_ok (R := R) (S := S) hF hS7
  have cfi := files_con R S N F n0 As h hS7
  generalize filesL R S F = fs at hfs hfl cfi
  have hfm : (fileRows fs).length = fs.length := List.length_map ..
  refine Con.of T_ok Tryz.func3 rfl (by kernel_rfl) (by kernel_rfl) (aw_of T_ok (by kernel_rfl) ?_)
  conv => whnf
  refine callS chv rfl ?_
  conv => whnf
  refine ⟨_, _, _, wk_refl _, cfi, .inr ?_⟩
  conv => whnf
  refine AW.loop (fun i : Nat => i ≤ fs.length) (fun i => [(1, .lf (.ptr 0 0)), (3, .lf (.own 1 fs.length)), (4, Go.Rx.I i)]) (fun _ => [ask13V R S N F n0 As, .arr 30 3 (fileRows fs)]) (fun i => fs.length - i) [] ?_ ?_
  · exact ⟨0, Nat.zero_le _, ⟨rfl, rfl, rfl, trivial⟩, ⟨[], rfl⟩, rfl, rfl⟩
  intro i hi
  have wi : IntKind.i64.wrap ((i : Int) + 1) = ((i + 1 : Nat) : Int) := wrapI (by omega)
  refine aw_ofC T_ok 1013 (by kernel_rfl) ?_
  conv => whnf
  refine ⟨hfm, ?_⟩
  conv => whnf
  split <;> rename_i t1 <;> conv => whnf
  rotate_left
  · refine callS wakes13_con rfl ?_
    conv => whnf
    exact finB ⟨rfl⟩
  have hif : i < fs.length := by have : (i : Int) < (fs.length : Int) := of_decide_eq_true t1
                                 omega
  have hrow : (fileRows fs)[i]? = some fs[i].enc := by simp [hif]
  have hf := hfs _ (List.getElem_mem hif)
  generalize fs[i] = f at hrow hf
  have csc := scan_con f.safe hf.le
  have cs9 := scan9_con f.safe hf.le
  have crc := recover_con f hf.ok
  have cf9 := file9_con f hf.ok
  have hstl := scan_steps f.safe
  have hl1 : (scanS f.safe).1.length * 80 ≤ 140737488351232 := by
    have h1 := scan_many (f.safe.size + 1) f.safe
    have h2 := hf.le
    have h3 : (scanS f.safe).1.length = (scanG (f.safe.size + 1) f.safe).1.length := rfl
    omega
  have hrv : recovP f = if fileB f then (if f.tail = ⟨#[]⟩ then ((scanS f.safe).1, ⟨f.safe.extract 0 (scanN f.safe), f.tail, f.cap⟩, 0) else ([], zF, 9)) else ([], zF, 1) := rfl
  have hnl := scanN_le f.safe
  generalize scanN f.safe = at0 at csc cs9 hrv hnl
  generalize (scanS f.safe).1 = l1 at csc cs9 hrv hstl hl1
  have hl1m : (l1.map Rec.enc).length = l1.length := List.length_map ..
  have hq0 : (recovP f).2.2 = 0 ∧ (recovP f).1 = l1 ∨ (recovP f).2.2 = 9 ∧ (recovP f).1 = [] ∨ (recovP f).2.2 = 1 ∧ (recovP f).1 = [] := by
    rw [hrv]
    by_cases c1 : fileB f = true
    · rw [if_pos c1]
      by_cases c2 : f.tail = ⟨#[]⟩
      · rw [if_pos c2]; exact .inl ⟨rfl, rfl⟩
      · rw [if_neg c2]; exact .inr (.inl ⟨rfl, rfl⟩)
    · rw [if_neg c1]; exact .inr (.inr ⟨rfl, rfl⟩)
  generalize hq : recovP f = q at crc hrv hq0
  obtain ⟨l3, x, e⟩ := q
  simp only at hq0
  have her : -9223372036854775808 ≤ e ∧ e ≤ 9223372036854775807 := by omega
  have hl3m : (l3.map Rec.enc).length = l3.length := List.length_map ..
  refine ⟨hfm, by omega, by omega, ?_⟩
  conv => whnf
  refine ⟨hfm, ?_⟩
  conv => whnf
  refine ⟨rfl, hfm, _, hrow, ?_⟩
  conv => whnf
  refine ⟨_, _, _, wk_refl _, csc, .inr ?_⟩
  conv => whnf
  refine ⟨hfm, by omega, by omega, ?_⟩
  conv => whnf
  refine ⟨hfm, ?_⟩
  conv => whnf
  refine ⟨rfl, hfm, _, hrow, ?_⟩
  conv => whnf
  refine ⟨_, _, _, wk_refl _, cs9, .inr ?_⟩
  conv => whnf
  refine ⟨hfm, by omega, by omega, ?_⟩
  conv => whnf
  refine ⟨rfl, hfm, _, hrow, ?_⟩
  conv => whnf
  refine ⟨_, _, _, wk_refl _, crc, .inr ?_⟩
  conv => whnf
  refine AW.cut (fun dp : PV => WkL (.pv dp) (.pv (encRecs l3))) (fun dp => [(1, .lf (.ptr 0 0)), (3, .lf (.own 1 fs.length)), (4, Go.Rx.I i), (5, .lf (.pv (encRecs l1))), (6, Go.Rx.I at0), (7, .lf (.pv (encRecs l1))), (8, Go.Rx.I at0), (9, .lf (.pv (encRecs l3))), (10, .lf (.ptr 5 0)), (11, Go.Rx.I e), (12, Go.Rx.I e), (13, .lf (.pv dp)), (14, .lf (.ptr 6 0))])
    (fun _ => [ask13V R S N F n0 As, .arr 30 3 (fileRows fs), .frz 6 (l1.map Rec.enc), .frz 6 (l1.map Rec.enc), .frz 6 (l3.map Rec.enc), fileV x, fileV x]) [.frz 5, .frz 7, .frz 9, .frz 13] (aw_of T_ok (by kernel_rfl) ?_) ?_
  · conv => whnf
    refine ⟨hfm, by omega, by omega, ?_⟩
    conv => whnf
    refine ⟨rfl, hfm, _, hrow, ?_⟩
    conv => whnf
    refine callS cf9 rfl ?_
    conv => whnf
    split <;> rename_i t2 <;> conv => whnf
    rotate_left
    · have hb : fileB f = false := t2
      rw [hb] at hrv
      cases hrv
      exact ⟨hl1m, hl1m, rfl, .sc (.slice none 0 0), wkN 6, ⟨rfl, rfl, rfl, rfl, rfl, rfl, rfl, rfl, rfl, rfl, rfl, rfl, rfl, trivial⟩, ⟨[], rfl⟩, rfl, rfl⟩
    have hb : fileB f = true := t2
    rw [if_pos hb] at hrv
    refine ⟨hfm, by omega, by omega, ?_⟩
    conv => whnf
    refine ⟨hfm, ?_⟩
    conv => whnf
    refine ⟨rfl, hfm, _, hrow, ?_⟩
    conv => whnf
    split <;> rename_i t3 <;> conv => whnf
    rotate_left
    · have ht : ¬ f.tail = ⟨#[]⟩ := by
        have : (f.tail == ⟨#[]⟩) = false := t3
        simpa using this
      rw [if_neg ht] at hrv
      cases hrv
      exact ⟨hl1m, hl1m, rfl, .sc (.slice none 0 0), wkN 6, ⟨rfl, rfl, rfl, rfl, rfl, rfl, rfl, rfl, rfl, rfl, rfl, rfl, rfl, trivial⟩, ⟨[], rfl⟩, rfl, rfl⟩
    have ht : f.tail = ⟨#[]⟩ := by
      have : (f.tail == ⟨#[]⟩) = true := t3
      simpa using this
    rw [if_pos ht, ht] at hrv
    cases hrv
    refine AW.draw T_ok rfl (listPl [0, 1, 2, 3, 4, 5, 6, 8, 9, 10, 11, 12, 14, 15, 7, 13, 16]) (by kernel_rfl) (by kernel_rfl) ?_
    conv => whnf
    refine ⟨hfm, by omega, by omega, ?_⟩
    conv => whnf
    refine ⟨hfm, ?_⟩
    conv => whnf
    refine ⟨rfl, hfm, _, hrow, ?_⟩
    conv => whnf
    refine ⟨hfm, by omega, by omega, ?_⟩
    conv => whnf
    refine ⟨hfm, ?_⟩
    conv => whnf
    refine ⟨rfl, hfm, _, hrow, ?_⟩
    conv => whnf
    refine ⟨by decide, by omega, by show (at0 : Int) ≤ (f.safe.size : Int); omega, ?_⟩
    conv => whnf
    exact ⟨hl1m, hl1m, hl1m, hl1m, encRecs l1, wkE _, ⟨rfl, rfl, rfl, rfl, rfl, rfl, rfl, rfl, rfl, rfl, rfl, rfl, rfl, trivial⟩, ⟨[], rfl⟩, rfl, rfl⟩
  intro dp hdp
  have ce1 := eqRecs_con l1 l1 hl1 hstl
  rw [decide_eq_true rfl] at ce1
  have ce3 := eqRecs_con l3 l3 (by rcases hq0 with h | h | h <;> rw [h.2] <;> first | exact hl1 | decide) (fun r hr => by
    rcases hq0 with h | h | h
    · exact hstl r (h.2 ▸ hr)
    · rw [h.2] at hr; exact (List.not_mem_nil hr).elim
    · rw [h.2] at hr; exact (List.not_mem_nil hr).elim)
  rw [decide_eq_true rfl] at ce3
  refine aw_of T_ok (by kernel_rfl) ?_
  conv => whnf
  refine callS ce1 rfl ?_
  conv => whnf
  split <;> rename_i t4 <;> conv => whnf
  · rw [neq_self] at t4
    cases t4
  refine callS (num_con e her) rfl ?_
  conv => whnf
  split <;> rename_i t5 <;> conv => whnf
  · rw [neq_self] at t5
    cases t5
  refine callW ce3 ⟨.inl rfl, .inr (.inl ⟨_, _, rfl, rfl, hdp⟩), trivial⟩ rfl ?_
  conv => whnf
  split <;> rename_i t6 <;> conv => whnf
  · have : (!((x.safe == x.safe) && ((x.tail == x.tail) && ((x.cap == x.cap) && true)))) = true := t6
    rw [file_self] at this
    cases this
  clear ce1 ce3 hdp hstl hl1 hrv hq0 her csc cs9 crc cf9
  refine AW.loop (fun j : Nat => j ≤ R.length) (fun j => [(1, .lf (.ptr 0 0)), (3, .lf (.own 1 fs.length)), (4, Go.Rx.I i), (15, Go.Rx.I j)]) (fun _ => [ask13V R S N F n0 As, .arr 30 3 (fileRows fs)]) (fun j => R.length - j) [] ?_ ?_
  · exact ⟨0, Nat.zero_le _, ⟨rfl, rfl, rfl, rfl, trivial⟩, ⟨_, rfl⟩, rfl, rfl⟩
  intro j hj
  have wj : IntKind.i64.wrap ((j : Int) + 1) = ((j + 1 : Nat) : Int) := wrapI (by omega)
  refine aw_ofC T_ok 1026 (by kernel_rfl) ?_
  conv => whnf
  split <;> rename_i t7 <;> conv => whnf
  rotate_left
  · exact ⟨i + 1, ⟨hif, by omega⟩, ⟨rfl, rfl, congrArg Go.Rx.I wi, trivial⟩, ⟨[], rfl⟩, rfl, rfl⟩
  have a7 : (j : Int) < ((R.map Rec.enc).length : Int) := of_decide_eq_true t7
  split <;> rename_i t8 <;> conv => whnf
  rotate_left
  · exact ⟨i + 1, ⟨hif, by omega⟩, ⟨rfl, rfl, congrArg Go.Rx.I wi, trivial⟩, ⟨[], rfl⟩, rfl, rfl⟩
  have hjR : j < R.length := by omega
  have hrr : (R.map Rec.enc)[j]? = some R[j].enc := by simp [hjR]
  have hr := h.a11.each _ (List.getElem_mem hjR)
  generalize R[j] = r at hrr hr
  have cc := copyRec_con r hr
  have ca := jappend_con f hf.ok r hr
  have cf9 := file9_con f hf.ok
  have cr9 := rec9_con r hr
  have cee := eqRec_con r r hr.steps.len
  rw [decide_eq_true rfl] at cee
  have hja := japp_nine (f := f) (r := r)
  have hje : (jappP f r).2 = 0 ∨ (jappP f r).2 = 1 ∨ (jappP f r).2 = 2 ∨ (jappP f r).2 = 7 := by
    rw [hja]; repeat' split
    all_goals simp
  generalize hy : jappP f r = y at ca hja hje
  obtain ⟨y, e2⟩ := y
  simp only at hje
  have her2 : -9223372036854775808 ≤ e2 ∧ e2 ≤ 9223372036854775807 := by omega
  refine ⟨by omega, _, hrr, ?_⟩
  conv => whnf
  refine callU cc (fun _ => rfl) ?_
  conv => whnf
  refine AW.draw T_ok rfl (.one 0 (.one 1 (.one 2 (.one 3 (.one 4 (.two 5 (listPl [6, 7, 8, 9, 10, 11]) 9 (listPl [5, 6, 7, 8, 10, 11]))))))) (by kernel_rfl) (by kernel_rfl) ?_
  conv => whnf
  refine ⟨hfm, by omega, by omega, ?_⟩
  conv => whnf
  refine ⟨rfl, hfm, _, hrow, ?_⟩
  conv => whnf
  refine ⟨?_, ?_⟩ <;> conv => whnf
  all_goals
    refine callU ca (fun _ => rfl) ?_
    conv => whnf
    refine AW.cut (fun _ : Unit => True) (fun _ => [(1, .lf (.ptr 0 0)), (3, .lf (.own 1 fs.length)), (4, Go.Rx.I i), (15, Go.Rx.I j), (16, .lf (.ptr 2 0)), (17, .lf (.ptr 3 0)), (18, Go.Rx.I e2), (19, Go.Rx.I e2), (20, .lf (.ptr 4 0))])
      (fun _ => [ask13V R S N F n0 As, .arr 30 3 (fileRows fs), recVb r, fileV y, fileV y]) [] (aw_of T_ok (by kernel_rfl) ?_) ?_
    · conv => whnf
      refine ⟨hfm, by omega, by omega, ?_⟩
      conv => whnf
      refine ⟨rfl, hfm, _, hrow, ?_⟩
      conv => whnf
      refine callS cf9 rfl ?_
      conv => whnf
      split <;> rename_i u1 <;> conv => whnf
      rotate_left
      · have hb : fileB f = false := u1
        rw [hb] at hja
        cases hja
        exact ⟨(), trivial, ⟨rfl, rfl, rfl, rfl, rfl, rfl, rfl, rfl, rfl, trivial⟩, ⟨[], rfl⟩, rfl, rfl⟩
      have hb : fileB f = true := u1
      rw [if_pos hb] at hja
      refine ⟨by omega, _, hrr, ?_⟩
      conv => whnf
      refine callS cr9 rfl ?_
      conv => whnf
      split <;> rename_i u2 <;> conv => whnf
      rotate_left
      · have hb2 : recB r = false := u2
        rw [hb2] at hja
        cases hja
        exact ⟨(), trivial, ⟨rfl, rfl, rfl, rfl, rfl, rfl, rfl, rfl, rfl, trivial⟩, ⟨[], rfl⟩, rfl, rfl⟩
      have hb2 : recB r = true := u2
      rw [if_pos hb2] at hja
      have cb9 := bytes9_con r (small_of hb2)
      have hz9 := (good_nine hb2).2
      generalize bytes9R r = w at cb9 hz9 hja
      obtain ⟨b, ok⟩ := w
      simp only at hz9
      refine ⟨by omega, _, hrr, ?_⟩
      conv => whnf
      refine callS cb9 rfl ?_
      conv => whnf
      cases ok
      · cases hja
        exact ⟨(), trivial, ⟨rfl, rfl, rfl, rfl, rfl, rfl, rfl, rfl, rfl, trivial⟩, ⟨[], rfl⟩, rfl, rfl⟩
      rw [if_pos rfl] at hja
      conv => whnf
      refine ⟨hfm, by omega, by omega, ?_⟩
      conv => whnf
      refine ⟨rfl, hfm, _, hrow, ?_⟩
      conv => whnf
      refine callS (free9_con f hf.ok hb) rfl ?_
      conv => whnf
      split <;> rename_i u3 <;> conv => whnf
      rotate_left
      · have a3 : ¬ (b.size : Int) ≤ roomF f := of_decide_eq_false u3
        rw [if_neg a3] at hja
        cases hja
        exact ⟨(), trivial, ⟨rfl, rfl, rfl, rfl, rfl, rfl, rfl, rfl, rfl, trivial⟩, ⟨[], rfl⟩, rfl, rfl⟩
      have a3 : (b.size : Int) ≤ roomF f := of_decide_eq_true u3
      rw [if_pos a3] at hja
      cases hja
      have htl := hf.ok.tail
      refine AW.draw T_ok rfl (seqPl 0 20) (by kernel_rfl) (by kernel_rfl) ?_
      conv => whnf
      refine ⟨hfm, by omega, by omega, ?_⟩
      conv => whnf
      refine ⟨hfm, ?_⟩
      conv => whnf
      refine ⟨rfl, hfm, _, hrow, ?_⟩
      conv => whnf
      refine ⟨hfm, by omega, by omega, ?_⟩
      conv => whnf
      refine ⟨hfm, ?_⟩
      conv => whnf
      refine ⟨rfl, hfm, _, hrow, ?_⟩
      conv => whnf
      refine ⟨by show f.tail.size + b.size ≤ _; omega, ?_⟩
      conv => whnf
      refine ⟨hfm, by omega, by omega, ?_⟩
      conv => whnf
      refine ⟨hfm, ?_⟩
      conv => whnf
      refine ⟨rfl, hfm, _, hrow, ?_⟩
      conv => whnf
      exact ⟨(), trivial, ⟨rfl, rfl, rfl, rfl, rfl, rfl, rfl, rfl, rfl, trivial⟩, ⟨[], rfl⟩, rfl, rfl⟩
    rintro _ _
    refine aw_of T_ok (by kernel_rfl) ?_
    conv => whnf
    refine AW.draw T_ok rfl (listPl [0, 2, 1, 3, 4, 5, 6, 7, 8, 9, 10, 11, 12, 13, 14, 15, 16, 17, 18, 19]) (by kernel_rfl) (by kernel_rfl) ?_
    conv => whnf
    refine callS (num_con e2 her2) rfl ?_
    conv => whnf
    split <;> rename_i u4 <;> conv => whnf
    · rw [neq_self] at u4
      cases u4
    split <;> rename_i u5 <;> conv => whnf
    · have : (!((y.safe == y.safe) && ((y.tail == y.tail) && ((y.cap == y.cap) && true)))) = true := u5
      rw [file_self] at this
      cases this
    refine ⟨by omega, _, hrr, ?_⟩
    conv => whnf
    refine callS cee rfl ?_
    conv => whnf
    exact ⟨j + 1, ⟨hjR, by omega⟩, ⟨rfl, rfl, rfl, congrArg Go.Rx.I wj, trivial⟩, ⟨_, rfl⟩, rfl, rfl⟩
end Go.Proofs.YteebnpkoephjnaaGreat.Rx
