/- The texts of the proof, part 8, in order. -/
import Derived.Test.YtfjllfjmggooeaaGreatDoorZg
import Derived.Test.YtfjllfjmggooeaaGreatDoorZe
import Derived.Shelf.Spec.SlicesInsert
import Derived.Shelf.Spec.SlicesInsertGrow
import Derived.Test.YtfjllfjmggooeaaGreatDoorZf
/- Records behind each other: what bytes begin with, plain. -/
set_option linter.unusedVariables false
set_option linter.unusedSimpArgs false
namespace Go.Rx
theorem ba_ext {a b : ByteArray} (h : a.data.toList = b.data.toList) : a = b := ByteArray.ext (Array.toList_inj.mp h)
theorem ba_app (a b : ByteArray) : (a ++ b).data.toList = a.data.toList ++ b.data.toList := by rw [ByteArray.data_append, Array.toList_append]
theorem ba_len (a : ByteArray) : a.data.toList.length = a.size := rfl
theorem ba_ex (s : ByteArray) (i j : Nat) : (s.extract i j).data.toList = (s.data.toList.drop i).take (j - i) := ext_list s i j
theorem ba_assoc (a b c : ByteArray) : a ++ b ++ c = a ++ (b ++ c) := ba_ext (by simp only [ba_app, List.append_assoc])
theorem ba_nil (a : ByteArray) : a ++ ⟨#[]⟩ = a := ba_ext (by rw [ba_app]; simp)
theorem ba_nil' (a : ByteArray) : (⟨#[]⟩ : ByteArray) ++ a = a := ba_ext (by rw [ba_app]; rfl)
theorem ba_split (s : ByteArray) (k : Nat) (h : k ≤ s.size) : s = s.extract 0 k ++ s.extract k s.size := ba_ext (by
  rw [ba_app, ba_ex, ba_ex, Nat.sub_zero, List.drop_zero, List.take_of_length_le (l := List.drop k s.data.toList) (by rw [List.length_drop, ba_len]; omega), List.take_append_drop])
theorem ba_left (a b : ByteArray) : (a ++ b).extract 0 a.size = a := ba_ext (by rw [ba_ex, ba_app, List.drop_zero, Nat.sub_zero, List.take_left' (ba_len a)])
/-- A record whose bytes may be. -/
structure GoodR (r : Rec) : Prop where
  b : recB r = true
  le : (plainS r).size ≤ 4000
abbrev frR (r : Rec) : ByteArray := frame (plainS r)
def catR : List Rec → ByteArray
  | [] => ⟨#[]⟩
  | r :: l => frR r ++ catR l
theorem catR_app : ∀ (a b : List Rec), catR (a ++ b) = catR a ++ catR b
  | [], b => (ba_nil' _).symm
  | r :: a, b => by show frR r ++ catR (a ++ b) = frR r ++ catR a ++ catR b; rw [catR_app a b, ba_assoc]
theorem catR_one (r : Rec) : catR [r] = frR r := ba_nil _
def scanG : Nat → ByteArray → List Rec × ByteArray
  | 0, s => ([], s)
  | f + 1, s => if (takeR s).2.2 = 0 then ((takeR s).1 :: (scanG f (takeR s).2.1).1, (scanG f (takeR s).2.1).2) else ([], s)
def scanS (s : ByteArray) : List Rec × ByteArray := scanG (s.size + 1) s
def scanN (s : ByteArray) : Nat := s.size - (scanS s).2.size
theorem unf_eat {s : ByteArray} (h : (unf s).2.2 = true) : s = frame (unf s).1 ++ (unf s).2.1 ∧ (unf s).1.size ≤ 4000 := by
  unfold unf at h ⊢
  split at h
  · cases h
  rename_i hc
  rw [if_neg hc]
  simp only [not_or] at hc
  obtain ⟨h1, h2, h3, h4⟩ := hc
  have h5 : num4 (s.extract 4 s.size).data.toList = chk (s.extract 0 4 ++ s.extract 8 (8 + num4 s.data.toList)).data.toList := Classical.byContradiction h4
  have hf := (frame_iff (s := s) (by omega) rfl (by omega) (by omega)).2 h5
  refine ⟨?_, ?_⟩
  · show s = frame (s.extract 8 (8 + num4 s.data.toList)) ++ s.extract (8 + num4 s.data.toList) s.size
    rw [hf]
    exact ba_split s _ (by omega)
  · show (s.extract 8 _).size ≤ _
    rw [ByteArray.size_extract]; omega
/-- What is taken stands there. -/
theorem take_eat {s : ByteArray} (h : (takeR s).2.2 = 0) : GoodR (takeR s).1 ∧ s = frR (takeR s).1 ++ (takeR s).2.1 := by
  unfold takeR at h ⊢
  by_cases hu : (unf s).2.2 = true
  · rw [if_pos hu] at h ⊢
    by_cases hg : goodP (unf s).1 (bodyP (headP (unf s).1)) = true
    · rw [if_pos hg]
      obtain ⟨e1, e2⟩ := unf_eat hu
      unfold goodP at hg
      simp only [Bool.and_eq_true, beq_iff_eq] at hg
      refine ⟨⟨hg.1.2, by show (plainS (bodyP (headP (unf s).1)).1).size ≤ _; rw [hg.2]; exact e2⟩, ?_⟩
      show s = frame (plainS (bodyP (headP (unf s).1)).1) ++ (unf s).2.1
      rw [hg.2]; exact e1
    · rw [if_neg hg] at h; cases h
  · rw [if_neg hu] at h; cases h
theorem frR_size {r : Rec} (h : GoodR r) : (frR r).size = (plainS r).size + 8 := frame_size h.le
theorem frame_four {p : ByteArray} (h : p.size ≤ 4000) : (frame p).data.toList.take 4 = be4 p.size := by
  rw [frame, if_neg (by omega)]
  show (frmL p.data.toList).take 4 = _
  rw [frmL, List.append_assoc, List.take_left' (be4_len _)]; rfl
theorem be4_inj {a b : Nat} (ha : a ≤ 4000) (hb : b ≤ 4000) (h : be4 a = be4 b) : a = b := by
  have h1 := num_be4 a
  have h2 := num_be4 b
  rw [h] at h1
  omega
/-- Two records at the begin of bytes that agree so far have as many bytes. -/
theorem same_size {p q a b : ByteArray} (hp : p.size ≤ 4000) (hq : q.size ≤ 4000) (h : (frame p ++ a).data.toList.take 4 = (frame q ++ b).data.toList.take 4) : p.size = q.size := by
  have s1 := frame_size hp
  have s2 := frame_size hq
  rw [ba_app, ba_app, List.take_append_of_le_length (by rw [ba_len]; omega), List.take_append_of_le_length (by rw [ba_len]; omega), frame_four hp, frame_four hq] at h
  exact be4_inj hp hq h
/-- A record that is cut off is none. -/
theorem take_torn {r : Rec} (h : GoodR r) {k : Nat} (hk : k < (frR r).size) : (takeR ((frR r).extract 0 k)).2.2 ≠ 0 := fun e => by
  obtain ⟨g, hs⟩ := take_eat e
  generalize (takeR ((frR r).extract 0 k)).1 = r' at g hs
  generalize (takeR ((frR r).extract 0 k)).2.1 = t' at hs
  have s1 := frR_size g
  have s2 := frR_size h
  have hz : ((frR r).extract 0 k).size = k := by rw [ByteArray.size_extract]; omega
  have hz2 : k = (frR r').size + t'.size := by rw [← hz, hs, ByteArray.size_append]
  have e1 : (frR r' ++ t').data.toList.take 4 = (frR r ++ ⟨#[]⟩).data.toList.take 4 := by
    rw [← hs, ba_nil, ba_ex, List.drop_zero, Nat.sub_zero, List.take_take, Nat.min_eq_left (by omega)]
  have := same_size g.le h.le e1
  omega
theorem take_none : (takeR ⟨#[]⟩).2.2 ≠ 0 := fun e => by
  obtain ⟨g, hs⟩ := take_eat e
  have := congrArg ByteArray.size hs
  rw [ByteArray.size_append, frR_size g] at this
  have h0 : (⟨#[]⟩ : ByteArray).size = 0 := rfl
  omega
theorem take_cat {r : Rec} (h : GoodR r) (t : ByteArray) : takeR (frR r ++ t) = (r, t, 0) := take_put h.b h.le t
theorem scan_cat {t : ByteArray} : ∀ (A : List Rec) (f : Nat), (∀ r ∈ A, GoodR r) → scanG (f + A.length) (catR A ++ t) = (A ++ (scanG f t).1, (scanG f t).2)
  | [], f, _ => by show scanG f (⟨#[]⟩ ++ t) = _; rw [ba_nil']; rfl
  | r :: A, f, h => by
    have hr := h r (List.mem_cons_self ..)
    have ih := scan_cat (t := t) A f fun x hx => h x (List.mem_cons_of_mem _ hx)
    show scanG (f + A.length + 1) (frR r ++ catR A ++ t) = _
    rw [ba_assoc, scanG, take_cat hr, if_pos rfl]
    simp only
    rw [ih]; rfl
theorem scan_stop {t : ByteArray} (h : (takeR t).2.2 ≠ 0) (f : Nat) : scanG f t = ([], t) := by
  cases f with
  | zero => rfl
  | succ f => rw [scanG, if_neg h]
theorem scan_more : ∀ (f : Nat) (s : ByteArray), s.size < f → ∀ f', s.size < f' → scanG f s = scanG f' s
  | 0, s, h, _, _ => absurd h (Nat.not_lt_zero _)
  | f + 1, s, h, 0, h' => absurd h' (Nat.not_lt_zero _)
  | f + 1, s, h, f' + 1, h' => by
    rw [scanG, scanG]
    split
    · rename_i e
      obtain ⟨g, hs⟩ := take_eat e
      have h1 := congrArg ByteArray.size hs
      rw [ByteArray.size_append, frR_size g] at h1
      rw [scan_more f _ (by omega) f' (by omega)]
    · rfl
theorem cat_le : ∀ {A : List Rec}, (∀ r ∈ A, GoodR r) → 8 * A.length ≤ (catR A).size
  | [], _ => Nat.zero_le _
  | r :: A, h => by
    have h1 := cat_le (A := A) fun x hx => h x (List.mem_cons_of_mem _ hx)
    have h2 := frR_size (h r (List.mem_cons_self ..))
    have e : catR (r :: A) = frR r ++ catR A := rfl
    rw [e, ByteArray.size_append, List.length_cons]; omega
/-- Whole records, then what is none. -/
theorem scan_whole {A : List Rec} {t : ByteArray} (h : ∀ r ∈ A, GoodR r) (ht : (takeR t).2.2 ≠ 0) : scanS (catR A ++ t) = (A, t) ∧ scanN (catR A ++ t) = (catR A).size := by
  have hl := cat_le h
  have e : scanS (catR A ++ t) = (A, t) := by
    rw [scanS, scan_more _ _ (Nat.lt_succ_self _) ((catR A ++ t).size + 1 + A.length) (by omega), scan_cat A _ h, scan_stop ht]
    simp
  exact ⟨e, by rw [scanN, e, ByteArray.size_append]; show (catR A).size + t.size - t.size = _; omega⟩
/-- How many whole records there are in so many bytes. -/
def wholeN : List Rec → Nat → Nat
  | [], _ => 0
  | r :: l, n => if (frR r).size ≤ n then wholeN l (n - (frR r).size) + 1 else 0
theorem whole_le : ∀ (A : List Rec) (n : Nat), wholeN A n ≤ A.length
  | [], _ => Nat.le_refl _
  | r :: A, n => by
    rw [wholeN]
    split
    · have := whole_le A (n - (frR r).size); rw [List.length_cons]; omega
    · exact Nat.zero_le _
/-- Bytes of records, cut off: whole ones, and part of the next. -/
theorem cut_cat : ∀ {A : List Rec} {n : Nat}, (∀ r ∈ A, GoodR r) → n ≤ (catR A).size → ∃ t, (catR A).extract 0 n = catR (A.take (wholeN A n)) ++ t ∧ (takeR t).2.2 ≠ 0 ∧ (catR (A.take (wholeN A n))).size ≤ n
  | [], n, _, hn => ⟨⟨#[]⟩, by
      have : n = 0 := Nat.le_zero.1 hn
      subst this; rfl, take_none, Nat.zero_le _⟩
  | r :: A, n, h, hn => by
    have hr := h r (List.mem_cons_self ..)
    have hA : ∀ x ∈ A, GoodR x := fun x hx => h x (List.mem_cons_of_mem _ hx)
    have e : catR (r :: A) = frR r ++ catR A := rfl
    rw [e, ByteArray.size_append] at hn
    rw [e, wholeN]
    split
    · rename_i hle
      obtain ⟨t, h1, h2, h3⟩ := cut_cat (n := n - (frR r).size) hA (by omega)
      refine ⟨t, ?_, h2, ?_⟩
      · show _ = frR r ++ catR (A.take _) ++ t
        rw [ba_assoc, ← h1]
        refine ba_ext ?_
        rw [ba_ex, ba_app, ba_app, ba_ex, List.drop_zero, List.drop_zero, Nat.sub_zero, Nat.sub_zero, List.take_append, ba_len, List.take_of_length_le (by rw [ba_len]; omega)]
      · show (frR r ++ catR (A.take _)).size ≤ n
        rw [ByteArray.size_append]; omega
    · rename_i hgt
      refine ⟨(frR r).extract 0 n, ?_, take_torn hr (by omega), Nat.zero_le _⟩
      show _ = (⟨#[]⟩ : ByteArray) ++ (frR r).extract 0 n
      rw [ba_nil']
      refine ba_ext ?_
      rw [ba_ex, ba_app, ba_ex, List.drop_zero, List.drop_zero, Nat.sub_zero, List.take_append_of_le_length (by rw [ba_len]; omega)]
theorem scan_cut {A : List Rec} {n : Nat} (h : ∀ r ∈ A, GoodR r) (hn : n ≤ (catR A).size) : (scanS ((catR A).extract 0 n)).1 = A.take (wholeN A n) ∧ scanN ((catR A).extract 0 n) = (catR (A.take (wholeN A n))).size := by
  obtain ⟨t, h1, h2, _h3⟩ := cut_cat h hn
  obtain ⟨h3, h4⟩ := scan_whole (A := A.take (wholeN A n)) (t := t) (fun r hr => h r (List.mem_of_mem_take hr)) h2
  rw [h1]
  exact ⟨by rw [h3], h4⟩
theorem whole_ge : ∀ {A : List Rec} {n m : Nat}, m ≤ A.length → (catR (A.take m)).size ≤ n → m ≤ wholeN A n
  | _, _, 0, _, _ => Nat.zero_le _
  | [], _, m + 1, h, _ => absurd h (by simp)
  | r :: A, n, m + 1, h, hs => by
    have e : catR ((r :: A).take (m + 1)) = frR r ++ catR (A.take m) := rfl
    rw [e, ByteArray.size_append] at hs
    rw [wholeN, if_pos (by omega)]
    exact Nat.succ_le_succ (whole_ge (by simpa using h) (by omega))
end Go.Rx

/- Files, and the records that bytes begin with, walked. -/
set_option linter.unusedVariables false
set_option linter.unusedSimpArgs false
namespace Go.Rx
structure FileS where
  safe : ByteArray
  tail : ByteArray
  cap : Int
structure FileS.Ok (f : FileS) : Prop where
  safe : okS f.safe
  tail : okS f.tail
abbrev FileS.enc (f : FileS) : List PV := [pS f.safe, pS f.tail, pI f.cap]
abbrev encFile (f : FileS) : AV := .agg [.pv (pS f.safe), .pv (pS f.tail), .pv (pI f.cap)]
abbrev fileE (p : FileS × Int) : AV := .tup [.agg [.pv (pS p.1.safe), .pv (pS p.1.tail), .pv (pI p.1.cap)], .lf (.pv (pI p.2))]
def fileB (f : FileS) : Bool := decide (1 ≤ f.cap) && (decide (f.cap ≤ 60000) && decide ((f.safe.size : Int) + f.tail.size ≤ f.cap))
theorem fileB_iff {f : FileS} : fileB f = true ↔ 1 ≤ f.cap ∧ f.cap ≤ 60000 ∧ (f.safe.size : Int) + f.tail.size ≤ f.cap := by
  unfold fileB; simp only [Bool.and_eq_true, decide_eq_true_eq]
def zF : FileS := ⟨⟨#[]⟩, ⟨#[]⟩, 0⟩
def roomF (f : FileS) : Int := f.cap - f.safe.size - f.tail.size
def fappP (f : FileS) (s : ByteArray) : FileS × Int := if fileB f then (if roomF f < s.size then (zF, 7) else (⟨f.safe, f.tail ++ s, f.cap⟩, 0)) else (zF, 1)
def crashF (f : FileS) (keep : Nat) : FileS := ⟨f.safe ++ f.tail.extract 0 keep, ⟨#[]⟩, f.cap⟩
def keepI (f : FileS) (keep : Int) : Nat := (min (max keep 0) f.tail.size).toNat
def crashP (f : FileS) (keep : Int) : FileS × Int := if fileB f then (crashF f (keepI f keep), 0) else (zF, 1)
def cutP (f : FileS) (n : Int) : FileS × Int := if fileB f && decide (0 ≤ n ∧ n ≤ f.safe.size) then (if f.tail = ⟨#[]⟩ then (⟨f.safe.extract 0 n.toNat, f.tail, f.cap⟩, 0) else (zF, 9)) else (zF, 1)
theorem finFE {a b : ByteArray} {c e : Int} {q : FileS × Int} (h : Fin (⟨a, b, c⟩, e) q) : ∃ zs, Fa WkA [.agg [.pv (pS a), .pv (pS b), .pv (pI c)], Go.Rx.I e] zs ∧ pack zs = some (fileE q) := ⟨_, wk_refl _, by rw [← h.out]; rfl⟩
theorem ext_tail {s a b : ByteArray} {k : Nat} (hk : k ≤ s.size) (h : s.extract k s.size = a ++ b) : s.extract (s.size - b.size) s.size = b ∧ s.size = k + a.size + b.size := by
  have hz := congrArg ByteArray.size h
  rw [ByteArray.size_extract, ByteArray.size_append] at hz
  have e : s.data.toList.drop k = a.data.toList ++ b.data.toList := by
    have := congrArg (fun x : ByteArray => x.data.toList) h
    simp only [ba_ex, ba_app] at this
    rw [← this, List.take_of_length_le]
    rw [List.length_drop, ba_len]
    omega
  refine ⟨ba_ext ?_, by omega⟩
  rw [ba_ex, List.take_of_length_le (by rw [List.length_drop, ba_len]; omega), show s.size - b.size = k + a.size by omega, ← List.drop_drop, e, List.drop_left' (ba_len a)]
end Go.Rx
namespace Go.Proofs.YtfjllfjmggooeaaGreatDoor.Rx
open Go.Rx Go.Proofs Go.Proofs.YtfjllfjmggooeaaGreatDoor.RxB
theorem fmay_con (f : FileS) (h : f.Ok) : Con P 85 [encFile f] (Bl (fileB f)) [] := by
  have h1 := h.safe
  have h2 := h.tail
  refine Con.of T_ok Tryz.func85 rfl (by kernel_rfl) (by kernel_rfl) (aw_of T_ok (by kernel_rfl) ?_)
  conv => whnf
  split <;> rename_i t1 <;> conv => whnf
  · split <;> rename_i t2 <;> conv => whnf
    · refine finB ⟨?_⟩
      rw [fileB, show decide (1 ≤ f.cap) = true from t1, show decide (f.cap ≤ 60000) = true from t2, wrapI (by omega)]
      simp
    · exact finB ⟨by rw [fileB, show decide (f.cap ≤ 60000) = false from t2]; simp⟩
  · exact finB ⟨by rw [fileB, show decide (1 ≤ f.cap) = false from t1]; simp⟩
theorem froom_con (f : FileS) (h : f.Ok) (hb : fileB f = true) : Con P 146 [encFile f] (Go.Rx.I (roomF f)) [] := by
  obtain ⟨h1, h2, h3⟩ := fileB_iff.1 hb
  refine Con.of T_ok Tryz.func146 rfl (by kernel_rfl) (by kernel_rfl) (aw_of T_ok (by kernel_rfl) ?_)
  conv => whnf
  exact finI ⟨by rw [wrapI (n := f.cap - f.safe.size) (by omega), wrapI (by omega), roomF]⟩
theorem fapp_con (f : FileS) (h : f.Ok) (s : ByteArray) (hs : okS s) : Con P 148 [encFile f, Sx s] (fileE (fappP f s)) [] := by
  have h1 := h.safe
  have h2 := h.tail
  have cm := fmay_con f h
  obtain ⟨q, hq⟩ : ∃ q, q = fappP f s := ⟨_, rfl⟩
  rw [← hq]
  refine Con.of T_ok Tryz.func148 rfl (by kernel_rfl) (by kernel_rfl) (aw_of T_ok (by kernel_rfl) ?_)
  conv => whnf
  refine callS cm rfl ?_
  conv => whnf
  split <;> rename_i t1 <;> conv => whnf
  · have hb : fileB f = false := by simpa using t1
    rw [fappP, hb] at hq
    exact finFE ⟨hq.symm⟩
  have hb : fileB f = true := by simpa using t1
  refine callS (froom_con f h hb) rfl ?_
  conv => whnf
  split <;> rename_i t2 <;> conv => whnf
  · have : (s.size : Int) > roomF f := of_decide_eq_true t2
    rw [fappP, if_pos hb, if_pos (by omega)] at hq
    exact finFE ⟨hq.symm⟩
  · have hr : ¬ (s.size : Int) > roomF f := of_decide_eq_false t2
    rw [fappP, if_pos hb, if_neg (by omega)] at hq
    have hbi := fileB_iff.1 hb
    refine ⟨by show f.tail.size + s.size ≤ _; unfold roomF at hr; omega, ?_⟩
    conv => whnf
    exact finFE ⟨hq.symm⟩
theorem fcrash_con (f : FileS) (h : f.Ok) (keep : Int) : Con P 57 [encFile f, Go.Rx.I keep] (fileE (crashP f keep)) [] := by
  have h1 := h.safe
  have h2 := h.tail
  have cm := fmay_con f h
  obtain ⟨q, hq⟩ : ∃ q, q = crashP f keep := ⟨_, rfl⟩
  rw [← hq]
  refine Con.of T_ok Tryz.func57 rfl (by kernel_rfl) (by kernel_rfl) (aw_of T_ok (by kernel_rfl) ?_)
  conv => whnf
  refine callS cm rfl ?_
  conv => whnf
  split <;> rename_i t1 <;> conv => whnf
  · have hb : fileB f = false := by simpa using t1
    rw [crashP, hb] at hq
    exact finFE ⟨hq.symm⟩
  have hb : fileB f = true := by simpa using t1
  rw [crashP, if_pos hb] at hq
  obtain ⟨k, hk, hk2⟩ : ∃ k : Nat, (if (f.tail.size : Int) < (if (0 : Int) > keep then (0 : Int) else keep) then (f.tail.size : Int) else (if (0 : Int) > keep then (0 : Int) else keep)) = k ∧ k = keepI f keep := by
    refine ⟨_, ?_, rfl⟩
    unfold keepI
    split <;> split <;> omega
  have hkl : k ≤ f.tail.size := by rw [hk2, keepI]; omega
  have hbi := fileB_iff.1 hb
  refine AW.draw T_ok rfl (listPl [0, 1, 2, 3, 4, 6, 7, 8, 5, 9, 10, 11, 12, 13]) (by kernel_rfl) (by kernel_rfl) ?_
  conv => whnf
  refine ⟨by decide, by rw [hk]; omega, by rw [hk]; omega, ?_⟩
  conv => whnf
  have e : f.tail.extract (0 : Int).toNat (if (f.tail.size : Int) < (if (0 : Int) > keep then (0 : Int) else keep) then (f.tail.size : Int) else (if (0 : Int) > keep then (0 : Int) else keep)).toNat = f.tail.extract 0 k := by rw [hk]; rfl
  have hz : (f.tail.extract 0 k).size ≤ f.tail.size := by rw [ByteArray.size_extract]; omega
  refine ⟨by
    show f.safe.size + (f.tail.extract (0 : Int).toNat _).size ≤ _
    rw [e]; omega, ?_⟩
  conv => whnf
  exact finFE ⟨by rw [hq, e, crashF, ← hk2]⟩
theorem fsync_con (f : FileS) (h : f.Ok) : Con P 70 [encFile f] (fileE (crashP f f.tail.size)) [] := by
  refine Con.of T_ok Tryz.func70 rfl (by kernel_rfl) (by kernel_rfl) (aw_of T_ok (by kernel_rfl) ?_)
  conv => whnf
  refine callU (fcrash_con f h f.tail.size) (fun _ => rfl) ?_
  conv => whnf
  exact finFE ⟨rfl⟩
theorem fcut_con (f : FileS) (h : f.Ok) (n : Int) : Con P 98 [encFile f, Go.Rx.I n] (fileE (cutP f n)) [] := by
  have h1 := h.safe
  have h2 := h.tail
  have cm := fmay_con f h
  obtain ⟨q, hq⟩ : ∃ q, q = cutP f n := ⟨_, rfl⟩
  rw [← hq]
  have bad : (fileB f && decide (0 ≤ n ∧ n ≤ f.safe.size)) = false → (zF, 1) = q := fun e => by rw [hq, cutP, e]; rfl
  refine Con.of T_ok Tryz.func98 rfl (by kernel_rfl) (by kernel_rfl) (aw_of T_ok (by kernel_rfl) ?_)
  conv => whnf
  refine callS cm rfl ?_
  conv => whnf
  split <;> rename_i t1 <;> conv => whnf
  · have hb : fileB f = false := by simpa using t1
    exact finFE ⟨bad (by rw [hb]; rfl)⟩
  have hb : fileB f = true := by simpa using t1
  split <;> rename_i t2 <;> conv => whnf
  · have : n < 0 := of_decide_eq_true t2
    exact finFE ⟨bad (by rw [decide_eq_false (by omega), Bool.and_false])⟩
  have h0 : ¬ n < 0 := of_decide_eq_false t2
  split <;> rename_i t3 <;> conv => whnf
  · have : n > (f.safe.size : Int) := of_decide_eq_true t3
    exact finFE ⟨bad (by rw [decide_eq_false (by omega), Bool.and_false])⟩
  have hn : ¬ n > (f.safe.size : Int) := of_decide_eq_false t3
  rw [cutP, if_pos (by rw [hb, decide_eq_true (by omega)]; rfl)] at hq
  split <;> rename_i t4 <;> conv => whnf
  · have : f.tail ≠ ⟨#[]⟩ := by
      have : (!(f.tail == ⟨#[]⟩)) = true := t4
      simpa using this
    rw [if_neg this] at hq
    exact finFE ⟨hq.symm⟩
  · have : f.tail = ⟨#[]⟩ := by
      have : (!(f.tail == ⟨#[]⟩)) = false := t4
      simpa using this
    rw [if_pos this] at hq
    refine ⟨by decide, by omega, by omega, ?_⟩
    conv => whnf
    exact finFE ⟨hq.symm⟩
set_option maxHeartbeats 1000000 in
theorem scan_con (s : ByteArray) (hs : s.size ≤ 1000000) : Con P 97 [Sx s] (.tup [.lf (.own 0 (scanS s).1.length), .lf (.pv (pI (scanN s)))]) [.arr 42 6 ((scanS s).1.map Rec.enc)] := by
  have hN : scanN s = s.size - (scanS s).2.size := rfl
  obtain ⟨res, hres⟩ : ∃ res, res = scanS s := ⟨_, rfl⟩
  rw [hN, ← hres]
  refine ConG.con (ConG.of T_ok Tryz.func97 rfl (by kernel_rfl) (by kernel_rfl) (aw_of T_ok (by kernel_rfl) ?_)) rfl
  conv => whnf
  refine AW.loop (fun p : Nat × List Rec × Nat => p.2.2 ≤ s.size ∧ 8 * p.2.1.length + (s.size - p.2.2) ≤ s.size ∧ s.size - p.2.2 < p.1 ∧ (p.2.1 ++ (scanG p.1 (s.extract p.2.2 s.size)).1, (scanG p.1 (s.extract p.2.2 s.size)).2) = res)
    (fun p => [(0, Sx s), (2, .lf (.own 0 p.2.1.length)), (3, Go.Rx.I p.2.2)]) (fun p => [.arr 42 6 (p.2.1.map Rec.enc)]) (fun p => s.size - p.2.2) [.slot 2 42 6] ?_ ?_
  · refine ⟨rfl, (s.size + 1, [], 0), ⟨Nat.zero_le _, by show 8 * 0 + (s.size - 0) ≤ _; omega, by show s.size - 0 < s.size + 1; omega, ?_⟩, ⟨rfl, rfl, rfl, trivial⟩, ⟨[], rfl⟩, rfl, rfl⟩
    have e : s.extract 0 s.size = s := ba_ext (by rw [ba_ex, List.drop_zero, Nat.sub_zero, List.take_of_length_le (by rw [ba_len]; exact Nat.le_refl _)])
    show ([] ++ (scanG (s.size + 1) (s.extract 0 s.size)).1, (scanG (s.size + 1) (s.extract 0 s.size)).2) = res
    rw [e, hres]; rfl
  rintro ⟨f, l, k⟩ ⟨hk, hl, hf, hinv⟩
  simp only at hk hl hf hinv
  have htz : (s.extract k s.size).size = s.size - k := by rw [ByteArray.size_extract]; omega
  have hts : okS (s.extract k s.size) := by show (s.extract k s.size).size ≤ _; omega
  have stop : (takeR (s.extract k s.size)).2.2 ≠ 0 → res = (l, s.extract k s.size) := fun e => by
    rw [← hinv, scan_stop e, List.append_nil]
  refine aw_of T_ok (by kernel_rfl) ?_
  conv => whnf
  split <;> rename_i t1 <;> conv => whnf
  rotate_left
  · have h1 : ¬ (k : Int) < (s.size : Int) := of_decide_eq_false t1
    have e : s.extract k s.size = ⟨#[]⟩ := ba_ext (List.eq_nil_of_length_eq_zero (by rw [ba_len]; omega))
    rw [e] at stop
    have hr := stop take_none
    rw [hr]
    refine ⟨[], [0], [.lf (.own 0 l.length), Go.Rx.I k], [.lf (.own 0 l.length), Go.Rx.I k], rfl, rfl, rfl, wk_refl _, ?_⟩
    have hks : k = s.size - (⟨#[]⟩ : ByteArray).size := by show k = s.size - 0; omega
    exact congrArg (fun n : Nat => some (AV.tup [.lf (.own 0 l.length), .lf (.pv (pI n))])) hks
  have h1 : (k : Int) < (s.size : Int) := of_decide_eq_true t1
  have ct := take_con (s.extract k s.size) hts
  have eat := take_eat (s := s.extract k s.size)
  have hstep : ∀ f', f = f' + 1 → scanG f (s.extract k s.size) = if (takeR (s.extract k s.size)).2.2 = 0 then ((takeR (s.extract k s.size)).1 :: (scanG f' (takeR (s.extract k s.size)).2.1).1, (scanG f' (takeR (s.extract k s.size)).2.1).2) else ([], s.extract k s.size) := fun f' e => by rw [e, scanG]
  generalize takeR (s.extract k s.size) = x at ct eat stop hstep
  obtain ⟨r, rest, e⟩ := x
  simp only at ct eat stop hstep
  refine ⟨Int.natCast_nonneg k, Int.ofNat_le.2 hk, Int.le_refl _, ?_⟩
  conv => whnf
  refine ⟨_, _, _, wk_refl _, ct, .inr ?_⟩
  conv => whnf
  split <;> rename_i t2 <;> conv => whnf
  · have he : e ≠ 0 := by
      have : (e != 0) = true := t2
      simpa using this
    have hr := stop he
    rw [hr]
    refine ⟨[], [0], [.lf (.own 0 l.length), Go.Rx.I k], [.lf (.own 0 l.length), Go.Rx.I k], rfl, rfl, rfl, wk_refl _, ?_⟩
    have hks : k = s.size - (s.extract k s.size).size := by omega
    exact congrArg (fun n : Nat => some (AV.tup [.lf (.own 0 l.length), .lf (.pv (pI n))])) hks
  · have he : e = 0 := by
      have : (e != 0) = false := t2
      simpa using this
    obtain ⟨hg, hx⟩ := eat he
    obtain ⟨hrest, hsz⟩ := ext_tail hk hx
    have h8 := frR_size hg
    obtain ⟨f', rfl⟩ : ∃ f', f = f' + 1 := ⟨f - 1, by omega⟩
    have hst := hstep f' rfl
    rw [if_pos he] at hst
    refine ⟨List.length_map .., ?_⟩
    conv => whnf
    refine ⟨rfl, _, .inl rfl, ?_⟩
    conv => whnf
    refine ⟨List.length_map .., by show (l.length + 1) * 80 ≤ _; omega, ?_⟩
    conv => whnf
    refine ⟨(f', l ++ [r], s.size - rest.size), ⟨⟨by show s.size - rest.size ≤ s.size; omega, ?zp, ?zq, ?zw⟩, by show s.size - (s.size - rest.size) < s.size - k; omega⟩, ⟨rfl, ?zu, ?zv, trivial⟩, ⟨[?zr1, ?zr2, ?zr3], ?zb⟩, rfl, rfl⟩
    case zp => show 8 * (l ++ [r]).length + (s.size - (s.size - rest.size)) ≤ s.size; rw [List.length_append, List.length_singleton]; omega
    case zq => show s.size - (s.size - rest.size) < f'; omega
    case zw =>
      show ((l ++ [r]) ++ (scanG f' (s.extract (s.size - rest.size) s.size)).1, (scanG f' (s.extract (s.size - rest.size) s.size)).2) = res
      rw [← hinv, hst, hrest, List.append_assoc]; rfl
    case zu => exact congrArg (fun n => AV.lf (.own 0 n)) (show l.length + 1 = (l ++ [r]).length by rw [List.length_append]; rfl)
    case zv =>
      have : IntKind.i64.wrap ((s.size : Int) - rest.size) = ((s.size - rest.size : Nat) : Int) := by rw [wrapI (by omega)]; omega
      exact congrArg Go.Rx.I this
    case zb =>
      show _ = [Blk.arr _ 6 ((l ++ [r]).map Rec.enc)] ++ [_, _, _]
      rw [List.map_append]
      rfl
end Go.Proofs.YtfjllfjmggooeaaGreatDoor.Rx

/- Journals: what is added, what is recovered. -/
set_option linter.unusedVariables false
set_option linter.unusedSimpArgs false
namespace Go.Rx
def jappP (f : FileS) (r : Rec) : FileS × Int := if fileB f then (if (bytesR r).2 = 0 then fappP f (bytesR r).1 else (zF, (bytesR r).2)) else (zF, 1)
def recovP (f : FileS) : List Rec × FileS × Int :=
  if fileB f then (if f.tail = ⟨#[]⟩ then ((scanS f.safe).1, ⟨f.safe.extract 0 (scanN f.safe), f.tail, f.cap⟩, 0) else ([], zF, 9)) else ([], zF, 1)
abbrev recovE (p : List Rec × FileS × Int) : AV := .tup [.lf (.own 0 p.1.length), .agg [.pv (pS p.2.1.safe), .pv (pS p.2.1.tail), .pv (pI p.2.1.cap)], .lf (.pv (pI p.2.2))]
theorem bytes_le (r : Rec) : (bytesR r).1.size ≤ 4008 := by
  unfold bytesR frmR; split
  · split
    · exact Nat.zero_le _
    · exact frame_le _
  · exact Nat.zero_le _
theorem scanN_le (s : ByteArray) : scanN s ≤ s.size := Nat.sub_le _ _
end Go.Rx
namespace Go.Proofs.YtfjllfjmggooeaaGreatDoor.Rx
open Go.Rx Go.Proofs Go.Proofs.YtfjllfjmggooeaaGreatDoor.RxB
abbrev recZ : AV := .lf (.own 0 0)
theorem jappend_con (f : FileS) (h : f.Ok) (r : Rec) (hr : r.Ok) : Con P 111 [encFile f, encRec r] (fileE (jappP f r)) [] := by
  have cm := fmay_con f h
  have cb := bytes_con r hr
  have hz := bytes_le r
  have hj : jappP f r = if fileB f then (if (bytesR r).2 = 0 then fappP f (bytesR r).1 else (zF, (bytesR r).2)) else (zF, 1) := rfl
  generalize bytesR r = x at cb hz hj
  obtain ⟨b, e⟩ := x
  simp only at cb hz hj
  have ca := fapp_con f h b (by show b.size ≤ _; omega)
  obtain ⟨q, hq⟩ : ∃ q, q = jappP f r := ⟨_, rfl⟩
  rw [← hq]
  rw [hj] at hq
  refine Con.of T_ok Tryz.func111 rfl (by kernel_rfl) (by kernel_rfl) (aw_of T_ok (by kernel_rfl) ?_)
  conv => whnf
  refine callS cm rfl ?_
  conv => whnf
  split <;> rename_i t1 <;> conv => whnf
  · have hb : fileB f = false := by simpa using t1
    rw [if_neg (by rw [hb]; decide)] at hq
    exact finFE ⟨hq.symm⟩
  have hb : fileB f = true := by simpa using t1
  rw [if_pos hb] at hq
  refine callS cb rfl ?_
  conv => whnf
  split <;> rename_i t2 <;> conv => whnf
  · have : e ≠ 0 := by
      have : (e != 0) = true := t2
      simpa using this
    rw [if_neg this] at hq
    exact finFE ⟨hq.symm⟩
  · have : e = 0 := by
      have : (e != 0) = false := t2
      simpa using this
    rw [if_pos this] at hq
    refine callU ca (fun _ => rfl) ?_
    conv => whnf
    exact finFE ⟨hq.symm⟩
theorem recover_con (f : FileS) (h : f.Ok) : Con P 58 [encFile f] (recovE (recovP f)) [.arr 42 6 ((recovP f).1.map Rec.enc)] := by
  have cm := fmay_con f h
  obtain ⟨q, hq⟩ : ∃ q, q = recovP f := ⟨_, rfl⟩
  rw [← hq]
  refine ConG.con (ConG.of T_ok Tryz.func58 rfl (by kernel_rfl) (by kernel_rfl) (aw_of T_ok (by kernel_rfl) ?_)) rfl
  conv => whnf
  refine callS cm rfl ?_
  conv => whnf
  split <;> rename_i t1 <;> conv => whnf
  · have hb : fileB f = false := by simpa using t1
    rw [recovP, if_neg (by rw [hb]; decide)] at hq
    subst hq
    refine AW.draw T_ok rfl (seqPl 0 4) (by kernel_rfl) (by kernel_rfl) ?_
    conv => whnf
    exact ⟨[.slot 2 42 6], ⟨rfl, [2], [recZ, .agg [.pv (pS ⟨#[]⟩), .pv (pS ⟨#[]⟩), .pv (pI 0)], Go.Rx.I 1], [recZ, .agg [.pv (pS ⟨#[]⟩), .pv (pS ⟨#[]⟩), .pv (pI 0)], Go.Rx.I 1], rfl, rfl, rfl, wk_refl _, rfl⟩⟩
  have hb : fileB f = true := by simpa using t1
  rw [recovP, if_pos hb] at hq
  split <;> rename_i t2 <;> conv => whnf
  · have ht : f.tail ≠ ⟨#[]⟩ := by
      have : (!(f.tail == ⟨#[]⟩)) = true := t2
      simpa using this
    rw [if_neg ht] at hq
    subst hq
    refine AW.draw T_ok rfl (seqPl 0 4) (by kernel_rfl) (by kernel_rfl) ?_
    conv => whnf
    exact ⟨[.slot 2 42 6], ⟨rfl, [2], [recZ, .agg [.pv (pS ⟨#[]⟩), .pv (pS ⟨#[]⟩), .pv (pI 0)], Go.Rx.I 9], [recZ, .agg [.pv (pS ⟨#[]⟩), .pv (pS ⟨#[]⟩), .pv (pI 0)], Go.Rx.I 9], rfl, rfl, rfl, wk_refl _, rfl⟩⟩
  have ht : f.tail = ⟨#[]⟩ := by
    have : (!(f.tail == ⟨#[]⟩)) = false := t2
    simpa using this
  rw [if_pos ht] at hq
  have hbi := fileB_iff.1 hb
  have hsz : f.safe.size ≤ 1000000 := by omega
  have csc := scan_con f.safe hsz
  have hle := scanN_le f.safe
  generalize scanN f.safe = at0 at csc hle hq
  generalize (scanS f.safe).1 = l at csc hq
  have cc := fcut_con f h at0
  rw [cutP, if_pos (by rw [hb, decide_eq_true (by omega)]; rfl), if_pos ht] at cc
  subst hq
  refine ⟨_, _, _, wk_refl _, csc, .inr ?_⟩
  conv => whnf
  refine callU cc (fun _ => rfl) ?_
  conv => whnf
  refine AW.draw T_ok rfl (seqPl 0 6) (by kernel_rfl) (by kernel_rfl) ?_
  conv => whnf
  exact ⟨[], [2], [.lf (.own 0 l.length), .agg [.pv (pS (f.safe.extract 0 at0)), .pv (pS f.tail), .pv (pI f.cap)], Go.Rx.I 0], [.lf (.own 0 l.length), .agg [.pv (pS (f.safe.extract 0 at0)), .pv (pS f.tail), .pv (pI f.cap)], Go.Rx.I 0], rfl, rfl, rfl, wk_refl _, rfl⟩
end Go.Proofs.YtfjllfjmggooeaaGreatDoor.Rx

/- slices.Insert: one number into numbers of the call's own. -/
set_option linter.unusedVariables false
set_option linter.unusedSimpArgs false
namespace Go.Rx
open Go.RowKit

section
variable {P : Program} {T : Tab} {C : Ctx} {G : Gh} {sl : Nat → AV} {bk : List Blk} {a : Act} {w w' : World}
/-- More rows in a block of the call's own: in place, or in a new block. -/
theorem Mem.rows (h : Mem C G bk w) (b e sz : Nat) (rows rows' : List (List PV)) (cur : Array Value) (c g0 : Nat) (hb : bk[b]? = some (.arr e sz rows)) (hlt : rows.length < rows'.length)
    (hg : G.M b = some g0 ∨ w.heap.size ≤ g0) (hg2 : g0 < w'.heap.size) (hsz : w.heap.size ≤ w'.heap.size) (hold : ∀ k, k < w.heap.size → k ≠ g0 → w'.heap[k]? = w.heap[k]?)
    (hos : w'.os = w.os) (htp : w'.tape = w.tape) (hou : w'.output = w.output) (hnw : ∃ fz, w'.heap[g0]? = some (.cells cur e fz) ∧ FzOk cur.size fz)
    (hB : c ≤ maxLen ∧ cur.size = c * sz ∧ rows'.length ≤ c ∧ ∀ j r, rows'[j]? = some r → r.length = sz ∧ ∀ k p, r[k]? = some p → ∃ u, cur[j * sz + k]? = some u ∧ RepP G.S w p u) :
    ∃ G', Trn G bk w G' (bk.set b (.arr e sz rows')) w' ∧ Mem C G' (bk.set b (.arr e sz rows')) w' ∧ G'.M b = some g0 ∧ G'.cp b = c := by
  have hbl : b < bk.length := (List.getElem?_eq_some_iff.1 hb).1
  let G' : Gh := { M := fun k => if k = b then some g0 else G.M k, S := G.S, cp := fun k => if k = b then c else G.cp k }
  have hM : ∀ k, k ≠ b → G'.M k = G.M k := fun k hk => if_neg hk
  have hc : ∀ k, k ≠ b → G'.cp k = G.cp k := fun k hk => if_neg hk
  have hM0 : G'.M b = some g0 := if_pos rfl
  have hnew : (bk.set b (.arr e sz rows'))[b]? = some (.arr e sz rows') := List.getElem?_set_self hbl
  have hrb : rowsOf bk b = some (sz, rows) := by unfold rowsOf; rw [hb]
  have hal : Alive bk b := by unfold Alive; rw [hb]; trivial
  have hS : ∀ g o, G.S g o → g ≠ g0 := fun g o hs e0 => by
    rcases hg with hg | hg
    · exact h.sdis g o b hs hal (by rw [e0]; exact hg)
    · have := h.slt g o hs; omega
  have hne : ∀ k g, k < bk.length → k ≠ b → G.M k = some g → g ≠ g0 := fun k g hk hkb e0 e1 => by
    rcases hg with hg | hg
    · exact hkb (h.inj k b g hk hbl e0 (by rw [e1]; exact hg))
    · have := h.mlt k g hk e0; omega
  have t : Trn G bk w G' (bk.set b (.arr e sz rows')) w' := by
    refine ⟨fun _ _ h => h, fun g o hs => World.cell?_of_block (a := ⟨g, o, none⟩) (hold _ (h.slt g o hs) (hS g o hs)), by simp, fun k hk hr => ?_, fun k sz' rows0 hr => ?_⟩
    · have hkb : k ≠ b := fun e => by subst e; rw [hrb] at hr; cases hr
      exact ⟨by rw [rowsOf_set _ hkb]; exact hr, hM k hkb⟩
    · by_cases hkb : k = b
      · subst hkb
        rw [hrb] at hr
        cases hr
        exact ⟨rows', by unfold rowsOf; rw [hnew], by omega, fun e => by omega⟩
      · exact ⟨rows0, by rw [rowsOf_set _ hkb]; exact hr, Nat.le_refl _, fun _ => ⟨hM k hkb, hc k hkb⟩⟩
  have hlen : (bk.set b (.arr e sz rows')).length = bk.length := by simp
  refine ⟨G', t, ⟨fun k B hk => ?_, fun k k' g hk hk' e1 e2 => ?_, fun g o k hs ha e1 => ?_, fun g o hs => ?_, fun k g hk e1 => ?_, fun k g hk e1 => ?_, h.s0, h.snew, hos.trans h.os, htp.trans h.tape, hou.trans h.output, ?_, fun g hgl hn => ?_, ?_, h.t0.trans t⟩, hM0, if_pos rfl⟩
  · by_cases hkb : k = b
    · subst hkb
      rw [hnew] at hk
      cases hk
      refine .inr ⟨g0, cur, hM0, hnw, ?_, ?_, ?_, fun j r hj => ⟨(hB.2.2.2 j r hj).1, fun q p hp => ?_⟩⟩
      · show (if k = k then c else G.cp k) ≤ maxLen; rw [if_pos rfl]; exact hB.1
      · show cur.size = (if k = k then c else G.cp k) * sz; rw [if_pos rfl]; exact hB.2.1
      · show rows'.length ≤ (if k = k then c else G.cp k); rw [if_pos rfl]; exact hB.2.2.1
      · obtain ⟨u, hu, hr⟩ := (hB.2.2.2 j r hj).2 q p hp
        exact ⟨u, hu, t.repP hr⟩
    · rw [List.getElem?_set_ne (Ne.symm hkb)] at hk
      have hkl : k < bk.length := (List.getElem?_eq_some_iff.1 hk).1
      exact RepB.step t (hM k hkb) (hc k hkb) (fun g hg' => hold _ (h.mlt k g hkl hg') (hne k g hkl hkb hg')) (h.blk k B hk)
  · rw [hlen] at hk hk'
    by_cases h1 : k = b <;> by_cases h2 : k' = b
    · omega
    · rw [h1, hM0] at e1; rw [hM k' h2] at e2; exact absurd (Option.some.inj e1).symm (hne k' g hk' h2 e2)
    · rw [h2, hM0] at e2; rw [hM k h1] at e1; exact absurd (Option.some.inj e2).symm (hne k g hk h1 e1)
    · rw [hM k h1] at e1; rw [hM k' h2] at e2; exact h.inj k k' g hk hk' e1 e2
  · by_cases h1 : k = b
    · rw [h1, hM0] at e1; exact hS g o hs (Option.some.inj e1).symm
    · rw [hM k h1] at e1; exact h.sdis g o k hs ((alive_set _ h1).1 ha) e1
  · have := h.slt g o hs; omega
  · rw [hlen] at hk
    by_cases h1 : k = b
    · rw [h1, hM0] at e1; cases e1; exact hg2
    · rw [hM k h1] at e1; have := h.mlt k g hk e1; omega
  · rw [hlen] at hk
    by_cases h1 : k = b
    · rw [h1, hM0] at e1; cases e1
      rcases hg with hg | hg
      · exact h.new b g0 hbl hg
      · have := h.size; exact .inl (by omega)
    · rw [hM k h1] at e1; exact h.new k g hk e1
  · have := h.size; omega
  · have h1 := h.block g hgl hn
    rw [hold g (by have := h.size; omega) ?_]
    · exact h1
    · intro e0
      rcases hg with hg | hg
      · rcases h.new b g0 hbl hg with k1 | ⟨b', k1, k2⟩
        · omega
        · exact hn b' k1 (by rw [e0]; exact k2)
      · have := h.size; omega
  · have := h.mle; rw [hlen]; exact this

theorem fz_no {w : World} {g : Nat} {cur : Array Value} {e : TypeId} {fz : Nat × Nat} (h : w.heap[g]? = some (.cells cur e fz)) (hf : FzOk cur.size fz) {o : Nat} (ho : o < cur.size) : w.frozen? ⟨g, o, none⟩ = false := by
  unfold World.frozen?
  rw [h]
  obtain ⟨lo, hi⟩ := fz
  rcases hf with hf | hf
  · cases hf; simp
  · have hf := hf.2
    simp only at hf ⊢
    simp only [Bool.and_eq_false_iff, decide_eq_false_iff_not]
    exact .inl (by omega)
theorem setCell_row {g o : Nat} {cur : Array Value} {t : TypeId} {fz : Nat × Nat} {v : Value} {w : World} (h : w.heap[g]? = some (.cells cur t fz)) :
    (∃ cur', (w.setCell ⟨g, o, none⟩ v).heap[g]? = some (.cells cur' t fz) ∧ cur'.size = cur.size) ∧ (∀ k, k ≠ g → (w.setCell ⟨g, o, none⟩ v).heap[k]? = w.heap[k]?) ∧ (w.setCell ⟨g, o, none⟩ v).heap.size = w.heap.size ∧
      (w.setCell ⟨g, o, none⟩ v).os = w.os ∧ (w.setCell ⟨g, o, none⟩ v).tape = w.tape ∧ (w.setCell ⟨g, o, none⟩ v).output = w.output := by
  have hlt := (Array.getElem?_eq_some_iff.1 h).1
  refine ⟨⟨cur.setIfInBounds o v, ?_, by simp⟩, fun k hk => ?_, by simp [World.setCell], rfl, rfl, rfl⟩
  · simp [World.setCell, Array.getElem?_modify, h]
  · simp [World.setCell, Array.getElem?_modify, Ne.symm hk]
theorem setCells_row {g : Nat} {t : TypeId} {fz : Nat × Nat} : ∀ (vs : List Value) (o : Nat) (w : World) (cur : Array Value), w.heap[g]? = some (.cells cur t fz) →
    (∃ cur', (w.setCells g o vs).heap[g]? = some (.cells cur' t fz) ∧ cur'.size = cur.size) ∧ (∀ k, k ≠ g → (w.setCells g o vs).heap[k]? = w.heap[k]?) ∧ (w.setCells g o vs).heap.size = w.heap.size ∧
      (w.setCells g o vs).os = w.os ∧ (w.setCells g o vs).tape = w.tape ∧ (w.setCells g o vs).output = w.output
  | [], o, w, cur, h => ⟨⟨cur, h, rfl⟩, fun _ _ => rfl, rfl, rfl, rfl, rfl⟩
  | v :: vs, o, w, cur, h => by
    obtain ⟨⟨c1, k1, k2⟩, k3, k4, k5, k6, k7⟩ := setCell_row (o := o) (v := v) h
    obtain ⟨⟨c2, l1, l2⟩, l3, l4, l5, l6, l7⟩ := setCells_row vs (o + 1) (w.setCell ⟨g, o, none⟩ v) c1 k1
    exact ⟨⟨c2, l1, l2.trans k2⟩, fun k hk => (l3 k hk).trans (k3 k hk), l4.trans k4, l5.trans k5, l6.trans k6, l7.trans k7⟩
abbrev iv (n : Int) : Value := .int .i64 n
def insL (rows : List Int) (i : Nat) (x : Int) : List Int := rows.take i ++ x :: rows.drop i
theorem ins_len {rows : List Int} {i : Nat} {x : Int} (hi : i ≤ rows.length) : (insL rows i x).length = rows.length + 1 := by
  simp [insL]; omega
theorem ins_get {rows : List Int} {i : Nat} {x : Int} (hi : i ≤ rows.length) (j : Nat) : (insL rows i x)[j]? = if j < i then rows[j]? else if j = i then some x else rows[j - 1]? := by
  unfold insL
  have hl : (rows.take i).length = i := by simp; omega
  by_cases h1 : j < i
  · rw [if_pos h1, List.getElem?_append_left (by omega), List.getElem?_take_of_lt h1]
  · rw [if_neg h1, List.getElem?_append_right (by omega), hl]
    by_cases h2 : j = i
    · rw [if_pos h2, h2]; simp
    · rw [if_neg h2, show j - i = (j - i - 1) + 1 by omega, List.getElem?_cons_succ, List.getElem?_drop]
      congr 1; omega
theorem place_rows {S : Nat → Nat → Prop} {vals : List Int} {cur : Array Value} (h : ∀ (j : Nat) (n : Int), vals[j]? = some n → cur[j]? = some (iv n)) :
    ∀ j r, (vals.map fun n => [pI n])[j]? = some r → r.length = 1 ∧ ∀ k p, r[k]? = some p → ∃ u, cur[j * 1 + k]? = some u ∧ RepP S w p u := fun j r hj => by
  rw [List.getElem?_map, Option.map_eq_some_iff] at hj
  obtain ⟨n, hn, rfl⟩ := hj
  refine ⟨rfl, fun k p hk => ?_⟩
  have hk0 : k = 0 := by have := (List.getElem?_eq_some_iff.1 hk).1; simp at this; omega
  subst hk0
  cases hk
  exact ⟨iv n, by rw [Nat.mul_one]; exact h j n hn, RepP.sc _ rfl⟩
end
end Go.Rx
namespace Go.Proofs.YtfjllfjmggooeaaGreatDoor.Rx
open Go.Rx Go.Proofs Go.RowKit Go.Shelf

def ren : Go.Shelf.Ren := ⟨fun | 21 => 197 | 27 => 209 | 28 => 210 | 35 => 224 | 39 => 230 | n => n, fun | 0 => 0 | 3 => 3 | 4 => 4 | 22 => 26 | n => n, fun | n => n⟩
theorem layed : Go.Proofs.Lays2.n21 Tryz.prog ren := {
  mixed := by kernel_rfl
  f21 := Tryz.func197.trans (congrArg some (by kernel_rfl))
  f27 := Tryz.func209.trans (congrArg some (by kernel_rfl))
  f28 := Tryz.func210.trans (congrArg some (by kernel_rfl))
  f35 := Tryz.func224.trans (congrArg some (by kernel_rfl))
  f39 := Tryz.func230.trans (congrArg some (by kernel_rfl))
  t0 := Tryz.underlying0
  a0 := Tryz.isAgg0
  z0 := Tryz.sizeOf0
  v0 := Tryz.zeroValue0
  t3 := Tryz.underlying3
  a3 := Tryz.isAgg3
  z3 := Tryz.sizeOf3
  v3 := Tryz.zeroValue3
  t4 := Tryz.underlying4
  a4 := Tryz.isAgg4
  z4 := Tryz.sizeOf4
  v4 := Tryz.zeroValue4
  t22 := Tryz.underlying26
  a22 := Tryz.isAgg26
  z22 := Tryz.sizeOf26
  v22 := Tryz.zeroValue26
  i3 := by kernel_rfl }
theorem insert_con (rows : List Int) (i : Nat) (x : Int) (hi : i ≤ rows.length) (hl : (rows.length + 1) * 8 ≤ 140737488355328) :
    ConG P 197 [.arr 3 1 (rows.map fun n => [pI n]), .arr 3 1 [[pI x]]] [.lf (.own 0 rows.length), I i, .lf (.own 1 1)] (.lf (.own 0 (rows.length + 1)))
      [.arr 3 1 ((insL rows i x).map fun n => [pI n]), .arr 3 1 [[pI x]]] := by
  refine ⟨by kernel_rfl, fun w G us hm hargs => ?_⟩
  obtain ⟨u0, u1, u2, rfl⟩ : ∃ u0 u1 u2, us = [u0, u1, u2] := by
    have := hargs.length
    match us, this with
    | [a, b, c], _ => exact ⟨a, b, c, rfl⟩
  obtain ⟨h0, h1, h2, _⟩ := hargs
  obtain ⟨rfl, _⟩ := sc_rep h1
  have hb0 : ([Blk.arr 3 1 (rows.map fun n => [pI n]), .arr 3 1 [[pI x]]])[0]? = some (.arr 3 1 (rows.map fun n => [pI n])) := rfl
  have hml : (rows.map fun n => [pI n]).length = rows.length := List.length_map ..
  have hml2 : ((insL rows i x).map fun n => [pI n]).length = rows.length + 1 := by rw [List.length_map, ins_len hi]
  -- what is inserted
  obtain ⟨g1, c1, hg1, rfl, cur1, ⟨fz1, hh1, hf1⟩, hx1⟩ : ∃ g1 c1, G.M 1 = some g1 ∧ u2 = .slice (some ⟨g1, 0, none⟩) 1 c1 ∧ ∃ cur1, (∃ fz, w.heap[g1]? = some (.cells cur1 3 fz) ∧ FzOk cur1.size fz) ∧ cur1[0]? = some (iv x) := by
    obtain ⟨_, sz, rw', k1, k2, k3⟩ := h2
    cases k1
    rcases k3 rfl with ⟨g, hg, hv⟩ | ⟨_, hz, _⟩
    · rcases hm.blk 1 _ rfl with ⟨e0, _⟩ | ⟨g', cur, hg', l1, l2, l3, l4, l5⟩
      · rw [hg] at e0; cases e0
      rw [hg] at hg'
      cases hg'
      obtain ⟨u, hu, hr⟩ := (l5 0 _ rfl).2 0 _ rfl
      cases hr
      exact ⟨g, _, hg, hv, cur, l1, hu⟩
    · cases hz
  have hz1 : fz1 = (0, 0) := by
    rcases hf1 with h | ⟨h, _⟩
    · exact h
    · exact absurd h (by decide)
  have hvs : ∀ j v, [iv x][j]? = some v → w.cell? ⟨g1, 0 + j, none⟩ = some v := fun j v hj => by
    have : j = 0 := by have := (List.getElem?_eq_some_iff.1 hj).1; simp at this; omega
    subst this
    cases hj
    rw [cell_of_row w _ _ _ _ _ hh1]
    exact hx1
  have hv1 : ∀ v ∈ [iv x], v.oneCell' = true := fun v hv => by simp at hv; subst hv; rfl
  have hcl : (rows.map iv).length = rows.length := List.length_map ..
  have hc1 : ∀ v ∈ rows.map iv, v.oneCell' = true := fun v hv => by obtain ⟨n, _, rfl⟩ := List.mem_map.1 hv; rfl
  have hcapm : ∀ old, grownCap w (rows.length + 1) old 3 ≤ maxLen := fun old => grownCap_le_maxLen w _ old _ (by simp only [maxLen]; omega)
  have hcapg : ∀ old, rows.length + 1 ≤ grownCap w (rows.length + 1) old 3 := fun old => grownCap_ge w _ old _
  -- what is to be shown, out of the world behind
  have fin : ∀ (w' : World) (cur : Array Value) (c g0 : Nat), (G.M 0 = some g0 ∨ w.heap.size ≤ g0) → g0 < w'.heap.size → w.heap.size ≤ w'.heap.size → (∀ k, k < w.heap.size → k ≠ g0 → w'.heap[k]? = w.heap[k]?) →
      w'.os = w.os → w'.tape = w.tape → w'.output = w.output → (∃ fz, w'.heap[g0]? = some (.cells cur 3 fz) ∧ FzOk cur.size fz) → c ≤ maxLen → cur.size = c → rows.length + 1 ≤ c → (∀ (j : Nat) (n : Int), (insL rows i x)[j]? = some n → cur[j]? = some (iv n)) →
      ∃ u G', Ending.returned (.slice (some ⟨g0, 0, none⟩) (rows.length + 1) c) = .returned u ∧ RepA G' [.arr 3 1 ((insL rows i x).map fun n => [pI n]), .arr 3 1 [[pI x]]] w' (.lf (.own 0 (rows.length + 1))) u ∧ Mem ⟨w, G, _, 0⟩ G' [.arr 3 1 ((insL rows i x).map fun n => [pI n]), .arr 3 1 [[pI x]]] w' := fun w' cur c g0 a1 a2 a3 a4 a5 a6 a7 a8 a9 b1 b2 b3 => by
    obtain ⟨G', t, m, hM, hc⟩ := hm.rows 0 3 1 _ ((insL rows i x).map fun n => [pI n]) cur c g0 hb0 (by omega) a1 a2 a3 a4 a5 a6 a7 a8 ⟨a9, by omega, by omega, place_rows b3⟩
    exact ⟨_, G', rfl, ⟨rfl, 1, _, rfl, by omega, fun _ => .inl ⟨g0, hM, by rw [hc]⟩⟩, m⟩
  have zs : ∀ n : Nat, (Builtin.zeroCells (Value.int .i64 0).cells n).size = n := fun n => by rw [size_zeroCells]; exact Nat.mul_one n
  -- at the end, in a new block
  have grown : ∀ (old : Nat), i = rows.length → ∀ w', w' = w.drew.alloc (.cells ((rows.map iv ++ [iv x]).toArray ++ Builtin.zeroCells (Value.int .i64 0).cells (grownCap w (rows.length + 1) old 3 - (rows.length + 1))) 3) →
      ∃ u G', Ending.returned (.slice (some ⟨w.heap.size, 0, none⟩) (rows.length + 1) (grownCap w (rows.length + 1) old 3)) = .returned u ∧ RepA G' [.arr 3 1 ((insL rows i x).map fun n => [pI n]), .arr 3 1 [[pI x]]] w' (.lf (.own 0 (rows.length + 1))) u ∧ Mem ⟨w, G, _, 0⟩ G' [.arr 3 1 ((insL rows i x).map fun n => [pI n]), .arr 3 1 [[pI x]]] w' := fun old hin w' hw' => by
    subst hw'
    have hg := hcapg old
    refine fin _ _ _ w.heap.size (.inr (Nat.le_refl _)) (by show w.heap.size < (w.drew.heap.push _).size; rw [Array.size_push]; exact Nat.lt_succ_self _) (by show w.heap.size ≤ (w.drew.heap.push _).size; rw [Array.size_push]; exact Nat.le_succ _) (fun k hk _ => by first | exact heap_alloc_old w.drew _ _ hk | exact heap_alloc_old w.drew _ hk) rfl rfl rfl ⟨_, heap_alloc_new w.drew _, .inl rfl⟩ (hcapm old) ?_ hg ?_
    · rw [Array.size_append, zs]; simp; omega
    · intro j n hj
      have hjl := (List.getElem?_eq_some_iff.1 hj).1
      rw [ins_len hi] at hjl
      rw [Array.getElem?_append_left (by simp; omega), List.getElem?_toArray, show rows.map iv ++ [iv x] = (insL rows i x).map iv by simp [insL, hin], List.getElem?_map, hj]
      rfl
  obtain ⟨_, sz, rw', k1, k2, k3⟩ := h0
  cases k1
  rcases k3 hml with ⟨g, hg, rfl⟩ | ⟨hg, hz, rfl⟩
  · rcases hm.blk 0 _ hb0 with ⟨e0, _⟩ | ⟨g', cur, hg', l1, l2, l3, l4, l5⟩
    · rw [hg] at e0; cases e0
    obtain ⟨fz0, l1, lf⟩ := l1
    rw [hg] at hg'
    cases hg'
    have hne : g1 ≠ g := fun e => by
      have := hm.inj 1 0 g (by simp) (by simp) (by rw [← e]; exact hg1) hg
      omega
    have hold : ∀ (j : Nat) (n : Int), rows[j]? = some n → cur[j]? = some (iv n) := fun j n hj => by
      obtain ⟨u, hu, hr⟩ := (l5 j [pI n] (by rw [List.getElem?_map, hj]; rfl)).2 0 _ rfl
      cases hr
      rw [Nat.mul_one] at hu
      exact hu
    have hcs : ∀ j v, (rows.map iv)[j]? = some v → w.cell? ⟨g, 0 + j, none⟩ = some v := fun j v hj => by
      rw [List.getElem?_map, Option.map_eq_some_iff] at hj
      obtain ⟨n, hn, rfl⟩ := hj
      rw [cell_of_row w _ _ _ _ _ l1, Nat.zero_add]
      exact hold j n hn
    have hcz : cur.size = G.cp 0 := by rw [l3, Nat.mul_one]
    have hsome : ∀ j, j < G.cp 0 → (w.cell? ⟨g, 0 + j, none⟩).isSome = true := fun j hj => by
      rw [cell_of_row w _ _ _ _ _ l1, Nat.zero_add, Array.getElem?_eq_getElem (by omega)]; rfl
    have hfz : ∀ o, o < cur.size → w.frozen? ⟨g, o, none⟩ = false := fun o ho => fz_no l1 lf ho
    have hmx : G.cp 0 ≤ 9223372036854775807 := by have := l2; simp only [maxLen] at this; omega
    have hlen0 : rows.length ≤ G.cp 0 := by simpa using l4
    have hdl : ((rows.map iv).drop i).length = rows.length - i := by simp
    by_cases hroom : rows.length + 1 ≤ G.cp 0
    · by_cases hlt : i < rows.length
      · have := Any2.slices_Insert_int_shift layed g 0 rows.length (G.cp 0) i g1 0 1 c1 (rows.map iv) [iv x] w hlt (by decide) hroom hmx hne hcl rfl hcs (fun j hj => hsome j (by omega)) (fun j hj => hfz _ (by omega)) hvs hc1 hv1 3 3 cur1.size cur.size
          (by simp [World.shape?, hh1]) (by simp [World.shape?, l1]) (by omega) (by simp [World.frozen?, hh1, hz1]) (by simp [World.frozen?, hh1, hz1])
        refine this.mono ?_
        rintro e w' ⟨rfl, hw⟩
        obtain ⟨⟨ca, a1, a2⟩, a3, a4, a5, a6, a7⟩ := setCells_row ((rows.map iv).drop i) (0 + (i + 1)) w.drew cur l1
        have hs1 : ∀ j, j < G.cp 0 → ((w.drew.setCells g (0 + (i + 1)) ((rows.map iv).drop i)).cell? ⟨g, j, none⟩).isSome = true := fun j hj => by
          rw [cell_of_row _ _ _ _ _ _ a1, Array.getElem?_eq_getElem (by omega)]; rfl
        obtain ⟨⟨cb, b1, b2⟩, b3, b4, b5, b6, b7⟩ := setCells_row [iv x] (0 + i) _ ca a1
        rw [← hw] at b1 b3 b4 b5 b6 b7
        refine fin w' cb (G.cp 0) g (.inl hg) (by rw [b4, a4]; exact hm.mlt 0 g (by simp) hg) (by rw [b4, a4]; exact Nat.le_refl _) (fun k _ hk => (b3 k hk).trans (a3 k hk)) (b5.trans a5) (b6.trans a6) (b7.trans a7) ⟨_, b1, by rw [b2, a2]; exact lf⟩ l2 (by omega) hroom ?_
        intro j n hj
        rw [← cell_of_row w' g j _ _ _ b1, hw]
        rw [ins_get hi] at hj
        by_cases h1 : j < i
        · rw [if_pos h1] at hj
          rw [World.cell?_setCells_out g _ _ _ _ (fun _ _ => Or.inl (by show j < 0 + i; omega)), World.cell?_setCells_out g _ _ _ _ (fun _ _ => Or.inl (by show j < 0 + (i + 1); omega))]
          show w.cell? _ = _
          rw [cell_of_row w _ _ _ _ _ l1]
          exact hold j n hj
        · rw [if_neg h1] at hj
          by_cases h2 : j = i
          · rw [if_pos h2] at hj
            cases hj
            subst h2
            have := World.cell?_setCells_in g [iv x] (0 + j) (w.drew.setCells g (0 + (j + 1)) ((rows.map iv).drop j)) (fun k hk => by simp at hk; subst hk; exact hs1 _ (by omega)) 0 (by simp)
            simpa using this
          · rw [if_neg h2] at hj
            have hjl := (List.getElem?_eq_some_iff.1 hj).1
            rw [World.cell?_setCells_out g _ _ _ _ (fun _ _ => Or.inr (by show 0 + i + 1 ≤ j; omega))]
            have := World.cell?_setCells_in g ((rows.map iv).drop i) (0 + (i + 1)) w.drew (fun k hk => by
              show (w.cell? _).isSome = true
              rw [cell_of_row w _ _ _ _ _ l1, Array.getElem?_eq_getElem (by omega)]; rfl) (j - (i + 1)) (by omega)
            rw [show 0 + (i + 1) + (j - (i + 1)) = j by omega] at this
            rw [this]
            have e1 : ((rows.map iv).drop i)[j - (i + 1)]? = some (iv n) := by
              rw [List.getElem?_drop, show i + (j - (i + 1)) = j - 1 by omega, List.getElem?_map, hj]; rfl
            rw [← e1, List.getElem?_eq_getElem]
      · have hin : i = rows.length := by omega
        subst hin
        have := Any2.slices_Insert_int_end_room layed g 0 rows.length (G.cp 0) g1 0 1 c1 [iv x] w (by decide) hroom hmx rfl (fun j hj => by have := hsome (rows.length + j) (by omega); rwa [← Nat.add_assoc] at this) (fun j hj => hfz _ (by simp at hj; omega)) hvs hv1
        refine this.mono ?_
        rintro e w' ⟨rfl, hw⟩
        obtain ⟨⟨cb, b1, b2⟩, b3, b4, b5, b6, b7⟩ := setCells_row [iv x] (0 + rows.length) w cur l1
        rw [← hw] at b1 b3 b4 b5 b6 b7
        refine fin w' cb (G.cp 0) g (.inl hg) (by rw [b4]; exact hm.mlt 0 g (by simp) hg) (by rw [b4]; exact Nat.le_refl _) (fun k _ hk => b3 k hk) b5 b6 b7 ⟨_, b1, by rw [b2]; exact lf⟩ l2 (by omega) hroom ?_
        intro j n hj
        rw [← cell_of_row w' g j _ _ _ b1, hw]
        rw [ins_get hi] at hj
        by_cases h1 : j < rows.length
        · rw [if_pos h1] at hj
          rw [World.cell?_setCells_out g _ _ _ _ (fun _ _ => Or.inl (by show j < 0 + rows.length; omega)), cell_of_row w _ _ _ _ _ l1]
          exact hold j n hj
        · rw [if_neg h1] at hj
          by_cases h2 : j = rows.length
          · rw [if_pos h2] at hj
            cases hj
            subst h2
            have := World.cell?_setCells_in g [iv x] (0 + rows.length) w (fun k hk => by simp at hk; subst hk; rw [Nat.add_zero]; exact hsome _ (by omega)) 0 (by simp)
            simpa using this
          · rw [if_neg h2] at hj
            have hjl := (List.getElem?_eq_some_iff.1 hj).1
            omega
    · by_cases hlt : i < rows.length
      · have := Any2.slices_Insert_int_grow layed g 0 rows.length (G.cp 0) i g1 0 1 c1 (rows.map iv) [iv x] w hlt (by decide) hlen0 (by omega) (by omega) hcl rfl hcs hvs hc1 hv1
        refine this.mono ?_
        rintro e w' ⟨rfl, hw⟩
        have hgc := hcapg (G.cp 0)
        change w' = (((w.alloc (.cells (((rows.map iv).take i).toArray ++ Builtin.zeroCells (Value.int .i64 0).cells (rows.length + 1 - i) ++ Builtin.zeroCells (Value.int .i64 0).cells (grownCap w (rows.length + 1) (G.cp 0) 3 - (rows.length + 1))) 3)).drew.setCells w.heap.size i [iv x]).drew).setCells w.heap.size (i + 1) ((rows.map iv).drop i) at hw
        generalize hA : (((rows.map iv).take i).toArray ++ Builtin.zeroCells (Value.int .i64 0).cells (rows.length + 1 - i) ++ Builtin.zeroCells (Value.int .i64 0).cells (grownCap w (rows.length + 1) (G.cp 0) 3 - (rows.length + 1))) = A at hw
        have hAz : A.size = grownCap w (rows.length + 1) (G.cp 0) 3 := by rw [← hA, Array.size_append, Array.size_append, zs, zs]; simp; omega
        have hA0 : ∀ (j : Nat) (n : Int), j < i → rows[j]? = some n → A[j]? = some (iv n) := fun j n hj hn => by
          rw [← hA, Array.getElem?_append_left (by rw [Array.size_append, zs]; simp; omega), Array.getElem?_append_left (by simp; omega), List.getElem?_toArray, List.getElem?_take_of_lt hj, List.getElem?_map, hn]
          rfl
        have hW0 : (w.alloc (.cells A 3)).drew.heap[w.heap.size]? = some (.cells A 3 (0, 0)) := heap_alloc_new w _
        have hWo : ∀ k, k < w.heap.size → (w.alloc (.cells A 3)).drew.heap[k]? = w.heap[k]? := fun k hk => by first | exact heap_alloc_old w _ _ hk | exact heap_alloc_old w _ hk
        have hWs : (w.alloc (.cells A 3)).drew.heap.size = w.heap.size + 1 := by show (w.heap.push _).size = _; rw [Array.size_push]
        obtain ⟨⟨ca, a1, a2⟩, a3, a4, a5, a6, a7⟩ := setCells_row [iv x] i (w.alloc (.cells A 3)).drew A hW0
        generalize hW1 : (w.alloc (.cells A 3)).drew.setCells w.heap.size i [iv x] = W1 at *
        obtain ⟨⟨cb, b1, b2⟩, b3, b4, b5, b6, b7⟩ := setCells_row ((rows.map iv).drop i) (i + 1) W1.drew ca a1
        rw [← hw] at b1 b3 b4 b5 b6 b7
        have hs4 : w'.heap.size = w.heap.size + 1 := b4.trans (a4.trans hWs)
        refine fin w' cb (grownCap w (rows.length + 1) (G.cp 0) 3) w.heap.size (.inr (Nat.le_refl _)) (by omega) (by omega) (fun k hk hne => (b3 k hne).trans ((a3 k hne).trans (hWo k hk))) (b5.trans a5) (b6.trans a6) (b7.trans a7) ⟨_, b1, .inl rfl⟩ (hcapm _) (by omega) hgc ?_
        intro j n hj
        rw [← cell_of_row w' w.heap.size j _ _ _ b1, hw]
        rw [ins_get hi] at hj
        by_cases h1 : j < i
        · rw [if_pos h1] at hj
          rw [World.cell?_setCells_out _ _ _ _ _ (fun _ _ => Or.inl (by show j < i + 1; omega))]
          show W1.cell? _ = _
          rw [← hW1, World.cell?_setCells_out _ _ _ _ _ (fun _ _ => Or.inl (by show j < i; omega)), cell_of_row _ _ _ _ _ _ hW0]
          exact hA0 j n h1 hj
        · rw [if_neg h1] at hj
          by_cases h2 : j = i
          · rw [if_pos h2] at hj
            cases hj
            subst h2
            rw [World.cell?_setCells_out _ _ _ _ _ (fun _ _ => Or.inl (by show j < j + 1; omega))]
            show W1.cell? _ = _
            rw [← hW1]
            have := World.cell?_setCells_in w.heap.size [iv x] j (w.alloc (.cells A 3)).drew (fun k hk => by simp at hk; subst hk; rw [cell_of_row _ _ _ _ _ _ hW0, Array.getElem?_eq_getElem (by omega)]; rfl) 0 (by simp)
            simpa using this
          · rw [if_neg h2] at hj
            have hjl := (List.getElem?_eq_some_iff.1 hj).1
            have := World.cell?_setCells_in w.heap.size ((rows.map iv).drop i) (i + 1) W1.drew (fun k hk => by
              show (W1.cell? _).isSome = true
              rw [cell_of_row W1 _ _ _ _ _ a1, Array.getElem?_eq_getElem (by omega)]; rfl) (j - (i + 1)) (by omega)
            rw [show i + 1 + (j - (i + 1)) = j by omega] at this
            rw [this]
            have e1 : ((rows.map iv).drop i)[j - (i + 1)]? = some (iv n) := by
              rw [List.getElem?_drop, show i + (j - (i + 1)) = j - 1 by omega, List.getElem?_map, hj]; rfl
            rw [← e1, List.getElem?_eq_getElem]
      · have hin : i = rows.length := by omega
        subst hin
        have := Any2.slices_Insert_int_end_grow layed (some ⟨g, 0, none⟩) rows.length (G.cp 0) g1 0 1 c1 (rows.map iv) [iv x] w (by decide) (by simpa using l4) (by omega) (by omega) hcl rfl (fun e => by cases e) (fun a e j v hj => by cases e; rw [Addr.add_lit]; exact hcs j v hj) hvs hv1
        refine this.mono ?_
        rintro e w' ⟨rfl, hw⟩
        exact grown _ rfl w' hw
  · have hr : rows = [] := List.eq_nil_of_length_eq_zero hz
    subst hr
    have hi0 : i = 0 := by simp at hi; omega
    subst hi0
    have := Any2.slices_Insert_int_end_grow layed none 0 0 g1 0 1 c1 [] [iv x] w (by decide) (by decide) (by decide) (by decide) rfl rfl (fun _ => rfl) (fun a e => by cases e) hvs hv1
    refine this.mono ?_
    rintro e w' ⟨rfl, hw⟩
    exact grown _ rfl w' hw
end Go.Proofs.YtfjllfjmggooeaaGreatDoor.Rx

/- Ledgers: data; the same, copied. -/
set_option linter.unusedVariables false
set_option linter.unusedSimpArgs false
namespace Go.Rx
structure Entry where
  key : Int
  back : Bool
  op : ByteArray
  who : ByteArray
  n : Int
theorem Entry.eq_of {a b : Entry} (h : a.key = b.key ∧ a.back = b.back ∧ a.op = b.op ∧ a.who = b.who ∧ a.n = b.n) : a = b := by cases a; cases b; simp_all
instance : DecidableEq Entry := fun a b => decidable_of_iff (a.key = b.key ∧ a.back = b.back ∧ a.op = b.op ∧ a.who = b.who ∧ a.n = b.n) ⟨Entry.eq_of, fun h => by subst h; simp⟩
def Entry.enc (e : Entry) : List PV := [pI e.key, pB e.back, pS e.op, pS e.who, pI e.n]
abbrev encEntry (e : Entry) : AV := .agg [.pv (pI e.key), .pv (pB e.back), .pv (pS e.op), .pv (pS e.who), .pv (pI e.n)]
abbrev encEntries (l : List Entry) : PV := .sl 5 (l.map Entry.enc)
structure Ledger where
  service : Int
  entries : List Entry
  known : List Int
theorem Ledger.eq_of {a b : Ledger} (h : a.service = b.service ∧ a.entries = b.entries ∧ a.known = b.known) : a = b := by cases a; cases b; simp_all
instance : DecidableEq Ledger := fun a b => decidable_of_iff (a.service = b.service ∧ a.entries = b.entries ∧ a.known = b.known) ⟨Ledger.eq_of, fun h => by subst h; simp⟩
abbrev Ledger.enc (g : Ledger) : List PV := [pI g.service, encEntries g.entries, encInts g.known]
abbrev encLedger (g : Ledger) : AV := .agg [.pv (pI g.service), .pv (encEntries g.entries), .pv (encInts g.known)]
abbrev ledgerV (g : Ledger) : Blk := .var [.pv (pI g.service), .pv (encEntries g.entries), .pv (encInts g.known)]
structure Entry.Ok (e : Entry) : Prop where
  op : okS e.op
  who : okS e.who
structure Ledger.Ok (g : Ledger) : Prop where
  el : g.entries.length * 56 ≤ 140737488351232
  kl : g.known.length * 8 ≤ 140737488351232
  each : ∀ e ∈ g.entries, e.Ok
end Go.Rx
namespace Go.Proofs.YtfjllfjmggooeaaGreatDoor.Rx
open Go.Rx Go.Proofs Go.Proofs.YtfjllfjmggooeaaGreatDoor.RxH

theorem copyEntries_con (l : List Entry) (hl : l.length * 56 ≤ 140737488351232) : Con P 119 [.lf (.pv (encEntries l))] (.lf (.pv (encEntries l))) [] := by
  refine Con.of T_ok Tryz.func119 rfl (by kernel_rfl) (by kernel_rfl) (aw_of T_ok (by kernel_rfl) ?_)
  conv => whnf
  refine AW.loop (fun k : Nat => k ≤ l.length) (fun k => [(0, .lf (.pv (encEntries l))), (3, .lf (.own 0 k)), (4, Go.Rx.I k)]) (fun k => [.arr 102 5 ((l.take k).map Entry.enc)]) (fun k => l.length - k) [.slot 3 102 5] ?_ ?_
  · exact ⟨rfl, 0, Nat.zero_le _, ⟨rfl, rfl, rfl, trivial⟩, ⟨[], rfl⟩, rfl, rfl⟩
  · intro k hk
    refine aw_of T_ok (by kernel_rfl) ?_
    conv => whnf
    split <;> rename_i hlt <;> conv => whnf
    · have hkl : k < l.length := by simp at hlt; omega
      refine ⟨by omega, (l[k]).enc, by simp [hkl], ?_⟩
      conv => whnf
      refine ⟨rfl, _, .inl rfl, ?_⟩
      conv => whnf
      refine ⟨by simp; omega, by show (k + 1) * 56 ≤ _; omega, ?_⟩
      conv => whnf
      refine ⟨k + 1, ⟨by omega, by omega⟩, ⟨rfl, rfl, congrArg Go.Rx.I (wrapI (by omega)), trivial⟩, ⟨[?r], ?e⟩, rfl, rfl⟩
      case e => show _ = [Blk.arr _ _ (List.map Entry.enc (l.take (k + 1)))] ++ [_]; rw [take_succ' hkl, List.map_append]; rfl
    · have hkl : k = l.length := by simp at hlt; omega
      subst hkl
      refine ⟨by simp, ?_⟩
      refine retA ?_
      show some (AV.lf (.pv (.sl 5 _))) = _
      rw [List.take_length]
theorem copyNumbers_con (l : List Int) (hl : l.length * 8 ≤ 140737488351232) : Con P 49 [.lf (.pv (encInts l))] (.lf (.pv (encInts l))) [] := by
  refine Con.of T_ok Tryz.func49 rfl (by kernel_rfl) (by kernel_rfl) (aw_of T_ok (by kernel_rfl) ?_)
  conv => whnf
  refine AW.loop (fun k : Nat => k ≤ l.length) (fun k => [(0, .lf (.pv (encInts l))), (3, .lf (.own 0 k)), (4, Go.Rx.I k)]) (fun k => [.arr 3 1 ((l.take k).map fun n => [pI n])]) (fun k => l.length - k) [.slot 3 3 1] ?_ ?_
  · exact ⟨rfl, 0, Nat.zero_le _, ⟨rfl, rfl, rfl, trivial⟩, ⟨[], rfl⟩, rfl, rfl⟩
  · intro k hk
    refine aw_of T_ok (by kernel_rfl) ?_
    conv => whnf
    split <;> rename_i hlt <;> conv => whnf
    · have hkl : k < l.length := by simp at hlt; omega
      refine ⟨by omega, [pI l[k]], by simp [hkl], ?_⟩
      conv => whnf
      refine ⟨rfl, _, .inl rfl, ?_⟩
      conv => whnf
      refine ⟨by simp; omega, by show (k + 1) * 8 ≤ _; omega, ?_⟩
      conv => whnf
      refine ⟨k + 1, ⟨by omega, by omega⟩, ⟨rfl, rfl, congrArg Go.Rx.I (wrapI (by omega)), trivial⟩, ⟨[?r], ?e⟩, rfl, rfl⟩
      case e => show _ = [Blk.arr _ _ (List.map (fun n => [pI n]) (l.take (k + 1)))] ++ [_]; rw [take_succ' hkl, List.map_append]; rfl
    · have hkl : k = l.length := by simp at hlt; omega
      subst hkl
      refine ⟨by simp, ?_⟩
      refine retA ?_
      show some (AV.lf (.pv (.sl 1 _))) = _
      rw [List.take_length]
theorem copyLedger_con (g : Ledger) (h : g.Ok) : Con P 81 [encLedger g] (encLedger g) [] := by
  refine Con.of T_ok Tryz.func81 rfl (by kernel_rfl) (by kernel_rfl) (aw_of T_ok (by kernel_rfl) ?_)
  conv => whnf
  refine callU (copyEntries_con _ h.el) (fun _ => rfl) ?_
  conv => whnf
  refine callU (copyNumbers_con _ h.kl) (fun _ => rfl) ?_
  conv => whnf
  exact finA ⟨rfl⟩
theorem in_con (l : List Int) (x : Int) (hl : l.length * 8 ≤ 140737488351232) : Con P 77 [.lf (.pv (encInts l)), I x] (I (idxL (· == x) l 0)) [] := by
  refine Con.of T_ok Tryz.func77 rfl (by kernel_rfl) (by kernel_rfl) (aw_of T_ok (by kernel_rfl) ?_)
  conv => whnf
  refine AW.loop (fun k : Nat => k ≤ l.length ∧ idxL (· == x) (l.drop k) k = idxL (· == x) l 0) (fun k => [(0, .lf (.pv (encInts l))), (1, Go.Rx.I x), (5, Go.Rx.I k)]) (fun _ => []) (fun k => l.length - k) [] ?_ ?_
  · exact ⟨0, ⟨Nat.zero_le _, rfl⟩, ⟨rfl, rfl, rfl, trivial⟩, ⟨[], rfl⟩, rfl, rfl⟩
  · rintro k ⟨hk, hpre⟩
    refine aw_of T_ok (by kernel_rfl) ?_
    conv => whnf
    split <;> rename_i hlt <;> conv => whnf
    · have hkl : k < l.length := by simpa using hlt
      rw [idx_go hkl] at hpre
      refine ⟨by omega, [pI l[k]], by simp [hkl], ?_⟩
      conv => whnf
      split <;> rename_i he <;> conv => whnf
      · refine finI ⟨?_⟩
        rw [← hpre, if_pos (show (l[k] == x) = true from he)]
      · refine ⟨k + 1, ⟨⟨by omega, ?_⟩, by omega⟩, ⟨rfl, rfl, congrArg Go.Rx.I (wrapI (by omega)), trivial⟩, ⟨[], rfl⟩, rfl, rfl⟩
        rw [← hpre, if_neg (by rw [show (l[k] == x) = false from he]; decide)]
    · refine finI ⟨?_⟩
      have hkl : l.length ≤ k := by simpa using hlt
      rw [← hpre, idx_end hkl]
end Go.Proofs.YtfjllfjmggooeaaGreatDoor.Rx

/- Keys, deeds, and where a key lies. -/
set_option linter.unusedVariables false
set_option linter.unusedSimpArgs false
namespace Go.Rx
def keyB (k : Int) : Bool := decide (1 ≤ k) && decide (k ≤ 1073741824)
def deedB (sv : Int) (op who : ByteArray) (n : Int) : Bool := (opsS sv).any (op == ·) && (shortB who && (decide (-1073741824 ≤ n) && decide (n ≤ 1073741824)))
theorem has_go {l : List ByteArray} {x : ByteArray} {k : Nat} (h : k < l.length) : (l.drop k).any (x == ·) = ((x == l[k]) || (l.drop (k + 1)).any (x == ·)) := by
  rw [List.drop_eq_getElem_cons h, List.any_cons]
/-- Where a key lies, of keys that rise: how many are less. -/
def posL (l : List Int) (k : Int) : Nat := (l.takeWhile fun x => decide (x < k)).length
theorem tw_all {α : Type} {p : α → Bool} : ∀ {l : List α}, (∀ x ∈ l, p x = true) → l.takeWhile p = l
  | [], _ => rfl
  | a :: l, h => by rw [List.takeWhile_cons_of_pos (h a (by simp)), tw_all fun x hx => h x (by simp [hx])]
theorem pos_of {l : List Int} {k : Int} {i : Nat} (hi : i ≤ l.length) (h1 : ∀ t (ht : t < l.length), t < i → l[t] < k) (h2 : ∀ t (ht : t < l.length), i ≤ t → k ≤ l[t]) : posL l k = i := by
  have e : l = l.take i ++ l.drop i := (List.take_append_drop i l).symm
  have e1 : (l.take i).takeWhile (fun x => decide (x < k)) = l.take i := tw_all fun x hx => by
    obtain ⟨t, ht, rfl⟩ := List.getElem_of_mem hx
    rw [List.length_take] at ht
    rw [List.getElem_take]
    exact decide_eq_true (h1 t (by omega) (by omega))
  have e2 : (l.drop i).takeWhile (fun x => decide (x < k)) = [] := by
    rcases Nat.lt_or_ge i l.length with hl | hl
    · rw [List.drop_eq_getElem_cons hl, List.takeWhile_cons_of_neg (by have := h2 i hl (Nat.le_refl _); simp; omega)]
    · rw [List.drop_of_length_le hl]; rfl
  unfold posL
  have e3 : l.takeWhile (fun x => decide (x < k)) = l.take i := by
    conv => lhs; rw [e]
    rw [List.takeWhile_append, e1, if_pos rfl, e2, List.append_nil]
  rw [e3, List.length_take]
  omega
theorem found_of {l : List Int} {k : Int} {i : Nat} (hs : l.Pairwise (· < ·)) (hi : i < l.length) (h1 : ∀ t (ht : t < l.length), t < i → l[t] < k) (h2 : ∀ t (ht : t < l.length), i ≤ t → k ≤ l[t]) : (l[i] == k) = l.contains k := by
  rw [Bool.eq_iff_iff, beq_iff_eq, List.contains_iff_mem]
  constructor
  · intro h; rw [← h]; exact List.getElem_mem hi
  · intro h
    obtain ⟨t, ht, e⟩ := List.getElem_of_mem h
    rcases Nat.lt_trichotomy t i with h3 | h3 | h3
    · have := h1 t ht h3; omega
    · subst h3; exact e
    · have h4 := List.pairwise_iff_getElem.1 hs i t hi ht h3
      have := h2 i hi (Nat.le_refl _)
      omega
theorem found_no {l : List Int} {k : Int} (h1 : ∀ t (ht : t < l.length), l[t] < k) : l.contains k = false := by
  rw [← Bool.not_eq_true, List.contains_iff_mem]
  intro h
  obtain ⟨t, ht, e⟩ := List.getElem_of_mem h
  have := h1 t ht
  omega
theorem half_wrap {a b : Nat} (h : a + b ≤ 1152921504606846976) : IntKind.i64.wrap (Int.fdiv (IntKind.u64.wrap (IntKind.i64.wrap ((a : Int) + b))) (2 ^ (min (1 : Int).toNat IntKind.u64.bits))) = ((a + b) / 2 : Nat) := by
  rw [wrapI (n := (a : Int) + b) (by omega), u64_wrap, show ((a : Int) + b) % 18446744073709551616 = (a : Int) + b by omega, show ((2 : Int) ^ (min (1 : Int).toNat IntKind.u64.bits)) = 2 from rfl,
    Int.fdiv_eq_ediv_of_nonneg _ (by omega), wrapI (by omega)]
  omega
abbrev srchE (i : Int) (b : Bool) : AV := .tup [.lf (.pv (pI i)), .lf (.pv (pB b))]
theorem finIB {i j : Int} {a b : Bool} (h : Fin (i, a) (j, b)) : ∃ zs, Fa WkA [Go.Rx.I i, Bl a] zs ∧ pack zs = some (srchE j b) := by
  cases h.out; exact ⟨_, wk_refl _, rfl⟩
end Go.Rx
namespace Go.Proofs.YtfjllfjmggooeaaGreatDoor.Rx
open Go.Rx Go.Proofs Go.Proofs.YtfjllfjmggooeaaGreatDoor.RxH

theorem key_con (k : Int) : Con P 152 [I k] (Bl (keyB k)) [] := by
  refine Con.of T_ok Tryz.func152 rfl (by kernel_rfl) (by kernel_rfl) (aw_of T_ok (by kernel_rfl) ?_)
  conv => whnf
  split <;> rename_i h <;> conv => whnf
  · exact finB ⟨by rw [keyB, show decide (1 ≤ k) = true from h]; rfl⟩
  · exact finB ⟨by rw [keyB, show decide (1 ≤ k) = false from h]; rfl⟩
theorem opsS_len (n : Int) : (opsS n).length ≤ 2 := by
  unfold opsS; repeat' split
  all_goals decide
theorem deed_con (sv : Int) (op who : ByteArray) (n : Int) (h : 1 ≤ sv ∧ sv ≤ 4) : Con P 181 [I sv, Sx op, Sx who, I n] (Bl (deedB sv op who n)) [] := by
  have hl := opsS_len sv
  refine Con.of T_ok Tryz.func181 rfl (by kernel_rfl) (by kernel_rfl) (aw_of T_ok (by kernel_rfl) ?_)
  conv => whnf
  refine callU (ops_con sv h) (fun _ => rfl) ?_
  conv => whnf
  refine callS (contains_con _ op (by omega)) rfl ?_
  conv => whnf
  split <;> rename_i h1 <;> conv => whnf
  · refine callS (short_con _) rfl ?_
    conv => whnf
    split <;> rename_i h2 <;> conv => whnf
    · refine callS (isNum_con _) rfl ?_
      conv => whnf
      exact finB ⟨by rw [deedB, show (opsS sv).any (op == ·) = true from h1, show shortB who = true from h2]; rfl⟩
    · exact finB ⟨by rw [deedB, show shortB who = false from h2, Bool.false_and, Bool.and_false]⟩
  · exact finB ⟨by rw [deedB, show (opsS sv).any (op == ·) = false from h1, Bool.false_and]⟩
theorem find1_con (e : Entry) (k : Int) : Con P 201 [encEntry e, .lf (.ro [pI k])] (Bl (e.key == k)) [] := by
  refine Con.of T_ok Tryz.func201 rfl (by kernel_rfl) (by kernel_rfl) (aw_of T_ok (by kernel_rfl) ?_)
  conv => whnf
  exact finB ⟨rfl⟩
theorem indexFuncE_con (l : List Entry) (k : Int) (hl : l.length * 56 ≤ 140737488351232) : Con P 200 [.lf (.pv (encEntries l)), .lf (.fn 201 [[pI k]])] (I (idxL (fun e : Entry => e.key == k) l 0)) [] := by
  refine Con.of T_ok Tryz.func200 rfl (by kernel_rfl) (by kernel_rfl) (aw_of T_ok (by kernel_rfl) ?_)
  conv => whnf
  refine AW.loop (fun k' : Nat => k' ≤ l.length ∧ idxL (fun e : Entry => e.key == k) (l.drop k') k' = idxL (fun e : Entry => e.key == k) l 0) (fun k' => [(0, .lf (.pv (encEntries l))), (1, .lf (.fn 201 [[pI k]])), (7, Go.Rx.I l.length), (8, Go.Rx.I k')]) (fun _ => []) (fun k' => l.length - k') [] ?_ ?_
  · exact ⟨0, ⟨Nat.zero_le _, rfl⟩, ⟨rfl, rfl, congrArg (fun n : Nat => Go.Rx.I (n : Int)) (List.length_map ..), rfl, trivial⟩, ⟨[], rfl⟩, rfl, rfl⟩
  · rintro k' ⟨hk, hpre⟩
    refine aw_of T_ok (by kernel_rfl) ?_
    conv => whnf
    split <;> rename_i hlt <;> conv => whnf
    · have hkl : k' < l.length := by simpa using hlt
      rw [idx_go hkl] at hpre
      refine ⟨by omega, (l[k']).enc, by simp [hkl], ?_⟩
      conv => whnf
      refine callS (find1_con l[k'] k) rfl ?_
      conv => whnf
      split <;> rename_i he <;> conv => whnf
      · refine finI ⟨?_⟩
        rw [← hpre, if_pos (show ((l[k']).key == k) = true from he)]
      · refine ⟨k' + 1, ⟨⟨by omega, ?_⟩, by omega⟩, ⟨rfl, rfl, rfl, congrArg Go.Rx.I (wrapI (by omega)), trivial⟩, ⟨[], rfl⟩, rfl, rfl⟩
        rw [← hpre, if_neg (by rw [show ((l[k']).key == k) = false from he]; decide)]
    · refine finI ⟨?_⟩
      have hkl : l.length ≤ k' := by simpa using hlt
      rw [← hpre, idx_end hkl]
theorem find_con (l : List Entry) (k : Int) (hl : l.length * 56 ≤ 140737488351232) : Con P 180 [.lf (.pv (encEntries l)), I k] (I (idxL (fun e : Entry => e.key == k) l 0)) [] := by
  refine Con.of T_ok Tryz.func180 rfl (by kernel_rfl) (by kernel_rfl) (aw_of T_ok (by kernel_rfl) ?_)
  conv => whnf
  refine callS (indexFuncE_con l k hl) rfl ?_
  conv => whnf
  exact finI ⟨rfl⟩
theorem isNaN_con (k : Int) : Con P 223 [I k] (Bl false) [] := by
  refine Con.of T_ok Tryz.func223 rfl (by kernel_rfl) (by kernel_rfl) (aw_of T_ok (by kernel_rfl) ?_)
  conv => whnf
  exact finB ⟨by simp⟩
theorem isNaN2_con (k : Int) : Con P 208 [I k] (Bl false) [] := by
  refine Con.of T_ok Tryz.func208 rfl (by kernel_rfl) (by kernel_rfl) (aw_of T_ok (by kernel_rfl) ?_)
  conv => whnf
  exact finB ⟨by simp⟩
theorem less_con (a b : Int) : Con P 207 [I a, I b] (Bl (decide (a < b))) [] := by
  refine Con.of T_ok Tryz.func207 rfl (by kernel_rfl) (by kernel_rfl) (aw_of T_ok (by kernel_rfl) ?_)
  conv => whnf
  refine callS (isNaN_con a) rfl ?_
  conv => whnf
  exact finB ⟨rfl⟩
theorem binarySearch_con (l : List Int) (k : Int) (hl : l.length * 8 ≤ 140737488351232) (hs : l.Pairwise (· < ·)) : Con P 196 [.lf (.pv (encInts l)), I k] (srchE (posL l k) (l.contains k)) [] := by
  have hm : (l.map fun n => [pI n]).length = l.length := List.length_map ..
  refine Con.of T_ok Tryz.func196 rfl (by kernel_rfl) (by kernel_rfl) (aw_of T_ok (by kernel_rfl) ?_)
  conv => whnf
  rw [hm]
  refine AW.loop (fun p : Nat × Nat => p.1 ≤ p.2 ∧ p.2 ≤ l.length ∧ (∀ t (ht : t < l.length), t < p.1 → l[t] < k) ∧ ∀ t (ht : t < l.length), p.2 ≤ t → k ≤ l[t]) (fun p => [(0, .lf (.pv (encInts l))), (1, Go.Rx.I k), (6, Go.Rx.I l.length), (7, Go.Rx.I p.1), (8, Go.Rx.I p.2)]) (fun _ => []) (fun p => p.2 - p.1) [] ?_ ?_
  · exact ⟨(0, l.length), ⟨Nat.zero_le _, Nat.le_refl _, fun t ht h => by simp at h, fun t ht h => by simp at h; omega⟩, ⟨rfl, rfl, rfl, rfl, rfl, trivial⟩, ⟨[], rfl⟩, rfl, rfl⟩
  rintro ⟨i, j⟩ ⟨hij, hj, h1, h2⟩
  simp only at hij hj h1 h2
  refine aw_of T_ok (by kernel_rfl) ?_
  conv => whnf
  split <;> rename_i hlt <;> conv => whnf
  · have hlt' : i < j := by have := of_decide_eq_true hlt; simp only at this; omega
    refine ⟨by decide, ?_⟩
    conv => whnf
    rw [show IntKind.i64.wrap ((IntKind.u64.wrap (IntKind.i64.wrap ((((i, j).fst : Nat) : Int) + (((i, j).snd : Nat) : Int)))).fdiv (2 ^ min (Int.toNat 1) IntKind.u64.bits)) = (((i + j) / 2 : Nat) : Int) from half_wrap (by omega)]
    have hh : (i + j) / 2 < l.length := by omega
    have hii : i ≤ (i + j) / 2 := by omega
    have hjj : (i + j) / 2 < j := by omega
    generalize (i + j) / 2 = m at *
    refine ⟨by omega, [pI l[m]], by simp [hh], ?_⟩
    conv => whnf
    refine callS (less_con l[m] k) rfl ?_
    conv => whnf
    have srt := List.pairwise_iff_getElem.1 hs
    split <;> rename_i hc <;> conv => whnf
    · have hc' : l[m] < k := of_decide_eq_true hc
      refine ⟨(m + 1, j), ⟨⟨by simp only; omega, hj, fun t ht hlt2 => ?_, h2⟩, by simp only; omega⟩, ⟨rfl, rfl, rfl, congrArg Go.Rx.I (wrapI (by omega)), rfl, trivial⟩, ⟨[], rfl⟩, rfl, rfl⟩
      simp only at hlt2
      rcases Nat.lt_or_ge t m with h3 | h3
      · have := srt t m ht hh h3; omega
      · obtain rfl : t = m := by omega
        exact hc'
    · have hc' : ¬ l[m] < k := of_decide_eq_false hc
      refine ⟨(i, m), ⟨⟨hii, by simp only; omega, h1, fun t ht hle => ?_⟩, by simp only; omega⟩, ⟨rfl, rfl, rfl, rfl, rfl, trivial⟩, ⟨[], rfl⟩, rfl, rfl⟩
      simp only at hle
      rcases Nat.lt_or_ge m t with h3 | h3
      · have := srt m t hh ht h3; omega
      · obtain rfl : t = m := by omega
        omega
  · have hij2 : i = j := by have := of_decide_eq_false hlt; simp only at this; omega
    subst hij2
    have hp := pos_of hj h1 h2
    split <;> rename_i h3 <;> conv => whnf
    · have hil : i < l.length := by have := of_decide_eq_true h3; simp only at this; omega
      refine ⟨by show (0 : Int) ≤ (i : Int); omega, [pI l[i]], by simp [hil], ?_⟩
      conv => whnf
      have hf := found_of hs hil h1 h2
      split <;> rename_i h4 <;> conv => whnf
      · exact finIB ⟨by rw [hp, ← hf, show (l[i] == k) = true from h4]⟩
      · refine ⟨by show (0 : Int) ≤ (i : Int); omega, [pI l[i]], by simp [hil], ?_⟩
        conv => whnf
        refine callS (isNaN2_con _) rfl ?_
        conv => whnf
        exact finIB ⟨by rw [hp, ← hf, show (l[i] == k) = false from h4]⟩
    · have hil : l.length ≤ i := by have := of_decide_eq_false h3; simp only at this; omega
      exact finIB ⟨by rw [hp, found_no fun t ht => h1 t ht (by omega)]⟩
theorem knows_con (g : Ledger) (k : Int) (hl : g.known.length * 8 ≤ 140737488351232) (hs : g.known.Pairwise (· < ·)) : Con P 179 [encLedger g, I k] (Bl (g.known.contains k)) [] := by
  refine Con.of T_ok Tryz.func179 rfl (by kernel_rfl) (by kernel_rfl) (aw_of T_ok (by kernel_rfl) ?_)
  conv => whnf
  refine callS (binarySearch_con g.known k hl hs) rfl ?_
  conv => whnf
  exact finB ⟨rfl⟩
theorem has_con (l : List ByteArray) (x : ByteArray) (hl : l.length * 16 ≤ 140737488351232) : Con P 114 [.lf (.pv (encStrs l)), Sx x] (Bl (l.any (x == ·))) [] := by
  refine Con.of T_ok Tryz.func114 rfl (by kernel_rfl) (by kernel_rfl) (aw_of T_ok (by kernel_rfl) ?_)
  conv => whnf
  refine AW.loop (fun k : Nat => k ≤ l.length ∧ (l.drop k).any (x == ·) = l.any (x == ·)) (fun k => [(0, .lf (.pv (encStrs l))), (1, Sx x), (5, Go.Rx.I k)]) (fun _ => []) (fun k => l.length - k) [] ?_ ?_
  · exact ⟨0, ⟨Nat.zero_le _, rfl⟩, ⟨rfl, rfl, rfl, trivial⟩, ⟨[], rfl⟩, rfl, rfl⟩
  · rintro k ⟨hk, hpre⟩
    refine aw_of T_ok (by kernel_rfl) ?_
    conv => whnf
    split <;> rename_i hlt <;> conv => whnf
    · have hkl : k < l.length := by simpa using hlt
      rw [has_go hkl] at hpre
      refine ⟨by omega, [pS l[k]], by simp [hkl], ?_⟩
      conv => whnf
      split <;> rename_i he <;> conv => whnf
      · refine finB ⟨?_⟩
        rw [← hpre, show (x == l[k]) = true from by rw [BEq.comm]; exact he]; rfl
      · refine ⟨k + 1, ⟨⟨by omega, ?_⟩, by omega⟩, ⟨rfl, rfl, congrArg Go.Rx.I (wrapI (by omega)), trivial⟩, ⟨[], rfl⟩, rfl, rfl⟩
        rw [← hpre, show (x == l[k]) = false from by rw [BEq.comm]; exact he]; rfl
    · refine finB ⟨?_⟩
      have hkl : l.length ≤ k := by simpa using hlt
      rw [← hpre, List.drop_of_length_le hkl]; rfl
theorem call9_con (g : Ledger) (k : Int) (op who : ByteArray) (n : Int) (hw : okS who) : Con P 76 [encLedger g, I k, Sx op, Sx who, I n] (Bl (keyB k && deedB g.service op who n)) [] := by
  have hl := opsS_len g.service
  refine Con.of T_ok Tryz.func76 rfl (by kernel_rfl) (by kernel_rfl) (aw_of T_ok (by kernel_rfl) ?_)
  conv => whnf
  refine callS (between_con k 1 1073741824) rfl ?_
  conv => whnf
  split <;> rename_i h1 <;> conv => whnf
  · rw [show keyB k = true from h1, Bool.true_and]
    refine callU (ops4_con g.service) (fun _ => rfl) ?_
    conv => whnf
    refine callS (has_con _ op (by omega)) rfl ?_
    conv => whnf
    split <;> rename_i h2 <;> conv => whnf
    · refine callS (short1_con who hw) rfl ?_
      conv => whnf
      split <;> rename_i h3 <;> conv => whnf
      · refine callS (between_con n (-1073741824) 1073741824) rfl ?_
        conv => whnf
        exact finB ⟨by rw [deedB, show (opsS g.service).any (op == ·) = true from h2, show shortB who = true from h3]; rfl⟩
      · exact finB ⟨by rw [deedB, show shortB who = false from h3, Bool.false_and, Bool.and_false]⟩
    · exact finB ⟨by rw [deedB, show (opsS g.service).any (op == ·) = false from h2, Bool.false_and]⟩
  · exact finB ⟨by rw [show keyB k = false from h1, Bool.false_and]⟩
end Go.Proofs.YtfjllfjmggooeaaGreatDoor.Rx

/- May a ledger be? The program's answer, and the page's. -/
set_option linter.unusedVariables false
set_option linter.unusedSimpArgs false
namespace Go.Rx
def svB (n : Int) : Bool := decide (1 ≤ n) && decide (n ≤ 4)
def knownAt (l : List Int) (i : Nat) : Bool := keyB (l.getD i 0) && (decide (i = 0) || decide (l.getD (i - 1) 0 < l.getD i 0))
def knownB (l : List Int) : Bool := (List.range l.length).all (knownAt l)
def entryAt (g : Ledger) (i : Nat) : Bool :=
  match g.entries[i]? with
  | none => true
  | some x => keyB x.key && (g.known.contains x.key && (!((g.entries.take i).any fun y => y.key == x.key) && deedB g.service x.op x.who x.n))
def entriesB (g : Ledger) : Bool := (List.range g.entries.length).all (entryAt g)
def ledgerB (g : Ledger) : Bool := svB g.service && (decide (g.known.length ≤ 400) && (knownB g.known && (entriesB g && decide (g.entries.length ≤ 200))))
theorem rng_yes {n : Nat} {p : Nat → Bool} (h : ∀ j, j < n → p j = true) : (List.range n).all p = true := List.all_eq_true.2 fun j hj => h j (List.mem_range.1 hj)
theorem rng_no {n k : Nat} {p : Nat → Bool} (hk : k < n) (h : p k = false) : (List.range n).all p = false := List.all_eq_false.2 ⟨k, List.mem_range.2 hk, by rw [h]; decide⟩
theorem rng_at {n k : Nat} {p : Nat → Bool} (h : (List.range n).all p = true) (hk : k < n) : p k = true := List.all_eq_true.1 h k (List.mem_range.2 hk)
theorem known_key {l : List Int} (h : knownB l = true) {i : Nat} (hi : i < l.length) : keyB l[i] = true := by
  have := rng_at h hi
  rw [knownAt, Bool.and_eq_true, List.getD_eq_getElem?_getD, List.getElem?_eq_getElem hi] at this
  exact this.1
theorem known_step {l : List Int} (h : knownB l = true) {i : Nat} (hi : i + 1 < l.length) : l[i] < l[i + 1] := by
  have := rng_at h hi
  rw [knownAt, Bool.and_eq_true] at this
  have h2 := this.2
  simp [List.getD_eq_getElem?_getD, hi, show i < l.length by omega] at h2
  exact h2
theorem known_sorted {l : List Int} (h : knownB l = true) : l.Pairwise (· < ·) := by
  refine List.pairwise_iff_getElem.2 fun i j hi hj hij => ?_
  have : ∀ d i (hd : i + d + 1 < l.length), l[i] < l[i + d + 1] := fun d => by
    induction d with
    | zero => intro i hd; exact known_step h hd
    | succ d ih =>
      intro i hd
      have h1 := ih i (by omega)
      have h2 := known_step h (i := i + d + 1) (by omega)
      exact Int.lt_trans h1 h2
  have h3 := this (j - i - 1) i (by omega)
  have e : i + (j - i - 1) + 1 = j := by omega
  simp only [e] at h3
  exact h3
theorem ledger_parts {g : Ledger} (h : ledgerB g = true) : (1 ≤ g.service ∧ g.service ≤ 4) ∧ g.known.length ≤ 400 ∧ knownB g.known = true ∧ entriesB g = true ∧ g.entries.length ≤ 200 := by
  simpa [ledgerB, svB, and_assoc] using h
theorem take_rows {α : Type} {e : α → List PV} {l : List α} {k : Nat} : ((l.map e).take (k : Int).toNat).drop (0 : Int).toNat = (l.take k).map e := by
  simp
end Go.Rx
namespace Go.Proofs.YtfjllfjmggooeaaGreatDoor.Rx
open Go.Rx Go.Proofs Go.Proofs.YtfjllfjmggooeaaGreatDoor.RxH

theorem entries_con (g : Ledger) (h : g.Ok) (hsv : 1 ≤ g.service ∧ g.service ≤ 4) (hs : g.known.Pairwise (· < ·)) : Con P 153 [encLedger g] (Bl (entriesB g && decide (g.entries.length ≤ 200))) [] := by
  have hm : (g.entries.map Entry.enc).length = g.entries.length := List.length_map ..
  have hel := h.el
  refine Con.of T_ok Tryz.func153 rfl (by kernel_rfl) (by kernel_rfl) (aw_of T_ok (by kernel_rfl) ?_)
  conv => whnf
  refine AW.loop (fun k : Nat => k ≤ g.entries.length ∧ ∀ j, j < k → entryAt g j = true) (fun k => [(1, .lf (.ptr 0 0)), (6, .lf (.pv (encEntries g.entries))), (7, Go.Rx.I g.entries.length), (8, Go.Rx.I k)]) (fun _ => [ledgerV g]) (fun k => g.entries.length - k) [] ?_ ?_
  · exact ⟨0, ⟨Nat.zero_le _, fun j hj => absurd hj (Nat.not_lt_zero _)⟩, ⟨rfl, rfl, congrArg (fun n : Nat => Go.Rx.I (n : Int)) hm, rfl, trivial⟩, ⟨[], rfl⟩, rfl, rfl⟩
  rintro k ⟨hk, hpre⟩
  have fail : k < g.entries.length → entryAt g k = false → Fin false (entriesB g && decide (g.entries.length ≤ 200)) := fun hkl hf => ⟨by rw [entriesB, rng_no hkl hf]; rfl⟩
  have at' : ∀ hkl : k < g.entries.length, entryAt g k = (keyB (g.entries[k]).key && (g.known.contains (g.entries[k]).key && (!((g.entries.take k).any fun y => y.key == (g.entries[k]).key) && deedB g.service (g.entries[k]).op (g.entries[k]).who (g.entries[k]).n))) := fun hkl => by rw [entryAt, List.getElem?_eq_getElem hkl]
  refine aw_of T_ok (by kernel_rfl) ?_
  conv => whnf
  split <;> rename_i hlt <;> conv => whnf
  · have hkl : k < g.entries.length := by have := of_decide_eq_true hlt; omega
    refine ⟨by omega, (g.entries[k]).enc, by simp [hkl], ?_⟩
    conv => whnf
    refine AW.draw T_ok rfl (listPl [0, 1, 2, 3, 4, 5, 6, 7, 8, 9, 10, 11, 12, 13, 14, 16, 17, 15, 18, 19, 20, 21, 22, 23, 24, 25, 26, 27, 28, 29, 30, 31, 32]) (by kernel_rfl) (by kernel_rfl) ?_
    conv => whnf
    refine callS (key_con (g.entries[k]).key) rfl ?_
    conv => whnf
    split <;> rename_i h1 <;> conv => whnf
    · have h1' : keyB (g.entries[k]).key = false := by simpa using h1
      exact finB (fail hkl (by rw [at' hkl, h1']; rfl))
    have h1' : keyB (g.entries[k]).key = true := by simpa using h1
    refine callS (knows_con g (g.entries[k]).key h.kl hs) rfl ?_
    conv => whnf
    split <;> rename_i h2 <;> conv => whnf
    · have h2' : g.known.contains (g.entries[k]).key = false := by simpa using h2
      exact finB (fail hkl (by rw [at' hkl, h2', Bool.false_and, Bool.and_false]))
    have h2' : g.known.contains (g.entries[k]).key = true := by
      cases hq : g.known.contains (g.entries[k]).key with
      | true => rfl
      | false => rw [hq] at h2; cases h2
    refine ⟨by decide, by omega, by show (k : Int) ≤ ((g.entries.map Entry.enc).length : Nat); omega, ?_⟩
    rw [take_rows]
    conv => whnf
    refine callS (find_con (g.entries.take k) (g.entries[k]).key (by rw [List.length_take]; omega)) rfl ?_
    conv => whnf
    have hfa : decide (0 ≤ idxL (fun e : Entry => e.key == (g.entries[k]).key) (g.entries.take k) 0) = (g.entries.take k).any fun e => e.key == (g.entries[k]).key := idx_any _ 0
    split <;> rename_i h3 <;> conv => whnf
    · exact finB (fail hkl (by rw [at' hkl, ← hfa, show decide (0 ≤ idxL (fun e : Entry => e.key == (g.entries[k]).key) (g.entries.take k) 0) = true from h3]; simp))
    have h3' := hfa.symm.trans (show decide (0 ≤ idxL (fun e : Entry => e.key == (g.entries[k]).key) (g.entries.take k) 0) = false from h3)
    refine callS (deed_con g.service (g.entries[k]).op (g.entries[k]).who (g.entries[k]).n hsv) rfl ?_
    conv => whnf
    split <;> rename_i h4 <;> conv => whnf
    · have h4' : deedB g.service (g.entries[k]).op (g.entries[k]).who (g.entries[k]).n = false := by
        cases hq : deedB g.service (g.entries[k]).op (g.entries[k]).who (g.entries[k]).n with
        | false => rfl
        | true => rw [hq] at h4; cases h4
      exact finB (fail hkl (by rw [at' hkl, h4', Bool.and_false, Bool.and_false, Bool.and_false]))
    have h4' : deedB g.service (g.entries[k]).op (g.entries[k]).who (g.entries[k]).n = true := by
      cases hq : deedB g.service (g.entries[k]).op (g.entries[k]).who (g.entries[k]).n with
      | true => rfl
      | false => rw [hq] at h4; cases h4
    refine ⟨k + 1, ⟨⟨by omega, fun j hj => ?_⟩, by omega⟩, ⟨rfl, rfl, rfl, congrArg Go.Rx.I (wrapI (by omega)), trivial⟩, ⟨_, rfl⟩, rfl, rfl⟩
    by_cases e : j = k
    · subst e
      rw [at' hkl, h1', h2', h3', h4']; rfl
    · exact hpre j (by omega)
  · have hkl : k = g.entries.length := by have := of_decide_eq_false hlt; omega
    refine finB ⟨?_⟩
    rw [entriesB, rng_yes fun j hj => hpre j (by omega), Bool.true_and]
    exact decide_eq_decide.2 (by omega)
theorem ledgerMay_con (g : Ledger) (h : g.Ok) : Con P 121 [encLedger g] (Bl (ledgerB g)) [] := by
  have hm : (g.known.map fun n => [pI n]).length = g.known.length := List.length_map ..
  have hkl0 := h.kl
  refine Con.of T_ok Tryz.func121 rfl (by kernel_rfl) (by kernel_rfl) (aw_of T_ok (by kernel_rfl) ?_)
  conv => whnf
  refine callS (isService_con g.service) rfl ?_
  conv => whnf
  split <;> rename_i h1 <;> conv => whnf
  · have h1' : svB g.service = false := by
      cases hq : svB g.service with
      | false => rfl
      | true => rw [show (decide (1 ≤ g.service) && decide (g.service ≤ 4)) = true from hq] at h1; cases h1
    exact finB ⟨by rw [ledgerB, h1']; rfl⟩
  have h1' : svB g.service = true := by
    cases hq : svB g.service with
    | true => rfl
    | false => rw [show (decide (1 ≤ g.service) && decide (g.service ≤ 4)) = false from hq] at h1; cases h1
  have hsv : 1 ≤ g.service ∧ g.service ≤ 4 := by simpa [svB] using h1'
  split <;> rename_i h2 <;> conv => whnf
  · have h2' : ¬ g.known.length ≤ 400 := by have := of_decide_eq_true h2; omega
    exact finB ⟨by rw [ledgerB, decide_eq_false h2', Bool.false_and, Bool.and_false]⟩
  have h2' : g.known.length ≤ 400 := by have := of_decide_eq_false h2; omega
  refine AW.loop (fun k : Nat => k ≤ g.known.length ∧ ∀ j, j < k → knownAt g.known j = true) (fun k => [(1, .lf (.ptr 0 0)), (16, .lf (.pv (encInts g.known))), (17, Go.Rx.I g.known.length), (18, Go.Rx.I k)]) (fun _ => [ledgerV g]) (fun k => g.known.length - k) [] ?_ ?_
  · exact ⟨0, ⟨Nat.zero_le _, fun j hj => absurd hj (Nat.not_lt_zero _)⟩, ⟨rfl, rfl, congrArg (fun n : Nat => Go.Rx.I (n : Int)) hm, rfl, trivial⟩, ⟨[], rfl⟩, rfl, rfl⟩
  rintro k ⟨hk, hpre⟩
  have fail : k < g.known.length → knownAt g.known k = false → Fin false (ledgerB g) := fun hkl hf => ⟨by rw [ledgerB, knownB, rng_no hkl hf, Bool.false_and, Bool.and_false, Bool.and_false]⟩
  refine aw_of T_ok (by kernel_rfl) ?_
  conv => whnf
  split <;> rename_i hlt <;> conv => whnf
  · have hkl : k < g.known.length := by have := of_decide_eq_true hlt; omega
    have hget : g.known.getD k 0 = g.known[k] := by simp [List.getD_eq_getElem?_getD, hkl]
    refine ⟨by omega, [pI g.known[k]], by simp [hkl], ?_⟩
    conv => whnf
    refine callS (key_con g.known[k]) rfl ?_
    conv => whnf
    split <;> rename_i h3 <;> conv => whnf
    · have h3' : keyB g.known[k] = false := by simpa using h3
      exact finB (fail hkl (by rw [knownAt, hget, h3']; rfl))
    have h3' : keyB g.known[k] = true := by simpa using h3
    have next : knownAt g.known k = true → ∀ j, j < k + 1 → knownAt g.known j = true := fun e j hj => by
      by_cases hjk : j = k
      · subst hjk; exact e
      · exact hpre j (by omega)
    split <;> rename_i h4 <;> conv => whnf
    · have h4' : 0 < k := by have := of_decide_eq_true h4; omega
      have hget1 : g.known.getD (k - 1) 0 = g.known[k - 1] := by simp [List.getD_eq_getElem?_getD, show k - 1 < g.known.length by omega]
      rw [show IntKind.i64.wrap ((k : Int) - 1) = ((k - 1 : Nat) : Int) by rw [wrapI (by omega)]; omega]
      refine ⟨by omega, [pI g.known[k - 1]], by rw [Int.toNat_natCast, List.getElem?_map, List.getElem?_eq_getElem (by omega)]; rfl, ?_⟩
      conv => whnf
      split <;> rename_i h5 <;> conv => whnf
      · have h5' : g.known[k] ≤ g.known[k - 1] := of_decide_eq_true h5
        exact finB (fail hkl (by rw [knownAt, hget, hget1, decide_eq_false (show ¬ k = 0 by omega), decide_eq_false (show ¬ g.known[k - 1] < g.known[k] by omega)]; simp))
      · have h5' : ¬ g.known[k] ≤ g.known[k - 1] := of_decide_eq_false h5
        exact ⟨k + 1, ⟨⟨by omega, next (by rw [knownAt, hget, hget1, h3', decide_eq_true (show g.known[k - 1] < g.known[k] by omega)]; simp)⟩, by omega⟩, ⟨rfl, rfl, rfl, congrArg Go.Rx.I (wrapI (by omega)), trivial⟩, ⟨_, rfl⟩, rfl, rfl⟩
    · have h4' : k = 0 := by have := of_decide_eq_false h4; omega
      exact ⟨k + 1, ⟨⟨by omega, next (by rw [knownAt, hget, h3', decide_eq_true h4']; rfl)⟩, by omega⟩, ⟨rfl, rfl, rfl, congrArg Go.Rx.I (wrapI (by omega)), trivial⟩, ⟨_, rfl⟩, rfl, rfl⟩
  · have hkl : k = g.known.length := by have := of_decide_eq_false hlt; omega
    have hkb : knownB g.known = true := rng_yes fun j hj => hpre j (by omega)
    refine callS (entries_con g h hsv (known_sorted hkb)) rfl ?_
    conv => whnf
    refine finB ⟨?_⟩
    rw [ledgerB, h1', decide_eq_true h2', hkb]; rfl
end Go.Proofs.YtfjllfjmggooeaaGreatDoor.Rx

/- May a ledger be: the page's answer; what is asked of it; sums. -/
set_option linter.unusedVariables false
set_option linter.unusedSimpArgs false
namespace Go.Rx
theorem in_known (l : List Int) (x : Int) : decide (idxL (· == x) l 0 < 0) = !(l.contains x) := by
  have h := idx_any (p := fun y : Int => y == x) l 0
  have h2 : (l.any fun y => y == x) = l.contains x := by
    rw [List.contains_eq_any_beq]; congr 1; funext y; exact BEq.comm
  rw [← h2, ← h]
  by_cases hc : 0 ≤ idxL (fun y : Int => y == x) l 0
  · rw [decide_eq_true hc, decide_eq_false (by omega)]; rfl
  · rw [decide_eq_false hc, decide_eq_true (by omega)]; rfl
abbrev entryV (e : Entry) : Blk := .var [.pv (pI e.key), .pv (pB e.back), .pv (pS e.op), .pv (pS e.who), .pv (pI e.n)]
end Go.Rx
namespace Go.Proofs.YtfjllfjmggooeaaGreatDoor.Rx
open Go.Rx Go.Proofs Go.Proofs.YtfjllfjmggooeaaGreatDoor.RxH

theorem ledger9_con (g : Ledger) (h : g.Ok) : Con P 45 [encLedger g] (Bl (ledgerB g)) [] := by
  have hm : (g.known.map fun n => [pI n]).length = g.known.length := List.length_map ..
  have hm2 : (g.entries.map Entry.enc).length = g.entries.length := List.length_map ..
  have hkl0 := h.kl
  have hel0 := h.el
  refine Con.of T_ok Tryz.func45 rfl (by kernel_rfl) (by kernel_rfl) (aw_of T_ok (by kernel_rfl) ?_)
  conv => whnf
  refine callS (between_con g.service 1 4) rfl ?_
  conv => whnf
  split <;> rename_i h1 <;> conv => whnf
  · have h1' : svB g.service = false := by
      cases hq : svB g.service with
      | false => rfl
      | true => rw [show (decide (1 ≤ g.service) && decide (g.service ≤ 4)) = true from hq] at h1; cases h1
    exact finB ⟨by rw [ledgerB, h1']; rfl⟩
  have h1' : svB g.service = true := by
    cases hq : svB g.service with
    | true => rfl
    | false => rw [show (decide (1 ≤ g.service) && decide (g.service ≤ 4)) = false from hq] at h1; cases h1
  split <;> rename_i h0 <;> conv => whnf
  · have h0' : ¬ g.entries.length ≤ 200 := by have := of_decide_eq_true h0; omega
    exact finB ⟨by rw [ledgerB, decide_eq_false h0', Bool.and_false, Bool.and_false, Bool.and_false, Bool.and_false]⟩
  have h0' : g.entries.length ≤ 200 := by have := of_decide_eq_false h0; omega
  split <;> rename_i h2 <;> conv => whnf
  · have h2' : ¬ g.known.length ≤ 400 := by have := of_decide_eq_true h2; omega
    exact finB ⟨by rw [ledgerB, decide_eq_false h2', Bool.false_and, Bool.and_false]⟩
  have h2' : g.known.length ≤ 400 := by have := of_decide_eq_false h2; omega
  refine AW.loop (fun k : Nat => k ≤ g.known.length ∧ ∀ j, j < k → knownAt g.known j = true) (fun k => [(1, .lf (.ptr 0 0)), (3, Go.Rx.I k)]) (fun _ => [ledgerV g]) (fun k => g.known.length - k) [] ?_ ?_
  · exact ⟨0, ⟨Nat.zero_le _, fun j hj => absurd hj (Nat.not_lt_zero _)⟩, ⟨rfl, rfl, trivial⟩, ⟨[], rfl⟩, rfl, rfl⟩
  rintro k ⟨hk, hpre⟩
  have fail : k < g.known.length → knownAt g.known k = false → Fin false (ledgerB g) := fun hkl hf => ⟨by rw [ledgerB, knownB, rng_no hkl hf, Bool.false_and, Bool.and_false, Bool.and_false]⟩
  refine aw_of T_ok (by kernel_rfl) ?_
  conv => whnf
  split <;> rename_i hlt <;> conv => whnf
  · have hkl : k < g.known.length := by have := of_decide_eq_true hlt; omega
    have hget : g.known.getD k 0 = g.known[k] := by simp [List.getD_eq_getElem?_getD, hkl]
    refine AW.draw T_ok rfl (seqPl 0 25) (by kernel_rfl) (by kernel_rfl) ?_
    conv => whnf
    refine ⟨by omega, [pI g.known[k]], by simp [hkl], ?_⟩
    conv => whnf
    refine callS (between_con g.known[k] 1 1073741824) rfl ?_
    conv => whnf
    split <;> rename_i h3 <;> conv => whnf
    · have h3' : keyB g.known[k] = false := by
        cases hq : keyB g.known[k] with
        | false => rfl
        | true => rw [show (decide (1 ≤ g.known[k]) && decide (g.known[k] ≤ 1073741824)) = true from hq] at h3; cases h3
      exact finB (fail hkl (by rw [knownAt, hget, h3']; rfl))
    have h3' : keyB g.known[k] = true := by
      cases hq : keyB g.known[k] with
      | true => rfl
      | false => rw [show (decide (1 ≤ g.known[k]) && decide (g.known[k] ≤ 1073741824)) = false from hq] at h3; cases h3
    have next : knownAt g.known k = true → ∀ j, j < k + 1 → knownAt g.known j = true := fun e j hj => by
      by_cases hjk : j = k
      · subst hjk; exact e
      · exact hpre j (by omega)
    split <;> rename_i h4 <;> conv => whnf
    · have h4' : 0 < k := by have := of_decide_eq_true h4; omega
      have hget1 : g.known.getD (k - 1) 0 = g.known[k - 1] := by simp [List.getD_eq_getElem?_getD, show k - 1 < g.known.length by omega]
      rw [show IntKind.i64.wrap ((k : Int) - 1) = ((k - 1 : Nat) : Int) by rw [wrapI (by omega)]; omega]
      refine ⟨by omega, [pI g.known[k - 1]], by rw [Int.toNat_natCast, List.getElem?_map, List.getElem?_eq_getElem (by omega)]; rfl, ?_⟩
      conv => whnf
      refine ⟨by omega, [pI g.known[k]], by simp [hkl], ?_⟩
      conv => whnf
      split <;> rename_i h5 <;> conv => whnf
      · have h5' : g.known[k] ≤ g.known[k - 1] := of_decide_eq_true h5
        exact finB (fail hkl (by rw [knownAt, hget, hget1, decide_eq_false (show ¬ k = 0 by omega), decide_eq_false (show ¬ g.known[k - 1] < g.known[k] by omega)]; simp))
      · have h5' : ¬ g.known[k] ≤ g.known[k - 1] := of_decide_eq_false h5
        exact ⟨k + 1, ⟨⟨by omega, next (by rw [knownAt, hget, hget1, h3', decide_eq_true (show g.known[k - 1] < g.known[k] by omega)]; simp)⟩, by omega⟩, ⟨rfl, congrArg Go.Rx.I (wrapI (by omega)), trivial⟩, ⟨_, rfl⟩, rfl, rfl⟩
    · have h4' : k = 0 := by have := of_decide_eq_false h4; omega
      exact ⟨k + 1, ⟨⟨by omega, next (by rw [knownAt, hget, h3', decide_eq_true h4']; rfl)⟩, by omega⟩, ⟨rfl, congrArg Go.Rx.I (wrapI (by omega)), trivial⟩, ⟨_, rfl⟩, rfl, rfl⟩
  have hkl : k = g.known.length := by have := of_decide_eq_false hlt; omega
  have hkb : knownB g.known = true := rng_yes fun j hj => hpre j (by omega)
  clear fail hpre
  refine AW.loop (fun i : Nat => i ≤ g.entries.length ∧ ∀ j, j < i → entryAt g j = true) (fun i => [(1, .lf (.ptr 0 0)), (4, Go.Rx.I i)]) (fun _ => [ledgerV g]) (fun i => g.entries.length - i) [] ?_ ?_
  · exact ⟨0, ⟨Nat.zero_le _, fun j hj => absurd hj (Nat.not_lt_zero _)⟩, ⟨rfl, rfl, trivial⟩, ⟨[], rfl⟩, rfl, rfl⟩
  rintro i ⟨hi, hpre⟩
  have fail : i < g.entries.length → entryAt g i = false → Fin false (ledgerB g) := fun hil hf => ⟨by rw [ledgerB, entriesB, rng_no hil hf, Bool.false_and, Bool.and_false, Bool.and_false, Bool.and_false]⟩
  have at' : ∀ hil : i < g.entries.length, entryAt g i = (keyB (g.entries[i]).key && (g.known.contains (g.entries[i]).key && (!((g.entries.take i).any fun y => y.key == (g.entries[i]).key) && deedB g.service (g.entries[i]).op (g.entries[i]).who (g.entries[i]).n))) := fun hil => by rw [entryAt, List.getElem?_eq_getElem hil]
  refine aw_of T_ok (by kernel_rfl) ?_
  conv => whnf
  split <;> rename_i hlt2 <;> conv => whnf
  rotate_left
  · have hil : i = g.entries.length := by have := of_decide_eq_false hlt2; omega
    refine finB ⟨?_⟩
    rw [ledgerB, h1', decide_eq_true h2', hkb, entriesB, rng_yes fun j hj => hpre j (by omega), decide_eq_true h0']; rfl
  have hil : i < g.entries.length := by have := of_decide_eq_true hlt2; omega
  have hwho := (h.each _ (List.getElem_mem hil)).who
  have hdel := at' hil
  refine ⟨by omega, (g.entries[i]).enc, by simp [hil], ?_⟩
  conv => whnf
  refine callS (call9_con g (g.entries[i]).key (g.entries[i]).op (g.entries[i]).who (g.entries[i]).n hwho) rfl ?_
  conv => whnf
  split <;> rename_i h3 <;> conv => whnf
  · have h3' : (keyB (g.entries[i]).key && deedB g.service (g.entries[i]).op (g.entries[i]).who (g.entries[i]).n) = false := by
      cases hq : (keyB (g.entries[i]).key && deedB g.service (g.entries[i]).op (g.entries[i]).who (g.entries[i]).n) with
      | false => rfl
      | true => rw [hq] at h3; cases h3
    refine finB (fail hil ?_)
    rw [hdel]
    rw [Bool.and_eq_false_iff] at h3'
    rcases h3' with h3' | h3'
    · rw [h3', Bool.false_and]
    · rw [h3', Bool.and_false, Bool.and_false, Bool.and_false]
  have h3' : (keyB (g.entries[i]).key && deedB g.service (g.entries[i]).op (g.entries[i]).who (g.entries[i]).n) = true := by
    cases hq : (keyB (g.entries[i]).key && deedB g.service (g.entries[i]).op (g.entries[i]).who (g.entries[i]).n) with
    | true => rfl
    | false => rw [hq] at h3; cases h3
  rw [Bool.and_eq_true] at h3'
  refine callS (in_con g.known (g.entries[i]).key h.kl) rfl ?_
  conv => whnf
  have hin := in_known g.known (g.entries[i]).key
  split <;> rename_i h4 <;> conv => whnf
  · have h4' : g.known.contains (g.entries[i]).key = false := by
      rw [show decide (idxL (fun x => x == (g.entries[i]).key) g.known 0 < 0) = true from h4] at hin
      simpa using hin.symm
    exact finB (fail hil (by rw [hdel, h4', Bool.false_and, Bool.and_false]))
  have h4' : g.known.contains (g.entries[i]).key = true := by
    rw [show decide (idxL (fun x => x == (g.entries[i]).key) g.known 0 < 0) = false from h4] at hin
    simpa using hin.symm
  refine AW.loop (fun k : Nat => k ≤ i ∧ ∀ j (hj : j < g.entries.length), j < k → ((g.entries[j]).key == (g.entries[i]).key) = false) (fun k => [(1, .lf (.ptr 0 0)), (4, Go.Rx.I i), (5, .lf (.ptr 1 0)), (6, Go.Rx.I k)]) (fun _ => [ledgerV g, entryV g.entries[i]]) (fun k => i - k) [] ?_ ?_
  · exact ⟨0, ⟨Nat.zero_le _, fun j _ hj => absurd hj (Nat.not_lt_zero _)⟩, ⟨rfl, rfl, rfl, rfl, trivial⟩, ⟨_, rfl⟩, rfl, rfl⟩
  rintro k2 ⟨hk2, hpre2⟩
  refine aw_of T_ok (by kernel_rfl) ?_
  conv => whnf
  split <;> rename_i hlt3 <;> conv => whnf
  · have hki : k2 < i := by have := of_decide_eq_true hlt3; omega
    have hkl2 : k2 < g.entries.length := by omega
    refine AW.draw T_ok rfl (seqPl 0 9) (by kernel_rfl) (by kernel_rfl) ?_
    conv => whnf
    refine ⟨by omega, (g.entries[k2]).enc, by simp [hkl2], ?_⟩
    conv => whnf
    split <;> rename_i h5 <;> conv => whnf
    · refine finB (fail hil ?_)
      have : ((g.entries.take i).any fun y => y.key == (g.entries[i]).key) = true := List.any_eq_true.2 ⟨g.entries[k2], by
        refine List.mem_of_getElem? (i := k2) ?_
        rw [List.getElem?_take_of_lt hki, List.getElem?_eq_getElem hkl2], h5⟩
      rw [hdel, this]; simp
    · refine ⟨k2 + 1, ⟨⟨by omega, fun j hj hjk => ?_⟩, by omega⟩, ⟨rfl, rfl, rfl, congrArg Go.Rx.I (wrapI (by omega)), trivial⟩, ⟨_, rfl⟩, rfl, rfl⟩
      by_cases e : j = k2
      · subst e; exact h5
      · exact hpre2 j hj (by omega)
  · have hki : k2 = i := by have := of_decide_eq_false hlt3; omega
    refine ⟨i + 1, ⟨⟨by omega, fun j hj => ?_⟩, by omega⟩, ⟨rfl, congrArg Go.Rx.I (wrapI (by omega)), trivial⟩, ⟨_, rfl⟩, rfl, rfl⟩
    by_cases e : j = i
    · subst e
      have : ((g.entries.take j).any fun y => y.key == (g.entries[j]).key) = false := List.any_eq_false.2 fun y hy => by
        obtain ⟨t, ht, rfl⟩ := List.getElem_of_mem hy
        rw [List.length_take] at ht
        rw [List.getElem_take]
        rw [hpre2 t (by omega) (by omega)]
        decide
      rw [hdel, h3'.1, h3'.2, h4', this]; rfl
    · exact hpre j (by omega)
end Go.Proofs.YtfjllfjmggooeaaGreatDoor.Rx

/- What is asked of a ledger; what is known; sums; a ledger without entries; copies of the call's own. -/
set_option linter.unusedVariables false
set_option linter.unusedSimpArgs false
namespace Go.Rx
def doneB (l : List Entry) (k : Int) : Bool := match l.find? (fun e => e.key == k) with | some e => !e.back | none => false
theorem idx_find {α : Type} {p : α → Bool} : ∀ (l : List α) (k : Nat), (idxL p l k = -1 ∧ l.find? p = none) ∨ ∃ (i : Nat) (hi : i < l.length), idxL p l k = ((k + i : Nat) : Int) ∧ l.find? p = some l[i]
  | [], k => .inl ⟨rfl, rfl⟩
  | y :: l, k => by
    rw [idxL, List.find?_cons]
    cases hp : p y with
    | true => exact .inr ⟨0, by simp, by simp, by simp⟩
    | false =>
      simp only [Bool.false_eq_true, if_false]
      rcases idx_find l (k + 1) with h | ⟨i, hi, h1, h2⟩
      · exact .inl h
      · exact .inr ⟨i + 1, by simpa using hi, by rw [h1]; congr 1; omega, by simpa using h2⟩
def zL : Ledger := ⟨0, [], []⟩
def newP (n : Int) : Ledger × Int := if svB n then (⟨n, [], []⟩, 0) else (zL, 1)
abbrev tLedger (g : Ledger) : TC := .agg [.pv (pI g.service), .pv (encEntries g.entries), .pv (encInts g.known)]
abbrev ledgE (p : Ledger × Int) : AV := .tup [tLedger p.1, .lf (.pv (pI p.2))]
end Go.Rx
namespace Go.Proofs.YtfjllfjmggooeaaGreatDoor.Rx
open Go.Rx Go.Proofs Go.Proofs.YtfjllfjmggooeaaGreatDoor.RxH

theorem done_con (g : Ledger) (h : g.Ok) (k : Int) : Con P 172 [encLedger g, I k] (Bl (doneB g.entries k)) [] := by
  have hel := h.el
  refine Con.of T_ok Tryz.func172 rfl (by kernel_rfl) (by kernel_rfl) (aw_of T_ok (by kernel_rfl) ?_)
  conv => whnf
  have hf := idx_find (p := fun e : Entry => e.key == k) g.entries 0
  refine callS (find_con g.entries k h.el) rfl ?_
  conv => whnf
  split <;> rename_i h1 <;> conv => whnf
  · have h1' : 0 ≤ idxL (fun e : Entry => e.key == k) g.entries 0 := of_decide_eq_true h1
    rcases hf with ⟨hf, _⟩ | ⟨i, hi, hf, hg⟩
    · omega
    rw [Nat.zero_add] at hf
    rw [hf]
    refine ⟨by omega, (g.entries[i]).enc, by simp [hi], ?_⟩
    conv => whnf
    exact finB ⟨by rw [doneB, hg]⟩
  · have h1' : ¬ 0 ≤ idxL (fun e : Entry => e.key == k) g.entries 0 := of_decide_eq_false h1
    rcases hf with ⟨_, hg⟩ | ⟨i, hi, hf, _⟩
    · exact finB ⟨by rw [doneB, hg]⟩
    · omega
theorem new_con (n : Int) : Con P 67 [I n] (ledgE (newP n)) [] := by
  refine Con.of T_ok Tryz.func67 rfl (by kernel_rfl) (by kernel_rfl) (aw_of T_ok (by kernel_rfl) ?_)
  conv => whnf
  refine callS (isService_con n) rfl ?_
  conv => whnf
  split <;> rename_i h1 <;> conv => whnf
  · have h1' : ¬ svB n = true := fun e => by rw [show (decide (1 ≤ n) && decide (n ≤ 4)) = true from e] at h1; cases h1
    rw [newP, if_neg h1']
    exact ⟨[encLedger zL, Go.Rx.I 1], ⟨.inr (.inr ⟨_, _, rfl, rfl, wkE _, wkN 5, wkN 1, trivial⟩), .inl rfl, trivial⟩, rfl⟩
  · have h1' : svB n = true := by
      cases hq : svB n with
      | true => rfl
      | false => rw [show (decide (1 ≤ n) && decide (n ≤ 4)) = false from hq] at h1; cases h1
    rw [newP, if_pos h1']
    exact ⟨[encLedger ⟨n, [], []⟩, Go.Rx.I 0], ⟨.inr (.inr ⟨_, _, rfl, rfl, wkE _, wkN 5, wkN 1, trivial⟩), .inl rfl, trivial⟩, rfl⟩
end Go.Proofs.YtfjllfjmggooeaaGreatDoor.Rx
