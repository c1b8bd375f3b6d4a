-- printed by this session's program (over the kit's print) out of the translation; Lean checks it
import Derived.Test.YtcombonfmhgnjaaPLexx0
namespace Go.Proofs.Ytcombonfmhgnjaa.PLex
open Go.RowKit Go.Proofs.YtcombonfmhgnjaaW.PrintWords Go.Proofs.YtcombonfmhgnjaaW.PrintLast Go.Proofs.YtcombonfmhgnjaaW.PrintMore
attribute [local go_sem] max2_int min2_int max_two min_two max_three min_three max_four min_four   -- for this text's walks alone
set_option linter.unusedVariables false
set_option linter.unusedSimpArgs false

/-! ### amanuensislaw0_Texts: function 14 -/
def amanuensislaw0_Texts.l0 : Nat → List ByteArray → Int → Int → Option (Int)
  | 0, _, _, _ => none
  | k + 1, x0, x3, x4 => if x4 < (x0.length : Int) then (if x3 < 1048576 then (if 0 ≤ x4 then (amanuensislaw0_Texts.l0 k x0 (wrap64 (x3 + ((rdOf ByteArray.empty x0 x4).size : Int))) (wrap64 (x4 + 1))) else (none)) else (some x3)) else (some x3)
def amanuensislaw0_Texts.f (k : Nat) (l0 : List ByteArray) : Option (Int) := amanuensislaw0_Texts.l0 k l0 (l0.length : Int) 0
theorem amanuensislaw0_Texts.mono_l : ∀ k, (∀ y0 y1 y2, LeO (amanuensislaw0_Texts.l0 k y0 y1 y2) (amanuensislaw0_Texts.l0 (k + 1) y0 y1 y2))
  | 0 => fun _ _ _ r h => by simp [amanuensislaw0_Texts.l0] at h
  | k + 1 => by
    have ih0 := amanuensislaw0_Texts.mono_l k
    · intro y0 y1 y2
      unfold amanuensislaw0_Texts.l0
      repeat' first
      | (with_reducible exact ih0 _ _ _)
      | (with_reducible exact LeO.refl _)
      | (with_reducible exact LeO.none _)
      | (with_reducible refine LeO.ite ?_ ?_)
      | (with_reducible refine LeO.bind ?_ (fun _ => ?_))
      | exact ih0 _ _ _
      | exact LeO.none _
      | refine LeO.ite ?_ ?_
      | refine LeO.bind ?_ (fun _ => ?_)
theorem amanuensislaw0_Texts.mono : ∀ a0 k, LeO (amanuensislaw0_Texts.f k a0) (amanuensislaw0_Texts.f (k + 1) a0) := by
  intro a0 k
  have ih0 := amanuensislaw0_Texts.mono_l k
  unfold amanuensislaw0_Texts.f
  repeat' first
      | (with_reducible exact ih0 _ _ _)
      | (with_reducible exact LeO.refl _)
      | (with_reducible exact LeO.none _)
      | (with_reducible refine LeO.ite ?_ ?_)
      | (with_reducible refine LeO.bind ?_ (fun _ => ?_))
      | exact ih0 _ _ _
      | exact LeO.none _
      | refine LeO.ite ?_ ?_
      | refine LeO.bind ?_ (fun _ => ?_)
set_option maxHeartbeats 8000000 in
set_option maxRecDepth 100000 in
theorem amanuensislaw0_Texts.calls (k : Nat) (A0 : Option Addr) (c0 : Nat) (l0 : List ByteArray) (r : Int) (w : World) (hr0 : Kd.C Kd.string w A0 l0.length l0) (hc0 : l0.length ≤ c0) (h : amanuensislaw0_Texts.f k l0 = some r) :
    Calls Try.prog 14 #[.slice A0 l0.length c0] w fun e w' => e = .returned (.int .i64 r) ∧ Drawn0 w w' := by
  have HR0 := Aside0.mk hr0
  have HC0 := Aside0.mk hc0
  clear hr0 hc0
  have H : (amanuensislaw0_Texts.l0 k l0 (l0.length : Int) 0) = some r := h
  clear h
  have H' := Aside0.mk H
  clear H
  go_enter Try.func14, Try.ntmps14
  go_wp2
  go_loopg [3, 4] k (fun kq v3 v4 w' => ∃ (x3_1 : Int) (x4_1 : Int), v3 = .int .i64 x3_1 ∧ v4 = .int .i64 x4_1 ∧ Aside0 (amanuensislaw0_Texts.l0 kq l0 x3_1 x4_1 = some r) ∧ Aside0 (kq ≤ k) ∧ Drawn0 w w')
  case atStart => exact ⟨((l0.length : Int)), (0), (by first | rfl | (simp; done) | (simp [*]; done)), (by first | rfl | (simp; done) | (simp [*]; done)), H', ⟨Nat.le_refl _⟩, by repeat (first | exact Drawn0.refl _ | apply Drawn0.step)⟩
  case round =>
    clear H'
    try clear c1
    obtain ⟨x3_1, x4_1, rfl, rfl, HA, HK1, ⟨m1, rfl⟩⟩ := hrel
    cases gk with
    | zero => exact absurd HA.out (by simp [amanuensislaw0_Texts.l0])
    | succ k1 =>
      have H := HA.out
      clear HA
      simp only [amanuensislaw0_Texts.l0] at H
      by_cases c2 : x4_1 < (l0.length : Int)
      · rw [if_pos c2] at H
        have c2b0 : decide (x4_1 < (l0.length : Int)) = true := decide_eq_true c2
        clear c2
        by_cases c3 : x3_1 < 1048576
        · rw [if_pos c3] at H
          have c3b0 : decide (x3_1 < 1048576) = true := decide_eq_true c3
          clear c3
          by_cases c4 : 0 ≤ x4_1
          · rw [if_pos c4] at H
            have c4b0 : decide (0 ≤ x4_1) = true := decide_eq_true c4
            clear c4
            have H' := Aside0.mk H
            clear H
            have p101 : 0 ≤ (x4_1 : Int) := of_decide_eq_true (by first | (with_reducible assumption) | assumption)
            have q101 : x4_1 < (l0.length : Int) := of_decide_eq_true (by first | (with_reducible assumption) | assumption)
            obtain ⟨ad101, e101, hx101_0⟩ := Kd.at_string HR0.out x4_1 p101 q101
            cases e101
            replace p101 := eq_true p101
            replace q101 := eq_true q101
            go_wp2
            go_roundg k1
            case measure => have := HK1.out; omega
            case rel => exact ⟨(wrap64 (x3_1 + ((rdOf ByteArray.empty l0 x4_1).size : Int))), (wrap64 (x4_1 + 1)), (by first | rfl | (simp; done) | (simp [*]; done)), (by first | rfl | (simp; done) | (simp [*]; done)), H', ⟨by have := HK1.out; omega⟩, by repeat (first | exact Drawn0.refl _ | apply Drawn0.step)⟩
          · rw [if_neg c4] at H
            exact absurd H (by simp)
        · rw [if_neg c3] at H
          have c3b0 : decide (x3_1 < 1048576) = false := decide_eq_false c3
          clear c3
          obtain rfl := Option.some.inj H
          go_wp2
          go_ret
          exact ⟨by first | rfl | (simp; done) | (simp [*]; done), by repeat (first | exact Drawn0.refl _ | apply Drawn0.step)⟩
      · rw [if_neg c2] at H
        have c2b0 : decide (x4_1 < (l0.length : Int)) = false := decide_eq_false c2
        clear c2
        obtain rfl := Option.some.inj H
        go_wp2
        go_ret
        exact ⟨by first | rfl | (simp; done) | (simp [*]; done), by repeat (first | exact Drawn0.refl _ | apply Drawn0.step)⟩

/-! ### amanuensislaw2_Heavy: function 6 -/
def amanuensislaw2_Heavy.f (k : Nat) (l0_0 : List ByteArray) (l0_1 : List Int) : Option (Bool) := (amanuensislaw0_Texts.f k l0_0).bind fun t103 => (some (decide ((wrap64 (t103 + (l0_1.length : Int))) > 7000)))
theorem amanuensislaw2_Heavy.mono : ∀ a0 a1 k, LeO (amanuensislaw2_Heavy.f k a0 a1) (amanuensislaw2_Heavy.f (k + 1) a0 a1) := by
  intro a0 a1 k
  unfold amanuensislaw2_Heavy.f
  repeat' first
      | (with_reducible exact amanuensislaw0_Texts.mono _ _)
      | (with_reducible exact LeO.refl _)
      | (with_reducible exact LeO.none _)
      | (with_reducible refine LeO.ite ?_ ?_)
      | (with_reducible refine LeO.bind ?_ (fun _ => ?_))
      | exact amanuensislaw0_Texts.mono _ _
      | exact LeO.none _
      | refine LeO.ite ?_ ?_
      | refine LeO.bind ?_ (fun _ => ?_)
set_option maxHeartbeats 8000000 in
set_option maxRecDepth 100000 in
theorem amanuensislaw2_Heavy.calls (k : Nat) (A0_0 : Option Addr) (c0_0 : Nat) (l0_0 : List ByteArray) (A0_1 : Option Addr) (c0_1 : Nat) (l0_1 : List Int) (r : Bool) (w : World) (hr0_0 : Kd.C Kd.string w A0_0 l0_0.length l0_0) (hc0_0 : l0_0.length ≤ c0_0) (hr0_1 : Kd.C (Kd.int .i64) w A0_1 l0_1.length l0_1) (hc0_1 : l0_1.length ≤ c0_1) (h : amanuensislaw2_Heavy.f k l0_0 l0_1 = some r) :
    Calls Try.prog 6 #[.agg #[.slice A0_0 l0_0.length c0_0, .slice A0_1 l0_1.length c0_1]] w fun e w' => e = .returned (.bool r) ∧ Below w.heap.size w w' := by
  have hu25 := Try.underlying25
  have HR0_0 := Aside0.mk hr0_0
  have HC0_0 := Aside0.mk hc0_0
  clear hr0_0 hc0_0
  have HR0_1 := Aside0.mk hr0_1
  have HC0_1 := Aside0.mk hc0_1
  clear hr0_1 hc0_1
  have HB := Aside0.mk (Below.refl w.heap.size w)
  have H : ((amanuensislaw0_Texts.f k l0_0).bind fun t103 => (some (decide ((wrap64 (t103 + (l0_1.length : Int))) > 7000)))) = some r := h
  clear h
  replace H := Option.bind_eq_some_iff.mp H
  obtain ⟨t103, A20, H⟩ := H
  replace H : (some (decide ((wrap64 (t103 + (l0_1.length : Int))) > 7000))) = some r := H
  have A2 := Aside0.mk A20
  clear A20
  obtain rfl := Option.some.inj H
  go_enter Try.func6, Try.ntmps6
  go_wp2_with (first | ((with_reducible refine gate_dst (N := 1) rfl ?_); refine box_event ?hg (N := 1) ?hd (cs := #[.slice A0_0 l0_0.length c0_0, .slice A0_1 l0_1.length c0_1]) (t := 25) ?hr ?_; (case hd => rfl); (case hg => rfl); (case hr => first | (go_simp; done) | (go_simp; rfl)); intro gb102 hg w3 hbox hb; have n0_ := Aside0.mk (below_step (by repeat (first | (with_reducible first | exact HB.out | apply below_alloc | apply pw_below_drewN | apply below_drew1) | exact HB.out)) hb); have n1_ := Aside0.mk (hbox); have n2_ := Aside0.mk ((by rw [hg]; exact (below_size (by repeat (first | (with_reducible first | exact HB.out | apply below_alloc | apply pw_below_drewN | apply below_drew1) | exact HB.out))) : w.heap.size ≤ gb102)); have n3_ := Aside0.mk ((by rw [hg]; exact (below_size (by repeat (first | (with_reducible first | exact HB.out | apply below_alloc | apply pw_below_drewN | apply below_drew1) | exact HB.out))) : w.heap.size ≤ gb102)); clear HB; have HB := n0_; have BK102 := n1_; have GW102 := n2_; have GE102 := n3_; clear n0_ n1_ n2_ n3_; clear hb hbox hg; have hcz4_0 : w3.cell? ⟨gb102, 0, none⟩ = some (.slice A0_0 l0_0.length c0_0) := (blk_cell BK102.out 0).trans rfl; have hcz4_1 : w3.cell? ⟨gb102, 1, none⟩ = some (.slice A0_1 l0_1.length c0_1) := (blk_cell BK102.out 1).trans rfl; have hfz4_0 := blk_frozen BK102.out 0; have hfz4_1 := blk_frozen BK102.out 1) | (go_at_call 14; (with_reducible refine (amanuensislaw0_Texts.calls k _ _ l0_0 t103 _ ?side1 ?side2 A2.out).mono ?_); (case side1 => repeat (first | exact (Kd.C_below HR0_0.out HB.out) | (with_reducible refine Kd.C_alloc ?_ _) | (with_reducible refine Kd.C_drewN ?_ _) | (with_reducible refine Kd.C_drew ?_))); (case side2 => exact HC0_0.out); rintro e w' ⟨rfl, ⟨nd, rfl⟩⟩; (try first | exact ⟨rfl, _, World.drewN_drewN _ _ _⟩ | exact ⟨rfl, _, Eq.trans (World.drewN_drewN _ _ _) (congrArg (World.drewN _) (Nat.add_assoc _ _ _))⟩)))
  repeat (go_quiet (first | ((with_reducible refine gate_dst (N := 1) rfl ?_); refine box_event ?hg (N := 1) ?hd (cs := #[.slice A0_0 l0_0.length c0_0, .slice A0_1 l0_1.length c0_1]) (t := 25) ?hr ?_; (case hd => rfl); (case hg => rfl); (case hr => first | (go_simp; done) | (go_simp; rfl)); intro gb102 hg w3 hbox hb; have n0_ := Aside0.mk (below_step (by repeat (first | (with_reducible first | exact HB.out | apply below_alloc | apply pw_below_drewN | apply below_drew1) | exact HB.out)) hb); have n1_ := Aside0.mk (hbox); have n2_ := Aside0.mk ((by rw [hg]; exact (below_size (by repeat (first | (with_reducible first | exact HB.out | apply below_alloc | apply pw_below_drewN | apply below_drew1) | exact HB.out))) : w.heap.size ≤ gb102)); have n3_ := Aside0.mk ((by rw [hg]; exact (below_size (by repeat (first | (with_reducible first | exact HB.out | apply below_alloc | apply pw_below_drewN | apply below_drew1) | exact HB.out))) : w.heap.size ≤ gb102)); clear HB; have HB := n0_; have BK102 := n1_; have GW102 := n2_; have GE102 := n3_; clear n0_ n1_ n2_ n3_; clear hb hbox hg; have hcz4_0 : w3.cell? ⟨gb102, 0, none⟩ = some (.slice A0_0 l0_0.length c0_0) := (blk_cell BK102.out 0).trans rfl; have hcz4_1 : w3.cell? ⟨gb102, 1, none⟩ = some (.slice A0_1 l0_1.length c0_1) := (blk_cell BK102.out 1).trans rfl; have hfz4_0 := blk_frozen BK102.out 0; have hfz4_1 := blk_frozen BK102.out 1) | (go_at_call 14; (with_reducible refine (amanuensislaw0_Texts.calls k _ _ l0_0 t103 _ ?side1 ?side2 A2.out).mono ?_); (case side1 => repeat (first | exact (Kd.C_below HR0_0.out HB.out) | (with_reducible refine Kd.C_alloc ?_ _) | (with_reducible refine Kd.C_drewN ?_ _) | (with_reducible refine Kd.C_drew ?_))); (case side2 => exact HC0_0.out); rintro e w' ⟨rfl, ⟨nd, rfl⟩⟩; (try first | exact ⟨rfl, _, World.drewN_drewN _ _ _⟩ | exact ⟨rfl, _, Eq.trans (World.drewN_drewN _ _ _) (congrArg (World.drewN _) (Nat.add_assoc _ _ _))⟩))); try go_wp2_with (first | ((with_reducible refine gate_dst (N := 1) rfl ?_); refine box_event ?hg (N := 1) ?hd (cs := #[.slice A0_0 l0_0.length c0_0, .slice A0_1 l0_1.length c0_1]) (t := 25) ?hr ?_; (case hd => rfl); (case hg => rfl); (case hr => first | (go_simp; done) | (go_simp; rfl)); intro gb102 hg w3 hbox hb; have n0_ := Aside0.mk (below_step (by repeat (first | (with_reducible first | exact HB.out | apply below_alloc | apply pw_below_drewN | apply below_drew1) | exact HB.out)) hb); have n1_ := Aside0.mk (hbox); have n2_ := Aside0.mk ((by rw [hg]; exact (below_size (by repeat (first | (with_reducible first | exact HB.out | apply below_alloc | apply pw_below_drewN | apply below_drew1) | exact HB.out))) : w.heap.size ≤ gb102)); have n3_ := Aside0.mk ((by rw [hg]; exact (below_size (by repeat (first | (with_reducible first | exact HB.out | apply below_alloc | apply pw_below_drewN | apply below_drew1) | exact HB.out))) : w.heap.size ≤ gb102)); clear HB; have HB := n0_; have BK102 := n1_; have GW102 := n2_; have GE102 := n3_; clear n0_ n1_ n2_ n3_; clear hb hbox hg; have hcz4_0 : w3.cell? ⟨gb102, 0, none⟩ = some (.slice A0_0 l0_0.length c0_0) := (blk_cell BK102.out 0).trans rfl; have hcz4_1 : w3.cell? ⟨gb102, 1, none⟩ = some (.slice A0_1 l0_1.length c0_1) := (blk_cell BK102.out 1).trans rfl; have hfz4_0 := blk_frozen BK102.out 0; have hfz4_1 := blk_frozen BK102.out 1) | (go_at_call 14; (with_reducible refine (amanuensislaw0_Texts.calls k _ _ l0_0 t103 _ ?side1 ?side2 A2.out).mono ?_); (case side1 => repeat (first | exact (Kd.C_below HR0_0.out HB.out) | (with_reducible refine Kd.C_alloc ?_ _) | (with_reducible refine Kd.C_drewN ?_ _) | (with_reducible refine Kd.C_drew ?_))); (case side2 => exact HC0_0.out); rintro e w' ⟨rfl, ⟨nd, rfl⟩⟩; (try first | exact ⟨rfl, _, World.drewN_drewN _ _ _⟩ | exact ⟨rfl, _, Eq.trans (World.drewN_drewN _ _ _) (congrArg (World.drewN _) (Nat.add_assoc _ _ _))⟩))))
  go_ret
  exact ⟨by first | rfl | (simp [errW_none, errW_some] <;> rfl) | (simp [*, errW_none, errW_some] <;> rfl), by repeat (first | (with_reducible first | exact HB.out | apply below_alloc | apply pw_below_drewN | apply below_drew1 | refine below_set ?_ GE102.out) | exact HB.out)⟩

-- NOT PRINTED: function 64 (strings_indexFunc)

-- NOT PRINTED: function 61 (strings_IndexFunc)

-- NOT PRINTED: function 50 (strings_ContainsFunc)

/-! ### json_Plain: by hand: function 27 -/
def badR (n : Nat) : Bool := decide (n < 32) || decide (126 < n)
open Go.Shelf Go.Lib in
theorem plain_bad (w : World) : PredAt Try.prog 49 #[] encR badR w := fun W r _ => by
  unfold FnGives
  by_cases h1 : r < 32
  · have HX := Lib.hid (show badR r = true by simp [badR, h1])
    have t1 : decide ((r : Int) < 32) = true := decide_eq_true (by omega)
    clear h1
    go_enter Try.func49, Try.ntmps49
    go_wp2
    go_ret
    exact ⟨by rw [HX.out]; rfl, 0, rfl⟩
  · have t1 : decide ((r : Int) < 32) = false := decide_eq_false (by omega)
    by_cases h2 : 126 < r
    · have HX := Lib.hid (show badR r = true by simp [badR, h2])
      have t2 : decide (126 < (r : Int)) = true := decide_eq_true (by omega)
      clear h1 h2
      go_enter Try.func49, Try.ntmps49
      go_wp2
      go_ret
      exact ⟨by rw [HX.out]; rfl, 0, rfl⟩
    · have HX := Lib.hid (show badR r = false by simp [badR, h1, h2])
      have t2 : decide (126 < (r : Int)) = false := decide_eq_false (by omega)
      clear h1 h2
      go_enter Try.func49, Try.ntmps49
      go_wp2
      go_ret
      exact ⟨by rw [HX.out]; rfl, 0, rfl⟩
def json_Plain.f (a0 : ByteArray) (a1 : Int) : Option Bool := some (decide ((a0.size : Int) ≤ a1) && !decide (0 ≤ Lib.idxFunc badR true a0))
set_option maxHeartbeats 1000000 in
theorem json_Plain.calls (a0 : ByteArray) (a1 : Int) (r : Bool) (w : World) (h : json_Plain.f a0 a1 = some r) :
    Calls Try.prog 27 #[.string a0, .int .i64 a1] w fun e w' => e = .returned (.bool r) ∧ Below w.heap.size w w' := by
  have HR := Lib.hid (Option.some.inj h)
  clear h
  have HC := Lib.hid (Try.strings_ContainsFunc 49 #[] (enters_of Try.func49 (by kernel_rfl) rfl) badR a0 w (plain_bad w))
  by_cases c : (a0.size : Int) ≤ a1
  · have HR2 := Lib.hid (show (!decide (0 ≤ Lib.idxFunc badR true a0)) = r by rw [← HR.out, decide_eq_true c, Bool.true_and])
    have t1 : decide ((a0.size : Int) ≤ a1) = true := decide_eq_true c
    clear c
    go_enter Try.func27, Try.ntmps27
    go_wp2_with (fail)
    refine HC.out.mono ?_
    rintro e w2 ⟨rfl, hd2⟩
    go_wp2
    go_ret
    exact ⟨by rw [HR2.out]; rfl, hd2⟩
  · have HR2 := Lib.hid (show false = r by rw [← HR.out, decide_eq_false c, Bool.false_and])
    have t1 : decide ((a0.size : Int) ≤ a1) = false := decide_eq_false c
    clear c
    go_enter Try.func27, Try.ntmps27
    go_wp2
    go_ret
    exact ⟨by rw [HR2.out]; rfl, Below.refl _ _⟩

/-! ### json_Short: function 15 -/
def json_Short.f (a0 : ByteArray) : Option (Bool) := (json_Plain.f a0 40).bind fun t104 => (some t104)
set_option maxHeartbeats 8000000 in
set_option maxRecDepth 100000 in
theorem json_Short.calls (a0 : ByteArray) (r : Bool) (w : World) (h : json_Short.f a0 = some r) :
    Calls Try.prog 15 #[.string a0] w fun e w' => e = .returned (.bool r) ∧ Below w.heap.size w w' := by
  have HB := Aside0.mk (Below.refl w.heap.size w)
  have H : ((json_Plain.f a0 40).bind fun t104 => (some t104)) = some r := h
  clear h
  replace H := Option.bind_eq_some_iff.mp H
  obtain ⟨t104, A20, H⟩ := H
  replace H : (some t104) = some r := H
  have A2 := Aside0.mk A20
  clear A20
  obtain rfl := Option.some.inj H
  go_enter Try.func15, Try.ntmps15
  go_wp2_with (first | ((with_reducible refine gate_callee (f := 27) rfl ?_); refine goesL_ (some 4) rfl rfl Try.func27 (by kernel_rfl) rfl #[.string a0, .int .i64 40] rfl (by (try simp only [List.map_toArray, List.map_cons, List.map_nil]); first | done | rfl | (simp only [List.length_drop, List.length_take]; rfl)) ?_; (with_reducible refine (json_Plain.calls a0 40 t104 _ A2.out).mono ?_); rintro e w3 ⟨rfl, hb⟩; refine ⟨_, rfl, ?_⟩; have n0_ := Aside0.mk (below_step (by repeat (first | (with_reducible first | exact HB.out | apply below_alloc | apply pw_below_drewN | apply below_drew1) | exact HB.out)) hb); clear HB; have HB := n0_; clear n0_; (try clear hb); (try clear hb2); (try clear hk); (try clear hi)))
  go_ret
  exact ⟨by first | rfl | (simp [errW_none, errW_some] <;> rfl) | (simp [*, errW_none, errW_some] <;> rfl), by repeat (first | (with_reducible first | exact HB.out | apply below_alloc | apply pw_below_drewN | apply below_drew1) | exact HB.out)⟩

-- NOT PRINTED: function 62 (abi_NoEscape)

/-! ### strings_Builder_copyCheck: by hand: function 51 -/
theorem hb_size : (Try.prog.info? 60).map (·.size) = some 2 := by kernel_rfl
theorem hb_lies : liesAt Try.prog Try.prog.depth 60 (2 / Try.prog.cellsOf 60) 0 60 1 = true := by kernel_rfl
theorem hb_byte : (Try.prog.info? 5).map (fun i => (i.zero, i.size, i.bytes)) = some (some (.int .u8 0), 1, 1) := by kernel_rfl
set_option maxHeartbeats 1000000 in
set_option maxRecDepth 100000 in
theorem hb_copyCheck_used (b : Nat) (w : World) (h0 : w.cell? ⟨b, 0, none⟩ = some (.pointer (some ⟨b, 0, none⟩))) :
    Calls Try.prog 51 #[.pointer (some ⟨b, 0, none⟩)] w fun e w' => e = .returned (.tuple #[]) ∧ w' = w := by
  obtain ⟨j, hj, _⟩ := Option.map_eq_some_iff.1 hb_size
  go_enter Try.func51, Try.ntmps51
  go_wp2
  rw [Lib.run_neq_ptr_same w _ Try.underlying57 hj]
  go_wp2
  go_end0
  exact ⟨rfl, rfl⟩
set_option maxHeartbeats 1000000 in
set_option maxRecDepth 100000 in
theorem hb_copyCheck_fresh (b : Nat) (w : World) (h0 : w.cell? ⟨b, 0, none⟩ = some (.pointer none)) (hsh : w.shape? b = some (60, 2)) (hfz : w.frozen? ⟨b, 0, none⟩ = false) :
    Calls Try.prog 51 #[.pointer (some ⟨b, 0, none⟩)] w fun e w' => e = .returned (.tuple #[]) ∧ w' = w.setCell ⟨b, 0, none⟩ (.pointer (some ⟨b, 0, none⟩)) := by
  obtain ⟨j, hj, hjs⟩ := Option.map_eq_some_iff.1 hb_size
  go_enter Try.func51, Try.ntmps51
  go_wp2
  rw [Lib.run_to_unsafe w ⟨b, 0, none⟩ Try.underlying57 Try.underlying84 hj (by rw [hjs]; decide) hsh (Nat.zero_lt_succ 1)]
  simp only [Result.andThen]
  rw [Oper.upon_value]
  go_wp2
  rw [run_callFunc_extern Try.func62 (by kernel_rfl) (by kernel_rfl) (by kernel_rfl) (e := Extern.AbiNoEscape.same) (by kernel_rfl)]
  rw [Lib.run_noEscape]
  simp only [Result.andThen]
  rw [Oper.upon_value]
  go_wp2
  rw [Lib.run_from_unsafe w ⟨b, 0, none⟩ Try.underlying84 Try.underlying57 hj hsh hb_lies]
  simp only [Result.andThen]
  rw [Oper.upon_value]
  go_wp2
  go_end0
  exact ⟨rfl, rfl⟩
theorem hb_copyCheck (B b : Nat) (bs : List Value) (w : World) (h : Lib.IsBuilder 60 5 B b bs w) :
    Calls Try.prog 51 #[.pointer (some ⟨b, 0, none⟩)] w fun e w' => e = .returned (.tuple #[]) ∧ (Lib.BuilderAt 60 5 B b (.pointer (some ⟨b, 0, none⟩)) bs w' ∧ Below B w w') := by
  rcases h with h | h
  · refine (hb_copyCheck_fresh b w h.cell0 h.shape h.frozen0).mono ?_
    rintro e w' ⟨rfl, rfl⟩
    exact ⟨rfl, h.used _, (Below.refl B w).setCell (p := ⟨b, 0, none⟩) h.1 _⟩
  · refine (hb_copyCheck_used b w h.cell0).mono ?_
    rintro e w' ⟨rfl, rfl⟩
    exact ⟨rfl, h, Below.refl B _⟩

/-! ### strings_Builder_WriteByte: by hand: function 31 -/
set_option maxHeartbeats 2000000 in
set_option maxRecDepth 100000 in
theorem hb_writeByte (B b : Nat) (bs : List Value) (c : Int) (w : World) (h : Lib.IsBuilder 60 5 B b bs w) (hlen : bs.length + 1 ≤ 140737488355328) (hBw : B ≤ w.heap.size) :
    Calls Try.prog 31 #[.pointer (some ⟨b, 0, none⟩), .int .u8 c] w fun e w' => e = .returned .nilIface ∧ (Lib.BuilderAt 60 5 B b (.pointer (some ⟨b, 0, none⟩)) (bs ++ [.int .u8 c]) w' ∧ Below B w w') := by
  obtain ⟨i0, hi, hz0, hz1, hz2⟩ := info_parts hb_byte
  go_enter Try.func31, Try.ntmps31
  go_wp2_with (go_at_call 51; refine (hb_copyCheck B b bs _ h).mono ?_)
  rintro e w1 ⟨rfl, h1, hb1⟩
  obtain ⟨hB, v, hbk, hown, hne⟩ := h1
  have c0 : w1.cell? ⟨b, 0, none⟩ = some (.pointer (some ⟨b, 0, none⟩)) := by rw [Lib.cell_of_heap hbk]; rfl
  have c1 : w1.cell? ⟨b, 1, none⟩ = some v := by rw [Lib.cell_of_heap hbk]; rfl
  go_wp2_with (at_builtin; refine wpList_append_own _ rfl _ _ 58 rfl B 5 i0 (.int .u8 0) 1 1 Try.underlying58 hi hz0 hz1 hz2 rfl (by decide) _ _ _ rfl (hown.alloc _) ⟨w1.heap.size, 0, none⟩ 1 1 [.int .u8 c] rfl rfl ?c1 ?c2 ?c3 ?c4 ?c5 ?_)
  case c1 =>
    intro j u hj
    match j, hj with
    | 0, hj => simp at hj; subst hj; simp [Addr.add]
  case c2 => intro u hu; simp at hu; subst hu; rfl
  case c3 => unfold maxLen; omega
  case c4 => omega
  case c5 => have := hb1.size; simp; omega
  intro v' w2 hown' hgrow _
  have hlt : b < w1.heap.size := by
    rcases Nat.lt_or_ge b w1.heap.size with h' | h'
    · exact h'
    · simp [Array.getElem?_eq_none h'] at hbk
  have hb2 : w2.heap[b]? = some (.cells #[.pointer (some ⟨b, 0, none⟩), v] 60 (0, 0)) := by
    rw [hgrow.block b (by simp; omega) (fun e => hne e.symm), Lib.alloc_old w1 _ b hlt]
    exact hbk
  have d0 : w2.cell? ⟨b, 0, none⟩ = some (.pointer (some ⟨b, 0, none⟩)) := by rw [Lib.cell_of_heap hb2]; rfl
  have d1 : w2.cell? ⟨b, 1, none⟩ = some v := by rw [Lib.cell_of_heap hb2]; rfl
  have f1 : w2.frozen? ⟨b, 1, none⟩ = false := Lib.frozen_of_heap hb2 1
  obtain ⟨g, cap, rfl⟩ : ∃ g cap, v' = .slice (some ⟨g, 0, none⟩) (bs.length + 1) cap := by
    rcases hown'.2 with ⟨_, h0⟩ | ⟨g, cap, cur, hv, _⟩
    · omega
    · exact ⟨g, cap, hv⟩
  go_wp2
  go_ret
  refine ⟨rfl, ?_, ?_⟩
  · exact Lib.BuilderAt.put (T := 60) (e := 5) hB hb2 (bs' := bs ++ [.int .u8 c]) (by simpa using hown') (by decide)
  · exact ((hb1.alloc (by have := hb1.size; omega) _).grown hgrow (by have := hb1.size; simp; omega) (fun k hk => (hown.lt k hk).1)).setCell (p := ⟨b, 1, none⟩) hB _

/-! ### json_quoted: by hand: function 28 -/
theorem take_all (s : ByteArray) (k : Nat) (h : s.size ≤ k) : s.data.toList.take k = s.data.toList := List.take_of_length_le (by rw [Array.length_toList]; exact h)
def escB (c : UInt8) : List UInt8 := if c.toNat = 34 ∨ c.toNat = 92 then [92, c] else [c]
def quoteL (l : List UInt8) : List UInt8 := 34 :: l.flatMap escB ++ [34]
def quoteB (s : ByteArray) : ByteArray := ⟨(quoteL s.data.toList).toArray⟩
theorem escB_len (c : UInt8) : (escB c).length ≤ 2 := by unfold escB; split <;> simp
theorem esc_len (l : List UInt8) : (l.flatMap escB).length ≤ 2 * l.length := by
  induction l with
  | nil => simp
  | cons c l ih => have := escB_len c; simp only [List.flatMap_cons, List.length_append, List.length_cons]; omega
theorem esc_snoc (s : ByteArray) (k : Nat) (h : k < s.size) : (s.data.toList.take (k + 1)).flatMap escB = (s.data.toList.take k).flatMap escB ++ escB s[k] := by
  rw [List.take_succ_eq_append_getElem (by simpa using h), List.flatMap_append]
  simp only [List.flatMap_cons, List.flatMap_nil, List.append_nil]; rfl
theorem byteCells_snoc (l : List UInt8) (c : UInt8) : Lib.byteCells l ++ [.int .u8 (c.toNat : Int)] = Lib.byteCells (l ++ [c]) := by simp [Lib.byteCells]
set_option maxHeartbeats 2000000 in
set_option maxRecDepth 100000 in
theorem json_quoted_h (B b : Nat) (l : List UInt8) (s : ByteArray) (w : World) (h : Lib.IsBuilder 60 5 B b (Lib.byteCells l) w) (hlen : l.length + 2 * s.size + 2 ≤ 140737488355328) (hBw : B ≤ w.heap.size) :
    Calls Try.prog 28 #[.pointer (some ⟨b, 0, none⟩), .string s] w fun e w' => e = .returned (.tuple #[]) ∧ (Lib.IsBuilder 60 5 B b (Lib.byteCells (l ++ quoteL s.data.toList)) w' ∧ Below B w w') := by
  have hsz : s.size ≤ 140737488355328 := by omega
  go_enter Try.func28, Try.ntmps28
  go_wp2_with (go_at_call 31; refine (hb_writeByte B b _ 34 _ h (by rw [Lib.byteCells_length]; omega) hBw).mono ?_)
  rintro e w1 ⟨rfl, h1, hb1⟩
  go_wp2
  go_loopw [4, 9] (fun _ i wr => ∃ k : Nat, k ≤ s.size ∧ i = .int .i64 k ∧ Lib.BuilderAt 60 5 B b (.pointer (some ⟨b, 0, none⟩)) (Lib.byteCells (l ++ 34 :: (s.data.toList.take k).flatMap escB)) wr ∧ Below B w wr) (fun _ i _ => s.size - (intOf i).toNat)
  case atStart => exact ⟨0, Nat.zero_le _, rfl, by simpa [Lib.byteCells] using h1, hb1⟩
  case round =>
    obtain ⟨k, hk, rfl, hB1, hb2⟩ := hrel
    by_cases hlt : k < s.size
    · have hl : (l ++ 34 :: (s.data.toList.take k).flatMap escB).length ≤ l.length + 1 + 2 * k := by
        have h1 := esc_len (s.data.toList.take k)
        have h2 : (s.data.toList.take k).length ≤ k := List.length_take_le _ _
        simp only [List.length_append, List.length_cons]; omega
      have Hs := Lib.hid (esc_snoc s k hlt)
      have hz : B ≤ wr.heap.size := by have := hb2.size; omega
      have one : ∀ W, Lib.BuilderAt 60 5 B b (.pointer (some ⟨b, 0, none⟩)) (Lib.byteCells (l ++ 34 :: (s.data.toList.take k).flatMap escB) ++ [.int .u8 92]) W → Below B wr W →
          Calls Try.prog 31 #[.pointer (some ⟨b, 0, none⟩), .int .u8 (s[k].toNat : Int)] W fun e w' => e = .returned .nilIface ∧ (Lib.BuilderAt 60 5 B b (.pointer (some ⟨b, 0, none⟩)) (Lib.byteCells (l ++ 34 :: (s.data.toList.take k).flatMap escB) ++ [.int .u8 92] ++ [.int .u8 (s[k].toNat : Int)]) w' ∧ Below B W w') :=
        fun W hW hBW => hb_writeByte B b _ _ W (.inr hW) (by rw [List.length_append, Lib.byteCells_length, List.length_singleton]; omega) (by have := hBW.size; omega)
      have two : Calls Try.prog 31 #[.pointer (some ⟨b, 0, none⟩), .int .u8 92] wr fun e w' => e = .returned .nilIface ∧ (Lib.BuilderAt 60 5 B b (.pointer (some ⟨b, 0, none⟩)) (Lib.byteCells (l ++ 34 :: (s.data.toList.take k).flatMap escB) ++ [.int .u8 92]) w' ∧ Below B wr w') :=
        hb_writeByte B b _ 92 wr (.inr hB1) (by rw [Lib.byteCells_length]; omega) hz
      have three : Calls Try.prog 31 #[.pointer (some ⟨b, 0, none⟩), .int .u8 (s[k].toNat : Int)] wr fun e w' => e = .returned .nilIface ∧ (Lib.BuilderAt 60 5 B b (.pointer (some ⟨b, 0, none⟩)) (Lib.byteCells (l ++ 34 :: (s.data.toList.take k).flatMap escB) ++ [.int .u8 (s[k].toNat : Int)]) w' ∧ Below B wr w') :=
        hb_writeByte B b _ _ wr (.inr hB1) (by rw [Lib.byteCells_length]; omega) hz
      have One := Lib.hid one; have Two := Lib.hid two; have Three := Lib.hid three
      clear one two three
      by_cases c34 : s[k].toNat = 34 ∨ s[k].toNat = 92
      · have He := Lib.hid (show escB s[k] = [92, s[k]] from if_pos c34)
        have HC := Lib.hid c34
        by_cases c1 : s[k].toNat = 34
        · have t1 : (((s[k]).toNat : Int) == 34) = true := beq_iff_eq.2 (by omega)
          clear c34 c1
          go_wp2_with (fail)
          refine Two.out.mono ?_
          rintro e w2 ⟨rfl, hB2, hbb⟩
          go_wp2_with (fail)
          refine (One.out _ hB2 hbb).mono ?_
          rintro e w3 ⟨rfl, hB3, hbc⟩
          go_wp2
          go_roundw
          case rel => exact ⟨k + 1, by omega, by go_num, by rw [Hs.out, He.out]; simpa [Lib.byteCells] using hB3, (hb2.trans hbb).trans hbc⟩
          case measure => simp [intOf]; omega
        · have c2 : s[k].toNat = 92 := by omega
          have t1 : (((s[k]).toNat : Int) == 34) = false := beq_eq_false_iff_ne.2 (by omega)
          have t2 : (((s[k]).toNat : Int) == 92) = true := beq_iff_eq.2 (by omega)
          clear c34 c1 c2
          go_wp2_with (fail)
          refine Two.out.mono ?_
          rintro e w2 ⟨rfl, hB2, hbb⟩
          go_wp2_with (fail)
          refine (One.out _ hB2 hbb).mono ?_
          rintro e w3 ⟨rfl, hB3, hbc⟩
          go_wp2
          go_roundw
          case rel => exact ⟨k + 1, by omega, by go_num, by rw [Hs.out, He.out]; simpa [Lib.byteCells] using hB3, (hb2.trans hbb).trans hbc⟩
          case measure => simp [intOf]; omega
      · have He := Lib.hid (show escB s[k] = [s[k]] from if_neg c34)
        have t1 : (((s[k]).toNat : Int) == 34) = false := beq_eq_false_iff_ne.2 (by omega)
        have t2 : (((s[k]).toNat : Int) == 92) = false := beq_eq_false_iff_ne.2 (by omega)
        clear c34
        go_wp2_with (fail)
        refine Three.out.mono ?_
        rintro e w2 ⟨rfl, hB2, hbb⟩
        go_wp2
        go_roundw
        case rel => exact ⟨k + 1, by omega, by go_num, by rw [Hs.out, He.out]; simpa [Lib.byteCells] using hB2, hb2.trans hbb⟩
        case measure => simp [intOf]; omega
    · have hk' : k = s.size := by omega
      have Hk := Lib.hid (take_all s k (by omega))
      have hl : (l ++ 34 :: (s.data.toList.take k).flatMap escB).length ≤ l.length + 1 + 2 * k := by
        have h1 := esc_len (s.data.toList.take k)
        have h2 : (s.data.toList.take k).length ≤ k := List.length_take_le _ _
        simp only [List.length_append, List.length_cons]; omega
      have hz : B ≤ wr.heap.size := by have := hb2.size; omega
      have Two := Lib.hid (hb_writeByte B b _ 34 wr (.inr hB1) (by rw [Lib.byteCells_length]; omega) hz)
      clear hk'
      go_wp2_with (fail)
      refine Two.out.mono ?_
      rintro e w2 ⟨rfl, hB2, hbb⟩
      go_wp2
      go_end0
      refine ⟨rfl, .inr ?_, hb2.trans hbb⟩
      have h3 := hB2
      rw [Hk.out] at h3
      simpa [Lib.byteCells, quoteL] using h3

-- NOT PRINTED: function 29 (strings_Builder_String)

/-! ### json_Quote: by hand: function 16 -/
def json_Quote.f (a0 : ByteArray) : Option ByteArray := if a0.size ≤ 70368744177000 then some (quoteB a0) else none
set_option maxHeartbeats 1000000 in
theorem json_Quote.calls (a0 : ByteArray) (r : ByteArray) (w : World) (h : json_Quote.f a0 = some r) :
    Calls Try.prog 16 #[.string a0] w fun e w' => e = .returned (.string r) ∧ Below w.heap.size w w' := by
  unfold json_Quote.f at h
  split at h
  case isFalse => cases h
  case isTrue hs =>
  obtain rfl := Option.some.inj h
  have HC := Lib.hid (json_quoted_h w.heap.size w.heap.size [] a0 (w.alloc (.cells #[.pointer none, .slice none 0 0] 60)) (Lib.fresh_isBuilder 60 5 w) (by simp; omega) (by simp))
  have HB0 := Lib.hid ((Below.refl w.heap.size w).alloc (Nat.le_refl _) (.cells #[.pointer none, .slice none 0 0] 60))
  go_enter Try.func16, Try.ntmps16
  go_wp2_with (fail)
  refine HC.out.mono ?_
  rintro e w2 ⟨rfl, hB2, hb2⟩
  have hb3 := HB0.out.trans hb2
  have HS := Lib.hid (Try.Builder_String_any _ _ _ w2 hB2 hb3.size)
  go_wp2_with (fail)
  refine HS.out.mono ?_
  rintro e w3 ⟨rfl, hb4⟩
  go_wp2
  go_ret
  exact ⟨rfl, hb3.trans hb4⟩

/-! ### lex_Quote: function 7 -/
def lex_Quote.f (a0 : ByteArray) : Option (ByteArray × Int) := (json_Short.f a0).bind fun t105 => (if t105 = true then ((json_Quote.f a0).bind fun t106 => (some (t106, 0))) else (some ((⟨#[]⟩ : ByteArray), 1)))
set_option maxHeartbeats 8000000 in
set_option maxRecDepth 100000 in
theorem lex_Quote.calls (a0 : ByteArray) (r1 : ByteArray) (r2 : Int) (w : World) (h : lex_Quote.f a0 = some (r1, r2)) :
    Calls Try.prog 7 #[.string a0] w fun e w' => e = .returned (.tuple #[.string r1, .int .i64 r2]) ∧ Below w.heap.size w w' := by
  have HB := Aside0.mk (Below.refl w.heap.size w)
  have H : ((json_Short.f a0).bind fun t105 => (if t105 = true then ((json_Quote.f a0).bind fun t106 => (some (t106, 0))) else (some ((⟨#[]⟩ : ByteArray), 1)))) = some (r1, r2) := h
  clear h
  replace H := Option.bind_eq_some_iff.mp H
  obtain ⟨t105, A20, H⟩ := H
  replace H : (if t105 = true then ((json_Quote.f a0).bind fun t106 => (some (t106, 0))) else (some ((⟨#[]⟩ : ByteArray), 1))) = some (r1, r2) := H
  have A2 := Aside0.mk A20
  clear A20
  by_cases c3 : t105 = true
  · subst c3
    have H1 : ((json_Quote.f a0).bind fun t106 => (some (t106, 0))) = some (r1, r2) := by rw [if_pos rfl] at H; exact H
    clear H
    have H := H1
    clear H1
    replace H := Option.bind_eq_some_iff.mp H
    obtain ⟨t106, A40, H⟩ := H
    replace H : (some (t106, 0)) = some (r1, r2) := H
    have A4 := Aside0.mk A40
    clear A40
    simp only [Option.some.injEq, Prod.mk.injEq] at H
    obtain ⟨rfl, rfl⟩ := H
    go_enter Try.func7, Try.ntmps7
    go_wp2_with (first | ((with_reducible refine gate_callee (f := 15) rfl ?_); refine goesL_ (some 5) rfl rfl Try.func15 (by kernel_rfl) rfl #[.string a0] rfl (by (try simp only [List.map_toArray, List.map_cons, List.map_nil]); first | done | rfl | (simp only [List.length_drop, List.length_take]; rfl)) ?_; (with_reducible refine (json_Short.calls a0 true _ A2.out).mono ?_); rintro e w5 ⟨rfl, hb⟩; refine ⟨_, rfl, ?_⟩; have n0_ := Aside0.mk (below_step (by repeat (first | (with_reducible first | exact HB.out | apply below_alloc | apply pw_below_drewN | apply below_drew1) | exact HB.out)) hb); clear HB; have HB := n0_; clear n0_; (try clear hb); (try clear hb2); (try clear hk); (try clear hi)) | ((with_reducible refine gate_callee (f := 16) rfl ?_); refine goesL_ (some 8) rfl rfl Try.func16 (by kernel_rfl) rfl #[.string a0] rfl (by (try simp only [List.map_toArray, List.map_cons, List.map_nil]); first | done | rfl | (simp only [List.length_drop, List.length_take]; rfl)) ?_; (with_reducible refine (json_Quote.calls a0 t106 _ A4.out).mono ?_); rintro e w6 ⟨rfl, hb⟩; refine ⟨_, rfl, ?_⟩; have n0_ := Aside0.mk (below_step (by repeat (first | (with_reducible first | exact HB.out | apply below_alloc | apply pw_below_drewN | apply below_drew1) | exact HB.out)) hb); clear HB; have HB := n0_; clear n0_; (try clear hb); (try clear hb2); (try clear hk); (try clear hi)))
    go_ret2
    exact ⟨by first | rfl | (simp [errW_none, errW_some] <;> rfl) | (simp [*, errW_none, errW_some] <;> rfl), by repeat (first | (with_reducible first | exact HB.out | apply below_alloc | apply pw_below_drewN | apply below_drew1) | exact HB.out)⟩
  · replace c3 := Bool.eq_false_iff.mpr c3
    subst c3
    have H1 : (some ((⟨#[]⟩ : ByteArray), 1)) = some (r1, r2) := by rw [if_neg (show ¬ (false = true) by decide)] at H; exact H
    clear H
    have H := H1
    clear H1
    simp only [Option.some.injEq, Prod.mk.injEq] at H
    obtain ⟨rfl, rfl⟩ := H
    go_enter Try.func7, Try.ntmps7
    go_wp2_with (first | ((with_reducible refine gate_callee (f := 15) rfl ?_); refine goesL_ (some 5) rfl rfl Try.func15 (by kernel_rfl) rfl #[.string a0] rfl (by (try simp only [List.map_toArray, List.map_cons, List.map_nil]); first | done | rfl | (simp only [List.length_drop, List.length_take]; rfl)) ?_; (with_reducible refine (json_Short.calls a0 false _ A2.out).mono ?_); rintro e w7 ⟨rfl, hb⟩; refine ⟨_, rfl, ?_⟩; have n0_ := Aside0.mk (below_step (by repeat (first | (with_reducible first | exact HB.out | apply below_alloc | apply pw_below_drewN | apply below_drew1) | exact HB.out)) hb); clear HB; have HB := n0_; clear n0_; (try clear hb); (try clear hb2); (try clear hk); (try clear hi)))
    go_ret2
    exact ⟨by first | rfl | (simp [errW_none, errW_some] <;> rfl) | (simp [*, errW_none, errW_some] <;> rfl), by repeat (first | (with_reducible first | exact HB.out | apply below_alloc | apply pw_below_drewN | apply below_drew1) | exact HB.out)⟩

/-! ### amanuensislaw2_num: function 8 -/
def amanuensislaw2_num.f (a0 : Int) : Option (Int) := some a0
set_option maxHeartbeats 8000000 in
set_option maxRecDepth 100000 in
theorem amanuensislaw2_num.calls (a0 : Int) (r : Int) (w : World) (h : amanuensislaw2_num.f a0 = some r) :
    Calls Try.prog 8 #[.int .i64 a0] w fun e w' => e = .returned (.int .i64 r) ∧ Drawn0 w w' := by
  have H : (some a0) = some r := h
  clear h
  obtain rfl := Option.some.inj H
  go_enter Try.func8, Try.ntmps8
  go_wp2
  go_ret
  exact ⟨by first | rfl | (simp; done) | (simp [*]; done), by repeat (first | exact Drawn0.refl _ | apply Drawn0.step)⟩

/-! ### json_String: by hand: function 18 -/
def strGo : List UInt8 → Nat → List UInt8 → List UInt8 × Nat × Bool
  | [], _, _ => ([], 0, false)
  | [c], i, acc => if c.toNat = 34 then (acc, i + 1, true) else if c.toNat < 32 ∨ 126 < c.toNat then ([], 0, false) else ([], 0, false)
  | c :: d :: t, i, acc =>
    if c.toNat = 34 then (acc, i + 1, true)
    else if c.toNat < 32 ∨ 126 < c.toNat then ([], 0, false)
    else if c.toNat = 92 then (if d.toNat = 34 ∨ d.toNat = 92 then strGo t (i + 2) (acc ++ [d]) else ([], 0, false))
    else strGo (d :: t) (i + 1) (acc ++ [c])
def json_String.f (a0 : ByteArray) : Option (ByteArray × Int × Bool) :=
  if a0.size ≤ 140737488355328 then (let r := strGo (a0.data.toList.drop 1) 1 []; some (⟨r.1.toArray⟩, (r.2.1 : Int), r.2.2)) else none
theorem drop_at (s : ByteArray) (k : Nat) (h : k < s.size) : s.data.toList.drop k = s[k] :: s.data.toList.drop (k + 1) := by
  rw [List.drop_eq_getElem_cons (by simpa using h)]; rfl
theorem drop_end (s : ByteArray) (k : Nat) (h : s.size ≤ k) : s.data.toList.drop k = [] := List.drop_of_length_le (by rw [Array.length_toList]; exact h)
theorem strGo_q {c : UInt8} {t acc : List UInt8} {i : Nat} (h : c.toNat = 34) : strGo (c :: t) i acc = (acc, i + 1, true) := by
  cases t <;> simp [strGo, h]
theorem strGo_bad {c : UInt8} {t acc : List UInt8} {i : Nat} (h : c.toNat < 32 ∨ 126 < c.toNat) : strGo (c :: t) i acc = ([], 0, false) := by
  have h1 : ¬ c.toNat = 34 := by omega
  cases t <;> simp only [strGo, if_neg h1, if_pos h]
theorem strGo_plain {c : UInt8} {t acc : List UInt8} {i : Nat} (h1 : ¬ c.toNat = 34) (h2 : ¬ (c.toNat < 32 ∨ 126 < c.toNat)) (h3 : ¬ c.toNat = 92) : strGo (c :: t) i acc = strGo t (i + 1) (acc ++ [c]) := by
  cases t <;> simp only [strGo, if_neg h1, if_neg h2, if_neg h3]
theorem strGo_esc {c d : UInt8} {t acc : List UInt8} {i : Nat} (h : c.toNat = 92) (h3 : d.toNat = 34 ∨ d.toNat = 92) : strGo (c :: d :: t) i acc = strGo t (i + 2) (acc ++ [d]) := by
  have h1 : ¬ c.toNat = 34 := by omega
  have h2 : ¬ (c.toNat < 32 ∨ 126 < c.toNat) := by omega
  simp only [strGo, if_neg h1, if_neg h2, if_pos h, if_pos h3]
theorem strGo_esc_no {c d : UInt8} {t acc : List UInt8} {i : Nat} (h : c.toNat = 92) (h3 : ¬ (d.toNat = 34 ∨ d.toNat = 92)) : strGo (c :: d :: t) i acc = ([], 0, false) := by
  have h1 : ¬ c.toNat = 34 := by omega
  have h2 : ¬ (c.toNat < 32 ∨ 126 < c.toNat) := by omega
  simp only [strGo, if_neg h1, if_neg h2, if_pos h, if_neg h3]
theorem strGo_esc_end {c : UInt8} {acc : List UInt8} {i : Nat} (h : c.toNat = 92) : strGo [c] i acc = ([], 0, false) := by
  have h1 : ¬ c.toNat = 34 := by omega
  simp only [strGo, if_neg h1, ite_self]
theorem byteCells_snoc' (l : List UInt8) (c : UInt8) : Lib.byteCells l ++ [.int .u8 (c.toNat : Int)] = Lib.byteCells (l ++ [c]) := by simp [Lib.byteCells]
theorem ret3 {a a' : ByteArray} {b b' : Int} {c c' : Bool} (h : (a, b, c) = (a', b', c')) : Ending.returned (.tuple #[.string a, .int .i64 b, .bool c]) = .returned (.tuple #[.string a', .int .i64 b', .bool c']) := by
  injection h with h1 h2; injection h2 with h2 h3; rw [h1, h2, h3]
set_option maxHeartbeats 4000000 in
set_option maxRecDepth 100000 in
theorem json_String.calls (a0 : ByteArray) (r1 : ByteArray) (r2 : Int) (r3 : Bool) (w : World) (h : json_String.f a0 = some (r1, r2, r3)) :
    Calls Try.prog 18 #[.string a0] w fun e w' => e = .returned (.tuple #[.string r1, .int .i64 r2, .bool r3]) ∧ Below w.heap.size w w' := by
  unfold json_String.f at h
  split at h
  case isFalse => cases h
  case isTrue hsz =>
  have HR := Lib.hid (Option.some.inj h)
  clear h
  have hb0 := Lib.fresh_isBuilder 60 5 w
  have HB0 := Lib.hid hb0
  clear hb0
  have hBel := Lib.hid ((Below.refl w.heap.size w).alloc (Nat.le_refl _) (.cells #[.pointer none, .slice none 0 0] 60))
  go_enter Try.func18, Try.ntmps18
  go_wp2_with (fail)
  obtain ⟨g, hg⟩ : ∃ g, g = w.heap.size := ⟨_, rfl⟩
  go_loopw [6, 7] (fun i _ wr => ∃ (k : Nat) (acc : List UInt8), 1 ≤ k ∧ k ≤ a0.size + 1 ∧ acc.length < k ∧ i = .int .i64 k ∧ Lib.IsBuilder 60 5 w.heap.size w.heap.size (Lib.byteCells acc) wr ∧ Below w.heap.size w wr ∧ Hid (strGo (a0.data.toList.drop k) k acc = strGo (a0.data.toList.drop 1) 1 [])) (fun i _ _ => a0.size + 1 - (intOf i).toNat)
  case atStart => exact ⟨1, [], by omega, by omega, by simp, rfl, HB0.out, hBel.out, Lib.hid rfl⟩
  case round =>
    obtain ⟨k, acc, hk1, hk2, hacc, rfl, hB1, hb2, HI⟩ := hrel
    have hz : w.heap.size ≤ wr.heap.size := hb2.size
    by_cases hlt : k < a0.size
    · have HD := Lib.hid (drop_at a0 k hlt)
      have Out := fun (p1 : ByteArray) (p2 : Int) (p3 : Bool) (x : List UInt8 × Nat × Bool) (hx : strGo (a0.data.toList.drop k) k acc = x) (e1 : p1 = ⟨x.1.toArray⟩) (e2 : p2 = (x.2.1 : Int)) (e3 : p3 = x.2.2) =>
        ret3 (show (p1, p2, p3) = (r1, r2, r3) by rw [← HR.out, ← HI.out, hx, e1, e2, e3])
      have Hout := Lib.hid Out
      clear Out
      by_cases c34 : a0[k].toNat = 34
      · have t1 : (((a0[k]).toNat : Int) == 34) = true := beq_iff_eq.2 (by omega)
        have HX := Lib.hid (show strGo (a0.data.toList.drop k) k acc = (acc, k + 1, true) by rw [HD.out]; exact strGo_q c34)
        have HS := Lib.hid (Try.Builder_String_any _ _ acc wr hB1 hz)
        clear c34
        go_wp2_with (fail)
        refine HS.out.mono ?_
        rintro e w2 ⟨rfl, hbb⟩
        go_wp2
        go_ret3
        exact ⟨Hout.out _ _ _ _ HX.out rfl rfl rfl, hb2.trans hbb⟩
      · have t1 : (((a0[k]).toNat : Int) == 34) = false := beq_eq_false_iff_ne.2 (by omega)
        by_cases cb : a0[k].toNat < 32 ∨ 126 < a0[k].toNat
        · have HX := Lib.hid (show strGo (a0.data.toList.drop k) k acc = ([], 0, false) by rw [HD.out]; exact strGo_bad cb)
          clear c34
          by_cases c32 : a0[k].toNat < 32
          · have t2 : decide (((a0[k]).toNat : Int) < 32) = true := decide_eq_true (by omega)
            clear cb c32
            go_wp2
            go_ret3
            exact ⟨Hout.out _ _ _ _ HX.out rfl rfl rfl, hb2⟩
          · have t2 : decide (((a0[k]).toNat : Int) < 32) = false := decide_eq_false (by omega)
            have t3 : decide (126 < ((a0[k]).toNat : Int)) = true := decide_eq_true (by omega)
            clear cb c32
            go_wp2
            go_ret3
            exact ⟨Hout.out _ _ _ _ HX.out rfl rfl rfl, hb2⟩
        · have t2 : decide (((a0[k]).toNat : Int) < 32) = false := decide_eq_false (by omega)
          have t3 : decide (126 < ((a0[k]).toNat : Int)) = false := decide_eq_false (by omega)
          by_cases c92 : a0[k].toNat = 92
          · have t4 : (((a0[k]).toNat : Int) == 92) = true := beq_iff_eq.2 (by omega)
            by_cases hl2 : k + 1 < a0.size
            · have HD2 := Lib.hid (drop_at a0 (k + 1) hl2)
              by_cases cd : a0[k + 1].toNat = 34 ∨ a0[k + 1].toNat = 92
              · have HX := Lib.hid (show strGo (a0.data.toList.drop k) k acc = strGo (a0.data.toList.drop (k + 2)) (k + 2) (acc ++ [a0[k + 1]]) by rw [HD.out, HD2.out]; exact strGo_esc c92 cd)
                have HW := Lib.hid (hb_writeByte _ _ (Lib.byteCells acc) (a0[k + 1].toNat : Int) wr hB1 (by rw [Lib.byteCells_length]; omega) hz)
                clear c34 c92 cb
                by_cases cd34 : a0[k + 1].toNat = 34
                · have t5 : (((a0[k + 1]).toNat : Int) != 34) = false := by simp [cd34]
                  clear cd cd34
                  go_wp2_with (fail)
                  refine HW.out.mono ?_
                  rintro e w2 ⟨rfl, hB2, hbb⟩
                  rw [byteCells_snoc'] at hB2
                  go_wp2
                  go_roundw
                  case rel => exact ⟨k + 2, _, by omega, by omega, by simp only [List.length_append, List.length_singleton]; omega, by go_num, .inr hB2, hb2.trans hbb, Lib.hid (HX.out.symm.trans HI.out)⟩
                  case measure => simp [intOf]; omega
                · have t5 : (((a0[k + 1]).toNat : Int) != 34) = true := by rw [bne_iff_ne]; omega
                  have t6 : (((a0[k + 1]).toNat : Int) != 92) = false := by simp [show a0[k + 1].toNat = 92 by omega]
                  clear cd cd34
                  go_wp2_with (fail)
                  refine HW.out.mono ?_
                  rintro e w2 ⟨rfl, hB2, hbb⟩
                  rw [byteCells_snoc'] at hB2
                  go_wp2
                  go_roundw
                  case rel => exact ⟨k + 2, _, by omega, by omega, by simp only [List.length_append, List.length_singleton]; omega, by go_num, .inr hB2, hb2.trans hbb, Lib.hid (HX.out.symm.trans HI.out)⟩
                  case measure => simp [intOf]; omega
              · have HX := Lib.hid (show strGo (a0.data.toList.drop k) k acc = ([], 0, false) by rw [HD.out, HD2.out]; exact strGo_esc_no c92 cd)
                have t5 : (((a0[k + 1]).toNat : Int) != 34) = true := by rw [bne_iff_ne]; omega
                have t6 : (((a0[k + 1]).toNat : Int) != 92) = true := by rw [bne_iff_ne]; omega
                clear c34 c92 cb cd
                go_wp2
                go_ret3
                exact ⟨Hout.out _ _ _ _ HX.out rfl rfl rfl, hb2⟩
            · have HX := Lib.hid (show strGo (a0.data.toList.drop k) k acc = ([], 0, false) by rw [HD.out, drop_end a0 (k + 1) (by omega)]; exact strGo_esc_end c92)
              clear c34 c92 cb
              go_wp2
              go_ret3
              exact ⟨Hout.out _ _ _ _ HX.out rfl rfl rfl, hb2⟩
          · have t4 : (((a0[k]).toNat : Int) == 92) = false := beq_eq_false_iff_ne.2 (by omega)
            have HX := Lib.hid (show strGo (a0.data.toList.drop k) k acc = strGo (a0.data.toList.drop (k + 1)) (k + 1) (acc ++ [a0[k]]) by rw [HD.out]; exact strGo_plain c34 cb c92)
            have HW := Lib.hid (hb_writeByte _ _ (Lib.byteCells acc) (a0[k].toNat : Int) wr hB1 (by rw [Lib.byteCells_length]; omega) hz)
            clear c34 c92 cb
            go_wp2_with (fail)
            refine HW.out.mono ?_
            rintro e w2 ⟨rfl, hB2, hbb⟩
            rw [byteCells_snoc'] at hB2
            go_wp2
            go_roundw
            case rel => exact ⟨k + 1, _, by omega, by omega, by simp only [List.length_append, List.length_singleton]; omega, by go_num, .inr hB2, hb2.trans hbb, Lib.hid (HX.out.symm.trans HI.out)⟩
            case measure => simp [intOf]; omega
    · have HX := Lib.hid (show strGo (a0.data.toList.drop k) k acc = ([], 0, false) by rw [drop_end a0 k (by omega)]; rfl)
      have Hout := Lib.hid (ret3 (show ((⟨#[]⟩ : ByteArray), (0 : Int), false) = (r1, r2, r3) by rw [← HR.out, ← HI.out, HX.out]; rfl))
      go_wp2
      go_ret3
      exact ⟨Hout.out, hb2⟩

/-! ### lex_run: by hand: function 32 -/
def runL (p : UInt8 → Bool) (l : List UInt8) : Nat := (l.takeWhile p).length
theorem run_drop_at (s : ByteArray) (k : Nat) (h : k < s.size) : s.data.toList.drop k = s[k] :: s.data.toList.drop (k + 1) := by
  rw [List.drop_eq_getElem_cons (by simpa using h)]; rfl
theorem run_drop_end (s : ByteArray) (k : Nat) (h : s.size ≤ k) : s.data.toList.drop k = [] := List.drop_of_length_le (by rw [Array.length_toList]; exact h)
theorem runL_step {p : UInt8 → Bool} {s : ByteArray} {k : Nat} (h : k < s.size) (hp : p s[k] = true) : k + runL p (s.data.toList.drop k) = (k + 1) + runL p (s.data.toList.drop (k + 1)) := by
  rw [run_drop_at s k h, runL, List.takeWhile_cons_of_pos hp, List.length_cons, runL]; omega
theorem runL_stop {p : UInt8 → Bool} {s : ByteArray} {k : Nat} (h : k < s.size) (hp : p s[k] = false) : k + runL p (s.data.toList.drop k) = k := by
  rw [run_drop_at s k h, runL, List.takeWhile_cons_of_neg (by simp [hp])]; rfl
theorem runL_end {p : UInt8 → Bool} {s : ByteArray} {k : Nat} (h : s.size ≤ k) : k + runL p (s.data.toList.drop k) = k := by
  rw [run_drop_end s k h]; rfl
theorem run_ret {a b : Int} (h : a = b) : Ending.returned (.int .i64 a) = .returned (.int .i64 b) := by rw [h]
theorem run_retb {a b : Bool} (h : a = b) : Ending.returned (.bool a) = .returned (.bool b) := by rw [h]
theorem run_cong {p q : UInt8 → Bool} (h : p = q) (l : List UInt8) : runL p l = runL q l := by rw [h]
theorem drawn_trans {w w1 w2 : World} (h : Drawn0 w w1) (k : Drawn0 w1 w2) : Drawn0 w w2 := by
  obtain ⟨n, rfl⟩ := k; exact h.step n
set_option maxHeartbeats 1000000 in
theorem run_of (g : Nat) (p : UInt8 → Bool) (eg : ∀ args w, (callFunc g args).run Try.prog w = .ok (.enter g args) w)
    (hp : ∀ (c : UInt8) (W : World), Calls Try.prog g #[.int .u8 (c.toNat : Int)] W fun e w' => e = .returned (.bool (p c)) ∧ Drawn0 W w')
    (s : ByteArray) (hs : s.size ≤ 9223372036854775807) (w : World) :
    Calls Try.prog 32 #[.string s, .func (.func g) #[] #[]] w fun e w' => e = .returned (.int .i64 ((runL p s.data.toList : Nat) : Int)) ∧ Drawn0 w w' := by
  have HP := Lib.hid hp
  clear hp
  go_enter Try.func32, Try.ntmps32
  go_wp2
  go_loopw [5] (fun i wr => ∃ k : Nat, k ≤ s.size ∧ i = .int .i64 k ∧ Hid (k + runL p (s.data.toList.drop k) = runL p s.data.toList) ∧ Drawn0 w wr) (fun i _ => s.size - (intOf i).toNat)
  case atStart => exact ⟨0, Nat.zero_le _, rfl, Lib.hid (by simp), Drawn0.refl _⟩
  case round =>
    obtain ⟨k, hk, rfl, HI, hdr⟩ := hrel
    by_cases hlt : k < s.size
    · cases hc : p s[k] with
      | true =>
        have HX := Lib.hid (runL_step hlt hc)
        have HC := Lib.hid (HP.out s[k])
        have HCC := Lib.hid hc
        clear hc
        go_wp2_with (fail)
        refine (HC.out _).mono ?_
        rw [HCC.out]
        rintro e w2 ⟨rfl, hd2⟩
        go_wp2
        go_roundw
        case rel => exact ⟨k + 1, by omega, by go_num, Lib.hid (HX.out.symm.trans HI.out), drawn_trans hdr hd2⟩
        case measure => simp [intOf]; omega
      | false =>
        have HX := Lib.hid (runL_stop hlt hc)
        have HC := Lib.hid (HP.out s[k])
        have HCC := Lib.hid hc
        clear hc
        go_wp2_with (fail)
        refine (HC.out _).mono ?_
        rw [HCC.out]
        rintro e w2 ⟨rfl, hd2⟩
        go_wp2
        go_ret
        exact ⟨run_ret (by have h1 := HX.out; have h2 := HI.out; omega), drawn_trans hdr hd2⟩
    · have HX := Lib.hid (runL_end (p := p) (show s.size ≤ k by omega))
      go_wp2
      go_ret
      exact ⟨run_ret (by have h1 := HX.out; have h2 := HI.out; omega), hdr⟩

/-! ### lex_letter: function 35 -/
def lex_letter.f (a0 : Int) : Option (Bool) := if a0 ≥ 97 then (if a0 ≤ 122 then (some true) else (if a0 ≥ 65 then (if a0 ≤ 90 then (some true) else (some (a0 == 95))) else (some (a0 == 95)))) else (if a0 ≥ 65 then (if a0 ≤ 90 then (some true) else (some (a0 == 95))) else (some (a0 == 95)))
set_option maxHeartbeats 8000000 in
set_option maxRecDepth 100000 in
theorem lex_letter.calls (a0 : Int) (r : Bool) (w : World) (h : lex_letter.f a0 = some r) :
    Calls Try.prog 35 #[.int .u8 a0] w fun e w' => e = .returned (.bool r) ∧ Drawn0 w w' := by
  have H : (if a0 ≥ 97 then (if a0 ≤ 122 then (some true) else (if a0 ≥ 65 then (if a0 ≤ 90 then (some true) else (some (a0 == 95))) else (some (a0 == 95)))) else (if a0 ≥ 65 then (if a0 ≤ 90 then (some true) else (some (a0 == 95))) else (some (a0 == 95)))) = some r := h
  clear h
  by_cases c2 : a0 ≥ 97
  · rw [if_pos c2] at H
    have c2b0 : decide (97 ≤ a0) = true := decide_eq_true c2
    clear c2
    by_cases c3 : a0 ≤ 122
    · rw [if_pos c3] at H
      have c3b0 : decide (a0 ≤ 122) = true := decide_eq_true c3
      clear c3
      obtain rfl := Option.some.inj H
      go_enter Try.func35, Try.ntmps35
      go_wp2
      go_ret
      exact ⟨by first | rfl | (simp; done) | (simp [*]; done), by repeat (first | exact Drawn0.refl _ | apply Drawn0.step)⟩
    · rw [if_neg c3] at H
      have c3b0 : decide (a0 ≤ 122) = false := decide_eq_false c3
      clear c3
      by_cases c4 : a0 ≥ 65
      · rw [if_pos c4] at H
        have c4b0 : decide (65 ≤ a0) = true := decide_eq_true c4
        clear c4
        by_cases c5 : a0 ≤ 90
        · rw [if_pos c5] at H
          have c5b0 : decide (a0 ≤ 90) = true := decide_eq_true c5
          clear c5
          obtain rfl := Option.some.inj H
          go_enter Try.func35, Try.ntmps35
          go_wp2
          go_ret
          exact ⟨by first | rfl | (simp; done) | (simp [*]; done), by repeat (first | exact Drawn0.refl _ | apply Drawn0.step)⟩
        · rw [if_neg c5] at H
          have c5b0 : decide (a0 ≤ 90) = false := decide_eq_false c5
          clear c5
          obtain rfl := Option.some.inj H
          go_enter Try.func35, Try.ntmps35
          go_wp2
          go_ret
          exact ⟨by first | rfl | (simp; done) | (simp [*]; done), by repeat (first | exact Drawn0.refl _ | apply Drawn0.step)⟩
      · rw [if_neg c4] at H
        have c4b0 : decide (65 ≤ a0) = false := decide_eq_false c4
        clear c4
        obtain rfl := Option.some.inj H
        go_enter Try.func35, Try.ntmps35
        go_wp2
        go_ret
        exact ⟨by first | rfl | (simp; done) | (simp [*]; done), by repeat (first | exact Drawn0.refl _ | apply Drawn0.step)⟩
  · rw [if_neg c2] at H
    have c2b0 : decide (97 ≤ a0) = false := decide_eq_false c2
    clear c2
    by_cases c6 : a0 ≥ 65
    · rw [if_pos c6] at H
      have c6b0 : decide (65 ≤ a0) = true := decide_eq_true c6
      clear c6
      by_cases c7 : a0 ≤ 90
      · rw [if_pos c7] at H
        have c7b0 : decide (a0 ≤ 90) = true := decide_eq_true c7
        clear c7
        obtain rfl := Option.some.inj H
        go_enter Try.func35, Try.ntmps35
        go_wp2
        go_ret
        exact ⟨by first | rfl | (simp; done) | (simp [*]; done), by repeat (first | exact Drawn0.refl _ | apply Drawn0.step)⟩
      · rw [if_neg c7] at H
        have c7b0 : decide (a0 ≤ 90) = false := decide_eq_false c7
        clear c7
        obtain rfl := Option.some.inj H
        go_enter Try.func35, Try.ntmps35
        go_wp2
        go_ret
        exact ⟨by first | rfl | (simp; done) | (simp [*]; done), by repeat (first | exact Drawn0.refl _ | apply Drawn0.step)⟩
    · rw [if_neg c6] at H
      have c6b0 : decide (65 ≤ a0) = false := decide_eq_false c6
      clear c6
      obtain rfl := Option.some.inj H
      go_enter Try.func35, Try.ntmps35
      go_wp2
      go_ret
      exact ⟨by first | rfl | (simp; done) | (simp [*]; done), by repeat (first | exact Drawn0.refl _ | apply Drawn0.step)⟩

/-! ### lex_digit: function 37 -/
def lex_digit.f (a0 : Int) : Option (Bool) := if a0 ≥ 48 then (some (decide (a0 ≤ 57))) else (some false)
set_option maxHeartbeats 8000000 in
set_option maxRecDepth 100000 in
theorem lex_digit.calls (a0 : Int) (r : Bool) (w : World) (h : lex_digit.f a0 = some r) :
    Calls Try.prog 37 #[.int .u8 a0] w fun e w' => e = .returned (.bool r) ∧ Drawn0 w w' := by
  have H : (if a0 ≥ 48 then (some (decide (a0 ≤ 57))) else (some false)) = some r := h
  clear h
  by_cases c2 : a0 ≥ 48
  · rw [if_pos c2] at H
    have c2b0 : decide (48 ≤ a0) = true := decide_eq_true c2
    clear c2
    obtain rfl := Option.some.inj H
    go_enter Try.func37, Try.ntmps37
    go_wp2
    go_ret
    exact ⟨by first | rfl | (simp; done) | (simp [*]; done), by repeat (first | exact Drawn0.refl _ | apply Drawn0.step)⟩
  · rw [if_neg c2] at H
    have c2b0 : decide (48 ≤ a0) = false := decide_eq_false c2
    clear c2
    obtain rfl := Option.some.inj H
    go_enter Try.func37, Try.ntmps37
    go_wp2
    go_ret
    exact ⟨by first | rfl | (simp; done) | (simp [*]; done), by repeat (first | exact Drawn0.refl _ | apply Drawn0.step)⟩

/-! ### stringslite_HasPrefix: function 53 -/
def stringslite_HasPrefix.f (a0 : ByteArray) (a1 : ByteArray) : Option (Bool) := if (a0.size : Int) ≥ (a1.size : Int) then (if 0 ≤ (a1.size : Int) then (if (a1.size : Int) ≤ (a0.size : Int) then (some ((a0.extract 0 ((a1.size : Int) : Int).toNat).toList == a1.toList)) else (none)) else (none)) else (some false)
set_option maxHeartbeats 8000000 in
set_option maxRecDepth 100000 in
theorem stringslite_HasPrefix.calls (a0 : ByteArray) (a1 : ByteArray) (r : Bool) (w : World) (h : stringslite_HasPrefix.f a0 a1 = some r) :
    Calls Try.prog 53 #[.string a0, .string a1] w fun e w' => e = .returned (.bool r) ∧ Drawn0 w w' := by
  have H : (if (a0.size : Int) ≥ (a1.size : Int) then (if 0 ≤ (a1.size : Int) then (if (a1.size : Int) ≤ (a0.size : Int) then (some ((a0.extract 0 ((a1.size : Int) : Int).toNat).toList == a1.toList)) else (none)) else (none)) else (some false)) = some r := h
  clear h
  by_cases c3 : (a0.size : Int) ≥ (a1.size : Int)
  · rw [if_pos c3] at H
    have c3b0 : decide ((a1.size : Int) ≤ (a0.size : Int)) = true := decide_eq_true c3
    have c3b1 : decide (a1.size ≤ a0.size) = true := decide_eq_true (Int.ofNat_le.mp c3)
    clear c3
    by_cases c4 : 0 ≤ (a1.size : Int)
    · rw [if_pos c4] at H
      have c4b0 := eq_true c4
      have c4b1 : decide (0 ≤ (a1.size : Int)) = true := decide_eq_true c4
      clear c4
      by_cases c5 : (a1.size : Int) ≤ (a0.size : Int)
      · rw [if_pos c5] at H
        have c5b0 := eq_true c5
        have c5b1 : decide ((a1.size : Int) ≤ (a0.size : Int)) = true := decide_eq_true c5
        clear c5
        obtain rfl := Option.some.inj H
        go_enter Try.func53, Try.ntmps53
        go_wp2
        go_ret
        exact ⟨by first | rfl | (simp; done) | (simp [*]; done), by repeat (first | exact Drawn0.refl _ | apply Drawn0.step)⟩
      · rw [if_neg c5] at H
        exact absurd H (by simp)
    · rw [if_neg c4] at H
      exact absurd H (by simp)
  · rw [if_neg c3] at H
    have c3b0 : decide ((a1.size : Int) ≤ (a0.size : Int)) = false := decide_eq_false c3
    have c3b1 : decide (a1.size ≤ a0.size) = false := decide_eq_false (fun h => c3 (Int.ofNat_le.mpr h))
    clear c3
    obtain rfl := Option.some.inj H
    go_enter Try.func53, Try.ntmps53
    go_wp2
    go_ret
    exact ⟨by first | rfl | (simp; done) | (simp [*]; done), by repeat (first | exact Drawn0.refl _ | apply Drawn0.step)⟩

/-! ### strings_HasPrefix: by hand: function 39 -/
def strings_HasPrefix.f (a0 : ByteArray) (a1 : ByteArray) : Option Bool := some (Lib.hasPrefix a0.data.toList a1.data.toList)
theorem strings_HasPrefix.calls (a0 : ByteArray) (a1 : ByteArray) (r : Bool) (w : World) (h : strings_HasPrefix.f a0 a1 = some r) :
    Calls Try.prog 39 #[.string a0, .string a1] w fun e w' => e = .returned (.bool r) ∧ Drawn0 w w' := by
  obtain rfl := Option.some.inj h
  refine (Try.strings_HasPrefix a0 a1 w).mono ?_
  rintro e w' ⟨rfl, rfl⟩
  exact ⟨rfl, Drawn0.refl _⟩

/-! ### json_digit: function 52 -/
def json_digit.f (a0 : Int) : Option (Bool) := if a0 ≥ 48 then (some (decide (a0 ≤ 57))) else (some false)
set_option maxHeartbeats 8000000 in
set_option maxRecDepth 100000 in
theorem json_digit.calls (a0 : Int) (r : Bool) (w : World) (h : json_digit.f a0 = some r) :
    Calls Try.prog 52 #[.int .u8 a0] w fun e w' => e = .returned (.bool r) ∧ Drawn0 w w' := by
  have H : (if a0 ≥ 48 then (some (decide (a0 ≤ 57))) else (some false)) = some r := h
  clear h
  by_cases c2 : a0 ≥ 48
  · rw [if_pos c2] at H
    have c2b0 : decide (48 ≤ a0) = true := decide_eq_true c2
    clear c2
    obtain rfl := Option.some.inj H
    go_enter Try.func52, Try.ntmps52
    go_wp2
    go_ret
    exact ⟨by first | rfl | (simp; done) | (simp [*]; done), by repeat (first | exact Drawn0.refl _ | apply Drawn0.step)⟩
  · rw [if_neg c2] at H
    have c2b0 : decide (48 ≤ a0) = false := decide_eq_false c2
    clear c2
    obtain rfl := Option.some.inj H
    go_enter Try.func52, Try.ntmps52
    go_wp2
    go_ret
    exact ⟨by first | rfl | (simp; done) | (simp [*]; done), by repeat (first | exact Drawn0.refl _ | apply Drawn0.step)⟩

end Go.Proofs.Ytcombonfmhgnjaa.PLex
