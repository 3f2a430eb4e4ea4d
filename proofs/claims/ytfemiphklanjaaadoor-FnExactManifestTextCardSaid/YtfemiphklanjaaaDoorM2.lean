-- Written by a program of this claim (qprint.py over the kit's print): functions of the translation as Lean functions, with their walks.
import Derived.Test.YtfemiphklanjaaaDoorM0
import Derived.Test.YtfemiphklanjaaaDoorM1
namespace Go.Proofs.YtfemiphklanjaaaDoor.Q
open Go.RowKit Go.Proofs.YtfemiphklanjaaaDoorW.PrintWords Go.Proofs.YtfemiphklanjaaaDoorW.PrintLast Go.Proofs.YtfemiphklanjaaaDoorW.PrintMore
attribute [local go_sem] max2_int min2_int max_two min_two max_three min_three max_four min_four   -- for this text's walks alone
set_option linter.unusedVariables false
set_option linter.unusedSimpArgs false

/-! ### spec_l09Sum: function 34 -/
def spec_l09Sum.l0 : Nat → ByteArray → Int → Int → Option (Int)
  | 0, _, _, _ => none
  | k + 1, x0, x3, x4 => if x4 < (x0.size : Int) then (if 0 ≤ x4 then (spec_l09Sum.l0 k x0 (Int.tmod (wrap64 ((wrap64 ((wrap64 (x3 * 263)) + (wrap64 (bt x0 x4)))) + 1)) 65521) (wrap64 (x4 + 1))) else (none)) else (some x3)
def spec_l09Sum.f (k : Nat) (a0 : ByteArray) : Option (Int) := spec_l09Sum.l0 k a0 1 0
theorem spec_l09Sum.mono_l : ∀ k, (∀ y0 y1 y2, LeO (spec_l09Sum.l0 k y0 y1 y2) (spec_l09Sum.l0 (k + 1) y0 y1 y2))
  | 0 => fun _ _ _ r h => by simp [spec_l09Sum.l0] at h
  | k + 1 => by
    have ih0 := spec_l09Sum.mono_l k
    · intro y0 y1 y2
      unfold spec_l09Sum.l0
      repeat' first
      | (with_reducible exact ih0 _ _ _)
      | (with_reducible exact LeO.refl _)
      | (with_reducible exact LeO.none _)
      | (with_reducible refine LeO.ite ?_ ?_)
      | (with_reducible refine LeO.bind ?_ (fun _ => ?_))
      | exact ih0 _ _ _
      | exact LeO.none _
      | refine LeO.ite ?_ ?_
      | refine LeO.bind ?_ (fun _ => ?_)
theorem spec_l09Sum.mono : ∀ a0 k, LeO (spec_l09Sum.f k a0) (spec_l09Sum.f (k + 1) a0) := by
  intro a0 k
  have ih0 := spec_l09Sum.mono_l k
  unfold spec_l09Sum.f
  repeat' first
      | (with_reducible exact ih0 _ _ _)
      | (with_reducible exact LeO.refl _)
      | (with_reducible exact LeO.none _)
      | (with_reducible refine LeO.ite ?_ ?_)
      | (with_reducible refine LeO.bind ?_ (fun _ => ?_))
      | exact ih0 _ _ _
      | exact LeO.none _
      | refine LeO.ite ?_ ?_
      | refine LeO.bind ?_ (fun _ => ?_)
set_option maxHeartbeats 8000000 in
set_option maxRecDepth 100000 in
theorem spec_l09Sum.calls (k : Nat) (a0 : ByteArray) (r : Int) (w : World) (h : spec_l09Sum.f k a0 = some r) :
    Calls Tryd.prog 34 #[.string a0] w fun e w' => e = .returned (.int .i64 r) ∧ Drawn0 w w' := by
  have H : (spec_l09Sum.l0 k a0 1 0) = some r := h
  clear h
  have H' := Aside0.mk H
  clear H
  go_enter Tryd.func34, Tryd.ntmps34
  go_wp2
  go_loopg [3, 4] k (fun kq v3 v4 w' => ∃ (x3_1 : Int) (x4_1 : Int), v3 = .int .i64 x3_1 ∧ v4 = .int .i64 x4_1 ∧ Aside0 (spec_l09Sum.l0 kq a0 x3_1 x4_1 = some r) ∧ Aside0 (kq ≤ k) ∧ Drawn0 w w')
  case atStart => exact ⟨(1), (0), (by first | rfl | (simp; done) | (simp [*]; done)), (by first | rfl | (simp; done) | (simp [*]; done)), H', ⟨Nat.le_refl _⟩, by repeat (first | exact Drawn0.refl _ | apply Drawn0.step)⟩
  case round =>
    clear H'
    obtain ⟨x3_1, x4_1, rfl, rfl, HA, HK1, ⟨m1, rfl⟩⟩ := hrel
    cases gk with
    | zero => exact absurd HA.out (by simp [spec_l09Sum.l0])
    | succ k1 =>
      have H := HA.out
      clear HA
      simp only [spec_l09Sum.l0] at H
      by_cases c2 : x4_1 < (a0.size : Int)
      · rw [if_pos c2] at H
        have c2b0 : decide (x4_1 < (a0.size : Int)) = true := decide_eq_true c2
        clear c2
        by_cases c3 : 0 ≤ x4_1
        · rw [if_pos c3] at H
          have c3b0 : decide (0 ≤ x4_1) = true := decide_eq_true c3
          clear c3
          have H' := Aside0.mk H
          clear H
          have p4 : 0 ≤ (x4_1 : Int) := of_decide_eq_true (by first | (with_reducible assumption) | assumption)
          have q4 : x4_1 < (a0.size : Int) := of_decide_eq_true (by first | (with_reducible assumption) | assumption)
          have hx4 := bt_at a0 x4_1
          replace p4 := eq_true p4
          replace q4 := eq_true q4
          go_wp2
          go_roundg k1
          case measure => have := HK1.out; omega
          case rel => exact ⟨(Int.tmod (wrap64 ((wrap64 ((wrap64 (x3_1 * 263)) + (wrap64 (bt a0 x4_1)))) + 1)) 65521), (wrap64 (x4_1 + 1)), (by first | rfl | (simp; done) | (simp [*]; done)), (by first | rfl | (simp; done) | (simp [*]; done)), H', ⟨by have := HK1.out; omega⟩, by repeat (first | exact Drawn0.refl _ | apply Drawn0.step)⟩
        · rw [if_neg c3] at H
          exact absurd H (by simp)
      · rw [if_neg c2] at H
        have c2b0 : decide (x4_1 < (a0.size : Int)) = false := decide_eq_false c2
        clear c2
        obtain rfl := Option.some.inj H
        go_wp2
        go_ret
        exact ⟨by first | rfl | (simp; done) | (simp [*]; done), by repeat (first | exact Drawn0.refl _ | apply Drawn0.step)⟩

/-! ### spec_l12Manifest: function 19 -/
def spec_l12Manifest.l0 : Nat → List ByteArray → ByteArray → Int → Option (ByteArray)
  | 0, _, _, _ => none
  | k + 1, x0, x3, x4 => if x4 < (x0.length : Int) then (if 0 ≤ x4 then (if (rdOf ByteArray.empty x0 x4).size + 1 ≤ 9223372036854775807 then (if x3.size + ((rdOf ByteArray.empty x0 x4) ++ (⟨#[10]⟩ : ByteArray)).size ≤ 9223372036854775807 then (spec_l12Manifest.l0 k x0 (x3 ++ ((rdOf ByteArray.empty x0 x4) ++ (⟨#[10]⟩ : ByteArray))) (wrap64 (x4 + 1))) else (none)) else (none)) else (none)) else (if x3.size + 4 ≤ 9223372036854775807 then ((spec_l09Sum.f k x3).bind fun t124 => ((spec_l00Digits.f k t124).bind fun t125 => (if (x3 ++ (⟨#[115, 117, 109, 32]⟩ : ByteArray)).size + t125.size ≤ 9223372036854775807 then (if ((x3 ++ (⟨#[115, 117, 109, 32]⟩ : ByteArray)) ++ t125).size + 1 ≤ 9223372036854775807 then (some (((x3 ++ (⟨#[115, 117, 109, 32]⟩ : ByteArray)) ++ t125) ++ (⟨#[10]⟩ : ByteArray))) else (none)) else (none)))) else (none))
def spec_l12Manifest.f (k : Nat) (l0 : List ByteArray) : Option (ByteArray) := spec_l12Manifest.l0 k l0 (⟨#[]⟩ : ByteArray) 0
theorem spec_l12Manifest.mono_l : ∀ k, (∀ y0 y1 y2, LeO (spec_l12Manifest.l0 k y0 y1 y2) (spec_l12Manifest.l0 (k + 1) y0 y1 y2))
  | 0 => fun _ _ _ r h => by simp [spec_l12Manifest.l0] at h
  | k + 1 => by
    have ih0 := spec_l12Manifest.mono_l k
    · intro y0 y1 y2
      unfold spec_l12Manifest.l0
      repeat' first
      | (with_reducible exact ih0 _ _ _)
      | (with_reducible exact spec_l00Digits.mono _ _)
      | (with_reducible exact spec_l09Sum.mono _ _)
      | (with_reducible exact LeO.refl _)
      | (with_reducible exact LeO.none _)
      | (with_reducible refine LeO.ite ?_ ?_)
      | (with_reducible refine LeO.bind ?_ (fun _ => ?_))
      | exact ih0 _ _ _
      | exact spec_l00Digits.mono _ _
      | exact spec_l09Sum.mono _ _
      | exact LeO.none _
      | refine LeO.ite ?_ ?_
      | refine LeO.bind ?_ (fun _ => ?_)
theorem spec_l12Manifest.mono : ∀ a0 k, LeO (spec_l12Manifest.f k a0) (spec_l12Manifest.f (k + 1) a0) := by
  intro a0 k
  have ih0 := spec_l12Manifest.mono_l k
  unfold spec_l12Manifest.f
  repeat' first
      | (with_reducible exact ih0 _ _ _)
      | (with_reducible exact spec_l00Digits.mono _ _)
      | (with_reducible exact spec_l09Sum.mono _ _)
      | (with_reducible exact LeO.refl _)
      | (with_reducible exact LeO.none _)
      | (with_reducible refine LeO.ite ?_ ?_)
      | (with_reducible refine LeO.bind ?_ (fun _ => ?_))
      | exact ih0 _ _ _
      | exact spec_l00Digits.mono _ _
      | exact spec_l09Sum.mono _ _
      | exact LeO.none _
      | refine LeO.ite ?_ ?_
      | refine LeO.bind ?_ (fun _ => ?_)
set_option maxHeartbeats 8000000 in
set_option maxRecDepth 100000 in
theorem spec_l12Manifest.calls (k : Nat) (A0 : Option Addr) (c0 : Nat) (l0 : List ByteArray) (r : ByteArray) (w : World) (hr0 : Kd.C Kd.string w A0 l0.length l0) (hc0 : l0.length ≤ c0) (h : spec_l12Manifest.f k l0 = some r) :
    Calls Tryd.prog 19 #[.slice A0 l0.length c0] w fun e w' => e = .returned (.string r) ∧ Below w.heap.size w w' := by
  have HR0 := Aside0.mk hr0
  have HC0 := Aside0.mk hc0
  clear hr0 hc0
  have HB := Aside0.mk (Below.refl w.heap.size w)
  have H : (spec_l12Manifest.l0 k l0 (⟨#[]⟩ : ByteArray) 0) = some r := h
  clear h
  have H' := Aside0.mk H
  clear H
  go_enter Tryd.func19, Tryd.ntmps19
  go_wp2
  go_loopg [3, 4] k (fun kq v3 v4 w' => ∃ (x3_1 : ByteArray) (x4_1 : Int), v3 = .string x3_1 ∧ v4 = .int .i64 x4_1 ∧ Aside0 (spec_l12Manifest.l0 kq l0 x3_1 x4_1 = some r) ∧ Aside0 (kq ≤ k) ∧ Aside0 (Below w.heap.size w w'))
  case atStart => exact ⟨((⟨#[]⟩ : ByteArray)), (0), (by first | rfl | (simp; done) | (simp [*]; done)), (by first | rfl | (simp; done) | (simp [*]; done)), H', ⟨Nat.le_refl _⟩, ⟨by repeat (first | (with_reducible first | exact HB.out | apply below_alloc | apply pw_below_drewN | apply below_drew1) | exact HB.out)⟩⟩
  case round =>
    clear H'
    try clear c1
    obtain ⟨x3_1, x4_1, rfl, rfl, HA, HK1, HB⟩ := hrel
    cases gk with
    | zero => exact absurd HA.out (by simp [spec_l12Manifest.l0])
    | succ k1 =>
      have H := HA.out
      clear HA
      simp only [spec_l12Manifest.l0] at H
      by_cases c2 : x4_1 < (l0.length : Int)
      · rw [if_pos c2] at H
        have c2b0 : decide (x4_1 < (l0.length : Int)) = true := decide_eq_true c2
        clear c2
        by_cases c3 : 0 ≤ x4_1
        · rw [if_pos c3] at H
          have c3b0 : decide (0 ≤ x4_1) = true := decide_eq_true c3
          clear c3
          by_cases c4 : (rdOf ByteArray.empty l0 x4_1).size + 1 ≤ 9223372036854775807
          · rw [if_pos c4] at H
            have c4b0 := eq_true c4
            have c4b1 : decide ((rdOf ByteArray.empty l0 x4_1).size + 1 ≤ 9223372036854775807) = true := decide_eq_true c4
            try have c4b2 : (9223372036854775807 < (rdOf ByteArray.empty l0 x4_1).size + 1) = False := eq_false (Nat.not_lt.2 c4)
            by_cases c5 : x3_1.size + ((rdOf ByteArray.empty l0 x4_1) ++ (⟨#[10]⟩ : ByteArray)).size ≤ 9223372036854775807
            · rw [if_pos c5] at H
              have c5b0 := eq_true c5
              have c5b1 : decide (x3_1.size + ((rdOf ByteArray.empty l0 x4_1) ++ (⟨#[10]⟩ : ByteArray)).size ≤ 9223372036854775807) = true := decide_eq_true c5
              try have c5b2 : (9223372036854775807 < x3_1.size + ((rdOf ByteArray.empty l0 x4_1) ++ (⟨#[10]⟩ : ByteArray)).size) = False := eq_false (Nat.not_lt.2 c5)
              have H' := Aside0.mk H
              clear H
              have p123 : 0 ≤ (x4_1 : Int) := of_decide_eq_true (by first | (with_reducible assumption) | assumption)
              have q123 : x4_1 < (l0.length : Int) := of_decide_eq_true (by first | (with_reducible assumption) | assumption)
              obtain ⟨ad123, e123, hx123_0⟩ := Kd.at_string HR0.out x4_1 p123 q123
              cases e123
              replace hx123_0 := (HB.out.cell (World.block_lt_of_cell? w _ hx123_0)).trans hx123_0
              replace p123 := eq_true p123
              replace q123 := eq_true q123
              go_wp2
              go_roundg k1
              case measure => have := HK1.out; omega
              case rel => exact ⟨(x3_1 ++ ((rdOf ByteArray.empty l0 x4_1) ++ (⟨#[10]⟩ : ByteArray))), (wrap64 (x4_1 + 1)), (by first | rfl | (simp; done) | (simp [*]; done)), (by first | rfl | (simp; done) | (simp [*]; done)), H', ⟨by have := HK1.out; omega⟩, ⟨by repeat (first | (with_reducible first | exact HB.out | apply below_alloc | apply pw_below_drewN | apply below_drew1) | exact HB.out)⟩⟩
            · rw [if_neg c5] at H
              exact absurd H (by simp)
          · rw [if_neg c4] at H
            exact absurd H (by simp)
        · rw [if_neg c3] at H
          exact absurd H (by simp)
      · rw [if_neg c2] at H
        have c2b0 : decide (x4_1 < (l0.length : Int)) = false := decide_eq_false c2
        clear c2
        by_cases c6 : x3_1.size + 4 ≤ 9223372036854775807
        · rw [if_pos c6] at H
          have c6b0 := eq_true c6
          have c6b1 : decide (x3_1.size + 4 ≤ 9223372036854775807) = true := decide_eq_true c6
          try have c6b2 : (9223372036854775807 < x3_1.size + 4) = False := eq_false (Nat.not_lt.2 c6)
          replace H := Option.bind_eq_some_iff.mp H
          obtain ⟨t124, A70, H⟩ := H
          replace H : ((spec_l00Digits.f k1 t124).bind fun t125 => (if (x3_1 ++ (⟨#[115, 117, 109, 32]⟩ : ByteArray)).size + t125.size ≤ 9223372036854775807 then (if ((x3_1 ++ (⟨#[115, 117, 109, 32]⟩ : ByteArray)) ++ t125).size + 1 ≤ 9223372036854775807 then (some (((x3_1 ++ (⟨#[115, 117, 109, 32]⟩ : ByteArray)) ++ t125) ++ (⟨#[10]⟩ : ByteArray))) else (none)) else (none))) = some r := H
          have A7 := Aside0.mk A70
          clear A70
          replace H := Option.bind_eq_some_iff.mp H
          obtain ⟨t125, A80, H⟩ := H
          replace H : (if (x3_1 ++ (⟨#[115, 117, 109, 32]⟩ : ByteArray)).size + t125.size ≤ 9223372036854775807 then (if ((x3_1 ++ (⟨#[115, 117, 109, 32]⟩ : ByteArray)) ++ t125).size + 1 ≤ 9223372036854775807 then (some (((x3_1 ++ (⟨#[115, 117, 109, 32]⟩ : ByteArray)) ++ t125) ++ (⟨#[10]⟩ : ByteArray))) else (none)) else (none)) = some r := H
          have A8 := Aside0.mk A80
          clear A80
          by_cases c9 : (x3_1 ++ (⟨#[115, 117, 109, 32]⟩ : ByteArray)).size + t125.size ≤ 9223372036854775807
          · rw [if_pos c9] at H
            have c9b0 := eq_true c9
            have c9b1 : decide ((x3_1 ++ (⟨#[115, 117, 109, 32]⟩ : ByteArray)).size + t125.size ≤ 9223372036854775807) = true := decide_eq_true c9
            try have c9b2 : (9223372036854775807 < (x3_1 ++ (⟨#[115, 117, 109, 32]⟩ : ByteArray)).size + t125.size) = False := eq_false (Nat.not_lt.2 c9); (try (have c9z : (9223372036854775807 < (x3_1 ++ (⟨#[115, 117, 109, 32]⟩ : ByteArray)).size + t125.size) = False := eq_false (Nat.not_lt.2 c9); simp only [ByteArray.size_append, show (⟨#[115, 117, 109, 32]⟩ : ByteArray).size = 4 from rfl] at c9z))
            by_cases c10 : ((x3_1 ++ (⟨#[115, 117, 109, 32]⟩ : ByteArray)) ++ t125).size + 1 ≤ 9223372036854775807
            · rw [if_pos c10] at H
              have c10b0 := eq_true c10
              have c10b1 : decide (((x3_1 ++ (⟨#[115, 117, 109, 32]⟩ : ByteArray)) ++ t125).size + 1 ≤ 9223372036854775807) = true := decide_eq_true c10
              try have c10b2 : (9223372036854775807 < ((x3_1 ++ (⟨#[115, 117, 109, 32]⟩ : ByteArray)) ++ t125).size + 1) = False := eq_false (Nat.not_lt.2 c10); (try (have c10z : (9223372036854775807 < ((x3_1 ++ (⟨#[115, 117, 109, 32]⟩ : ByteArray)) ++ t125).size + 1) = False := eq_false (Nat.not_lt.2 c10); simp only [ByteArray.size_append, show (⟨#[115, 117, 109, 32]⟩ : ByteArray).size = 4 from rfl] at c10z))
              obtain rfl := Option.some.inj H
              go_wp2_with (first | ((with_reducible refine gate_callee (f := 34) rfl ?_); refine goesL_ (some 21) rfl rfl Tryd.func34 (by kernel_rfl) rfl #[.string x3_1] rfl (by (try simp only [List.map_toArray, List.map_cons, List.map_nil]); first | done | rfl | (simp only [List.length_drop, List.length_take]; rfl)) ?_; (with_reducible refine (spec_l09Sum.calls k1 x3_1 t124 _ A7.out).mono ?_); rintro e w' ⟨rfl, ⟨nd, rfl⟩⟩; refine ⟨_, rfl, ?_⟩) | ((with_reducible refine gate_callee (f := 33) rfl ?_); refine goesL_ (some 22) rfl rfl Tryd.func33 (by kernel_rfl) rfl #[.int .i64 t124] rfl (by (try simp only [List.map_toArray, List.map_cons, List.map_nil]); first | done | rfl | (simp only [List.length_drop, List.length_take]; rfl)) ?_; (with_reducible refine (spec_l00Digits.calls k1 t124 t125 _ A8.out).mono ?_); rintro e w11 ⟨rfl, hb⟩; refine ⟨_, rfl, ?_⟩; have n0_ := Aside0.mk (below_step (by repeat (first | (with_reducible first | exact HB.out | apply below_alloc | apply pw_below_drewN | apply below_drew1) | exact HB.out)) hb); clear HB; have HB := n0_; clear n0_; (try clear hb); (try clear hb2); (try clear hk); (try clear hi)))
              go_ret
              exact ⟨by first | rfl | (simp [errW_none, errW_some] <;> rfl) | (simp [*, errW_none, errW_some] <;> rfl), by repeat (first | (with_reducible first | exact HB.out | apply below_alloc | apply pw_below_drewN | apply below_drew1) | exact HB.out)⟩
            · rw [if_neg c10] at H
              exact absurd H (by simp)
          · rw [if_neg c9] at H
            exact absurd H (by simp)
        · rw [if_neg c6] at H
          exact absurd H (by simp)

/-! ### spec_ManifestText: function 7 -/
def spec_ManifestText.f (k : Nat) (l0 : List ByteArray) : Option (ByteArray × Int) := if (l0.length : Int) > 4096 then (some ((⟨#[]⟩ : ByteArray), 2)) else ((spec_l12NamesOK.f k l0).bind fun t126 => (if t126 = true then ((spec_l12Manifest.f k l0).bind fun t127 => (some (t127, 0))) else (some ((⟨#[]⟩ : ByteArray), 1))))
theorem spec_ManifestText.mono : ∀ a0 k, LeO (spec_ManifestText.f k a0) (spec_ManifestText.f (k + 1) a0) := by
  intro a0 k
  unfold spec_ManifestText.f
  repeat' first
      | (with_reducible exact spec_l12Manifest.mono _ _)
      | (with_reducible exact spec_l12NamesOK.mono _ _)
      | (with_reducible exact LeO.refl _)
      | (with_reducible exact LeO.none _)
      | (with_reducible refine LeO.ite ?_ ?_)
      | (with_reducible refine LeO.bind ?_ (fun _ => ?_))
      | exact spec_l12Manifest.mono _ _
      | exact spec_l12NamesOK.mono _ _
      | exact LeO.none _
      | refine LeO.ite ?_ ?_
      | refine LeO.bind ?_ (fun _ => ?_)
set_option maxHeartbeats 8000000 in
set_option maxRecDepth 100000 in
theorem spec_ManifestText.calls (k : Nat) (A0 : Option Addr) (c0 : Nat) (l0 : List ByteArray) (r1 : ByteArray) (r2 : Int) (w : World) (hr0 : Kd.C Kd.string w A0 l0.length l0) (hc0 : l0.length ≤ c0) (h : spec_ManifestText.f k l0 = some (r1, r2)) :
    Calls Tryd.prog 7 #[.slice A0 l0.length c0] w fun e w' => e = .returned (.tuple #[.string r1, .int .i64 r2]) ∧ Below w.heap.size w w' := by
  have HR0 := Aside0.mk hr0
  have HC0 := Aside0.mk hc0
  clear hr0 hc0
  have HB := Aside0.mk (Below.refl w.heap.size w)
  have H : (if (l0.length : Int) > 4096 then (some ((⟨#[]⟩ : ByteArray), 2)) else ((spec_l12NamesOK.f k l0).bind fun t126 => (if t126 = true then ((spec_l12Manifest.f k l0).bind fun t127 => (some (t127, 0))) else (some ((⟨#[]⟩ : ByteArray), 1))))) = some (r1, r2) := h
  clear h
  by_cases c2 : (l0.length : Int) > 4096
  · rw [if_pos c2] at H
    have c2b0 : decide (4096 < (l0.length : Int)) = true := decide_eq_true c2
    have c2b1 : decide (4096 < l0.length) = true := decide_eq_true (by omega)
    clear c2
    simp only [Option.some.injEq, Prod.mk.injEq] at H
    obtain ⟨rfl, rfl⟩ := H
    go_enter Tryd.func7, Tryd.ntmps7
    go_wp2
    go_ret2
    exact ⟨by first | rfl | (simp [errW_none, errW_some] <;> rfl) | (simp [*, errW_none, errW_some] <;> rfl), by repeat (first | (with_reducible first | exact HB.out | apply below_alloc | apply pw_below_drewN | apply below_drew1) | exact HB.out)⟩
  · rw [if_neg c2] at H
    have c2b0 : decide (4096 < (l0.length : Int)) = false := decide_eq_false c2
    have c2b1 : decide (4096 < l0.length) = false := decide_eq_false (by omega)
    clear c2
    replace H := Option.bind_eq_some_iff.mp H
    obtain ⟨t126, A30, H⟩ := H
    replace H : (if t126 = true then ((spec_l12Manifest.f k l0).bind fun t127 => (some (t127, 0))) else (some ((⟨#[]⟩ : ByteArray), 1))) = some (r1, r2) := H
    have A3 := Aside0.mk A30
    clear A30
    by_cases c4 : t126 = true
    · subst c4
      have H1 : ((spec_l12Manifest.f k l0).bind fun t127 => (some (t127, 0))) = some (r1, r2) := by rw [if_pos rfl] at H; exact H
      clear H
      have H := H1
      clear H1
      replace H := Option.bind_eq_some_iff.mp H
      obtain ⟨t127, A50, H⟩ := H
      replace H : (some (t127, 0)) = some (r1, r2) := H
      have A5 := Aside0.mk A50
      clear A50
      simp only [Option.some.injEq, Prod.mk.injEq] at H
      obtain ⟨rfl, rfl⟩ := H
      go_enter Tryd.func7, Tryd.ntmps7
      go_wp2_with (first | ((with_reducible refine gate_callee (f := 18) rfl ?_); refine goesL_ (some 8) rfl rfl Tryd.func18 (by kernel_rfl) rfl #[.slice A0 l0.length c0] rfl (by (try simp only [List.map_toArray, List.map_cons, List.map_nil]); first | done | rfl | (simp only [List.length_drop, List.length_take]; rfl)) ?_; (with_reducible refine (spec_l12NamesOK.calls k _ _ l0 true _ ?side1 ?side2 A3.out).mono ?_); (case side1 => repeat (first | exact HR0.out | (with_reducible refine Kd.C_alloc ?_ _) | (with_reducible refine Kd.C_drewN ?_ _) | (with_reducible refine Kd.C_drew ?_))); (case side2 => exact HC0.out); rintro e w6 ⟨rfl, hb⟩; refine ⟨_, rfl, ?_⟩; have n0_ := Aside0.mk (below_step (by repeat (first | (with_reducible first | exact HB.out | apply below_alloc | apply pw_below_drewN | apply below_drew1) | exact HB.out)) hb); clear HB; have HB := n0_; clear n0_; (try clear hb); (try clear hb2); (try clear hk); (try clear hi)) | ((with_reducible refine gate_callee (f := 19) rfl ?_); refine goesL_ (some 11) rfl rfl Tryd.func19 (by kernel_rfl) rfl #[.slice A0 l0.length c0] rfl (by (try simp only [List.map_toArray, List.map_cons, List.map_nil]); first | done | rfl | (simp only [List.length_drop, List.length_take]; rfl)) ?_; (with_reducible refine (spec_l12Manifest.calls k _ _ l0 t127 _ ?side1 ?side2 A5.out).mono ?_); (case side1 => repeat (first | exact (Kd.C_below HR0.out HB.out) | (with_reducible refine Kd.C_alloc ?_ _) | (with_reducible refine Kd.C_drewN ?_ _) | (with_reducible refine Kd.C_drew ?_))); (case side2 => exact HC0.out); rintro e w7 ⟨rfl, hb⟩; refine ⟨_, rfl, ?_⟩; have n0_ := Aside0.mk (below_step (by repeat (first | (with_reducible first | exact HB.out | apply below_alloc | apply pw_below_drewN | apply below_drew1) | exact HB.out)) hb); clear HB; have HB := n0_; clear n0_; (try clear hb); (try clear hb2); (try clear hk); (try clear hi)))
      go_ret2
      exact ⟨by first | rfl | (simp [errW_none, errW_some] <;> rfl) | (simp [*, errW_none, errW_some] <;> rfl), by repeat (first | (with_reducible first | exact HB.out | apply below_alloc | apply pw_below_drewN | apply below_drew1) | exact HB.out)⟩
    · replace c4 := Bool.eq_false_iff.mpr c4
      subst c4
      have H1 : (some ((⟨#[]⟩ : ByteArray), 1)) = some (r1, r2) := by rw [if_neg (show ¬ (false = true) by decide)] at H; exact H
      clear H
      have H := H1
      clear H1
      simp only [Option.some.injEq, Prod.mk.injEq] at H
      obtain ⟨rfl, rfl⟩ := H
      go_enter Tryd.func7, Tryd.ntmps7
      go_wp2_with (first | ((with_reducible refine gate_callee (f := 18) rfl ?_); refine goesL_ (some 8) rfl rfl Tryd.func18 (by kernel_rfl) rfl #[.slice A0 l0.length c0] rfl (by (try simp only [List.map_toArray, List.map_cons, List.map_nil]); first | done | rfl | (simp only [List.length_drop, List.length_take]; rfl)) ?_; (with_reducible refine (spec_l12NamesOK.calls k _ _ l0 false _ ?side1 ?side2 A3.out).mono ?_); (case side1 => repeat (first | exact HR0.out | (with_reducible refine Kd.C_alloc ?_ _) | (with_reducible refine Kd.C_drewN ?_ _) | (with_reducible refine Kd.C_drew ?_))); (case side2 => exact HC0.out); rintro e w8 ⟨rfl, hb⟩; refine ⟨_, rfl, ?_⟩; have n0_ := Aside0.mk (below_step (by repeat (first | (with_reducible first | exact HB.out | apply below_alloc | apply pw_below_drewN | apply below_drew1) | exact HB.out)) hb); clear HB; have HB := n0_; clear n0_; (try clear hb); (try clear hb2); (try clear hk); (try clear hi)))
      go_ret2
      exact ⟨by first | rfl | (simp [errW_none, errW_some] <;> rfl) | (simp [*, errW_none, errW_some] <;> rfl), by repeat (first | (with_reducible first | exact HB.out | apply below_alloc | apply pw_below_drewN | apply below_drew1) | exact HB.out)⟩

/-! ### laws_toStringS: function 8 -/
def laws_toStringS.l0 : Nat → List ByteArray → List ByteArray → Int → Option (List ByteArray)
  | 0, _, _, _ => none
  | k + 1, x0, x3, x4 => if x4 < (x0.length : Int) then (if 0 ≤ x4 then (if x4 < (x3.length : Int) then (laws_toStringS.l0 k x0 (x3.set (x4 : Int).toNat (rdOf ByteArray.empty x0 x4)) (wrap64 (x4 + 1))) else (none)) else (none)) else (some x3)
def laws_toStringS.f (k : Nat) (l0 : List ByteArray) : Option (List ByteArray) := if 0 ≤ (l0.length : Int) then (if ((l0.length : Int) : Int).toNat ≤ 17592186044416 then (laws_toStringS.l0 k l0 (List.replicate ((l0.length : Int) : Int).toNat (⟨#[]⟩ : ByteArray)) 0) else (none)) else (none)
theorem laws_toStringS.mono_l : ∀ k, (∀ y0 y1 y2, LeO (laws_toStringS.l0 k y0 y1 y2) (laws_toStringS.l0 (k + 1) y0 y1 y2))
  | 0 => fun _ _ _ r h => by simp [laws_toStringS.l0] at h
  | k + 1 => by
    have ih0 := laws_toStringS.mono_l k
    · intro y0 y1 y2
      unfold laws_toStringS.l0
      repeat' first
      | (with_reducible exact ih0 _ _ _)
      | (with_reducible exact LeO.refl _)
      | (with_reducible exact LeO.none _)
      | (with_reducible refine LeO.ite ?_ ?_)
      | (with_reducible refine LeO.bind ?_ (fun _ => ?_))
      | exact ih0 _ _ _
      | exact LeO.none _
      | refine LeO.ite ?_ ?_
      | refine LeO.bind ?_ (fun _ => ?_)
theorem laws_toStringS.mono : ∀ a0 k, LeO (laws_toStringS.f k a0) (laws_toStringS.f (k + 1) a0) := by
  intro a0 k
  have ih0 := laws_toStringS.mono_l k
  unfold laws_toStringS.f
  repeat' first
      | (with_reducible exact ih0 _ _ _)
      | (with_reducible exact LeO.refl _)
      | (with_reducible exact LeO.none _)
      | (with_reducible refine LeO.ite ?_ ?_)
      | (with_reducible refine LeO.bind ?_ (fun _ => ?_))
      | exact ih0 _ _ _
      | exact LeO.none _
      | refine LeO.ite ?_ ?_
      | refine LeO.bind ?_ (fun _ => ?_)
set_option maxHeartbeats 8000000 in
set_option maxRecDepth 100000 in
theorem laws_toStringS.calls (k : Nat) (A0 : Option Addr) (c0 : Nat) (l0 : List ByteArray) (r : List ByteArray) (w : World) (hr0 : Kd.C Kd.string w A0 l0.length l0) (hc0 : l0.length ≤ c0) (h : laws_toStringS.f k l0 = some r) :
    Calls Tryd.prog 8 #[.slice A0 l0.length c0] w fun e w' => ∃ v0_ : Value, e = .returned (v0_) ∧ Kd.R Kd.string 9 w' w.heap.size (fun _ => True) v0_ r ∧ Below w.heap.size w w' := by
  have HR0 := Aside0.mk hr0
  have HC0 := Aside0.mk hc0
  clear hr0 hc0
  have HB := Aside0.mk (Below.refl w.heap.size w)
  have H : (if 0 ≤ (l0.length : Int) then (if ((l0.length : Int) : Int).toNat ≤ 17592186044416 then (laws_toStringS.l0 k l0 (List.replicate ((l0.length : Int) : Int).toNat (⟨#[]⟩ : ByteArray)) 0) else (none)) else (none)) = some r := h
  clear h
  by_cases c2 : 0 ≤ (l0.length : Int)
  · rw [if_pos c2] at H
    have c2b0 := eq_true c2
    have c2b1 : decide (0 ≤ (l0.length : Int)) = true := decide_eq_true c2
    clear c2
    by_cases c3 : ((l0.length : Int) : Int).toNat ≤ 17592186044416
    · rw [if_pos c3] at H
      have c3b0 := eq_true c3
      have c3b1 : decide (((l0.length : Int) : Int).toNat ≤ 17592186044416) = true := decide_eq_true c3
      clear c3
      obtain ⟨y128, hy128⟩ : ∃ y_ : List ByteArray, y_ = (List.replicate ((l0.length : Int) : Int).toNat (⟨#[]⟩ : ByteArray)) := ⟨_, rfl⟩
      replace H : (laws_toStringS.l0 k l0 y128 0) = some r := by first | (rw [hy128]; with_reducible exact H) | (have H2_ := (Option.bind_some _ _).symm.trans H; rw [hy128]; with_reducible exact H2_) | (have H2_ := (Option.bind_some _ _).symm.trans H; with_reducible exact H2_) | with_reducible exact H | (rw [hy128]; exact H) | exact H
      have Ny128 := Aside0.mk hy128
      clear hy128
      have H' := Aside0.mk H
      clear H
      go_enter Tryd.func8, Tryd.ntmps8
      go_wp2_with (first | ((with_reducible refine gate_dst (N := 7) rfl ?_); refine Kd.R_make Kd.string _ 9 rfl (N := 7) rfl 22 _ _ rfl (l0.length : Int) rfl rfl Tryd.underlying22 (.string ⟨#[]⟩) 16 info9 rfl (by decide) (by omega) (⟨#[]⟩ : ByteArray) (ok := fun _ => True) (okp := fun _ => True) rfl (fun _ hk => hk) trivial (of_decide_eq_true (by first | (with_reducible assumption) | assumption)) (Nat.le_trans (Nat.mul_le_mul_right _ (of_decide_eq_true (by first | (with_reducible assumption) | assumption) : (l0.length : Int).toNat ≤ 17592186044416)) (by omega)) (Below.refl _ _) (Nat.le_refl _) ?_; intro v129 w4 ho5 hb hg_ hnew_; clear hg_ hnew_; (first | rw [← Ny128.out] at ho5 | (simp only [Int.reduceToNat] at ho5; rw [← Ny128.out] at ho5)); have n0_ := Aside0.mk (Kd.R_lower ho5 (below_size (by repeat (first | (with_reducible first | exact HB.out | apply below_alloc | apply pw_below_drewN | apply below_drew1) | exact HB.out)))); have n1_ := Aside0.mk (below_step (by repeat (first | (with_reducible first | exact HB.out | apply below_alloc | apply pw_below_drewN | apply below_drew1) | exact HB.out)) hb); clear HB; have HO130 := n0_; have HB := n1_; clear n0_ n1_; clear hb ho5))
      go_loopg [4] k (fun kq v4 w' => ∃ (x3_1 : List ByteArray) (x4_1 : Int), v4 = .int .i64 x4_1 ∧ Aside0 (laws_toStringS.l0 kq l0 x3_1 x4_1 = some r) ∧ Aside0 (kq ≤ k) ∧ Aside0 (Kd.R Kd.string 9 w' w.heap.size (fun _ => True) v129 x3_1) ∧ Aside0 (Below w.heap.size w w'))
      case atStart => exact ⟨(y128), (0), (by first | rfl | (simp; done) | (simp [*]; done)), H', ⟨Nat.le_refl _⟩, ⟨by (with_reducible repeat (first | apply Kd.R_alloc | apply Kd.R_drewN | apply Kd.R_drew)); exact HO130.out⟩, ⟨by repeat (first | (with_reducible first | exact HB.out | apply below_alloc | apply pw_below_drewN | apply below_drew1) | exact HB.out)⟩⟩
      case round =>
        clear H'
        try clear c2
        try clear c2b0
        try clear c2b1
        try clear p2
        try clear c3
        try clear c3b0
        try clear c3b1
        obtain ⟨x3_1, x4_1, rfl, HA, HK1, HO_3, HB⟩ := hrel
        cases gk with
        | zero => exact absurd HA.out (by simp [laws_toStringS.l0])
        | succ k1 =>
          have H := HA.out
          clear HA
          simp only [laws_toStringS.l0] at H
          by_cases c6 : x4_1 < (l0.length : Int)
          · rw [if_pos c6] at H
            have c6b0 : decide (x4_1 < (l0.length : Int)) = true := decide_eq_true c6
            clear c6
            by_cases c7 : 0 ≤ x4_1
            · rw [if_pos c7] at H
              have c7b0 : decide (0 ≤ x4_1) = true := decide_eq_true c7
              clear c7
              by_cases c8 : x4_1 < (x3_1.length : Int)
              · rw [if_pos c8] at H
                have c8b0 : decide (x4_1 < (x3_1.length : Int)) = true := decide_eq_true c8
                clear c8
                obtain ⟨y132, hy132⟩ : ∃ y_ : List ByteArray, y_ = (x3_1.set (x4_1 : Int).toNat (rdOf ByteArray.empty l0 x4_1)) := ⟨_, rfl⟩
                replace H : (laws_toStringS.l0 k1 l0 y132 (wrap64 (x4_1 + 1))) = some r := by first | (rw [hy132]; with_reducible exact H) | (have H2_ := (Option.bind_some _ _).symm.trans H; rw [hy132]; with_reducible exact H2_) | (have H2_ := (Option.bind_some _ _).symm.trans H; with_reducible exact H2_) | with_reducible exact H | (rw [hy132]; exact H) | exact H
                have Ny132 := Aside0.mk hy132
                clear hy132
                have H' := Aside0.mk H
                clear H
                have p131 : 0 ≤ (x4_1 : Int) := of_decide_eq_true (by first | (with_reducible assumption) | assumption)
                have q131 : x4_1 < (l0.length : Int) := of_decide_eq_true (by first | (with_reducible assumption) | assumption)
                obtain ⟨ad131, e131, hx131_0⟩ := Kd.at_string HR0.out x4_1 p131 q131
                cases e131
                replace hx131_0 := (HB.out.cell (World.block_lt_of_cell? w _ hx131_0)).trans hx131_0
                replace p131 := eq_true p131
                replace q131 := eq_true q131
                have p9 : 0 ≤ (x4_1 : Int) := of_decide_eq_true (by first | (with_reducible assumption) | assumption)
                have q9 : (x4_1 : Int) < ((x3_1.length : Int) : Int) := of_decide_eq_true (by first | (with_reducible assumption) | assumption)
                obtain ⟨go9, co9, eo9, gb9, gl9, cl9, HG9⟩ := Kd.R_form HO_3.out (by omega)
                (first | cases eo9 | (injection eo9 with ea_ en_ ec_; (first | subst ea_ | (injection ea_ with ea_; subst ea_)); subst ec_; clear en_))
                have GB9 := Aside0.mk gb9
                have GG9 := Aside0.mk HG9
                clear gb9 gl9 HG9
                obtain ⟨hx9_0, hf9_0⟩ := Kd.R_celln (⟨#[]⟩ : ByteArray) HO_3.out (x4_1 : Int) p9 q9
                replace p9 := eq_true p9
                replace q9 := eq_true q9
                have HP10 := Kd.R_putg HO_3.out (x4_1 : Int) (rdOf ByteArray.empty l0 x4_1)
                go_wp2_with (first | ((with_reducible refine gate_store (t := 9) (p := 20) rfl ?_); refine store_event (t := 9) (p := 20) (v := ?vo_w11) (w1 := (wr.setCell ⟨go9, (x4_1 : Int).toNat, none⟩ (.string (rdOf ByteArray.empty l0 x4_1)))) ?hg ?ho ?hn ?hr ?_; (case ho => rfl); (case hg => rfl); (case hn => rfl); (case hr => first | (go_simp; done) | (go_simp; rfl)); intro w11 hw; have hg : wr.grownBy w11 (some go9) := (by rw [hw]; exact HP10.2); have hp_ : Kd.R Kd.string 9 w11 w.heap.size (fun _ => True) (.slice (some ⟨go9, 0, none⟩) x3_1.length co9) y132 := (by rw [hw, Ny132.out]; exact HP10.1); clear HP10; have n0_ := Aside0.mk (hp_); have n1_ := Aside0.mk ((by rw [hw]; exact below_set (HB.out) GB9.out : Below w.heap.size w w11)); clear HO_3; clear HB; have HO_3 := n0_; have HB := n1_; clear n0_ n1_; clear hg hw hp_))
                go_roundg k1
                case measure => have := HK1.out; omega
                case rel => exact ⟨(y132), (wrap64 (x4_1 + 1)), (by first | rfl | (simp; done) | (simp [*]; done)), H', ⟨by have := HK1.out; omega⟩, ⟨by (with_reducible repeat (first | apply Kd.R_alloc | apply Kd.R_drewN | apply Kd.R_drew)); exact HO_3.out⟩, ⟨by repeat (first | (with_reducible first | exact HB.out | apply below_alloc | apply pw_below_drewN | apply below_drew1) | exact HB.out)⟩⟩
              · rw [if_neg c8] at H
                exact absurd H (by simp)
            · rw [if_neg c7] at H
              exact absurd H (by simp)
          · rw [if_neg c6] at H
            have c6b0 : decide (x4_1 < (l0.length : Int)) = false := decide_eq_false c6
            clear c6
            obtain rfl := Option.some.inj H
            go_wp2
            go_ret
            exact ⟨_, by first | rfl | (simp [errW_none, errW_some] <;> rfl) | (simp [*, errW_none, errW_some] <;> rfl), by (with_reducible repeat (first | apply Kd.R_alloc | apply Kd.R_drewN | apply Kd.R_drew)); exact HO_3.out, by repeat (first | (with_reducible first | exact HB.out | apply below_alloc | apply pw_below_drewN | apply below_drew1) | exact HB.out)⟩
    · rw [if_neg c3] at H
      exact absurd H (by simp)
  · rw [if_neg c2] at H
    exact absurd H (by simp)

/-! ### given 20: impl.first -/
/-- The code behind the first 'yes'. -/
def firstCode : List (Bool × Int) → Int
  | [] => 0
  | (b, c) :: r => if b = true then c else firstCode r
def anyVals : List (Bool × Int) → List Value
  | [] => []
  | (b, c) :: r => .iface 4 (.bool b) :: .iface 3 (.int .i64 c) :: anyVals r
theorem anyVals_length (l : List (Bool × Int)) : (anyVals l).length = 2 * l.length := by
  induction l with
  | nil => rfl
  | cons p r ih => obtain ⟨b, c⟩ := p; simp only [anyVals, List.length_cons, ih]; omega
theorem anyVals_at (l : List (Bool × Int)) (k : Nat) (b : Bool) (c : Int) (h : l[k]? = some (b, c)) : (anyVals l)[2 * k]? = some (.iface 4 (.bool b)) ∧ (anyVals l)[2 * k + 1]? = some (.iface 3 (.int .i64 c)) := by
  induction l generalizing k with
  | nil => simp at h
  | cons p r ih =>
    obtain ⟨b', c'⟩ := p
    cases k with
    | zero => simp at h; obtain ⟨rfl, rfl⟩ := h; exact ⟨rfl, rfl⟩
    | succ k =>
      have := ih k (by simpa using h)
      rw [show 2 * (k + 1) = (2 * k + 1) + 1 by omega]
      simpa [anyVals] using this
theorem firstCode_yes (l : List (Bool × Int)) (k : Nat) (c : Int) (h : l[k]? = some (true, c)) (h0 : firstCode l = firstCode (l.drop k)) : firstCode l = c := by
  obtain ⟨hk, he⟩ := List.getElem?_eq_some_iff.1 h
  rw [h0, List.drop_eq_getElem_cons hk, he]; simp [firstCode]
theorem firstCode_no (l : List (Bool × Int)) (k : Nat) (c : Int) (h : l[k]? = some (false, c)) (h0 : firstCode l = firstCode (l.drop k)) : firstCode l = firstCode (l.drop (k + 1)) := by
  obtain ⟨hk, he⟩ := List.getElem?_eq_some_iff.1 h
  rw [h0, List.drop_eq_getElem_cons hk, he]; simp [firstCode]
set_option maxHeartbeats 2000000 in
set_option maxRecDepth 100000 in
theorem impl_first.calls (g n : Nat) (l : List (Bool × Int)) (w : World) (hc : ∀ i v, (anyVals l)[i]? = some v → w.cell? ⟨g, i, none⟩ = some v) (hn : 2 * l.length = n) (hb : n ≤ 1000) :
    Calls Tryd.prog 20 #[.slice (some ⟨g, 0, none⟩) n n] w fun e w' => e = .returned (.int .i64 (firstCode l)) ∧ Drawn0 w w' := by
  obtain rfl := hn
  have hl := anyVals_length l
  have h1 : ∀ k b c, l[k]? = some (b, c) → w.cell? ⟨g, 2 * k, none⟩ = some (.iface 4 (.bool b)) ∧ w.cell? ⟨g, 2 * k + 1, none⟩ = some (.iface 3 (.int .i64 c)) := fun k b c h => ⟨hc _ _ (anyVals_at l k b c h).1, hc _ _ (anyVals_at l k b c h).2⟩
  clear hc
  have ta1 : ∀ (v : Value) (W : World), (Instr.typeAssert (.iface 4 v) 20 4 true).run Tryd.prog W = .ok (.tuple #[v, .bool true]) W := fun v W => by rfl
  have ta2 : ∀ (v : Value) (W : World), (Instr.typeAssert (.iface 3 v) 20 3 true).run Tryd.prog W = .ok (.tuple #[v, .bool true]) W := fun v W => by rfl
  go_enter Tryd.func20, Tryd.ntmps20
  go_wp2
  go_loopg [3] l.length (fun gk v3 w' => ∃ k : Nat, k ≤ l.length ∧ l.length - k ≤ gk ∧ v3 = .int .i64 (2 * k : Nat) ∧ Aside0 (firstCode l = firstCode (l.drop k)) ∧ Drawn0 w w')
  case atStart => exact ⟨0, Nat.zero_le _, by omega, rfl, ⟨rfl⟩, Drawn0.refl _⟩
  case round =>
    obtain ⟨k, hk, hg, rfl, HA, ⟨m, rfl⟩⟩ := hrel
    by_cases hlt : k < l.length
    · obtain ⟨⟨b, c⟩, hp⟩ : ∃ p, l[k]? = some p := ⟨_, List.getElem?_eq_getElem hlt⟩
      obtain ⟨e1, e2⟩ := h1 k b c hp
      have t1 : ((2 * k : Nat) : Int) + 1 < (2 * l.length : Nat) := by omega
      have H := Aside0.mk hp
      clear hp h1
      cases b with
      | true =>
        go_wp2
        go_ret
        exact ⟨by rw [firstCode_yes l k c H.out HA.out]; rfl, by repeat (first | exact Drawn0.refl _ | apply Drawn0.step)⟩
      | false =>
        have HN := Aside0.mk (firstCode_no l k c H.out HA.out)
        clear HA H
        go_wp2
        go_roundg (l.length - (k + 1))
        case measure => omega
        case rel => exact ⟨k + 1, by omega, by omega, by go_num, HN, by repeat (first | exact Drawn0.refl _ | apply Drawn0.step)⟩
    · have HK : k = l.length := by omega
      have t1 : ¬ ((2 * k : Nat) : Int) + 1 < (2 * l.length : Nat) := by omega
      go_wp2
      go_ret
      exact ⟨by rw [HA.out, HK, List.drop_length]; rfl, by repeat (first | exact Drawn0.refl _ | apply Drawn0.step)⟩

/-! ### impl_isLongList_string: function 21 -/
def impl_isLongList_string.f (l0 : List ByteArray) : Option (Bool) := some (decide ((l0.length : Int) > 4096))
set_option maxHeartbeats 8000000 in
set_option maxRecDepth 100000 in
theorem impl_isLongList_string.calls (A0 : Option Addr) (c0 : Nat) (l0 : List ByteArray) (r : Bool) (w : World) (hr0 : Kd.C Kd.string w A0 l0.length l0) (hc0 : l0.length ≤ c0) (h : impl_isLongList_string.f l0 = some r) :
    Calls Tryd.prog 21 #[.slice A0 l0.length c0] w fun e w' => e = .returned (.bool r) ∧ Drawn0 w w' := by
  have HR0 := Aside0.mk hr0
  have HC0 := Aside0.mk hc0
  clear hr0 hc0
  have H : (some (decide ((l0.length : Int) > 4096))) = some r := h
  clear h
  obtain rfl := Option.some.inj H
  go_enter Tryd.func21, Tryd.ntmps21
  go_wp2
  go_ret
  exact ⟨by first | rfl | (simp; done) | (simp [*]; done), by repeat (first | exact Drawn0.refl _ | apply Drawn0.step)⟩

-- NOT PRINTED: function 35 (slices_Clone_string_string)










-- NOT PRINTED: function 111 (slices_xorshift_Next)












-- NOT PRINTED: function 37 (slices_Compact_string_string)

/-! ### given 94: slices.IndexFunc[[]string,string] -/
set_option maxHeartbeats 4000000 in
set_option maxRecDepth 100000 in
theorem IndexFunc_str.calls (A0 : Option Addr) (c0 : Nat) (l0 : List ByteArray) (g : Nat) (lb : Array Value) (p : ByteArray → Bool) (w : World) (eg : ∀ args w, (callFunc g args).run Tryd.prog w = .ok (.enter g args) w)
    (hr0 : Kd.C Kd.string w A0 l0.length l0) (hp : PredK Tryd.prog g lb Kd.string (fun c => c.headD default) p l0 w) :
    Calls Tryd.prog 94 #[.slice A0 l0.length c0, .func (.func g) #[] lb] w fun e w' => e = .returned (.int .i64 (idxOf p l0)) ∧ Below w.heap.size w w' := by
  have hl : l0.length ≤ 9223372036854775807 := hr0.2.1
  have HR0 := Aside0.mk hr0
  have HP := Aside0.mk hp
  clear hr0 hp
  go_enter Tryd.func94, Tryd.ntmps94
  go_wp2
  go_loopg [5, 8] l0.length (fun gk v5 v8 wr => ∃ k : Nat, k ≤ l0.length ∧ l0.length - k ≤ gk ∧ v8 = .int .i64 k ∧ Aside0 (Below w.heap.size w wr) ∧ Aside0 (∀ y ∈ l0.take k, p y = false))
  case atStart => exact ⟨0, Nat.zero_le _, by omega, rfl, ⟨Below.refl _ w⟩, ⟨by simp⟩⟩
  case round =>
    obtain ⟨k, hk, hg, rfl, HB, HA⟩ := hrel
    by_cases hlt : k < l0.length
    · have hltz : (k : Int) < (l0.length : Int) := by omega
      have h0z : (0 : Int) ≤ (k : Int) := by omega
      obtain ⟨x, hxx⟩ : ∃ x, l0[k]? = some x := ⟨_, List.getElem?_eq_getElem hlt⟩
      have HX := Aside0.mk hxx
      obtain ⟨ad, e, hx⟩ := Kd.at_string (Kd.C_below HR0.out HB.out) (k : Int) h0z hltz
      cases e
      have ex : rdOf ByteArray.empty l0 (k : Int) = x := by simp [rdOf, List.getD, hxx]
      rw [ex, Int.toNat_natCast] at hx
      clear hxx ex
      have hcall := HP.out wr x [.string x] (List.mem_of_getElem? HX.out) HB.out rfl
      replace hcall : Calls Tryd.prog g (#[.string x] ++ lb) wr _ := hcall
      cases hq : p x with
      | true =>
        have HQ := Aside0.mk hq
        rw [hq] at hcall
        clear hq
        go_wp2_with (go_at_fn g; refine hcall.mono ?_; rintro e w' ⟨rfl, hb'⟩)
        go_ret
        exact ⟨by rw [idxOf_hit p l0 k _ HX.out HQ.out HA.out]; rfl, HB.out.trans (hb'.mono HB.out.size)⟩
      | false =>
        have HQ := Aside0.mk hq
        rw [hq] at hcall
        clear hq
        go_wp2_with (go_at_fn g; refine hcall.mono ?_; rintro e w' ⟨rfl, hb'⟩)
        go_roundg (l0.length - (k + 1))
        case measure => omega
        case rel => exact ⟨k + 1, by omega, by omega, by go_num, ⟨HB.out.trans (hb'.mono HB.out.size)⟩, ⟨take_snoc_all HX.out HQ.out HA.out⟩⟩
    · have hltz : ¬ (k : Int) < (l0.length : Int) := by omega
      have hk2 : k = l0.length := by omega
      subst hk2
      go_wp2
      go_ret
      exact ⟨by rw [(idxOf_neg p l0).2 (by simpa using HA.out)]; rfl, HB.out⟩

/-! ### given 62: slices.ContainsFunc[[]string,string] -/
set_option maxHeartbeats 2000000 in
theorem ContainsFunc_str.calls (A0 : Option Addr) (c0 : Nat) (l0 : List ByteArray) (g : Nat) (lb : Array Value) (p : ByteArray → Bool) (w : World) (eg : ∀ args w, (callFunc g args).run Tryd.prog w = .ok (.enter g args) w)
    (hr0 : Kd.C Kd.string w A0 l0.length l0) (hp : PredK Tryd.prog g lb Kd.string (fun c => c.headD default) p l0 w) :
    Calls Tryd.prog 62 #[.slice A0 l0.length c0, .func (.func g) #[] lb] w fun e w' => e = .returned (.bool (l0.any p)) ∧ Below w.heap.size w w' := by
  have hcon := IndexFunc_str.calls A0 c0 l0 g lb p w eg hr0 hp
  have hr := idxOf_any p l0
  generalize idxOf p l0 = r at hcon hr
  generalize l0.any p = q at hr
  have HQ := Aside0.mk hr
  clear hr hp hr0 eg
  go_enter Tryd.func62, Tryd.ntmps62
  go_wp2_with (go_at_call 94; refine hcon.mono ?_; rintro e w' ⟨rfl, hb'⟩)
  go_ret
  exact ⟨by rw [← HQ.out]; rfl, hb'⟩

/-! ### given 38: impl.all[string] -/
set_option maxHeartbeats 2000000 in
theorem all_str_lit.calls (g : Nat) (lb : Array Value) (p : ByteArray → Bool) (l : List ByteArray) (w : World) (B : Nat) (eg : ∀ args w, (callFunc g args).run Tryd.prog w = .ok (.enter g args) w) (hB : B < w.heap.size)
    (hc : w.cell? ⟨B, 0, none⟩ = some (.func (.func g) #[] lb)) (hp : PredK Tryd.prog g lb Kd.string (fun c => c.headD default) p l w) : PredK Tryd.prog 63 #[.pointer (some ⟨B, 0, none⟩)] Kd.string (fun c => c.headD default) (fun x => !p x) l w := by
  intro W x c hm hb hk
  have hcell : W.cell? ⟨B, 0, none⟩ = some (.func (.func g) #[] lb) := (hb.cell (p := ⟨B, 0, none⟩) hB).trans hc
  have hBW : B < W.heap.size := Nat.lt_of_lt_of_le hB hb.size
  have hcall := hp W x c hm hb hk
  obtain rfl : c = [.string x] := hk
  replace hcall : Calls Tryd.prog g (#[.string x] ++ lb) W _ := hcall
  show Calls Tryd.prog 63 #[.string x, .pointer (some ⟨B, 0, none⟩)] W _
  clear hp hc hb
  obtain ⟨q, hq⟩ : ∃ q, p x = q := ⟨_, rfl⟩
  rw [hq] at hcall
  have HQ := Aside0.mk hq
  clear hq
  go_enter Tryd.func63, Tryd.ntmps63
  go_wp2_with (go_at_fn g; refine hcall.mono ?_; rintro e w' ⟨rfl, hb'⟩)
  go_ret
  exact ⟨by show _ = Ending.returned (.bool (!p _)); rw [HQ.out]; rfl, hb'⟩
set_option maxHeartbeats 2000000 in
theorem all_str.calls (A0 : Option Addr) (c0 : Nat) (l0 : List ByteArray) (g : Nat) (lb : Array Value) (p : ByteArray → Bool) (w : World) (eg : ∀ args w, (callFunc g args).run Tryd.prog w = .ok (.enter g args) w)
    (hr0 : Kd.C Kd.string w A0 l0.length l0) (hp : PredK Tryd.prog g lb Kd.string (fun c => c.headD default) p l0 w) :
    Calls Tryd.prog 38 #[.slice A0 l0.length c0, .func (.func g) #[] lb] w fun e w' => e = .returned (.bool (l0.all p)) ∧ Below w.heap.size w w' := by
  have h1 := fun o : Obj => hp.later (below_alloc (Below.refl _ w) o)
  have e1 : ∀ args w, (callFunc 63 args).run Tryd.prog w = .ok (.enter 63 args) w := enters_of Tryd.func63 (by kernel_rfl) rfl
  have hcon := fun (o : Obj) (ho : (w.alloc o).cell? ⟨w.heap.size, 0, none⟩ = some (.func (.func g) #[] lb)) => ContainsFunc_str.calls A0 c0 l0 63 #[.pointer (some ⟨w.heap.size, 0, none⟩)] (fun x => !p x) (w.alloc o) e1 (Kd.C_alloc hr0 o) (all_str_lit.calls g lb p l0 (w.alloc o) w.heap.size eg (by simp) ho (h1 o))
  have hn := not_any_not p l0
  generalize (l0.any fun x => !p x) = q at hcon hn
  generalize l0.all p = q' at hn
  subst hn
  clear hp hr0 eg h1 e1
  go_enter Tryd.func38, Tryd.ntmps38
  go_wp2_with (go_at_call 62; refine (hcon _ (by simp)).mono ?_; rintro e w' ⟨rfl, hb'⟩)
  go_ret
  exact ⟨rfl, (below_alloc (Below.refl _ _) _).trans (hb'.mono (by simp))⟩

/-! ### given 22: impl.areLayers -/
/-! Names. -/
def letc (c : UInt8) : Bool := decide (97 ≤ c.toNat ∧ c.toNat ≤ 122) || (decide (65 ≤ c.toNat ∧ c.toNat ≤ 90) || decide (c.toNat = 95))
def digc (c : UInt8) : Bool := decide (48 ≤ c.toNat ∧ c.toNat ≤ 57)
def nameFrom : Bool → List UInt8 → Bool
  | _, [] => true
  | b, c :: r => (letc c || (!b && digc c)) && nameFrom false r
def nameB (x : ByteArray) : Bool := nameFrom true x.data.toList && decide (1 ≤ x.size ∧ x.size ≤ 12)
theorem nameOK_l0 (x : ByteArray) (hx : x.size ≤ 1000000000) (d : Nat) : ∀ (i k : Nat), i ≤ x.size → x.size - i = d → d < k →
    impl_NameOK.l0 k x (x.size : Int) (i : Int) = some (nameFrom (i == 0) (x.data.toList.drop i) && decide (1 ≤ x.size ∧ x.size ≤ 12)) := by
  have hlen := size_data x
  induction d with
  | zero =>
    intro i k hi hd hk
    obtain ⟨k, rfl⟩ : ∃ m, k = m + 1 := ⟨k - 1, by omega⟩
    have e : i = x.size := by omega
    subst e
    rw [List.drop_of_length_le (by omega)]
    simp only [impl_NameOK.l0, impl_within.f]
    rw [if_neg (by omega)]
    by_cases h1 : (1 : Int) ≤ (x.size : Int)
    · by_cases h2 : (x.size : Int) ≤ 12
      · have h3 : 1 ≤ x.size ∧ x.size ≤ 12 := by omega
        simp [h1, h2, h3, nameFrom]
      · have h3 : ¬ (1 ≤ x.size ∧ x.size ≤ 12) := by omega
        simp [h1, h2, h3, nameFrom]
    · have h3 : ¬ (1 ≤ x.size ∧ x.size ≤ 12) := by omega
      simp [h1, h3, nameFrom]
  | succ d ih =>
    intro i k hi hd hk
    obtain ⟨k, rfl⟩ : ∃ m, k = m + 1 := ⟨k - 1, by omega⟩
    have hlt : i < x.size := by omega
    have ih := ih (i + 1) k (by omega) (by omega) (by omega)
    rw [List.drop_eq_getElem_cons (by omega)]
    have hb := bt_nat x i hlt
    generalize x.data.toList[i]'(by omega) = c at hb
    have hc := c.toNat_lt
    simp only [impl_NameOK.l0, hb]
    rw [if_pos (by omega), if_pos (by omega), if_pos (by omega), wrap64_of (by omega) (by omega)]
    rw [show ((i : Int) + 1) = ((i + 1 : Nat) : Int) by omega, ih]
    have e1 : ((i + 1 == 0) : Bool) = false := by simp
    have e2 : ((i == 0) : Bool) = decide ((i : Int) = 0) := by by_cases h : i = 0 <;> simp [h]
    rw [e1, e2]
    simp only [nameFrom, letc, digc]
    have g1 : ((c.toNat : Int) ≥ 97) = (97 ≤ c.toNat) := propext (by omega)
    have g2 : ((c.toNat : Int) ≤ 122) = (c.toNat ≤ 122) := propext (by omega)
    have g3 : ((c.toNat : Int) ≥ 65) = (65 ≤ c.toNat) := propext (by omega)
    have g4 : ((c.toNat : Int) ≤ 90) = (c.toNat ≤ 90) := propext (by omega)
    have g5 : ((c.toNat : Int) = 95) = (c.toNat = 95) := propext (by omega)
    have g6 : ((c.toNat : Int) < 48) = ¬ (48 ≤ c.toNat) := propext (by omega)
    have g7 : ((c.toNat : Int) > 57) = ¬ (c.toNat ≤ 57) := propext (by omega)
    have g8 : ((i : Int) = 0) = (i = 0) := propext (by omega)
    simp only [g1, g2, g3, g4, g5, g6, g7, g8, Bool.and_assoc]
    clear g1 g2 g3 g4 g5 g6 g7 g8 e1 e2 ih hb
    generalize (nameFrom false (List.drop (i + 1) x.data.toList) && decide (1 ≤ x.size ∧ x.size ≤ 12)) = q
    by_cases a1 : 97 ≤ c.toNat <;> by_cases a2 : c.toNat ≤ 122 <;> by_cases a3 : 65 ≤ c.toNat <;> by_cases a4 : c.toNat ≤ 90 <;> by_cases a5 : c.toNat = 95 <;> by_cases a6 : 48 ≤ c.toNat <;> by_cases a7 : c.toNat ≤ 57 <;> by_cases a8 : i = 0 <;> first | omega | (simp only [a1, a2, a3, a4, a5, a6, a7, a8]; simp)
theorem nameOK_f (x : ByteArray) (hx : x.size ≤ 1000000000) : impl_NameOK.f (x.size + 1) x = some (nameB x) := by
  have := nameOK_l0 x hx x.size 0 (x.size + 1) (by omega) (by omega) (by omega)
  simpa [impl_NameOK.f, nameB] using this
/-- A layer's file. -/
def okName (t : ByteArray) : Bool := nameB t && (t.toList != ([77, 65, 78, 73, 70, 69, 83, 84] : List UInt8) && (t.toList != ([116, 109, 112] : List UInt8) && t.toList != ([109, 116, 109, 112] : List UInt8)))
set_option maxHeartbeats 4000000 in
theorem areLayers_lit.calls (l : List ByteArray) (w : World) (hl : ∀ x ∈ l, x.size ≤ 1000000000) : PredK Tryd.prog 39 #[] Kd.string (fun c => c.headD default) okName l w := by
  intro W x c hm hb hk
  obtain rfl : c = [.string x] := hk
  show Calls Tryd.prog 39 #[.string x] W _
  have hq := fun W1 => impl_NameOK.calls (x.size + 1) x (nameB x) W1 (nameOK_f x (hl x hm))
  clear hb hm hl
  unfold okName
  generalize nameB x = q at hq ⊢
  cases q with
  | false =>
    go_enter Tryd.func39, Tryd.ntmps39
    go_wp2_with (go_at_call 40; refine (hq _).mono ?_; rintro e w1 ⟨rfl, ⟨n1, rfl⟩⟩)
    go_ret
    exact ⟨rfl, (Drawn0.below ⟨_, rfl⟩)⟩
  | true =>
    by_cases c1 : x.toList = ([77, 65, 78, 73, 70, 69, 83, 84] : List UInt8)
    · have c1b0 := beq_iff_eq.mpr c1
      have c1b1 := bne_eq_false_iff_eq.mpr c1
      clear c1
      rw [c1b1]
      go_enter Tryd.func39, Tryd.ntmps39
      go_wp2_with (go_at_call 40; refine (hq _).mono ?_; rintro e w1 ⟨rfl, ⟨n1, rfl⟩⟩)
      go_ret
      exact ⟨rfl, (Drawn0.below ⟨_, rfl⟩)⟩
    · have c1b0 := beq_eq_false_iff_ne.mpr c1
      have c1b1 := bne_iff_ne.mpr c1
      clear c1
      rw [c1b1]
      by_cases c2 : x.toList = ([116, 109, 112] : List UInt8)
      · have c2b0 := beq_iff_eq.mpr c2
        have c2b1 := bne_eq_false_iff_eq.mpr c2
        clear c2
        rw [c2b1]
        go_enter Tryd.func39, Tryd.ntmps39
        go_wp2_with (go_at_call 40; refine (hq _).mono ?_; rintro e w1 ⟨rfl, ⟨n1, rfl⟩⟩)
        go_ret
        exact ⟨rfl, (Drawn0.below ⟨_, rfl⟩)⟩
      · have c2b0 := beq_eq_false_iff_ne.mpr c2
        have c2b1 := bne_iff_ne.mpr c2
        clear c2
        rw [c2b1]
        obtain ⟨q3, hq3⟩ : ∃ q3, (x.toList != ([109, 116, 109, 112] : List UInt8)) = q3 := ⟨_, rfl⟩
        rw [hq3]
        go_enter Tryd.func39, Tryd.ntmps39
        go_wp2_with (go_at_call 40; refine (hq _).mono ?_; rintro e w1 ⟨rfl, ⟨n1, rfl⟩⟩)
        go_ret
        exact ⟨by rw [← hq3]; rfl, (Drawn0.below ⟨_, rfl⟩)⟩
open Go.Shelf Go.Sort
/-- The names, sorted, and each once. -/
def oncesB (ss : List (List UInt8)) : List (List UInt8) := Lib.compact (ss.mergeSort fun x y => decide (x ≤ y))
def layersB (l : List ByteArray) : Bool := decide (l.length ≤ 5) && (decide ((oncesB (l.map (·.data.toList))).length = l.length) && l.all okName)
theorem sortQ (blk off cap : Nat) (ss : List (List UInt8)) (w : World) (hH : Holds encStr w blk off ss.toArray) (hblk : blk < w.heap.size) (hsz : ss.length < 4611686018427387904) :
    Calls Tryd.prog 36 #[.slice (some ⟨blk, off, none⟩) ss.length cap] w fun e w' =>
      e = .returned (.tuple #[]) ∧ ∃ n os, w' = grow (putRow encStr (Sort.ahead w n) blk off (ss.mergeSort fun x y => decide (x ≤ y)).toArray) os :=
  AnyM.slices_Sort_string Tryd.laysSortQ blk off cap ss w hH hblk hsz
theorem sortQ_none (p : Option Addr) (cap : Nat) (w : World) :
    Calls Tryd.prog 36 #[.slice p 0 cap] w fun e w' => e = .returned (.tuple #[]) ∧ w' = w :=
  AnyM.slices_Sort_string_none Tryd.laysSortQ p cap w
/-- What slices.Clone leaves: a row of the call's own. -/
def OwnRowQ (w : World) (g n cap : Nat) (ss : List (List UInt8)) (w1 : World) : Prop :=
  w1.ownsRow w.heap.size 9 1 (.slice (some ⟨g, 0, none⟩) n cap) n (ss.map encStr) ∧ Below w.heap.size w w1 ∧ w.heap.size ≤ g ∧ g < w1.heap.size ∧ n ≤ cap ∧ cap ≤ maxLen ∧ ss.length = n ∧ Holds encStr w1 g 0 ss.toArray
theorem compactQ {w w1 w2 : World} {g n cap : Nat} {ss : List (List UInt8)} (X : OwnRowQ w g n cap ss w1) (hn : n ≤ 1048576) (h2 : ∃ nn os, w2 = grow (putRow encStr (Sort.ahead w1 nn) g 0 (ss.mergeSort fun x y => decide (x ≤ y)).toArray) os) :
    Calls Tryd.prog 37 #[.slice (some ⟨g, 0, none⟩) n cap] w2 fun e w' => e = .returned (.slice (some ⟨g, 0, none⟩) (oncesB ss).length cap) ∧ Below w.heap.size w w' := by
  obtain ⟨nn, os, rfl⟩ := h2
  obtain ⟨hown, hbel, hbg, hgl, hncap, hcm, hlen, hH⟩ := X
  have hl2 : (ss.mergeSort fun x y => decide (x ≤ y)).length = n := by rw [List.length_mergeSort]; exact hlen
  have hH2 : Holds encStr (grow (putRow encStr (Sort.ahead w1 nn) g 0 (ss.mergeSort fun x y => decide (x ≤ y)).toArray) os) g 0 (ss.mergeSort fun x y => decide (x ≤ y)).toArray :=
    holds_grow encStr _ os g 0 _ (by simpa [putRow, mapBlock, Sort.ahead] using hgl) (holds_putRow encStr _ g 0 _ _ (holds_ahead encStr w1 nn g 0 _ hH) (by simp))
  have hcomp := Tryd.slices_Compact_string g 0 cap (ss.mergeSort fun x y => decide (x ≤ y)) _ hH2 (by omega) (by omega)
  rw [hl2] at hcomp
  refine hcomp.mono ?_
  rintro e w3 ⟨rfl, q, rfl⟩
  exact ⟨rfl, Lib.below_putRow (hbel.grown (grownBy_sorted _) hbel.size (fun j hj => by cases hj; exact hbg)) hbg⟩
set_option maxHeartbeats 4000000 in
set_option maxRecDepth 100000 in
theorem areLayers_tail (A0 : Option Addr) (c0 : Nat) (l : List ByteArray) (w : World) (hr0 : Kd.C Kd.string w A0 l.length l) (hn : l.length ≤ 1048576) (hl : ∀ x ∈ l, x.size ≤ 1000000000)
    (hclone : Calls Tryd.prog 35 #[.slice A0 l.length c0] w fun e w' => ∃ v', e = .returned v' ∧ w'.ownsRow w.heap.size 9 1 v' l.length ((l.map (·.data.toList)).map encStr) ∧ v' ≠ .slice none 0 0 ∧ Below w.heap.size w w') :
    Calls Tryd.prog 22 #[.slice A0 l.length c0] w fun e w' => e = .returned (.bool (layersB l)) ∧ Below w.heap.size w w' := by
  have eg : ∀ args w, (callFunc 39 args).run Tryd.prog w = .ok (.enter 39 args) w := enters_of Tryd.func39 (by kernel_rfl) rfl
  have hall := fun W (hb : Below w.heap.size w W) => (all_str.calls A0 c0 l 39 #[] okName W eg (Kd.C_below hr0 hb) ((areLayers_lit.calls l w hl).later hb)).mono fun e w' h => (show e = .returned (.bool (l.all okName)) ∧ Below w.heap.size w w' from ⟨h.1, below_step hb h.2⟩)
  unfold layersB
  have hlen0 : (l.map (·.data.toList)).length = l.length := by rw [List.length_map]
  generalize l.map (·.data.toList) = ss at hclone hlen0 ⊢
  generalize l.all okName = q at hall ⊢
  clear eg hr0 hl
  generalize l.length = n at hclone hn hlen0 hall ⊢
  have HALL := Aside0.mk hall
  clear hall
  have HS := Aside0.mk hlen0
  clear hlen0
  by_cases c1 : n ≤ 5
  · have c1b0 : decide ((n : Int) ≤ 5) = true := decide_eq_true (by omega)
    have d1 : decide (n ≤ 5) = true := decide_eq_true c1
    rw [d1]
    clear c1 d1
    obtain ⟨m, hm⟩ : ∃ m, (oncesB ss).length = m := ⟨_, rfl⟩
    rw [hm]
    have HM := Aside0.mk hm
    clear hm
    by_cases c2 : m = n
    · have c2b0 : ((m : Int) == (n : Int)) = true := beq_iff_eq.mpr (by omega)
      have d2 : decide (m = n) = true := decide_eq_true c2
      rw [d2]
      clear c2 d2
      have HNN := Aside0.mk hn
      clear hn
      go_enter Tryd.func22, Tryd.ntmps22
      go_wp2_with (first
        | (go_at_call 35; refine hclone.mono ?_; rintro e w1 ⟨v1, rfl, hown, hnil, hbel⟩
           obtain ⟨g, cap, rfl, hbg, hgl, hncap, hcm, hlen, hH⟩ := Lib.holds_of_ownsRow hown hnil
           have hsort := sortQ g 0 cap ss w1 hH hgl (by have := HNN.out; omega)
           rw [hlen] at hsort
           have X : Aside0 (OwnRowQ w g n cap ss w1) := ⟨⟨hown, hbel, hbg, hgl, hncap, hcm, hlen, hH⟩⟩
           clear hown hbel hH hnil hbg hgl hncap hcm hlen)
        | (go_at_call 36; refine hsort.mono ?_; rintro e w2 ⟨rfl, hw2⟩
           have hcomp := compactQ X.out HNN.out hw2
           rw [HM.out] at hcomp
           clear hw2 hsort)
        | (go_at_call 37; refine hcomp.mono ?_; rintro e w3 ⟨rfl, hb3⟩
           have HB := Aside0.mk hb3
           clear hb3 hcomp)
        | (go_at_call 38; refine (HALL.out _ HB.out).mono ?_; rintro e w4 ⟨rfl, hb4⟩))
      go_ret
      exact ⟨rfl, hb4⟩
    · have c2b0 : ((m : Int) == (n : Int)) = false := beq_eq_false_iff_ne.mpr (by omega)
      have d2 : decide (m = n) = false := decide_eq_false c2
      rw [d2]
      clear c2 d2
      have HNN := Aside0.mk hn
      clear hn
      go_enter Tryd.func22, Tryd.ntmps22
      go_wp2_with (first
        | (go_at_call 35; refine hclone.mono ?_; rintro e w1 ⟨v1, rfl, hown, hnil, hbel⟩
           obtain ⟨g, cap, rfl, hbg, hgl, hncap, hcm, hlen, hH⟩ := Lib.holds_of_ownsRow hown hnil
           have hsort := sortQ g 0 cap ss w1 hH hgl (by have := HNN.out; omega)
           rw [hlen] at hsort
           have X : Aside0 (OwnRowQ w g n cap ss w1) := ⟨⟨hown, hbel, hbg, hgl, hncap, hcm, hlen, hH⟩⟩
           clear hown hbel hH hnil hbg hgl hncap hcm hlen)
        | (go_at_call 36; refine hsort.mono ?_; rintro e w2 ⟨rfl, hw2⟩
           have hcomp := compactQ X.out HNN.out hw2
           rw [HM.out] at hcomp
           clear hw2 hsort)
        | (go_at_call 37; refine hcomp.mono ?_; rintro e w3 ⟨rfl, hb3⟩
           have HB := Aside0.mk hb3
           clear hb3 hcomp))
      go_ret
      exact ⟨rfl, HB.out⟩
  · have c1b0 : decide ((n : Int) ≤ 5) = false := decide_eq_false (by omega)
    have d1 : decide (n ≤ 5) = false := decide_eq_false c1
    rw [d1]
    clear c1 d1
    have HNN := Aside0.mk hn
    clear hn
    go_enter Tryd.func22, Tryd.ntmps22
    go_wp2_with (first
      | (go_at_call 35; refine hclone.mono ?_; rintro e w1 ⟨v1, rfl, hown, hnil, hbel⟩
         obtain ⟨g, cap, rfl, hbg, hgl, hncap, hcm, hlen, hH⟩ := Lib.holds_of_ownsRow hown hnil
         have hsort := sortQ g 0 cap ss w1 hH hgl (by have := HNN.out; omega)
         rw [hlen] at hsort
         have X : Aside0 (OwnRowQ w g n cap ss w1) := ⟨⟨hown, hbel, hbg, hgl, hncap, hcm, hlen, hH⟩⟩
         clear hown hbel hH hnil hbg hgl hncap hcm hlen)
      | (go_at_call 36; refine hsort.mono ?_; rintro e w2 ⟨rfl, nn, os, rfl⟩
         have HB : Aside0 (Below w.heap.size w _) := ⟨X.out.2.1.grown (grownBy_sorted (n := nn) (os := os) (ss.mergeSort fun x y => decide (x ≤ y)).toArray) X.out.2.1.size (fun j hj => by cases hj; exact X.out.2.2.1)⟩
         clear hsort))
    go_ret
    exact ⟨rfl, HB.out⟩
set_option maxHeartbeats 4000000 in
set_option maxRecDepth 100000 in
theorem areLayers_nil (c0 : Nat) (w : World) :
    Calls Tryd.prog 22 #[.slice none 0 c0] w fun e w' => e = .returned (.bool true) ∧ Below w.heap.size w w' := by
  have eg : ∀ args w, (callFunc 39 args).run Tryd.prog w = .ok (.enter 39 args) w := enters_of Tryd.func39 (by kernel_rfl) rfl
  have hall := fun (c : Nat) (W : World) => all_str.calls none c [] 39 #[] okName W eg (Kd.C_nil Kd.string W) (areLayers_lit.calls [] W (fun x h => by cases h))
  clear eg
  go_enter Tryd.func22, Tryd.ntmps22
  go_wp2_with (first
    | (go_at_call 35; refine (Tryd.slices_Clone_string_nil _ _ _).mono ?_; rintro e w1 ⟨rfl, rfl⟩)
    | (go_at_call 36; refine (sortQ_none _ _ _).mono ?_; rintro e w1 ⟨rfl, rfl⟩)
    | (go_at_call 37; refine (Tryd.slices_Compact_string_empty _ _ _).mono ?_; rintro e w1 ⟨rfl, rfl⟩)
    | (go_at_call 38; refine (hall _ _).mono ?_; rintro e w4 ⟨rfl, hb4⟩))
  go_ret
  exact ⟨rfl, hb4⟩
theorem encStr_of (l : List ByteArray) : (l.map (·.data.toList)).map encStr = l.map Value.string := by
  rw [List.map_map]; exact List.map_congr_left fun x _ => by simp [encStr]
def impl_areLayers.f (l0 : List ByteArray) : Option (Bool) := if l0.length ≤ 1048576 ∧ l0.all (fun x => decide (x.size ≤ 1000000000)) = true then some (layersB l0) else none
theorem impl_areLayers.calls (A0 : Option Addr) (c0 : Nat) (l0 : List ByteArray) (r : Bool) (w : World) (hr0 : Kd.C Kd.string w A0 l0.length l0) (hc0 : l0.length ≤ c0) (h : impl_areLayers.f l0 = some r) :
    Calls Tryd.prog 22 #[.slice A0 l0.length c0] w fun e w' => e = .returned (.bool r) ∧ Below w.heap.size w w' := by
  unfold impl_areLayers.f at h
  split at h
  · rename_i hc
    obtain rfl := Option.some.inj h
    have hl : ∀ x ∈ l0, x.size ≤ 1000000000 := fun x hx => by simpa using List.all_eq_true.1 hc.2 x hx
    cases l0 with
    | nil =>
      cases A0 with
      | none =>
        have e0 : layersB [] = true := by
          have e1 : Lib.compact ([] : List (List UInt8)) = [] := List.eq_nil_of_length_eq_zero (Nat.le_zero.1 (Lib.compact_length_le []))
          simp [layersB, oncesB, e1]
        rw [e0]; exact areLayers_nil c0 w
      | some ad =>
        refine areLayers_tail (some ad) c0 [] w hr0 (by simp) hl ((Tryd.slices_Clone_string_zero ad c0 w).mono ?_)
        rintro e w' ⟨v', he, ho, hv, hb⟩
        exact ⟨v', he, ho, hv, hb⟩
    | cons x t =>
      obtain ⟨ad, rfl, h0⟩ := Kd.at_string hr0 0 (by omega) (by simp)
      have hsp : ad.spot = none := by simpa [Addr.add] using World.cell?_spot h0
      obtain ⟨b, off, sp⟩ := ad
      simp only at hsp
      subst hsp
      refine areLayers_tail (some ⟨b, off, none⟩) c0 (x :: t) w hr0 hc.1 hl ((Tryd.slices_Clone_string b off (x :: t).length c0 (x :: t) w (Nat.le_refl _) (by have := hc.1; omega) ?_).mono ?_)
      · intro j hj
        obtain ⟨ad2, he, hx⟩ := Kd.at_string hr0 (j : Int) (by omega) (by omega)
        obtain rfl := Option.some.inj he
        have e1 : (⟨b, off, none⟩ : Addr).add (j : Int).toNat = ⟨b, off + j, none⟩ := by
          rw [Int.toNat_natCast]; unfold Addr.add; split
          · rename_i h0; subst h0; rfl
          · rfl
        rw [e1] at hx
        exact hx
      · rintro e w' ⟨v', he, ho, hv, hb⟩
        refine ⟨v', he, ?_, hv, hb⟩
        rw [encStr_of]
        rwa [List.take_length] at ho
  · cases h











-- NOT PRINTED: function 95 (strconv_FormatInt)

-- NOT PRINTED: function 65 (strconv_Itoa_65)

/-! ### given 41: strconv.Itoa -/
def strconv_Itoa_41.f (a0 : Int) : Option (ByteArray) := if -9223372036854775808 ≤ a0 ∧ a0 ≤ 9223372036854775807 then some ⟨(Lib.itoa a0).toArray⟩ else none
theorem strconv_Itoa_41.calls (a0 : Int) (r : ByteArray) (w : World) (h : strconv_Itoa_41.f a0 = some r) (htab : TabW w) :
    Calls Tryd.prog 41 #[.int .i64 a0] w fun e w' => e = .returned (.string r) ∧ Below w.heap.size w w' := by
  unfold strconv_Itoa_41.f at h
  split at h
  · rename_i hc
    obtain rfl := Option.some.inj h
    refine (Tryd.strconv_Itoa a0 hc.1 hc.2 w htab).mono ?_
    rintro e w' ⟨rfl, k, os, rfl⟩
    exact ⟨rfl, Lib.below_grow _ w (Nat.le_refl _) k os⟩
  · cases h

/-! ### impl_layerSum: function 42 -/
def impl_layerSum.l0 : Nat → ByteArray → Int → Int → Int → Option (Int)
  | 0, _, _, _, _ => none
  | k + 1, x0, x3, x6, x7 => if x7 < x6 then (if 0 ≤ x7 then (if x7 < (x0.size : Int) then (impl_layerSum.l0 k x0 (Int.tmod (wrap64 ((wrap64 ((wrap64 (263 * x3)) + (wrap64 (bt x0 x7)))) + 1)) 65521) x6 (wrap64 (x7 + 1))) else (none)) else (none)) else (some x3)
def impl_layerSum.f (k : Nat) (a0 : ByteArray) : Option (Int) := impl_layerSum.l0 k a0 1 (a0.size : Int) 0
theorem impl_layerSum.mono_l : ∀ k, (∀ y0 y1 y2 y3, LeO (impl_layerSum.l0 k y0 y1 y2 y3) (impl_layerSum.l0 (k + 1) y0 y1 y2 y3))
  | 0 => fun _ _ _ _ r h => by simp [impl_layerSum.l0] at h
  | k + 1 => by
    have ih0 := impl_layerSum.mono_l k
    · intro y0 y1 y2 y3
      unfold impl_layerSum.l0
      repeat' first
      | (with_reducible exact ih0 _ _ _ _)
      | (with_reducible exact LeO.refl _)
      | (with_reducible exact LeO.none _)
      | (with_reducible refine LeO.ite ?_ ?_)
      | (with_reducible refine LeO.bind ?_ (fun _ => ?_))
      | exact ih0 _ _ _ _
      | exact LeO.none _
      | refine LeO.ite ?_ ?_
      | refine LeO.bind ?_ (fun _ => ?_)
theorem impl_layerSum.mono : ∀ a0 k, LeO (impl_layerSum.f k a0) (impl_layerSum.f (k + 1) a0) := by
  intro a0 k
  have ih0 := impl_layerSum.mono_l k
  unfold impl_layerSum.f
  repeat' first
      | (with_reducible exact ih0 _ _ _ _)
      | (with_reducible exact LeO.refl _)
      | (with_reducible exact LeO.none _)
      | (with_reducible refine LeO.ite ?_ ?_)
      | (with_reducible refine LeO.bind ?_ (fun _ => ?_))
      | exact ih0 _ _ _ _
      | exact LeO.none _
      | refine LeO.ite ?_ ?_
      | refine LeO.bind ?_ (fun _ => ?_)
set_option maxHeartbeats 8000000 in
set_option maxRecDepth 100000 in
theorem impl_layerSum.calls (k : Nat) (a0 : ByteArray) (r : Int) (w : World) (h : impl_layerSum.f k a0 = some r) :
    Calls Tryd.prog 42 #[.string a0] w fun e w' => e = .returned (.int .i64 r) ∧ Drawn0 w w' := by
  have H : (impl_layerSum.l0 k a0 1 (a0.size : Int) 0) = some r := h
  clear h
  have H' := Aside0.mk H
  clear H
  go_enter Tryd.func42, Tryd.ntmps42
  go_wp2
  go_loopg [3, 7] k (fun kq v3 v7 w' => ∃ (x3_1 : Int) (x7_1 : Int), v3 = .int .i64 x3_1 ∧ v7 = .int .i64 x7_1 ∧ Aside0 (impl_layerSum.l0 kq a0 x3_1 (a0.size : Int) x7_1 = some r) ∧ Aside0 (kq ≤ k) ∧ Drawn0 w w')
  case atStart => exact ⟨(1), (0), (by first | rfl | (simp; done) | (simp [*]; done)), (by first | rfl | (simp; done) | (simp [*]; done)), H', ⟨Nat.le_refl _⟩, by repeat (first | exact Drawn0.refl _ | apply Drawn0.step)⟩
  case round =>
    clear H'
    obtain ⟨x3_1, x7_1, rfl, rfl, HA, HK1, ⟨m1, rfl⟩⟩ := hrel
    cases gk with
    | zero => exact absurd HA.out (by simp [impl_layerSum.l0])
    | succ k1 =>
      have H := HA.out
      clear HA
      simp only [impl_layerSum.l0] at H
      by_cases c2 : x7_1 < (a0.size : Int)
      · rw [if_pos c2] at H
        have c2b0 : decide (x7_1 < (a0.size : Int)) = true := decide_eq_true c2
        clear c2
        by_cases c3 : 0 ≤ x7_1
        · rw [if_pos c3] at H
          have c3b0 : decide (0 ≤ x7_1) = true := decide_eq_true c3
          clear c3
          by_cases c4 : x7_1 < (a0.size : Int)
          · rw [if_pos c4] at H
            have c4b0 : decide (x7_1 < (a0.size : Int)) = true := decide_eq_true c4
            clear c4
            have H' := Aside0.mk H
            clear H
            have p5 : 0 ≤ (x7_1 : Int) := of_decide_eq_true (by first | (with_reducible assumption) | assumption)
            have q5 : x7_1 < (a0.size : Int) := of_decide_eq_true (by first | (with_reducible assumption) | assumption)
            have hx5 := bt_at a0 x7_1
            replace p5 := eq_true p5
            replace q5 := eq_true q5
            go_wp2
            go_roundg k1
            case measure => have := HK1.out; omega
            case rel => exact ⟨(Int.tmod (wrap64 ((wrap64 ((wrap64 (263 * x3_1)) + (wrap64 (bt a0 x7_1)))) + 1)) 65521), (wrap64 (x7_1 + 1)), (by first | rfl | (simp; done) | (simp [*]; done)), (by first | rfl | (simp; done) | (simp [*]; done)), H', ⟨by have := HK1.out; omega⟩, by repeat (first | exact Drawn0.refl _ | apply Drawn0.step)⟩
          · rw [if_neg c4] at H
            exact absurd H (by simp)
        · rw [if_neg c3] at H
          exact absurd H (by simp)
      · rw [if_neg c2] at H
        have c2b0 : decide (x7_1 < (a0.size : Int)) = false := decide_eq_false c2
        clear c2
        obtain rfl := Option.some.inj H
        go_wp2
        go_ret
        exact ⟨by first | rfl | (simp; done) | (simp [*]; done), by repeat (first | exact Drawn0.refl _ | apply Drawn0.step)⟩

/-! ### impl_manifest: function 23 -/
def impl_manifest.l0 : Nat → ByteArray → List ByteArray → Int → Int → Option (ByteArray)
  | 0, _, _, _, _ => none
  | k + 1, x3, x6, x7, x8 => if x8 < x7 then (if 0 ≤ x8 then (if x8 < (x6.length : Int) then (if (rdOf ByteArray.empty x6 x8).size + 1 ≤ 9223372036854775807 then (if x3.size + ((rdOf ByteArray.empty x6 x8) ++ (⟨#[10]⟩ : ByteArray)).size ≤ 9223372036854775807 then (impl_manifest.l0 k (x3 ++ ((rdOf ByteArray.empty x6 x8) ++ (⟨#[10]⟩ : ByteArray))) x6 x7 (wrap64 (x8 + 1))) else (none)) else (none)) else (none)) else (none)) else (if x3.size + 4 ≤ 9223372036854775807 then ((impl_layerSum.f k x3).bind fun t148 => ((strconv_Itoa_41.f t148).bind fun t149 => (if (x3 ++ (⟨#[115, 117, 109, 32]⟩ : ByteArray)).size + t149.size ≤ 9223372036854775807 then (if ((x3 ++ (⟨#[115, 117, 109, 32]⟩ : ByteArray)) ++ t149).size + 1 ≤ 9223372036854775807 then (some (((x3 ++ (⟨#[115, 117, 109, 32]⟩ : ByteArray)) ++ t149) ++ (⟨#[10]⟩ : ByteArray))) else (none)) else (none)))) else (none))
def impl_manifest.f (k : Nat) (l0 : List ByteArray) : Option (ByteArray) := impl_manifest.l0 k (⟨#[]⟩ : ByteArray) l0 (l0.length : Int) 0
theorem impl_manifest.mono_l : ∀ k, (∀ y0 y1 y2 y3, LeO (impl_manifest.l0 k y0 y1 y2 y3) (impl_manifest.l0 (k + 1) y0 y1 y2 y3))
  | 0 => fun _ _ _ _ r h => by simp [impl_manifest.l0] at h
  | k + 1 => by
    have ih0 := impl_manifest.mono_l k
    · intro y0 y1 y2 y3
      unfold impl_manifest.l0
      repeat' first
      | (with_reducible exact ih0 _ _ _ _)
      | (with_reducible exact impl_layerSum.mono _ _)
      | (with_reducible exact LeO.refl _)
      | (with_reducible exact LeO.none _)
      | (with_reducible refine LeO.ite ?_ ?_)
      | (with_reducible refine LeO.bind ?_ (fun _ => ?_))
      | exact ih0 _ _ _ _
      | exact impl_layerSum.mono _ _
      | exact LeO.none _
      | refine LeO.ite ?_ ?_
      | refine LeO.bind ?_ (fun _ => ?_)
theorem impl_manifest.mono : ∀ a0 k, LeO (impl_manifest.f k a0) (impl_manifest.f (k + 1) a0) := by
  intro a0 k
  have ih0 := impl_manifest.mono_l k
  unfold impl_manifest.f
  repeat' first
      | (with_reducible exact ih0 _ _ _ _)
      | (with_reducible exact impl_layerSum.mono _ _)
      | (with_reducible exact LeO.refl _)
      | (with_reducible exact LeO.none _)
      | (with_reducible refine LeO.ite ?_ ?_)
      | (with_reducible refine LeO.bind ?_ (fun _ => ?_))
      | exact ih0 _ _ _ _
      | exact impl_layerSum.mono _ _
      | exact LeO.none _
      | refine LeO.ite ?_ ?_
      | refine LeO.bind ?_ (fun _ => ?_)
set_option maxHeartbeats 8000000 in
set_option maxRecDepth 100000 in
theorem impl_manifest.calls (k : Nat) (A0 : Option Addr) (c0 : Nat) (l0 : List ByteArray) (r : ByteArray) (w : World) (hr0 : Kd.C Kd.string w A0 l0.length l0) (hc0 : l0.length ≤ c0) (h : impl_manifest.f k l0 = some r) (htab : TabW w) :
    Calls Tryd.prog 23 #[.slice A0 l0.length c0] w fun e w' => e = .returned (.string r) ∧ Below w.heap.size w w' := by
  have HTAB := Aside0.mk htab
  clear htab
  have HR0 := Aside0.mk hr0
  have HC0 := Aside0.mk hc0
  clear hr0 hc0
  have HB := Aside0.mk (Below.refl w.heap.size w)
  have H : (impl_manifest.l0 k (⟨#[]⟩ : ByteArray) l0 (l0.length : Int) 0) = some r := h
  clear h
  have H' := Aside0.mk H
  clear H
  go_enter Tryd.func23, Tryd.ntmps23
  go_wp2
  go_loopg [3, 8] k (fun kq v3 v8 w' => ∃ (x3_1 : ByteArray) (x8_1 : Int), v3 = .string x3_1 ∧ v8 = .int .i64 x8_1 ∧ Aside0 (impl_manifest.l0 kq x3_1 l0 (l0.length : Int) x8_1 = some r) ∧ Aside0 (kq ≤ k) ∧ Aside0 (Below w.heap.size w w'))
  case atStart => exact ⟨((⟨#[]⟩ : ByteArray)), (0), (by first | rfl | (simp; done) | (simp [*]; done)), (by first | rfl | (simp; done) | (simp [*]; done)), H', ⟨Nat.le_refl _⟩, ⟨by repeat (first | (with_reducible first | exact HB.out | apply below_alloc | apply pw_below_drewN | apply below_drew1) | exact HB.out)⟩⟩
  case round =>
    clear H'
    obtain ⟨x3_1, x8_1, rfl, rfl, HA, HK1, HB⟩ := hrel
    cases gk with
    | zero => exact absurd HA.out (by simp [impl_manifest.l0])
    | succ k1 =>
      have H := HA.out
      clear HA
      simp only [impl_manifest.l0] at H
      by_cases c2 : x8_1 < (l0.length : Int)
      · rw [if_pos c2] at H
        have c2b0 : decide (x8_1 < (l0.length : Int)) = true := decide_eq_true c2
        clear c2
        by_cases c3 : 0 ≤ x8_1
        · rw [if_pos c3] at H
          have c3b0 : decide (0 ≤ x8_1) = true := decide_eq_true c3
          clear c3
          by_cases c4 : x8_1 < (l0.length : Int)
          · rw [if_pos c4] at H
            have c4b0 : decide (x8_1 < (l0.length : Int)) = true := decide_eq_true c4
            clear c4
            by_cases c5 : (rdOf ByteArray.empty l0 x8_1).size + 1 ≤ 9223372036854775807
            · rw [if_pos c5] at H
              have c5b0 := eq_true c5
              have c5b1 : decide ((rdOf ByteArray.empty l0 x8_1).size + 1 ≤ 9223372036854775807) = true := decide_eq_true c5
              try have c5b2 : (9223372036854775807 < (rdOf ByteArray.empty l0 x8_1).size + 1) = False := eq_false (Nat.not_lt.2 c5)
              by_cases c6 : x3_1.size + ((rdOf ByteArray.empty l0 x8_1) ++ (⟨#[10]⟩ : ByteArray)).size ≤ 9223372036854775807
              · rw [if_pos c6] at H
                have c6b0 := eq_true c6
                have c6b1 : decide (x3_1.size + ((rdOf ByteArray.empty l0 x8_1) ++ (⟨#[10]⟩ : ByteArray)).size ≤ 9223372036854775807) = true := decide_eq_true c6
                try have c6b2 : (9223372036854775807 < x3_1.size + ((rdOf ByteArray.empty l0 x8_1) ++ (⟨#[10]⟩ : ByteArray)).size) = False := eq_false (Nat.not_lt.2 c6)
                have H' := Aside0.mk H
                clear H
                have p147 : 0 ≤ (x8_1 : Int) := of_decide_eq_true (by first | (with_reducible assumption) | assumption)
                have q147 : x8_1 < (l0.length : Int) := of_decide_eq_true (by first | (with_reducible assumption) | assumption)
                obtain ⟨ad147, e147, hx147_0⟩ := Kd.at_string HR0.out x8_1 p147 q147
                cases e147
                replace hx147_0 := (HB.out.cell (World.block_lt_of_cell? w _ hx147_0)).trans hx147_0
                replace p147 := eq_true p147
                replace q147 := eq_true q147
                go_wp2
                go_roundg k1
                case measure => have := HK1.out; omega
                case rel => exact ⟨(x3_1 ++ ((rdOf ByteArray.empty l0 x8_1) ++ (⟨#[10]⟩ : ByteArray))), (wrap64 (x8_1 + 1)), (by first | rfl | (simp; done) | (simp [*]; done)), (by first | rfl | (simp; done) | (simp [*]; done)), H', ⟨by have := HK1.out; omega⟩, ⟨by repeat (first | (with_reducible first | exact HB.out | apply below_alloc | apply pw_below_drewN | apply below_drew1) | exact HB.out)⟩⟩
              · rw [if_neg c6] at H
                exact absurd H (by simp)
            · rw [if_neg c5] at H
              exact absurd H (by simp)
          · rw [if_neg c4] at H
            exact absurd H (by simp)
        · rw [if_neg c3] at H
          exact absurd H (by simp)
      · rw [if_neg c2] at H
        have c2b0 : decide (x8_1 < (l0.length : Int)) = false := decide_eq_false c2
        clear c2
        by_cases c7 : x3_1.size + 4 ≤ 9223372036854775807
        · rw [if_pos c7] at H
          have c7b0 := eq_true c7
          have c7b1 : decide (x3_1.size + 4 ≤ 9223372036854775807) = true := decide_eq_true c7
          try have c7b2 : (9223372036854775807 < x3_1.size + 4) = False := eq_false (Nat.not_lt.2 c7)
          replace H := Option.bind_eq_some_iff.mp H
          obtain ⟨t148, A80, H⟩ := H
          replace H : ((strconv_Itoa_41.f t148).bind fun t149 => (if (x3_1 ++ (⟨#[115, 117, 109, 32]⟩ : ByteArray)).size + t149.size ≤ 9223372036854775807 then (if ((x3_1 ++ (⟨#[115, 117, 109, 32]⟩ : ByteArray)) ++ t149).size + 1 ≤ 9223372036854775807 then (some (((x3_1 ++ (⟨#[115, 117, 109, 32]⟩ : ByteArray)) ++ t149) ++ (⟨#[10]⟩ : ByteArray))) else (none)) else (none))) = some r := H
          have A8 := Aside0.mk A80
          clear A80
          replace H := Option.bind_eq_some_iff.mp H
          obtain ⟨t149, A90, H⟩ := H
          replace H : (if (x3_1 ++ (⟨#[115, 117, 109, 32]⟩ : ByteArray)).size + t149.size ≤ 9223372036854775807 then (if ((x3_1 ++ (⟨#[115, 117, 109, 32]⟩ : ByteArray)) ++ t149).size + 1 ≤ 9223372036854775807 then (some (((x3_1 ++ (⟨#[115, 117, 109, 32]⟩ : ByteArray)) ++ t149) ++ (⟨#[10]⟩ : ByteArray))) else (none)) else (none)) = some r := H
          have A9 := Aside0.mk A90
          clear A90
          by_cases c10 : (x3_1 ++ (⟨#[115, 117, 109, 32]⟩ : ByteArray)).size + t149.size ≤ 9223372036854775807
          · rw [if_pos c10] at H
            have c10b0 := eq_true c10
            have c10b1 : decide ((x3_1 ++ (⟨#[115, 117, 109, 32]⟩ : ByteArray)).size + t149.size ≤ 9223372036854775807) = true := decide_eq_true c10
            try have c10b2 : (9223372036854775807 < (x3_1 ++ (⟨#[115, 117, 109, 32]⟩ : ByteArray)).size + t149.size) = False := eq_false (Nat.not_lt.2 c10); (try (have c10z : (9223372036854775807 < (x3_1 ++ (⟨#[115, 117, 109, 32]⟩ : ByteArray)).size + t149.size) = False := eq_false (Nat.not_lt.2 c10); simp only [ByteArray.size_append, show (⟨#[115, 117, 109, 32]⟩ : ByteArray).size = 4 from rfl] at c10z))
            by_cases c11 : ((x3_1 ++ (⟨#[115, 117, 109, 32]⟩ : ByteArray)) ++ t149).size + 1 ≤ 9223372036854775807
            · rw [if_pos c11] at H
              have c11b0 := eq_true c11
              have c11b1 : decide (((x3_1 ++ (⟨#[115, 117, 109, 32]⟩ : ByteArray)) ++ t149).size + 1 ≤ 9223372036854775807) = true := decide_eq_true c11
              try have c11b2 : (9223372036854775807 < ((x3_1 ++ (⟨#[115, 117, 109, 32]⟩ : ByteArray)) ++ t149).size + 1) = False := eq_false (Nat.not_lt.2 c11); (try (have c11z : (9223372036854775807 < ((x3_1 ++ (⟨#[115, 117, 109, 32]⟩ : ByteArray)) ++ t149).size + 1) = False := eq_false (Nat.not_lt.2 c11); simp only [ByteArray.size_append, show (⟨#[115, 117, 109, 32]⟩ : ByteArray).size = 4 from rfl] at c11z))
              obtain rfl := Option.some.inj H
              go_wp2_with (first | ((with_reducible refine gate_callee (f := 42) rfl ?_); refine goesL_ (some 20) rfl rfl Tryd.func42 (by kernel_rfl) rfl #[.string x3_1] rfl (by (try simp only [List.map_toArray, List.map_cons, List.map_nil]); first | done | rfl | (simp only [List.length_drop, List.length_take]; rfl)) ?_; (with_reducible refine (impl_layerSum.calls k1 x3_1 t148 _ A8.out).mono ?_); rintro e w' ⟨rfl, ⟨nd, rfl⟩⟩; refine ⟨_, rfl, ?_⟩) | ((with_reducible refine gate_callee (f := 41) rfl ?_); refine goesL_ (some 21) rfl rfl Tryd.func41 (by kernel_rfl) rfl #[.int .i64 t148] rfl (by (try simp only [List.map_toArray, List.map_cons, List.map_nil]); first | done | rfl | (simp only [List.length_drop, List.length_take]; rfl)) ?_; (with_reducible refine (strconv_Itoa_41.calls t148 t149 _ A9.out (TabW.later HTAB.out (by repeat (first | (with_reducible first | exact HB.out | apply below_alloc | apply pw_below_drewN | apply below_drew1) | exact HB.out)))).mono ?_); rintro e w12 ⟨rfl, hb⟩; refine ⟨_, rfl, ?_⟩; have n0_ := Aside0.mk (below_step (by repeat (first | (with_reducible first | exact HB.out | apply below_alloc | apply pw_below_drewN | apply below_drew1) | exact HB.out)) hb); clear HB; have HB := n0_; clear n0_; (try clear hb); (try clear hb2); (try clear hk); (try clear hi)))
              go_ret
              exact ⟨by first | rfl | (simp [errW_none, errW_some] <;> rfl) | (simp [*, errW_none, errW_some] <;> rfl), by repeat (first | (with_reducible first | exact HB.out | apply below_alloc | apply pw_below_drewN | apply below_drew1) | exact HB.out)⟩
            · rw [if_neg c11] at H
              exact absurd H (by simp)
          · rw [if_neg c10] at H
            exact absurd H (by simp)
        · rw [if_neg c7] at H
          exact absurd H (by simp)

/-! ### given 9: impl.ManifestText -/
def impl_ManifestText.f (k : Nat) (l0 : List ByteArray) : Option (ByteArray × Int) := (impl_areLayers.f l0).bind fun b => if firstCode [(decide ((l0.length : Int) > 4096), 2), (!b, 1)] = 0 then ((impl_manifest.f k l0).bind fun t => some (t, 0)) else some ((⟨#[]⟩ : ByteArray), firstCode [(decide ((l0.length : Int) > 4096), 2), (!b, 1)])
theorem impl_ManifestText.mono : ∀ a0 k, LeO (impl_ManifestText.f k a0) (impl_ManifestText.f (k + 1) a0) := by
  intro a0 k
  unfold impl_ManifestText.f
  refine LeO.bind (LeO.refl _) (fun _ => LeO.ite (LeO.bind (impl_manifest.mono _ _) (fun _ => LeO.refl _)) (LeO.refl _))
theorem cell_alloc_lit (w : World) (cs : Array Value) (e : TypeId) (i : Nat) (v : Value) (h : cs[i]? = some v) : (w.alloc (.cells cs e)).cell? ⟨w.heap.size, i, none⟩ = some v :=
  (World.cell?_alloc_new w cs e i).trans h
set_option maxHeartbeats 4000000 in
set_option maxRecDepth 100000 in
theorem impl_ManifestText.calls (k : Nat) (A0 : Option Addr) (c0 : Nat) (l0 : List ByteArray) (r1 : ByteArray) (r2 : Int) (w : World) (hr0 : Kd.C Kd.string w A0 l0.length l0) (hc0 : l0.length ≤ c0) (h : impl_ManifestText.f k l0 = some (r1, r2)) (htab : TabW w) :
    Calls Tryd.prog 9 #[.slice A0 l0.length c0] w fun e w' => e = .returned (.tuple #[.string r1, .int .i64 r2]) ∧ Below w.heap.size w w' := by
  have HTAB := Aside0.mk htab
  have HR := Aside0.mk hr0
  have HC := Aside0.mk hc0
  clear htab hr0 hc0
  have HB := Aside0.mk (Below.refl w.heap.size w)
  obtain ⟨b, A1, H⟩ := Option.bind_eq_some_iff.mp h
  replace A1 := Aside0.mk A1
  clear h
  have hlong := fun W hr => impl_isLongList_string.calls A0 c0 l0 _ W hr HC.out rfl
  generalize decide ((l0.length : Int) > 4096) = b0 at H hlong
  obtain ⟨c, hc⟩ : ∃ c, firstCode [(b0, 2), (!b, 1)] = c := ⟨_, rfl⟩
  rw [hc] at H
  have HCD := Aside0.mk hc
  clear hc
  by_cases c1 : c = 0
  · rw [if_pos c1] at H
    subst c1
    obtain ⟨t, A2, H⟩ := Option.bind_eq_some_iff.mp H
    replace A2 := Aside0.mk A2
    simp only [Option.some.injEq, Prod.mk.injEq] at H
    obtain ⟨rfl, rfl⟩ := H
    go_enter Tryd.func9, Tryd.ntmps9
    go_wp2_with (first
      | (go_at_call 21; refine (hlong _ HR.out).mono ?_; rintro e w1 ⟨rfl, ⟨n1, rfl⟩⟩)
      | (go_at_call 22; refine (impl_areLayers.calls A0 c0 l0 b _ (Kd.C_below HR.out (by repeat (first | exact HB.out | apply below_alloc | apply pw_below_drewN | apply below_drew1))) HC.out A1.out).mono ?_; rintro e w2 ⟨rfl, hb⟩; have n_ := Aside0.mk (below_step (by repeat (first | (with_reducible first | exact HB.out | apply below_alloc | apply pw_below_drewN | apply below_drew1) | exact HB.out)) hb); clear HB; have HB := n_; clear n_ hb)
      | (go_at_call 20; refine (impl_first.calls _ 4 [(b0, 2), (!b, 1)] _ ?hc rfl (by decide)).mono ?_; rotate_left; rw [HCD.out]; rintro e w3 ⟨rfl, ⟨n3, rfl⟩⟩)
      | (go_at_call 23; refine (impl_manifest.calls k A0 c0 l0 t _ (Kd.C_below HR.out (by repeat (first | exact HB.out | apply below_alloc | apply pw_below_drewN | apply below_drew1))) HC.out A2.out (TabW.later HTAB.out (by repeat (first | exact HB.out | apply below_alloc | apply pw_below_drewN | apply below_drew1)))).mono ?_; rintro e w4 ⟨rfl, hb⟩; have n_ := Aside0.mk (below_step (by repeat (first | (with_reducible first | exact HB.out | apply below_alloc | apply pw_below_drewN | apply below_drew1) | exact HB.out)) hb); clear HB; have HB := n_; clear n_ hb))
    · go_ret2
      exact ⟨rfl, HB.out⟩
    case hc =>
      intro i v hv
      exact cell_alloc_lit _ _ _ i v (by simpa [anyVals] using hv)
  · rw [if_neg c1] at H
    have c1b0 : (c == 0) = false := beq_eq_false_iff_ne.mpr c1
    have c1b1 : (c != 0) = true := bne_iff_ne.mpr c1
    clear c1
    simp only [Option.some.injEq, Prod.mk.injEq] at H
    obtain ⟨rfl, rfl⟩ := H
    go_enter Tryd.func9, Tryd.ntmps9
    go_wp2_with (first
      | (go_at_call 21; refine (hlong _ HR.out).mono ?_; rintro e w1 ⟨rfl, ⟨n1, rfl⟩⟩)
      | (go_at_call 22; refine (impl_areLayers.calls A0 c0 l0 b _ (Kd.C_below HR.out (by repeat (first | exact HB.out | apply below_alloc | apply pw_below_drewN | apply below_drew1))) HC.out A1.out).mono ?_; rintro e w2 ⟨rfl, hb⟩; have n_ := Aside0.mk (below_step (by repeat (first | (with_reducible first | exact HB.out | apply below_alloc | apply pw_below_drewN | apply below_drew1) | exact HB.out)) hb); clear HB; have HB := n_; clear n_ hb)
      | (go_at_call 20; refine (impl_first.calls _ 4 [(b0, 2), (!b, 1)] _ ?hc rfl (by decide)).mono ?_; rotate_left; rw [HCD.out]; rintro e w3 ⟨rfl, ⟨n3, rfl⟩⟩))
    · go_ret2
      exact ⟨rfl, by repeat (first | exact HB.out | apply below_alloc | apply pw_below_drewN | apply below_drew1)⟩
    case hc =>
      intro i v hv
      exact cell_alloc_lit _ _ _ i v (by simpa [anyVals] using hv)

/-! ### laws_eqStringS: function 10 -/
def laws_eqStringS.l0 : Nat → List ByteArray → List ByteArray → Int → Option (Bool)
  | 0, _, _, _ => none
  | k + 1, x0, x1, x5 => if x5 < (x0.length : Int) then (if 0 ≤ x5 then (if x5 < (x1.length : Int) then (if (rdOf ByteArray.empty x0 x5).toList = (rdOf ByteArray.empty x1 x5).toList then (laws_eqStringS.l0 k x0 x1 (wrap64 (x5 + 1))) else (some false)) else (none)) else (none)) else (some true)
def laws_eqStringS.f (k : Nat) (l0 : List ByteArray) (l1 : List ByteArray) : Option (Bool) := if (l0.length : Int) = (l1.length : Int) then (laws_eqStringS.l0 k l0 l1 0) else (some false)
theorem laws_eqStringS.mono_l : ∀ k, (∀ y0 y1 y2, LeO (laws_eqStringS.l0 k y0 y1 y2) (laws_eqStringS.l0 (k + 1) y0 y1 y2))
  | 0 => fun _ _ _ r h => by simp [laws_eqStringS.l0] at h
  | k + 1 => by
    have ih0 := laws_eqStringS.mono_l k
    · intro y0 y1 y2
      unfold laws_eqStringS.l0
      repeat' first
      | (with_reducible exact ih0 _ _ _)
      | (with_reducible exact LeO.refl _)
      | (with_reducible exact LeO.none _)
      | (with_reducible refine LeO.ite ?_ ?_)
      | (with_reducible refine LeO.bind ?_ (fun _ => ?_))
      | exact ih0 _ _ _
      | exact LeO.none _
      | refine LeO.ite ?_ ?_
      | refine LeO.bind ?_ (fun _ => ?_)
theorem laws_eqStringS.mono : ∀ a0 a1 k, LeO (laws_eqStringS.f k a0 a1) (laws_eqStringS.f (k + 1) a0 a1) := by
  intro a0 a1 k
  have ih0 := laws_eqStringS.mono_l k
  unfold laws_eqStringS.f
  repeat' first
      | (with_reducible exact ih0 _ _ _)
      | (with_reducible exact LeO.refl _)
      | (with_reducible exact LeO.none _)
      | (with_reducible refine LeO.ite ?_ ?_)
      | (with_reducible refine LeO.bind ?_ (fun _ => ?_))
      | exact ih0 _ _ _
      | exact LeO.none _
      | refine LeO.ite ?_ ?_
      | refine LeO.bind ?_ (fun _ => ?_)
set_option maxHeartbeats 8000000 in
set_option maxRecDepth 100000 in
theorem laws_eqStringS.calls (k : Nat) (A0 : Option Addr) (c0 : Nat) (l0 : List ByteArray) (A1 : Option Addr) (c1 : Nat) (l1 : List ByteArray) (r : Bool) (w : World) (hr0 : Kd.C Kd.string w A0 l0.length l0) (hc0 : l0.length ≤ c0) (hr1 : Kd.C Kd.string w A1 l1.length l1) (hc1 : l1.length ≤ c1) (h : laws_eqStringS.f k l0 l1 = some r) :
    Calls Tryd.prog 10 #[.slice A0 l0.length c0, .slice A1 l1.length c1] w fun e w' => e = .returned (.bool r) ∧ Drawn0 w w' := by
  have HR0 := Aside0.mk hr0
  have HC0 := Aside0.mk hc0
  clear hr0 hc0
  have HR1 := Aside0.mk hr1
  have HC1 := Aside0.mk hc1
  clear hr1 hc1
  have H : (if (l0.length : Int) = (l1.length : Int) then (laws_eqStringS.l0 k l0 l1 0) else (some false)) = some r := h
  clear h
  by_cases c3 : (l0.length : Int) = (l1.length : Int)
  · rw [if_pos c3] at H
    have c3b0 : ((l0.length : Int) == (l1.length : Int)) = true := beq_iff_eq.mpr c3
    have c3b1 : ((l0.length : Int) != (l1.length : Int)) = false := bne_eq_false_iff_eq.mpr c3
    have c3b2 : (l0.length == l1.length) = true := by first | simpa using c3 | (simp at c3 ⊢; omega)
    clear c3
    have H' := Aside0.mk H
    clear H
    go_enter Tryd.func10, Tryd.ntmps10
    go_wp2
    repeat (go_quiet (fail); try go_wp2)
    go_loopg [5] k (fun kq v5 w' => ∃ (x5_1 : Int), v5 = .int .i64 x5_1 ∧ Aside0 (laws_eqStringS.l0 kq l0 l1 x5_1 = some r) ∧ Aside0 (kq ≤ k) ∧ Drawn0 w w')
    case atStart => exact ⟨(0), (by first | rfl | (simp; done) | (simp [*]; done)), H', ⟨Nat.le_refl _⟩, by repeat (first | exact Drawn0.refl _ | apply Drawn0.step)⟩
    case round =>
      clear H'
      try clear c1
      try clear p2
      try clear c3
      try clear c3b0
      try clear c3b1
      try clear c3b2
      obtain ⟨x5_1, rfl, HA, HK1, ⟨m1, rfl⟩⟩ := hrel
      cases gk with
      | zero => exact absurd HA.out (by simp [laws_eqStringS.l0])
      | succ k1 =>
        have H := HA.out
        clear HA
        simp only [laws_eqStringS.l0] at H
        by_cases c4 : x5_1 < (l0.length : Int)
        · rw [if_pos c4] at H
          have c4b0 : decide (x5_1 < (l0.length : Int)) = true := decide_eq_true c4
          clear c4
          by_cases c5 : 0 ≤ x5_1
          · rw [if_pos c5] at H
            have c5b0 : decide (0 ≤ x5_1) = true := decide_eq_true c5
            clear c5
            by_cases c6 : x5_1 < (l1.length : Int)
            · rw [if_pos c6] at H
              have c6b0 : decide (x5_1 < (l1.length : Int)) = true := decide_eq_true c6
              clear c6
              by_cases c7 : (rdOf ByteArray.empty l0 x5_1).toList = (rdOf ByteArray.empty l1 x5_1).toList
              · rw [if_pos c7] at H
                have c7b0 : ((rdOf ByteArray.empty l0 x5_1).toList == (rdOf ByteArray.empty l1 x5_1).toList) = true := beq_iff_eq.mpr c7
                have c7b1 : ((rdOf ByteArray.empty l0 x5_1).toList != (rdOf ByteArray.empty l1 x5_1).toList) = false := bne_eq_false_iff_eq.mpr c7
                clear c7
                have H' := Aside0.mk H
                clear H
                have p150 : 0 ≤ (x5_1 : Int) := of_decide_eq_true (by first | (with_reducible assumption) | assumption)
                have q150 : x5_1 < (l0.length : Int) := of_decide_eq_true (by first | (with_reducible assumption) | assumption)
                obtain ⟨ad150, e150, hx150_0⟩ := Kd.at_string HR0.out x5_1 p150 q150
                cases e150
                replace p150 := eq_true p150
                replace q150 := eq_true q150
                have p151 : 0 ≤ (x5_1 : Int) := of_decide_eq_true (by first | (with_reducible assumption) | assumption)
                have q151 : x5_1 < (l1.length : Int) := of_decide_eq_true (by first | (with_reducible assumption) | assumption)
                obtain ⟨ad151, e151, hx151_0⟩ := Kd.at_string HR1.out x5_1 p151 q151
                cases e151
                replace p151 := eq_true p151
                replace q151 := eq_true q151
                go_wp2
                repeat (go_quiet (fail); try go_wp2)
                go_roundg k1
                case measure => have := HK1.out; omega
                case rel => exact ⟨(wrap64 (x5_1 + 1)), (by first | rfl | (simp; done) | (simp [*]; done)), H', ⟨by have := HK1.out; omega⟩, by repeat (first | exact Drawn0.refl _ | apply Drawn0.step)⟩
              · rw [if_neg c7] at H
                have c7b0 : ((rdOf ByteArray.empty l0 x5_1).toList == (rdOf ByteArray.empty l1 x5_1).toList) = false := beq_eq_false_iff_ne.mpr c7
                have c7b1 : ((rdOf ByteArray.empty l0 x5_1).toList != (rdOf ByteArray.empty l1 x5_1).toList) = true := bne_iff_ne.mpr c7
                obtain rfl := Option.some.inj H
                have p150 : 0 ≤ (x5_1 : Int) := of_decide_eq_true (by first | (with_reducible assumption) | assumption)
                have q150 : x5_1 < (l0.length : Int) := of_decide_eq_true (by first | (with_reducible assumption) | assumption)
                obtain ⟨ad150, e150, hx150_0⟩ := Kd.at_string HR0.out x5_1 p150 q150
                cases e150
                replace p150 := eq_true p150
                replace q150 := eq_true q150
                have p151 : 0 ≤ (x5_1 : Int) := of_decide_eq_true (by first | (with_reducible assumption) | assumption)
                have q151 : x5_1 < (l1.length : Int) := of_decide_eq_true (by first | (with_reducible assumption) | assumption)
                obtain ⟨ad151, e151, hx151_0⟩ := Kd.at_string HR1.out x5_1 p151 q151
                cases e151
                replace p151 := eq_true p151
                replace q151 := eq_true q151
                go_wp2
                repeat (go_quiet (fail); try go_wp2)
                go_ret
                exact ⟨by first | rfl | (simp; done) | (simp [*]; done), by repeat (first | exact Drawn0.refl _ | apply Drawn0.step)⟩
            · rw [if_neg c6] at H
              exact absurd H (by simp)
          · rw [if_neg c5] at H
            exact absurd H (by simp)
        · rw [if_neg c4] at H
          have c4b0 : decide (x5_1 < (l0.length : Int)) = false := decide_eq_false c4
          clear c4
          obtain rfl := Option.some.inj H
          go_wp2
          repeat (go_quiet (fail); try go_wp2)
          go_ret
          exact ⟨by first | rfl | (simp; done) | (simp [*]; done), by repeat (first | exact Drawn0.refl _ | apply Drawn0.step)⟩
  · rw [if_neg c3] at H
    have c3b0 : ((l0.length : Int) == (l1.length : Int)) = false := beq_eq_false_iff_ne.mpr c3
    have c3b1 : ((l0.length : Int) != (l1.length : Int)) = true := bne_iff_ne.mpr c3
    have c3b2 : (l0.length == l1.length) = false := by first | simpa using c3 | (simp at c3 ⊢; omega)
    obtain rfl := Option.some.inj H
    go_enter Tryd.func10, Tryd.ntmps10
    go_wp2
    repeat (go_quiet (fail); try go_wp2)
    go_ret
    exact ⟨by first | rfl | (simp; done) | (simp [*]; done), by repeat (first | exact Drawn0.refl _ | apply Drawn0.step)⟩

/-! ### laws_FnExactManifestText: function 3 -/
def laws_FnExactManifestText.j0 : Nat → List ByteArray → List ByteArray → Bool → Option (Bool)
  | 0, _, _, _ => none
  | k + 1, x0, x6, x34 => if x34 = true then (some false) else ((laws_toStringS.f k x0).bind fun t163 => ((laws_eqStringS.f k x6 t163).bind fun t166 => (if t166 = true then (some true) else (some false))))
def laws_FnExactManifestText.f (k : Nat) (l0 : List ByteArray) : Option (Bool) := (laws_szStringS.f k l0 1048576).bind fun t152 => (if t152 < 0 then (some true) else ((laws_toStringS.f k l0).bind fun t153 => ((spec_ManifestText.f k t153).bind fun bt156 => ((laws_toStringS.f k l0).bind fun t158 => ((impl_ManifestText.f k t158).bind fun bt161 => (if bt161.1.toList = bt156.1.toList then (laws_FnExactManifestText.j0 k l0 t158 (bt161.2 != bt156.2)) else (laws_FnExactManifestText.j0 k l0 t158 true)))))))
theorem laws_FnExactManifestText.mono_l : ∀ k, (∀ y0 y1 y2, LeO (laws_FnExactManifestText.j0 k y0 y1 y2) (laws_FnExactManifestText.j0 (k + 1) y0 y1 y2))
  | 0 => fun _ _ _ r h => by simp [laws_FnExactManifestText.j0] at h
  | k + 1 => by
    have ih0 := laws_FnExactManifestText.mono_l k
    · intro y0 y1 y2
      unfold laws_FnExactManifestText.j0
      repeat' first
      | (with_reducible exact ih0 _ _ _)
      | (with_reducible exact impl_ManifestText.mono _ _)
      | (with_reducible exact laws_eqStringS.mono _ _ _)
      | (with_reducible exact laws_szStringS.mono _ _ _)
      | (with_reducible exact laws_toStringS.mono _ _)
      | (with_reducible exact spec_ManifestText.mono _ _)
      | (with_reducible exact LeO.refl _)
      | (with_reducible exact LeO.none _)
      | (with_reducible refine LeO.ite ?_ ?_)
      | (with_reducible refine LeO.bind ?_ (fun _ => ?_))
      | exact ih0 _ _ _
      | exact impl_ManifestText.mono _ _
      | exact laws_eqStringS.mono _ _ _
      | exact laws_szStringS.mono _ _ _
      | exact laws_toStringS.mono _ _
      | exact spec_ManifestText.mono _ _
      | exact LeO.none _
      | refine LeO.ite ?_ ?_
      | refine LeO.bind ?_ (fun _ => ?_)
theorem laws_FnExactManifestText.mono : ∀ a0 k, LeO (laws_FnExactManifestText.f k a0) (laws_FnExactManifestText.f (k + 1) a0) := by
  intro a0 k
  have ih0 := laws_FnExactManifestText.mono_l k
  unfold laws_FnExactManifestText.f
  repeat' first
      | (with_reducible exact ih0 _ _ _)
      | (with_reducible exact impl_ManifestText.mono _ _)
      | (with_reducible exact laws_eqStringS.mono _ _ _)
      | (with_reducible exact laws_szStringS.mono _ _ _)
      | (with_reducible exact laws_toStringS.mono _ _)
      | (with_reducible exact spec_ManifestText.mono _ _)
      | (with_reducible exact LeO.refl _)
      | (with_reducible exact LeO.none _)
      | (with_reducible refine LeO.ite ?_ ?_)
      | (with_reducible refine LeO.bind ?_ (fun _ => ?_))
      | exact ih0 _ _ _
      | exact impl_ManifestText.mono _ _
      | exact laws_eqStringS.mono _ _ _
      | exact laws_szStringS.mono _ _ _
      | exact laws_toStringS.mono _ _
      | exact spec_ManifestText.mono _ _
      | exact LeO.none _
      | refine LeO.ite ?_ ?_
      | refine LeO.bind ?_ (fun _ => ?_)
set_option maxHeartbeats 8000000 in
set_option maxRecDepth 100000 in
theorem laws_FnExactManifestText.calls (k : Nat) (A0 : Option Addr) (c0 : Nat) (l0 : List ByteArray) (r : Bool) (w : World) (hr0 : Kd.C Kd.string w A0 l0.length l0) (hc0 : l0.length ≤ c0) (h : laws_FnExactManifestText.f k l0 = some r) (htab : TabW w) :
    Calls Tryd.prog 3 #[.slice A0 l0.length c0] w fun e w' => e = .returned (.bool r) ∧ Below w.heap.size w w' := by
  have HTAB := Aside0.mk htab
  clear htab
  have HR0 := Aside0.mk hr0
  have HC0 := Aside0.mk hc0
  clear hr0 hc0
  have HB := Aside0.mk (Below.refl w.heap.size w)
  have H : ((laws_szStringS.f k l0 1048576).bind fun t152 => (if t152 < 0 then (some true) else ((laws_toStringS.f k l0).bind fun t153 => ((spec_ManifestText.f k t153).bind fun bt156 => ((laws_toStringS.f k l0).bind fun t158 => ((impl_ManifestText.f k t158).bind fun bt161 => (if bt161.1.toList = bt156.1.toList then (laws_FnExactManifestText.j0 k l0 t158 (bt161.2 != bt156.2)) else (laws_FnExactManifestText.j0 k l0 t158 true)))))))) = some r := h
  clear h
  replace H := Option.bind_eq_some_iff.mp H
  obtain ⟨t152, A20, H⟩ := H
  replace H : (if t152 < 0 then (some true) else ((laws_toStringS.f k l0).bind fun t153 => ((spec_ManifestText.f k t153).bind fun bt156 => ((laws_toStringS.f k l0).bind fun t158 => ((impl_ManifestText.f k t158).bind fun bt161 => (if bt161.1.toList = bt156.1.toList then (laws_FnExactManifestText.j0 k l0 t158 (bt161.2 != bt156.2)) else (laws_FnExactManifestText.j0 k l0 t158 true))))))) = some r := H
  have A2 := Aside0.mk A20
  clear A20
  by_cases c3 : t152 < 0
  · rw [if_pos c3] at H
    have c3b0 : decide (t152 < 0) = true := decide_eq_true c3
    clear c3
    obtain rfl := Option.some.inj H
    go_enter Tryd.func3, Tryd.ntmps3
    go_wp2_with (first | ((with_reducible refine gate_callee (f := 6) rfl ?_); refine goesL_ (some 11) rfl rfl Tryd.func6 (by kernel_rfl) rfl #[.slice A0 l0.length c0, .int .i64 1048576] rfl (by (try simp only [List.map_toArray, List.map_cons, List.map_nil]); first | done | rfl | (simp only [List.length_drop, List.length_take]; rfl)) ?_; (with_reducible refine (laws_szStringS.calls k _ _ l0 1048576 t152 _ ?side1 ?side2 A2.out).mono ?_); (case side1 => repeat (first | exact HR0.out | (with_reducible refine Kd.C_alloc ?_ _) | (with_reducible refine Kd.C_drewN ?_ _) | (with_reducible refine Kd.C_drew ?_))); (case side2 => exact HC0.out); rintro e w' ⟨rfl, ⟨nd, rfl⟩⟩; refine ⟨_, rfl, ?_⟩))
    go_ret
    exact ⟨by first | rfl | (simp [errW_none, errW_some] <;> rfl) | (simp [*, errW_none, errW_some] <;> rfl), by repeat (first | (with_reducible first | exact HB.out | apply below_alloc | apply pw_below_drewN | apply below_drew1) | exact HB.out)⟩
  · rw [if_neg c3] at H
    have c3b0 : decide (t152 < 0) = false := decide_eq_false c3
    clear c3
    replace H := Option.bind_eq_some_iff.mp H
    obtain ⟨t153, A40, H⟩ := H
    replace H : ((spec_ManifestText.f k t153).bind fun bt156 => ((laws_toStringS.f k l0).bind fun t158 => ((impl_ManifestText.f k t158).bind fun bt161 => (if bt161.1.toList = bt156.1.toList then (laws_FnExactManifestText.j0 k l0 t158 (bt161.2 != bt156.2)) else (laws_FnExactManifestText.j0 k l0 t158 true))))) = some r := H
    have A4 := Aside0.mk A40
    clear A40
    replace H := Option.bind_eq_some_iff.mp H
    obtain ⟨⟨t156, t157⟩, A50, H⟩ := H
    replace H : ((laws_toStringS.f k l0).bind fun t158 => ((impl_ManifestText.f k t158).bind fun bt161 => (if bt161.1.toList = t156.toList then (laws_FnExactManifestText.j0 k l0 t158 (bt161.2 != t157)) else (laws_FnExactManifestText.j0 k l0 t158 true)))) = some r := H
    have A5 := Aside0.mk A50
    clear A50
    replace H := Option.bind_eq_some_iff.mp H
    obtain ⟨t158, A60, H⟩ := H
    replace H : ((impl_ManifestText.f k t158).bind fun bt161 => (if bt161.1.toList = t156.toList then (laws_FnExactManifestText.j0 k l0 t158 (bt161.2 != t157)) else (laws_FnExactManifestText.j0 k l0 t158 true))) = some r := H
    have A6 := Aside0.mk A60
    clear A60
    replace H := Option.bind_eq_some_iff.mp H
    obtain ⟨⟨t161, t162⟩, A70, H⟩ := H
    replace H : (if t161.toList = t156.toList then (laws_FnExactManifestText.j0 k l0 t158 (t162 != t157)) else (laws_FnExactManifestText.j0 k l0 t158 true)) = some r := H
    have A7 := Aside0.mk A70
    clear A70
    have HC8 := Aside0.mk H
    clear H
    go_enter Tryd.func3, Tryd.ntmps3
    go_upto_region 8 with (first | ((with_reducible refine gate_callee (f := 6) rfl ?_); refine goesL_ (some 11) rfl rfl Tryd.func6 (by kernel_rfl) rfl #[.slice A0 l0.length c0, .int .i64 1048576] rfl (by (try simp only [List.map_toArray, List.map_cons, List.map_nil]); first | done | rfl | (simp only [List.length_drop, List.length_take]; rfl)) ?_; (with_reducible refine (laws_szStringS.calls k _ _ l0 1048576 t152 _ ?side1 ?side2 A2.out).mono ?_); (case side1 => repeat (first | exact HR0.out | (with_reducible refine Kd.C_alloc ?_ _) | (with_reducible refine Kd.C_drewN ?_ _) | (with_reducible refine Kd.C_drew ?_))); (case side2 => exact HC0.out); rintro e w' ⟨rfl, ⟨nd, rfl⟩⟩; refine ⟨_, rfl, ?_⟩) | ((with_reducible refine gate_callee (f := 8) rfl ?_); refine goesL_ (some 16) rfl rfl Tryd.func8 (by kernel_rfl) rfl #[.slice A0 l0.length c0] rfl (by (try simp only [List.map_toArray, List.map_cons, List.map_nil]); first | done | rfl | (simp only [List.length_drop, List.length_take]; rfl)) ?_; (with_reducible refine (laws_toStringS.calls k _ _ l0 t153 _ ?side1 ?side2 A4.out).mono ?_); (case side1 => repeat (first | exact HR0.out | (with_reducible refine Kd.C_alloc ?_ _) | (with_reducible refine Kd.C_drewN ?_ _) | (with_reducible refine Kd.C_drew ?_))); (case side2 => exact HC0.out); rintro e w9 ⟨v154, rfl, ho0, hb⟩; refine ⟨_, rfl, ?_⟩; have n0_ := Aside0.mk (Kd.R_lower ho0 (below_size (by repeat (first | (with_reducible first | exact HB.out | apply below_alloc | apply pw_below_drewN | apply below_drew1) | exact HB.out)))); have n1_ := Aside0.mk (below_step (by repeat (first | (with_reducible first | exact HB.out | apply below_alloc | apply pw_below_drewN | apply below_drew1) | exact HB.out)) hb); clear HB; have HO155 := n0_; have HB := n1_; clear n0_ n1_; (try clear hb); (try clear hb2); (try clear hk); (try clear hi); (try clear ho0); obtain ⟨Ao10, co10, eo10⟩ := Kd.R_slice HO155.out; subst eo10) | ((with_reducible refine gate_callee (f := 7) rfl ?_); refine goesL_ (some 17) rfl rfl Tryd.func7 (by kernel_rfl) rfl #[.slice Ao10 t153.length co10] rfl (by (try simp only [List.map_toArray, List.map_cons, List.map_nil]); first | done | rfl | (simp only [List.length_drop, List.length_take]; rfl)) ?_; (with_reducible refine (spec_ManifestText.calls k _ _ t153 t156 t157 _ ?side1 ?side2 A5.out).mono ?_); (case side1 => repeat (first | exact (Kd.R_reads' HO155.out).2.2 | (with_reducible refine Kd.C_alloc ?_ _) | (with_reducible refine Kd.C_drewN ?_ _) | (with_reducible refine Kd.C_drew ?_))); (case side2 => exact (Kd.R_reads' HO155.out).2.1); rintro e w11 ⟨rfl, hb⟩; refine ⟨_, rfl, ?_⟩; have n0_ := Aside0.mk (Kd.R_below (by (with_reducible repeat (first | apply Kd.R_alloc | apply Kd.R_drewN | apply Kd.R_drew)); exact HO155.out) hb); have n1_ := Aside0.mk (below_step (by repeat (first | (with_reducible first | exact HB.out | apply below_alloc | apply pw_below_drewN | apply below_drew1) | exact HB.out)) hb); clear HO155; clear HB; have HO155 := n0_; have HB := n1_; clear n0_ n1_; (try clear hb); (try clear hb2); (try clear hk); (try clear hi)) | ((with_reducible refine gate_callee (f := 8) rfl ?_); refine goesL_ (some 21) rfl rfl Tryd.func8 (by kernel_rfl) rfl #[.slice A0 l0.length c0] rfl (by (try simp only [List.map_toArray, List.map_cons, List.map_nil]); first | done | rfl | (simp only [List.length_drop, List.length_take]; rfl)) ?_; (with_reducible refine (laws_toStringS.calls k _ _ l0 t158 _ ?side1 ?side2 A6.out).mono ?_); (case side1 => repeat (first | exact (Kd.C_below HR0.out HB.out) | (with_reducible refine Kd.C_alloc ?_ _) | (with_reducible refine Kd.C_drewN ?_ _) | (with_reducible refine Kd.C_drew ?_))); (case side2 => exact HC0.out); rintro e w12 ⟨v159, rfl, ho0, hb⟩; refine ⟨_, rfl, ?_⟩; have n0_ := Aside0.mk (Kd.R_elder' (by (with_reducible repeat (first | apply Kd.R_alloc | apply Kd.R_drewN | apply Kd.R_drew)); exact HO155.out) (Kd.R_base ho0) hb); have n1_ := Aside0.mk (Kd.R_lower (Kd.R_new' ho0 (Kd.R_lt (by (with_reducible repeat (first | apply Kd.R_alloc | apply Kd.R_drewN | apply Kd.R_drew)); exact HO155.out))) (below_size (by repeat (first | (with_reducible first | exact HB.out | apply below_alloc | apply pw_below_drewN | apply below_drew1) | exact HB.out)))); have n2_ := Aside0.mk (below_step (by repeat (first | (with_reducible first | exact HB.out | apply below_alloc | apply pw_below_drewN | apply below_drew1) | exact HB.out)) hb); clear HO155; clear HB; have HO155 := n0_; have HO160 := n1_; have HB := n2_; clear n0_ n1_ n2_; (try clear hb); (try clear hb2); (try clear hk); (try clear hi); (try clear ho0); obtain ⟨Ao13, co13, eo13⟩ := Kd.R_slice HO160.out; subst eo13) | ((with_reducible refine gate_callee (f := 9) rfl ?_); refine goesL_ (some 24) rfl rfl Tryd.func9 (by kernel_rfl) rfl #[.slice Ao13 t158.length co13] rfl (by (try simp only [List.map_toArray, List.map_cons, List.map_nil]); first | done | rfl | (simp only [List.length_drop, List.length_take]; rfl)) ?_; (with_reducible refine (impl_ManifestText.calls k _ _ t158 t161 t162 _ ?side1 ?side2 A7.out (TabW.later HTAB.out (by repeat (first | (with_reducible first | exact HB.out | apply below_alloc | apply pw_below_drewN | apply below_drew1) | exact HB.out)))).mono ?_); (case side1 => repeat (first | exact (Kd.R_reads' HO160.out).2.2 | (with_reducible refine Kd.C_alloc ?_ _) | (with_reducible refine Kd.C_drewN ?_ _) | (with_reducible refine Kd.C_drew ?_))); (case side2 => exact (Kd.R_reads' HO160.out).2.1); rintro e w14 ⟨rfl, hb⟩; refine ⟨_, rfl, ?_⟩; have n0_ := Aside0.mk (Kd.R_below (by (with_reducible repeat (first | apply Kd.R_alloc | apply Kd.R_drewN | apply Kd.R_drew)); exact HO155.out) hb); have n1_ := Aside0.mk (Kd.R_below (by (with_reducible repeat (first | apply Kd.R_alloc | apply Kd.R_drewN | apply Kd.R_drew)); exact HO160.out) hb); have n2_ := Aside0.mk (below_step (by repeat (first | (with_reducible first | exact HB.out | apply below_alloc | apply pw_below_drewN | apply below_drew1) | exact HB.out)) hb); clear HO155; clear HO160; clear HB; have HO155 := n0_; have HO160 := n1_; have HB := n2_; clear n0_ n1_ n2_; (try clear hb); (try clear hb2); (try clear hk); (try clear hi)))
    (try simp only [Act.put, List.setIfInBounds_toArray, List.set_cons_zero, List.set_cons_succ])
    go_cut [34] (fun v34 wc => ∃ (kq : Nat) (x34_7 : Bool), v34 = .bool x34_7 ∧ Aside0 (laws_FnExactManifestText.j0 kq l0 t158 x34_7 = some r) ∧ Aside0 (kq ≤ k) ∧ Aside0 (Kd.R Kd.string 9 wc w.heap.size (fun _ => True) (.slice Ao13 t158.length co13) t158) ∧ Aside0 (Below w.heap.size w wc))
    case first =>
      have H := HC8.out
      clear HC8
      by_cases c15 : t161.toList = t156.toList
      · rw [if_pos c15] at H
        have c15b0 : (t161.toList == t156.toList) = true := beq_iff_eq.mpr c15
        have c15b1 : (t161.toList != t156.toList) = false := bne_eq_false_iff_eq.mpr c15
        clear c15
        (first | rw [c15b0] | (simp only [i64_w, i32_w]; rw [c15b0]) | skip)
        have H' := Aside0.mk H
        clear H
        go_wp2
        go_meet
        case rel => exact ⟨_, ((t162 != t157)), (by first | rfl | (simp; done) | (simp [*]; done)), H', ⟨by first | omega | exact Nat.le_refl _⟩, ⟨by (with_reducible repeat (first | apply Kd.R_alloc | apply Kd.R_drewN | apply Kd.R_drew)); exact Kd.R_mono HO160.out (fun _ hk => trivial)⟩, ⟨by repeat (first | (with_reducible first | exact HB.out | apply below_alloc | apply pw_below_drewN | apply below_drew1) | exact HB.out)⟩⟩
      · rw [if_neg c15] at H
        have c15b0 : (t161.toList == t156.toList) = false := beq_eq_false_iff_ne.mpr c15
        have c15b1 : (t161.toList != t156.toList) = true := bne_iff_ne.mpr c15
        (first | rw [c15b0] | (simp only [i64_w, i32_w]; rw [c15b0]) | skip)
        have H' := Aside0.mk H
        clear H
        go_wp2
        go_meet
        case rel => exact ⟨_, (true), (by first | rfl | (simp; done) | (simp [*]; done)), H', ⟨by first | omega | exact Nat.le_refl _⟩, ⟨by (with_reducible repeat (first | apply Kd.R_alloc | apply Kd.R_drewN | apply Kd.R_drew)); exact Kd.R_mono HO160.out (fun _ hk => trivial)⟩, ⟨by repeat (first | (with_reducible first | exact HB.out | apply below_alloc | apply pw_below_drewN | apply below_drew1) | exact HB.out)⟩⟩
    case rest =>
      clear HC8
      try clear c1
      try clear p2
      try clear c3
      try clear c3b0
      try clear c6
      try clear c7
      try clear c8
      try clear c9
      try clear c15
      try clear c15b0
      try clear c15b1
      obtain ⟨kq, x34_7, rfl, HA, HJ7, HO_6, HB⟩ := hcut
      cases kq with
      | zero => exact absurd HA.out (by simp [laws_FnExactManifestText.j0])
      | succ kj7 =>
        have H := HA.out
        clear HA
        simp only [laws_FnExactManifestText.j0] at H
        by_cases c16 : x34_7 = true
        · subst c16
          have H1 : (some false) = some r := by rw [if_pos rfl] at H; exact H
          clear H
          have H := H1
          clear H1
          obtain rfl := Option.some.inj H
          go_wp2
          go_ret
          exact ⟨by first | rfl | (simp [errW_none, errW_some] <;> rfl) | (simp [*, errW_none, errW_some] <;> rfl), by repeat (first | (with_reducible first | exact HB.out | apply below_alloc | apply pw_below_drewN | apply below_drew1) | exact HB.out)⟩
        · replace c16 := Bool.eq_false_iff.mpr c16
          subst c16
          have H1 : ((laws_toStringS.f kj7 l0).bind fun t163 => ((laws_eqStringS.f kj7 t158 t163).bind fun t166 => (if t166 = true then (some true) else (some false)))) = some r := by rw [if_neg (show ¬ (false = true) by decide)] at H; exact H
          clear H
          have H := H1
          clear H1
          replace H := Option.bind_eq_some_iff.mp H
          obtain ⟨t163, A170, H⟩ := H
          replace H : ((laws_eqStringS.f kj7 t158 t163).bind fun t166 => (if t166 = true then (some true) else (some false))) = some r := H
          have A17 := Aside0.mk A170
          clear A170
          replace H := Option.bind_eq_some_iff.mp H
          obtain ⟨t166, A180, H⟩ := H
          replace H : (if t166 = true then (some true) else (some false)) = some r := H
          have A18 := Aside0.mk A180
          clear A180
          by_cases c19 : t166 = true
          · subst c19
            have H1 : (some true) = some r := by rw [if_pos rfl] at H; exact H
            clear H
            have H := H1
            clear H1
            obtain rfl := Option.some.inj H
            go_wp2_with (first | ((with_reducible refine gate_callee (f := 8) rfl ?_); refine goesL_ (some 37) rfl rfl Tryd.func8 (by kernel_rfl) rfl #[.slice A0 l0.length c0] rfl (by (try simp only [List.map_toArray, List.map_cons, List.map_nil]); first | done | rfl | (simp only [List.length_drop, List.length_take]; rfl)) ?_; (with_reducible refine (laws_toStringS.calls kj7 _ _ l0 t163 _ ?side1 ?side2 A17.out).mono ?_); (case side1 => repeat (first | exact (Kd.C_below HR0.out HB.out) | (with_reducible refine Kd.C_alloc ?_ _) | (with_reducible refine Kd.C_drewN ?_ _) | (with_reducible refine Kd.C_drew ?_))); (case side2 => exact HC0.out); rintro e w20 ⟨v164, rfl, ho0, hb⟩; refine ⟨_, rfl, ?_⟩; have n0_ := Aside0.mk (Kd.R_elder' (by (with_reducible repeat (first | apply Kd.R_alloc | apply Kd.R_drewN | apply Kd.R_drew)); exact HO_6.out) (Kd.R_base ho0) hb); have n1_ := Aside0.mk (Kd.R_lower (Kd.R_new' ho0 (Kd.R_lt (by (with_reducible repeat (first | apply Kd.R_alloc | apply Kd.R_drewN | apply Kd.R_drew)); exact HO_6.out))) (below_size (by repeat (first | (with_reducible first | exact HB.out | apply below_alloc | apply pw_below_drewN | apply below_drew1) | exact HB.out)))); have n2_ := Aside0.mk (below_step (by repeat (first | (with_reducible first | exact HB.out | apply below_alloc | apply pw_below_drewN | apply below_drew1) | exact HB.out)) hb); clear HO_6; clear HB; have HO_6 := n0_; have HO165 := n1_; have HB := n2_; clear n0_ n1_ n2_; (try clear hb); (try clear hb2); (try clear hk); (try clear hi); (try clear ho0); obtain ⟨Ao21, co21, eo21⟩ := Kd.R_slice HO165.out; subst eo21) | ((with_reducible refine gate_callee (f := 10) rfl ?_); refine goesL_ (some 38) rfl rfl Tryd.func10 (by kernel_rfl) rfl #[.slice Ao13 t158.length co13, .slice Ao21 t163.length co21] rfl (by (try simp only [List.map_toArray, List.map_cons, List.map_nil]); first | done | rfl | (simp only [List.length_drop, List.length_take]; rfl)) ?_; (with_reducible refine (laws_eqStringS.calls kj7 _ _ t158 _ _ t163 true _ ?side1 ?side2 ?side3 ?side4 A18.out).mono ?_); (case side1 => repeat (first | exact (Kd.R_reads' HO_6.out).2.2 | (with_reducible refine Kd.C_alloc ?_ _) | (with_reducible refine Kd.C_drewN ?_ _) | (with_reducible refine Kd.C_drew ?_))); (case side2 => exact (Kd.R_reads' HO_6.out).2.1); (case side3 => repeat (first | exact (Kd.R_reads' HO165.out).2.2 | (with_reducible refine Kd.C_alloc ?_ _) | (with_reducible refine Kd.C_drewN ?_ _) | (with_reducible refine Kd.C_drew ?_))); (case side4 => exact (Kd.R_reads' HO165.out).2.1); rintro e w' ⟨rfl, ⟨nd, rfl⟩⟩; refine ⟨_, rfl, ?_⟩))
            go_ret
            exact ⟨by first | rfl | (simp [errW_none, errW_some] <;> rfl) | (simp [*, errW_none, errW_some] <;> rfl), by repeat (first | (with_reducible first | exact HB.out | apply below_alloc | apply pw_below_drewN | apply below_drew1) | exact HB.out)⟩
          · replace c19 := Bool.eq_false_iff.mpr c19
            subst c19
            have H1 : (some false) = some r := by rw [if_neg (show ¬ (false = true) by decide)] at H; exact H
            clear H
            have H := H1
            clear H1
            obtain rfl := Option.some.inj H
            go_wp2_with (first | ((with_reducible refine gate_callee (f := 8) rfl ?_); refine goesL_ (some 37) rfl rfl Tryd.func8 (by kernel_rfl) rfl #[.slice A0 l0.length c0] rfl (by (try simp only [List.map_toArray, List.map_cons, List.map_nil]); first | done | rfl | (simp only [List.length_drop, List.length_take]; rfl)) ?_; (with_reducible refine (laws_toStringS.calls kj7 _ _ l0 t163 _ ?side1 ?side2 A17.out).mono ?_); (case side1 => repeat (first | exact (Kd.C_below HR0.out HB.out) | (with_reducible refine Kd.C_alloc ?_ _) | (with_reducible refine Kd.C_drewN ?_ _) | (with_reducible refine Kd.C_drew ?_))); (case side2 => exact HC0.out); rintro e w22 ⟨v164, rfl, ho0, hb⟩; refine ⟨_, rfl, ?_⟩; have n0_ := Aside0.mk (Kd.R_elder' (by (with_reducible repeat (first | apply Kd.R_alloc | apply Kd.R_drewN | apply Kd.R_drew)); exact HO_6.out) (Kd.R_base ho0) hb); have n1_ := Aside0.mk (Kd.R_lower (Kd.R_new' ho0 (Kd.R_lt (by (with_reducible repeat (first | apply Kd.R_alloc | apply Kd.R_drewN | apply Kd.R_drew)); exact HO_6.out))) (below_size (by repeat (first | (with_reducible first | exact HB.out | apply below_alloc | apply pw_below_drewN | apply below_drew1) | exact HB.out)))); have n2_ := Aside0.mk (below_step (by repeat (first | (with_reducible first | exact HB.out | apply below_alloc | apply pw_below_drewN | apply below_drew1) | exact HB.out)) hb); clear HO_6; clear HB; have HO_6 := n0_; have HO165 := n1_; have HB := n2_; clear n0_ n1_ n2_; (try clear hb); (try clear hb2); (try clear hk); (try clear hi); (try clear ho0); obtain ⟨Ao23, co23, eo23⟩ := Kd.R_slice HO165.out; subst eo23) | ((with_reducible refine gate_callee (f := 10) rfl ?_); refine goesL_ (some 38) rfl rfl Tryd.func10 (by kernel_rfl) rfl #[.slice Ao13 t158.length co13, .slice Ao23 t163.length co23] rfl (by (try simp only [List.map_toArray, List.map_cons, List.map_nil]); first | done | rfl | (simp only [List.length_drop, List.length_take]; rfl)) ?_; (with_reducible refine (laws_eqStringS.calls kj7 _ _ t158 _ _ t163 false _ ?side1 ?side2 ?side3 ?side4 A18.out).mono ?_); (case side1 => repeat (first | exact (Kd.R_reads' HO_6.out).2.2 | (with_reducible refine Kd.C_alloc ?_ _) | (with_reducible refine Kd.C_drewN ?_ _) | (with_reducible refine Kd.C_drew ?_))); (case side2 => exact (Kd.R_reads' HO_6.out).2.1); (case side3 => repeat (first | exact (Kd.R_reads' HO165.out).2.2 | (with_reducible refine Kd.C_alloc ?_ _) | (with_reducible refine Kd.C_drewN ?_ _) | (with_reducible refine Kd.C_drew ?_))); (case side4 => exact (Kd.R_reads' HO165.out).2.1); rintro e w' ⟨rfl, ⟨nd, rfl⟩⟩; refine ⟨_, rfl, ?_⟩))
            go_ret
            exact ⟨by first | rfl | (simp [errW_none, errW_some] <;> rfl) | (simp [*, errW_none, errW_some] <;> rfl), by repeat (first | (with_reducible first | exact HB.out | apply below_alloc | apply pw_below_drewN | apply below_drew1) | exact HB.out)⟩

end Go.Proofs.YtfemiphklanjaaaDoor.Q
