/- Parts of the proof, put together by program. -/
import Derived.Test.YthcdjgekmfnmnaaGreatDoorK3
section
namespace Go.Proofs.YthcdjgekmfnmnaaGreatDoor.PVerb
open Go.RowKit Go.Proofs.YthcdjgekmfnmnaaGreatDoorW.PrintWords Go.Proofs.YthcdjgekmfnmnaaGreatDoorW.PrintLast Go.Proofs.YthcdjgekmfnmnaaGreatDoorW.PrintMore
attribute [local go_sem] max2_int min2_int max_two min_two max_three min_three max_four min_four
set_option linter.unusedVariables false
set_option linter.unusedSimpArgs false
def wherryref11_letter.f (a0 : Int) : Option (Bool) := if a0 ≥ 97 then (if a0 ≤ 122 then (some true) else (if a0 ≥ 65 then (some (decide (a0 ≤ 90))) else (some false))) else (if a0 ≥ 65 then (some (decide (a0 ≤ 90))) else (some false))
set_option maxHeartbeats 8000000 in
set_option maxRecDepth 100000 in
theorem wherryref11_letter.calls (a0 : Int) (r : Bool) (w : World) (h : wherryref11_letter.f a0 = some r) :
  Calls Tryz.prog 45 #[.int .u8 a0] w fun e w' => e = .returned (.bool r) ∧ Drawn0 w w' := by
 have H : (if a0 ≥ 97 then (if a0 ≤ 122 then (some true) else (if a0 ≥ 65 then (some (decide (a0 ≤ 90))) else (some false))) else (if a0 ≥ 65 then (some (decide (a0 ≤ 90))) else (some false))) = some r := h
 clear h
 by_cases c2 : a0 ≥ 97
 ·
  rw [if_pos c2] at H
  have c2b0 : decide (97 ≤ a0) = true := decide_eq_true c2
  clear c2
  by_cases c3 : a0 ≤ 122
  ·
   rw [if_pos c3] at H
   have c3b0 : decide (a0 ≤ 122) = true := decide_eq_true c3
   clear c3
   obtain rfl := Option.some.inj H
   go_enter Tryz.func45, Tryz.ntmps45
   go_wp2
   go_ret
   exact ⟨by first | rfl | (simp; done) | (simp [*]; done), by repeat (first | exact Drawn0.refl _ | apply Drawn0.step)⟩
  ·
   rw [if_neg c3] at H
   have c3b0 : decide (a0 ≤ 122) = false := decide_eq_false c3
   clear c3
   by_cases c4 : a0 ≥ 65
   ·
    rw [if_pos c4] at H
    have c4b0 : decide (65 ≤ a0) = true := decide_eq_true c4
    clear c4
    obtain rfl := Option.some.inj H
    go_enter Tryz.func45, Tryz.ntmps45
    go_wp2
    go_ret
    exact ⟨by first | rfl | (simp; done) | (simp [*]; done), by repeat (first | exact Drawn0.refl _ | apply Drawn0.step)⟩
   ·
    rw [if_neg c4] at H
    have c4b0 : decide (65 ≤ a0) = false := decide_eq_false c4
    clear c4
    obtain rfl := Option.some.inj H
    go_enter Tryz.func45, Tryz.ntmps45
    go_wp2
    go_ret
    exact ⟨by first | rfl | (simp; done) | (simp [*]; done), by repeat (first | exact Drawn0.refl _ | apply Drawn0.step)⟩
 ·
  rw [if_neg c2] at H
  have c2b0 : decide (97 ≤ a0) = false := decide_eq_false c2
  clear c2
  by_cases c5 : a0 ≥ 65
  ·
   rw [if_pos c5] at H
   have c5b0 : decide (65 ≤ a0) = true := decide_eq_true c5
   clear c5
   obtain rfl := Option.some.inj H
   go_enter Tryz.func45, Tryz.ntmps45
   go_wp2
   go_ret
   exact ⟨by first | rfl | (simp; done) | (simp [*]; done), by repeat (first | exact Drawn0.refl _ | apply Drawn0.step)⟩
  ·
   rw [if_neg c5] at H
   have c5b0 : decide (65 ≤ a0) = false := decide_eq_false c5
   clear c5
   obtain rfl := Option.some.inj H
   go_enter Tryz.func45, Tryz.ntmps45
   go_wp2
   go_ret
   exact ⟨by first | rfl | (simp; done) | (simp [*]; done), by repeat (first | exact Drawn0.refl _ | apply Drawn0.step)⟩
def wherryref11_digit.f (a0 : Int) : Option (Bool) := if a0 ≥ 48 then (some (decide (a0 ≤ 57))) else (some false)
set_option maxHeartbeats 8000000 in
set_option maxRecDepth 100000 in
theorem wherryref11_digit.calls (a0 : Int) (r : Bool) (w : World) (h : wherryref11_digit.f a0 = some r) :
  Calls Tryz.prog 46 #[.int .u8 a0] w fun e w' => e = .returned (.bool r) ∧ Drawn0 w w' := by
 have H : (if a0 ≥ 48 then (some (decide (a0 ≤ 57))) else (some false)) = some r := h
 clear h
 by_cases c2 : a0 ≥ 48
 ·
  rw [if_pos c2] at H
  have c2b0 : decide (48 ≤ a0) = true := decide_eq_true c2
  clear c2
  obtain rfl := Option.some.inj H
  go_enter Tryz.func46, Tryz.ntmps46
  go_wp2
  go_ret
  exact ⟨by first | rfl | (simp; done) | (simp [*]; done), by repeat (first | exact Drawn0.refl _ | apply Drawn0.step)⟩
 ·
  rw [if_neg c2] at H
  have c2b0 : decide (48 ≤ a0) = false := decide_eq_false c2
  clear c2
  obtain rfl := Option.some.inj H
  go_enter Tryz.func46, Tryz.ntmps46
  go_wp2
  go_ret
  exact ⟨by first | rfl | (simp; done) | (simp [*]; done), by repeat (first | exact Drawn0.refl _ | apply Drawn0.step)⟩
mutual
def wherryref11_Domain.l0 : Nat → ByteArray → Int → Int → Option (Bool)
 | 0, _, _, _ => none
 | k + 1, x0, x3, x4 => if x4 ≤ (x0.size : Int) then (if x4 < (x0.size : Int) then (if 0 ≤ x4 then (wherryref11_Domain.j1 k x0 x3 x4 ((bt x0 x4) != 46)) else (none)) else (wherryref11_Domain.j1 k x0 x3 x4 false)) else (some true)
def wherryref11_Domain.j1 : Nat → ByteArray → Int → Int → Bool → Option (Bool)
 | 0, _, _, _, _ => none
 | k + 1, x0, x3, x4, x24 => if x24 = true then (if 0 ≤ x4 then (if x4 < (x0.size : Int) then ((wherryref11_letter.f (bt x0 x4)).bind fun t191 => (if t191 = true then (wherryref11_Domain.j2 k x0 x3 x4 false) else ((wherryref11_digit.f (bt x0 x4)).bind fun t192 => (if t192 = true then (wherryref11_Domain.j2 k x0 x3 x4 false) else (wherryref11_Domain.j2 k x0 x3 x4 ((bt x0 x4) != 45)))))) else (none)) else (none)) else ((wherryref11_in.f (wrap64 (x4 - x3)) 1 63).bind fun t193 => (if t193 = true then (if 0 ≤ x3 then (if x3 < (x0.size : Int) then (if (bt x0 x3) = 45 then (some false) else (if 0 ≤ (wrap64 (x4 - 1)) then (if (wrap64 (x4 - 1)) < (x0.size : Int) then (if (bt x0 (wrap64 (x4 - 1))) = 45 then (some false) else (wherryref11_Domain.l0 k x0 (wrap64 (x4 + 1)) (wrap64 (x4 + 1)))) else (none)) else (none))) else (none)) else (none)) else (some false)))
def wherryref11_Domain.j2 : Nat → ByteArray → Int → Int → Bool → Option (Bool)
 | 0, _, _, _, _ => none
 | k + 1, x0, x3, x4, x42 => if x42 = true then (some false) else (wherryref11_Domain.l0 k x0 x3 (wrap64 (x4 + 1)))
end
def wherryref11_Domain.f (k : Nat) (a0 : ByteArray) : Option (Bool) := (wherryref11_in.f (a0.size : Int) 1 255).bind fun t190 => (if t190 = true then (wherryref11_Domain.l0 k a0 0 0) else (some false))
set_option maxHeartbeats 8000000 in
set_option maxRecDepth 100000 in
theorem wherryref11_Domain.calls (k : Nat) (a0 : ByteArray) (r : Bool) (w : World) (h : wherryref11_Domain.f k a0 = some r) :
  Calls Tryz.prog 26 #[.string a0] w fun e w' => e = .returned (.bool r) ∧ Drawn0 w w' := by
 have H : ((wherryref11_in.f (a0.size : Int) 1 255).bind fun t190 => (if t190 = true then (wherryref11_Domain.l0 k a0 0 0) else (some false))) = some r := h
 clear h
 replace H := Option.bind_eq_some_iff.mp H
 obtain ⟨t190, A20, H⟩ := H
 try dsimp -simprocs only at H
 have A2 := Aside0.mk A20
 clear A20
 by_cases c3 : t190 = true
 ·
  subst c3
  rw [if_pos rfl] at H
  try dsimp -simprocs only at H
  have H' := Aside0.mk H
  clear H
  go_enter Tryz.func26, Tryz.ntmps26
  go_wp2_with (first | ((with_reducible refine gate_callee (f := 44) rfl ?_); refine goesL_ (some 7) rfl rfl Tryz.func44 (by kernel_rfl) rfl #[.int .i64 (a0.size : Int), .int .i64 1, .int .i64 255] rfl sM ?_; (with_reducible refine (wherryref11_in.calls (a0.size : Int) 1 255 true _ A2.out).mono ?_); rintro e w' ⟨rfl, ⟨nd, rfl⟩⟩; refine ⟨_, rfl, ?_⟩))
  go_loopg [3, 4] k (fun kq v3 v4 w' => ∃ (x3_1 : Int) (x4_1 : Int), v3 = .int .i64 x3_1 ∧ v4 = .int .i64 x4_1 ∧ Aside0 (wherryref11_Domain.l0 kq a0 x3_1 x4_1 = some r) ∧ Aside0 (kq ≤ k) ∧ Drawn0 w w')
  case atStart => exact ⟨(0), (0), (by first | rfl | (simp; done) | (simp [*]; done)), (by first | rfl | (simp; done) | (simp [*]; done)), H', ⟨Nat.le_refl _⟩, by repeat (first | exact Drawn0.refl _ | apply Drawn0.step)⟩
  case round =>
   clear H'
   try clear c2; try clear p2; try clear c3
   obtain ⟨x3_1, x4_1, rfl, rfl, HA, HK1, ⟨m1, rfl⟩⟩ := hrel
   cases gk with
   | zero => exact absurd HA.out (by simp [wherryref11_Domain.l0])
   | succ k1 =>
    have H := HA.out
    clear HA
    simp only [wherryref11_Domain.l0] at H
    by_cases c4 : x4_1 ≤ (a0.size : Int)
    ·
     rw [if_pos c4] at H
     have c4b0 : decide (x4_1 ≤ (a0.size : Int)) = true := decide_eq_true c4
     clear c4
     have HC5 := Aside0.mk H
     clear H
     go_upto_region 7 with (fail)
     go_cut [24] (fun v24 wc => ∃ (kq : Nat) (x24_4 : Bool), v24 = .bool x24_4 ∧ Aside0 (wherryref11_Domain.j1 kq a0 x3_1 x4_1 x24_4 = some r) ∧ Aside0 (kq ≤ k1) ∧ Drawn0 w wc)
     case first =>
      have H := HC5.out
      clear HC5
      by_cases c6 : x4_1 < (a0.size : Int)
      ·
       rw [if_pos c6] at H
       have c6b0 : decide (x4_1 < (a0.size : Int)) = true := decide_eq_true c6
       clear c6
       (first | rw [c6b0] | (simp only [i64_w, i32_w]; rw [c6b0]) | skip)
       by_cases c7 : 0 ≤ x4_1
       ·
        rw [if_pos c7] at H
        have c7b0 : decide (0 ≤ x4_1) = true := decide_eq_true c7
        clear c7
        have H' := Aside0.mk H
        clear H
        have p8 : 0 ≤ (x4_1 : Int) := of_decide_eq_true sA
        have q8 : x4_1 < (a0.size : Int) := of_decide_eq_true sA
        have hx8 := bt_at a0 x4_1
        replace p8 := eq_true p8
        replace q8 := eq_true q8
        go_wp2
        go_meet
        case rel => exact ⟨_, (((bt a0 x4_1) != 46)), (by first | rfl | (simp; done) | (simp [*]; done)), H', ⟨by have := HK1.out; first | omega | exact Nat.le_refl _⟩, by repeat (first | exact Drawn0.refl _ | apply Drawn0.step)⟩
       ·
        rw [if_neg c7] at H
        exact absurd H (by simp)
      ·
       rw [if_neg c6] at H
       have c6b0 : decide (x4_1 < (a0.size : Int)) = false := decide_eq_false c6
       clear c6
       (first | rw [c6b0] | (simp only [i64_w, i32_w]; rw [c6b0]) | skip)
       have H' := Aside0.mk H
       clear H
       go_wp2
       go_meet
       case rel => exact ⟨_, (false), (by first | rfl | (simp; done) | (simp [*]; done)), H', ⟨by have := HK1.out; first | omega | exact Nat.le_refl _⟩, by repeat (first | exact Drawn0.refl _ | apply Drawn0.step)⟩
     case rest =>
      clear HC5
      try clear c2; try clear p2; try clear c3; try clear c4; try clear c4b0; try clear c6; try clear c6b0; try clear c7; try clear c7b0; try clear p8; try clear q8; try clear hx8; try clear p2; try clear p8; try clear q8
      obtain ⟨kq, x24_4, rfl, HA, HJ4, ⟨mc4, rfl⟩⟩ := hcut
      cases kq with
      | zero => exact absurd HA.out (by simp [wherryref11_Domain.j1])
      | succ kj4 =>
       have H := HA.out
       clear HA
       simp only [wherryref11_Domain.j1] at H
       by_cases c9 : x24_4 = true
       ·
        subst c9
        rw [if_pos rfl] at H
        try dsimp -simprocs only at H
        have HC10 := Aside0.mk H
        clear H
        go_upto_region 8 with (fail)
        go_cut [42] (fun v42 wc => ∃ (kq : Nat) (x42_9 : Bool), v42 = .bool x42_9 ∧ Aside0 (wherryref11_Domain.j2 kq a0 x3_1 x4_1 x42_9 = some r) ∧ Aside0 (kq ≤ kj4) ∧ Drawn0 w wc)
        case first =>
         have H := HC10.out
         clear HC10
         by_cases c11 : 0 ≤ x4_1
         ·
          rw [if_pos c11] at H
          have c11b0 : decide (0 ≤ x4_1) = true := decide_eq_true c11
          clear c11
          (first | rw [c11b0] | (simp only [i64_w, i32_w]; rw [c11b0]) | skip)
          by_cases c12 : x4_1 < (a0.size : Int)
          ·
           rw [if_pos c12] at H
           have c12b0 : decide (x4_1 < (a0.size : Int)) = true := decide_eq_true c12
           clear c12
           replace H := Option.bind_eq_some_iff.mp H
           obtain ⟨t191, A140, H⟩ := H
           try dsimp -simprocs only at H
           have A14 := Aside0.mk A140
           clear A140
           by_cases c15 : t191 = true
           ·
            subst c15
            rw [if_pos rfl] at H
            try dsimp -simprocs only at H
            have H' := Aside0.mk H
            clear H
            have p13 : 0 ≤ (x4_1 : Int) := of_decide_eq_true sA
            have q13 : x4_1 < (a0.size : Int) := of_decide_eq_true sA
            have hx13 := bt_at a0 x4_1
            replace p13 := eq_true p13
            replace q13 := eq_true q13
            go_wp2_with (first | ((with_reducible refine gate_callee (f := 45) rfl ?_); refine goesL_ (some 28) rfl rfl Tryz.func45 (by kernel_rfl) rfl #[.int .u8 (bt a0 x4_1)] rfl sM ?_; (with_reducible refine (wherryref11_letter.calls (bt a0 x4_1) true _ A14.out).mono ?_); rintro e w' ⟨rfl, ⟨nd, rfl⟩⟩; refine ⟨_, rfl, ?_⟩))
            go_meet
            case rel => exact ⟨_, (false), (by first | rfl | (simp; done) | (simp [*]; done)), H', ⟨by have := HK1.out; have := HJ4.out; first | omega | exact Nat.le_refl _⟩, by repeat (first | exact Drawn0.refl _ | apply Drawn0.step)⟩
           ·
            replace c15 := Bool.eq_false_iff.mpr c15
            subst c15
            rw [if_neg (show ¬ (false = true) by decide)] at H
            try dsimp -simprocs only at H
            replace H := Option.bind_eq_some_iff.mp H
            obtain ⟨t192, A170, H⟩ := H
            try dsimp -simprocs only at H
            have A17 := Aside0.mk A170
            clear A170
            by_cases c18 : t192 = true
            ·
             subst c18
             rw [if_pos rfl] at H
             try dsimp -simprocs only at H
             have H' := Aside0.mk H
             clear H
             have p13 : 0 ≤ (x4_1 : Int) := of_decide_eq_true sA
             have q13 : x4_1 < (a0.size : Int) := of_decide_eq_true sA
             have hx13 := bt_at a0 x4_1
             replace p13 := eq_true p13
             replace q13 := eq_true q13
             go_wp2_with (first | ((with_reducible refine gate_callee (f := 45) rfl ?_); refine goesL_ (some 28) rfl rfl Tryz.func45 (by kernel_rfl) rfl #[.int .u8 (bt a0 x4_1)] rfl sM ?_; (with_reducible refine (wherryref11_letter.calls (bt a0 x4_1) false _ A14.out).mono ?_); rintro e w' ⟨rfl, ⟨nd, rfl⟩⟩; refine ⟨_, rfl, ?_⟩; have p16 : 0 ≤ (x4_1 : Int) := of_decide_eq_true sA; have q16 : x4_1 < (a0.size : Int) := of_decide_eq_true sA; have hx16 := bt_at a0 x4_1; replace p16 := eq_true p16; replace q16 := eq_true q16) | (go_at_call 46; (with_reducible refine (wherryref11_digit.calls (bt a0 x4_1) true _ A17.out).mono ?_); rintro e w' ⟨rfl, ⟨nd, rfl⟩⟩))
             go_meet
             case rel => exact ⟨_, (false), (by first | rfl | (simp; done) | (simp [*]; done)), H', ⟨by have := HK1.out; have := HJ4.out; first | omega | exact Nat.le_refl _⟩, by repeat (first | exact Drawn0.refl _ | apply Drawn0.step)⟩
            ·
             replace c18 := Bool.eq_false_iff.mpr c18
             subst c18
             rw [if_neg (show ¬ (false = true) by decide)] at H
             try dsimp -simprocs only at H
             have H' := Aside0.mk H
             clear H
             have p13 : 0 ≤ (x4_1 : Int) := of_decide_eq_true sA
             have q13 : x4_1 < (a0.size : Int) := of_decide_eq_true sA
             have hx13 := bt_at a0 x4_1
             replace p13 := eq_true p13
             replace q13 := eq_true q13
             go_wp2_with (first | ((with_reducible refine gate_callee (f := 45) rfl ?_); refine goesL_ (some 28) rfl rfl Tryz.func45 (by kernel_rfl) rfl #[.int .u8 (bt a0 x4_1)] rfl sM ?_; (with_reducible refine (wherryref11_letter.calls (bt a0 x4_1) false _ A14.out).mono ?_); rintro e w' ⟨rfl, ⟨nd, rfl⟩⟩; refine ⟨_, rfl, ?_⟩; have p16 : 0 ≤ (x4_1 : Int) := of_decide_eq_true sA; have q16 : x4_1 < (a0.size : Int) := of_decide_eq_true sA; have hx16 := bt_at a0 x4_1; replace p16 := eq_true p16; replace q16 := eq_true q16) | (go_at_call 46; (with_reducible refine (wherryref11_digit.calls (bt a0 x4_1) false _ A17.out).mono ?_); rintro e w' ⟨rfl, ⟨nd, rfl⟩⟩; have p19 : 0 ≤ (x4_1 : Int) := of_decide_eq_true sA; have q19 : x4_1 < (a0.size : Int) := of_decide_eq_true sA; have hx19 := bt_at a0 x4_1; replace p19 := eq_true p19; replace q19 := eq_true q19))
             go_meet
             case rel => exact ⟨_, (((bt a0 x4_1) != 45)), (by first | rfl | (simp; done) | (simp [*]; done)), H', ⟨by have := HK1.out; have := HJ4.out; first | omega | exact Nat.le_refl _⟩, by repeat (first | exact Drawn0.refl _ | apply Drawn0.step)⟩
          ·
           rw [if_neg c12] at H
           exact absurd H (by simp)
         ·
          rw [if_neg c11] at H
          exact absurd H (by simp)
        case rest =>
         clear HC10
         try clear c1; try clear p1; try clear q1; try clear hx1; try clear c2; try clear p2; try clear c3; try clear c4; try clear c4b0; try clear c6; try clear c6b0; try clear c7; try clear c7b0; try clear p8; try clear q8; try clear hx8; try clear c9; try clear c11; try clear c11b0; try clear c12; try clear c12b0; try clear p13; try clear q13; try clear hx13; try clear c15; try clear p16; try clear q16; try clear hx16; try clear c18; try clear p19; try clear q19; try clear hx19; try clear p13; try clear p16; try clear p19; try clear p2; try clear p8; try clear q13; try clear q16; try clear q19; try clear q8
         obtain ⟨kq, x42_9, rfl, HA, HJ9, ⟨mc9, rfl⟩⟩ := hcut
         cases kq with
         | zero => exact absurd HA.out (by simp [wherryref11_Domain.j2])
         | succ kj9 =>
          have H := HA.out
          clear HA
          simp only [wherryref11_Domain.j2] at H
          by_cases c20 : x42_9 = true
          ·
           subst c20
           rw [if_pos rfl] at H
           try dsimp -simprocs only at H
           obtain rfl := Option.some.inj H
           go_wp2
           go_ret
           exact ⟨by first | rfl | (simp; done) | (simp [*]; done), by repeat (first | exact Drawn0.refl _ | apply Drawn0.step)⟩
          ·
           replace c20 := Bool.eq_false_iff.mpr c20
           subst c20
           rw [if_neg (show ¬ (false = true) by decide)] at H
           try dsimp -simprocs only at H
           have H' := Aside0.mk H
           clear H
           go_wp2
           go_roundg kj9
           case measure => have := HK1.out; have := HJ4.out; have := HJ9.out; omega
           case rel => exact ⟨(x3_1), (wrap64 (x4_1 + 1)), (by first | rfl | (simp; done) | (simp [*]; done)), (by first | rfl | (simp; done) | (simp [*]; done)), H', ⟨by have := HK1.out; have := HJ4.out; have := HJ9.out; omega⟩, by repeat (first | exact Drawn0.refl _ | apply Drawn0.step)⟩
       ·
        replace c9 := Bool.eq_false_iff.mpr c9
        subst c9
        rw [if_neg (show ¬ (false = true) by decide)] at H
        try dsimp -simprocs only at H
        replace H := Option.bind_eq_some_iff.mp H
        obtain ⟨t193, A210, H⟩ := H
        try dsimp -simprocs only at H
        have A21 := Aside0.mk A210
        clear A210
        by_cases c22 : t193 = true
        ·
         subst c22
         rw [if_pos rfl] at H
         try dsimp -simprocs only at H
         by_cases c23 : 0 ≤ x3_1
         ·
          rw [if_pos c23] at H
          have c23b0 : decide (0 ≤ x3_1) = true := decide_eq_true c23
          clear c23
          by_cases c24 : x3_1 < (a0.size : Int)
          ·
           rw [if_pos c24] at H
           have c24b0 : decide (x3_1 < (a0.size : Int)) = true := decide_eq_true c24
           clear c24
           by_cases c26 : (bt a0 x3_1) = 45
           ·
            rw [if_pos c26] at H
            have c26b0 : ((bt a0 x3_1) == 45) = true := beq_iff_eq.mpr c26
            have c26b1 : ((bt a0 x3_1) != 45) = false := bne_eq_false_iff_eq.mpr c26
            clear c26
            obtain rfl := Option.some.inj H
            go_wp2_with (first | ((with_reducible refine gate_callee (f := 44) rfl ?_); refine goesL_ (some 46) rfl rfl Tryz.func44 (by kernel_rfl) rfl #[.int .i64 (wrap64 (x4_1 - x3_1)), .int .i64 1, .int .i64 63] rfl sM ?_; (with_reducible refine (wherryref11_in.calls (wrap64 (x4_1 - x3_1)) 1 63 true _ A21.out).mono ?_); rintro e w' ⟨rfl, ⟨nd, rfl⟩⟩; refine ⟨_, rfl, ?_⟩; have p25 : 0 ≤ (x3_1 : Int) := of_decide_eq_true sA; have q25 : x3_1 < (a0.size : Int) := of_decide_eq_true sA; have hx25 := bt_at a0 x3_1; replace p25 := eq_true p25; replace q25 := eq_true q25))
            go_ret
            exact ⟨by first | rfl | (simp; done) | (simp [*]; done), by repeat (first | exact Drawn0.refl _ | apply Drawn0.step)⟩
           ·
            rw [if_neg c26] at H
            have c26b0 : ((bt a0 x3_1) == 45) = false := beq_eq_false_iff_ne.mpr c26
            have c26b1 : ((bt a0 x3_1) != 45) = true := bne_iff_ne.mpr c26
            obtain ⟨ji27, hji27⟩ : ∃ j_ : Int, (wrap64 (x4_1 - 1)) = j_ := ⟨_, rfl⟩
            replace H : (if 0 ≤ (ji27) then (if (ji27) < (a0.size : Int) then (if (bt a0 (ji27)) = 45 then (some false) else (wherryref11_Domain.l0 kj4 a0 (wrap64 (x4_1 + 1)) (wrap64 (x4_1 + 1)))) else (none)) else (none)) = some r := by first | (rw [hji27] at H; exact H) | (simp only [hji27] at H ⊢; exact H)
            (try rw [hji27] at A21)
            have hji27w : (IntKind.i64.wrap (x4_1 - 1)) = ji27 := (i64_w _).trans hji27
            by_cases c28 : 0 ≤ (ji27)
            ·
             rw [if_pos c28] at H
             have c28b0 : decide (0 ≤ (ji27)) = true := decide_eq_true c28
             clear c28
             by_cases c29 : (ji27) < (a0.size : Int)
             ·
              rw [if_pos c29] at H
              have c29b0 : decide ((ji27) < (a0.size : Int)) = true := decide_eq_true c29
              clear c29
              by_cases c31 : (bt a0 (ji27)) = 45
              ·
               rw [if_pos c31] at H
               have c31b0 : ((bt a0 (ji27)) == 45) = true := beq_iff_eq.mpr c31
               have c31b1 : ((bt a0 (ji27)) != 45) = false := bne_eq_false_iff_eq.mpr c31
               clear c31
               obtain rfl := Option.some.inj H
               go_wp2_with (first | ((with_reducible refine gate_callee (f := 44) rfl ?_); refine goesL_ (some 46) rfl rfl Tryz.func44 (by kernel_rfl) rfl #[.int .i64 (wrap64 (x4_1 - x3_1)), .int .i64 1, .int .i64 63] rfl sM ?_; (with_reducible refine (wherryref11_in.calls (wrap64 (x4_1 - x3_1)) 1 63 true _ A21.out).mono ?_); rintro e w' ⟨rfl, ⟨nd, rfl⟩⟩; refine ⟨_, rfl, ?_⟩; have p25 : 0 ≤ (x3_1 : Int) := of_decide_eq_true sA; have q25 : x3_1 < (a0.size : Int) := of_decide_eq_true sA; have hx25 := bt_at a0 x3_1; replace p25 := eq_true p25; replace q25 := eq_true q25; have p30 : 0 ≤ ((ji27) : Int) := of_decide_eq_true sA; have q30 : (ji27) < (a0.size : Int) := of_decide_eq_true sA; have hx30 := bt_at a0 (ji27); replace p30 := eq_true p30; replace q30 := eq_true q30))
               go_ret
               exact ⟨by first | rfl | (simp; done) | (simp only [← hji27] <;> (first | rfl | simp)) | (simp [*]; done), by repeat (first | exact Drawn0.refl _ | apply Drawn0.step)⟩
              ·
               rw [if_neg c31] at H
               have c31b0 : ((bt a0 (ji27)) == 45) = false := beq_eq_false_iff_ne.mpr c31
               have c31b1 : ((bt a0 (ji27)) != 45) = true := bne_iff_ne.mpr c31
               have H' := Aside0.mk H
               clear H
               go_wp2_with (first | ((with_reducible refine gate_callee (f := 44) rfl ?_); refine goesL_ (some 46) rfl rfl Tryz.func44 (by kernel_rfl) rfl #[.int .i64 (wrap64 (x4_1 - x3_1)), .int .i64 1, .int .i64 63] rfl sM ?_; (with_reducible refine (wherryref11_in.calls (wrap64 (x4_1 - x3_1)) 1 63 true _ A21.out).mono ?_); rintro e w' ⟨rfl, ⟨nd, rfl⟩⟩; refine ⟨_, rfl, ?_⟩; have p25 : 0 ≤ (x3_1 : Int) := of_decide_eq_true sA; have q25 : x3_1 < (a0.size : Int) := of_decide_eq_true sA; have hx25 := bt_at a0 x3_1; replace p25 := eq_true p25; replace q25 := eq_true q25; have p30 : 0 ≤ ((ji27) : Int) := of_decide_eq_true sA; have q30 : (ji27) < (a0.size : Int) := of_decide_eq_true sA; have hx30 := bt_at a0 (ji27); replace p30 := eq_true p30; replace q30 := eq_true q30))
               go_roundg kj4
               case measure => have := HK1.out; have := HJ4.out; omega
               case rel => exact ⟨(wrap64 (x4_1 + 1)), (wrap64 (x4_1 + 1)), (by first | rfl | (simp; done) | (simp [*]; done)), (by first | rfl | (simp; done) | (simp [*]; done)), H', ⟨by have := HK1.out; have := HJ4.out; omega⟩, by repeat (first | exact Drawn0.refl _ | apply Drawn0.step)⟩
             ·
              rw [if_neg c29] at H
              exact absurd H (by simp)
            ·
             rw [if_neg c28] at H
             exact absurd H (by simp)
          ·
           rw [if_neg c24] at H
           exact absurd H (by simp)
         ·
          rw [if_neg c23] at H
          exact absurd H (by simp)
        ·
         replace c22 := Bool.eq_false_iff.mpr c22
         subst c22
         rw [if_neg (show ¬ (false = true) by decide)] at H
         try dsimp -simprocs only at H
         obtain rfl := Option.some.inj H
         go_wp2_with (first | ((with_reducible refine gate_callee (f := 44) rfl ?_); refine goesL_ (some 46) rfl rfl Tryz.func44 (by kernel_rfl) rfl #[.int .i64 (wrap64 (x4_1 - x3_1)), .int .i64 1, .int .i64 63] rfl sM ?_; (with_reducible refine (wherryref11_in.calls (wrap64 (x4_1 - x3_1)) 1 63 false _ A21.out).mono ?_); rintro e w' ⟨rfl, ⟨nd, rfl⟩⟩; refine ⟨_, rfl, ?_⟩))
         go_ret
         exact ⟨by first | rfl | (simp; done) | (simp [*]; done), by repeat (first | exact Drawn0.refl _ | apply Drawn0.step)⟩
    ·
     rw [if_neg c4] at H
     have c4b0 : decide (x4_1 ≤ (a0.size : Int)) = false := decide_eq_false c4
     clear c4
     obtain rfl := Option.some.inj H
     go_wp2
     go_ret
     exact ⟨by first | rfl | (simp; done) | (simp [*]; done), by repeat (first | exact Drawn0.refl _ | apply Drawn0.step)⟩
 ·
  replace c3 := Bool.eq_false_iff.mpr c3
  subst c3
  rw [if_neg (show ¬ (false = true) by decide)] at H
  try dsimp -simprocs only at H
  obtain rfl := Option.some.inj H
  go_enter Tryz.func26, Tryz.ntmps26
  go_wp2_with (first | ((with_reducible refine gate_callee (f := 44) rfl ?_); refine goesL_ (some 7) rfl rfl Tryz.func44 (by kernel_rfl) rfl #[.int .i64 (a0.size : Int), .int .i64 1, .int .i64 255] rfl sM ?_; (with_reducible refine (wherryref11_in.calls (a0.size : Int) 1 255 false _ A2.out).mono ?_); rintro e w' ⟨rfl, ⟨nd, rfl⟩⟩; refine ⟨_, rfl, ?_⟩))
  go_ret
  exact ⟨by first | rfl | (simp; done) | (simp [*]; done), by repeat (first | exact Drawn0.refl _ | apply Drawn0.step)⟩
def wherryref11_begins.f (k : Nat) (a0 : ByteArray) (a1 : ByteArray) : Option (ByteArray × Bool) := if (a0.size : Int) < (a1.size : Int) then (some ((⟨#[]⟩ : ByteArray), false)) else (if 0 ≤ (a1.size : Int) then (if (a1.size : Int) ≤ (a0.size : Int) then ((wherryref11_Fold.f k (a0.extract 0 a1.size)).bind fun t194 => (if t194.toList = a1.toList then (some (a0.extract a1.size a0.size, true)) else (some ((⟨#[]⟩ : ByteArray), false)))) else (none)) else (none))
set_option maxHeartbeats 8000000 in
set_option maxRecDepth 100000 in
theorem wherryref11_begins.calls (k : Nat) (a0 : ByteArray) (a1 : ByteArray) (r1 : ByteArray) (r2 : Bool) (w : World) (h : wherryref11_begins.f k a0 a1 = some (r1, r2)) :
  Calls Tryz.prog 27 #[.string a0, .string a1] w fun e w' => e = .returned (.tuple #[.string r1, .bool r2]) ∧ Below w.heap.size w w' := by
 have HB := Aside0.mk (Below.refl w.heap.size w)
 have H : (if (a0.size : Int) < (a1.size : Int) then (some ((⟨#[]⟩ : ByteArray), false)) else (if 0 ≤ (a1.size : Int) then (if (a1.size : Int) ≤ (a0.size : Int) then ((wherryref11_Fold.f k (a0.extract 0 a1.size)).bind fun t194 => (if t194.toList = a1.toList then (some (a0.extract a1.size a0.size, true)) else (some ((⟨#[]⟩ : ByteArray), false)))) else (none)) else (none))) = some (r1, r2) := h
 clear h
 by_cases c3 : (a0.size : Int) < (a1.size : Int)
 ·
  rw [if_pos c3] at H
  have c3b0 : decide ((a0.size : Int) < (a1.size : Int)) = true := decide_eq_true c3
  have c3b1 : decide (a0.size < a1.size) = true := decide_eq_true (Int.ofNat_lt.mp c3)
  clear c3
  simp only [Option.some.injEq, Prod.mk.injEq] at H
  obtain ⟨rfl, rfl⟩ := H
  go_enter Tryz.func27, Tryz.ntmps27
  go_wp2
  go_ret2
  exact ⟨by first | rfl | (simp [errW_none, errW_some] <;> rfl) | (simp [*, errW_none, errW_some] <;> rfl), sB HB.out⟩
 ·
  rw [if_neg c3] at H
  have c3b0 : decide ((a0.size : Int) < (a1.size : Int)) = false := decide_eq_false c3
  have c3b1 : decide (a0.size < a1.size) = false := decide_eq_false (fun h => c3 (Int.ofNat_lt.mpr h))
  clear c3
  by_cases c4 : 0 ≤ (a1.size : Int)
  ·
   rw [if_pos c4] at H
   have c4b0 := eq_true c4
   have c4b1 : decide (0 ≤ (a1.size : Int)) = true := decide_eq_true c4
   clear c4
   by_cases c5 : (a1.size : Int) ≤ (a0.size : Int)
   ·
    rw [if_pos c5] at H
    have c5b0 := eq_true c5
    have c5b1 : decide ((a1.size : Int) ≤ (a0.size : Int)) = true := decide_eq_true c5
    clear c5
    replace H := Option.bind_eq_some_iff.mp H
    obtain ⟨t194, A60, H⟩ := H
    try dsimp -simprocs only at H
    have A6 := Aside0.mk A60
    clear A60
    by_cases c7 : t194.toList = a1.toList
    ·
     rw [if_pos c7] at H
     have c7b0 : (t194.toList == a1.toList) = true := beq_iff_eq.mpr c7
     have c7b1 : (t194.toList != a1.toList) = false := bne_eq_false_iff_eq.mpr c7
     clear c7
     have c8b0 := eq_true (of_decide_eq_true sA : 0 ≤ (a1.size : Int))
     have c9b0 := eq_true (of_decide_eq_true sA : (a1.size : Int) ≤ (a0.size : Int))
     simp only [Option.some.injEq, Prod.mk.injEq] at H
     obtain ⟨rfl, rfl⟩ := H
     go_enter Tryz.func27, Tryz.ntmps27
     go_wp2_with (first | (go_at_call 29; (with_reducible refine (wherryref11_Fold.calls k (a0.extract 0 a1.size) t194 _ A6.out).mono ?_); rintro e w10 ⟨rfl, hb⟩; replace HB := Aside0.mk (below_step (sB HB.out) hb); (try clear hb)))
     go_ret2
     exact ⟨by first | rfl | (simp [errW_none, errW_some] <;> rfl) | (simp [*, errW_none, errW_some] <;> rfl), sB HB.out⟩
    ·
     rw [if_neg c7] at H
     have c7b0 : (t194.toList == a1.toList) = false := beq_eq_false_iff_ne.mpr c7
     have c7b1 : (t194.toList != a1.toList) = true := bne_iff_ne.mpr c7
     simp only [Option.some.injEq, Prod.mk.injEq] at H
     obtain ⟨rfl, rfl⟩ := H
     go_enter Tryz.func27, Tryz.ntmps27
     go_wp2_with (first | (go_at_call 29; (with_reducible refine (wherryref11_Fold.calls k (a0.extract 0 a1.size) t194 _ A6.out).mono ?_); rintro e w11 ⟨rfl, hb⟩; replace HB := Aside0.mk (below_step (sB HB.out) hb); (try clear hb)))
     go_ret2
     exact ⟨by first | rfl | (simp [errW_none, errW_some] <;> rfl) | (simp [*, errW_none, errW_some] <;> rfl), sB HB.out⟩
   ·
    rw [if_neg c5] at H
    exact absurd H (by simp)
  ·
   rw [if_neg c4] at H
   exact absurd H (by simp)
mutual
def wherryref11_sign.j0 : Nat → Int → Bool → Option (Bool)
 | 0, _, _ => none
 | k + 1, x0, x10 => if x10 = true then (some true) else (wherryref11_sign.l0 k x0 (⟨#[33, 35, 36, 37, 38, 39, 42, 43, 45, 47, 61, 63, 94, 95, 123, 124, 125, 126]⟩ : ByteArray) 0)
def wherryref11_sign.l0 : Nat → Int → ByteArray → Int → Option (Bool)
 | 0, _, _, _ => none
 | k + 1, x0, x3, x4 => if x4 < (x3.size : Int) then (if 0 ≤ x4 then (if (bt x3 x4) = x0 then (some true) else (wherryref11_sign.l0 k x0 x3 (wrap64 (x4 + 1)))) else (none)) else (some (x0 == 96))
end
def wherryref11_sign.f (k : Nat) (a0 : Int) : Option (Bool) := (wherryref11_letter.f a0).bind fun t195 => (if t195 = true then (wherryref11_sign.j0 k a0 true) else ((wherryref11_digit.f a0).bind fun t196 => (wherryref11_sign.j0 k a0 t196)))
theorem wherryref11_sign.mono_l : ∀ k, (∀ y0 y1, LeO (wherryref11_sign.j0 k y0 y1) (wherryref11_sign.j0 (k + 1) y0 y1)) ∧ (∀ y0 y1 y2, LeO (wherryref11_sign.l0 k y0 y1 y2) (wherryref11_sign.l0 (k + 1) y0 y1 y2))
 | 0 => ⟨fun _ _ r h => by simp [wherryref11_sign.j0] at h, fun _ _ _ r h => by simp [wherryref11_sign.l0] at h⟩
 | k + 1 => by
  obtain ⟨ih0, ih1⟩ := wherryref11_sign.mono_l k
  refine ⟨?_, ?_⟩
  ·
   intro y0 y1
   unfold wherryref11_sign.j0
   repeat' first
   | (with_reducible exact ih0 _ _)
   | (with_reducible exact ih1 _ _ _)
   | (with_reducible exact LeO.refl _)
   | (with_reducible exact LeO.none _)
   | (with_reducible refine LeO.ite ?_ ?_)
   | (with_reducible refine LeO.bind ?_ (fun _ => ?_))
   | exact ih0 _ _
   | exact ih1 _ _ _
   | exact LeO.none _
   | refine LeO.ite ?_ ?_
   | refine LeO.bind ?_ (fun _ => ?_)
  ·
   intro y0 y1 y2
   unfold wherryref11_sign.l0
   repeat' first
   | (with_reducible exact ih0 _ _)
   | (with_reducible exact ih1 _ _ _)
   | (with_reducible exact LeO.refl _)
   | (with_reducible exact LeO.none _)
   | (with_reducible refine LeO.ite ?_ ?_)
   | (with_reducible refine LeO.bind ?_ (fun _ => ?_))
   | exact ih0 _ _
   | exact ih1 _ _ _
   | exact LeO.none _
   | refine LeO.ite ?_ ?_
   | refine LeO.bind ?_ (fun _ => ?_)
theorem wherryref11_sign.mono : ∀ a0 k, LeO (wherryref11_sign.f k a0) (wherryref11_sign.f (k + 1) a0) := by
 intro a0 k
 obtain ⟨ih0, ih1⟩ := wherryref11_sign.mono_l k
 unfold wherryref11_sign.f
 repeat' first
   | (with_reducible exact ih0 _ _)
   | (with_reducible exact ih1 _ _ _)
   | (with_reducible exact LeO.refl _)
   | (with_reducible exact LeO.none _)
   | (with_reducible refine LeO.ite ?_ ?_)
   | (with_reducible refine LeO.bind ?_ (fun _ => ?_))
   | exact ih0 _ _
   | exact ih1 _ _ _
   | exact LeO.none _
   | refine LeO.ite ?_ ?_
   | refine LeO.bind ?_ (fun _ => ?_)
set_option maxHeartbeats 8000000 in
set_option maxRecDepth 100000 in
theorem wherryref11_sign.calls (k : Nat) (a0 : Int) (r : Bool) (w : World) (h : wherryref11_sign.f k a0 = some r) :
  Calls Tryz.prog 51 #[.int .u8 a0] w fun e w' => e = .returned (.bool r) ∧ Drawn0 w w' := by
 have H : ((wherryref11_letter.f a0).bind fun t195 => (if t195 = true then (wherryref11_sign.j0 k a0 true) else ((wherryref11_digit.f a0).bind fun t196 => (wherryref11_sign.j0 k a0 t196)))) = some r := h
 clear h
 have HC2 := Aside0.mk H
 clear H
 go_enter Tryz.func51, Tryz.ntmps51
 go_upto_region 1 with (fail)
 go_cut [10] (fun v10 wc => ∃ (kq : Nat) (x10_1 : Bool), v10 = .bool x10_1 ∧ Aside0 (wherryref11_sign.j0 kq a0 x10_1 = some r) ∧ Aside0 (kq ≤ k) ∧ Drawn0 w wc)
 case first =>
  have H := HC2.out
  clear HC2
  replace H := Option.bind_eq_some_iff.mp H
  obtain ⟨t195, A30, H⟩ := H
  try dsimp -simprocs only at H
  have A3 := Aside0.mk A30
  clear A30
  by_cases c4 : t195 = true
  ·
   subst c4
   rw [if_pos rfl] at H
   try dsimp -simprocs only at H
   have H' := Aside0.mk H
   clear H
   go_wp2_with (first | ((with_reducible refine gate_callee (f := 45) rfl ?_); refine goesL_ (some 6) rfl rfl Tryz.func45 (by kernel_rfl) rfl #[.int .u8 a0] rfl sM ?_; (with_reducible refine (wherryref11_letter.calls a0 true _ A3.out).mono ?_); rintro e w' ⟨rfl, ⟨nd, rfl⟩⟩; refine ⟨_, rfl, ?_⟩))
   go_meet
   case rel => exact ⟨_, (true), (by first | rfl | (simp; done) | (simp [*]; done)), H', ⟨by first | omega | exact Nat.le_refl _⟩, by repeat (first | exact Drawn0.refl _ | apply Drawn0.step)⟩
  ·
   replace c4 := Bool.eq_false_iff.mpr c4
   subst c4
   rw [if_neg (show ¬ (false = true) by decide)] at H
   try dsimp -simprocs only at H
   replace H := Option.bind_eq_some_iff.mp H
   obtain ⟨t196, A50, H⟩ := H
   try dsimp -simprocs only at H
   have A5 := Aside0.mk A50
   clear A50
   have H' := Aside0.mk H
   clear H
   go_wp2_with (first | ((with_reducible refine gate_callee (f := 45) rfl ?_); refine goesL_ (some 6) rfl rfl Tryz.func45 (by kernel_rfl) rfl #[.int .u8 a0] rfl sM ?_; (with_reducible refine (wherryref11_letter.calls a0 false _ A3.out).mono ?_); rintro e w' ⟨rfl, ⟨nd, rfl⟩⟩; refine ⟨_, rfl, ?_⟩) | (go_at_call 46; (with_reducible refine (wherryref11_digit.calls a0 t196 _ A5.out).mono ?_); rintro e w' ⟨rfl, ⟨nd, rfl⟩⟩))
   go_meet
   case rel => exact ⟨_, (t196), (by first | rfl | (simp; done) | (simp [*]; done)), H', ⟨by first | omega | exact Nat.le_refl _⟩, by repeat (first | exact Drawn0.refl _ | apply Drawn0.step)⟩
 case rest =>
  clear HC2
  try clear p2; try clear c4; try clear c5
  obtain ⟨kq, x10_1, rfl, HA, HJ1, ⟨mc1, rfl⟩⟩ := hcut
  cases kq with
  | zero => exact absurd HA.out (by simp [wherryref11_sign.j0])
  | succ kj1 =>
   have H := HA.out
   clear HA
   simp only [wherryref11_sign.j0] at H
   by_cases c6 : x10_1 = true
   ·
    subst c6
    rw [if_pos rfl] at H
    try dsimp -simprocs only at H
    obtain rfl := Option.some.inj H
    go_wp2
    go_ret
    exact ⟨by first | rfl | (simp; done) | (simp [*]; done), by repeat (first | exact Drawn0.refl _ | apply Drawn0.step)⟩
   ·
    replace c6 := Bool.eq_false_iff.mpr c6
    subst c6
    rw [if_neg (show ¬ (false = true) by decide)] at H
    try dsimp -simprocs only at H
    have H' := Aside0.mk H
    clear H
    go_wp2
    go_loopg [4] kj1 (fun kq v4 w' => ∃ (x4_2 : Int), v4 = .int .i64 x4_2 ∧ Aside0 (wherryref11_sign.l0 kq a0 (⟨#[33, 35, 36, 37, 38, 39, 42, 43, 45, 47, 61, 63, 94, 95, 123, 124, 125, 126]⟩ : ByteArray) x4_2 = some r) ∧ Aside0 (kq ≤ kj1) ∧ Drawn0 w w')
    case atStart => exact ⟨(0), (by first | rfl | (simp; done) | (simp [*]; done)), H', ⟨Nat.le_refl _⟩, by repeat (first | exact Drawn0.refl _ | apply Drawn0.step)⟩
    case round =>
     clear H'
     try clear c1; try clear p2; try clear c4; try clear c5; try clear c6; try clear p2
     obtain ⟨x4_2, rfl, HA, HK2, ⟨m2, rfl⟩⟩ := hrel
     cases gk with
     | zero => exact absurd HA.out (by simp [wherryref11_sign.l0])
     | succ k2 =>
      have H := HA.out
      clear HA
      simp only [wherryref11_sign.l0] at H
      by_cases c7 : x4_2 < ((⟨#[33, 35, 36, 37, 38, 39, 42, 43, 45, 47, 61, 63, 94, 95, 123, 124, 125, 126]⟩ : ByteArray).size : Int)
      ·
       rw [if_pos c7] at H
       have c7b0 : decide (x4_2 < (18 : Int)) = true := decide_eq_true c7
       clear c7
       by_cases c8 : 0 ≤ x4_2
       ·
        rw [if_pos c8] at H
        have c8b0 : decide (0 ≤ x4_2) = true := decide_eq_true c8
        clear c8
        by_cases c10 : (bt (⟨#[33, 35, 36, 37, 38, 39, 42, 43, 45, 47, 61, 63, 94, 95, 123, 124, 125, 126]⟩ : ByteArray) x4_2) = a0
        ·
         rw [if_pos c10] at H
         have c10b0 : ((bt (⟨#[33, 35, 36, 37, 38, 39, 42, 43, 45, 47, 61, 63, 94, 95, 123, 124, 125, 126]⟩ : ByteArray) x4_2) == a0) = true := beq_iff_eq.mpr c10
         have c10b1 : ((bt (⟨#[33, 35, 36, 37, 38, 39, 42, 43, 45, 47, 61, 63, 94, 95, 123, 124, 125, 126]⟩ : ByteArray) x4_2) != a0) = false := bne_eq_false_iff_eq.mpr c10
         clear c10
         obtain rfl := Option.some.inj H
         have p9 : 0 ≤ (x4_2 : Int) := of_decide_eq_true sA
         have q9 : x4_2 < (18 : Int) := of_decide_eq_true sA
         have hx9 := bt_at (⟨#[33, 35, 36, 37, 38, 39, 42, 43, 45, 47, 61, 63, 94, 95, 123, 124, 125, 126]⟩ : ByteArray) x4_2
         replace p9 := eq_true p9
         replace q9 := eq_true q9
         go_wp2
         go_ret
         exact ⟨by first | rfl | (simp; done) | (simp [*]; done), by repeat (first | exact Drawn0.refl _ | apply Drawn0.step)⟩
        ·
         rw [if_neg c10] at H
         have c10b0 : ((bt (⟨#[33, 35, 36, 37, 38, 39, 42, 43, 45, 47, 61, 63, 94, 95, 123, 124, 125, 126]⟩ : ByteArray) x4_2) == a0) = false := beq_eq_false_iff_ne.mpr c10
         have c10b1 : ((bt (⟨#[33, 35, 36, 37, 38, 39, 42, 43, 45, 47, 61, 63, 94, 95, 123, 124, 125, 126]⟩ : ByteArray) x4_2) != a0) = true := bne_iff_ne.mpr c10
         have H' := Aside0.mk H
         clear H
         have p9 : 0 ≤ (x4_2 : Int) := of_decide_eq_true sA
         have q9 : x4_2 < (18 : Int) := of_decide_eq_true sA
         have hx9 := bt_at (⟨#[33, 35, 36, 37, 38, 39, 42, 43, 45, 47, 61, 63, 94, 95, 123, 124, 125, 126]⟩ : ByteArray) x4_2
         replace p9 := eq_true p9
         replace q9 := eq_true q9
         go_wp2
         go_roundg k2
         case measure => have := HJ1.out; have := HK2.out; omega
         case rel => exact ⟨(wrap64 (x4_2 + 1)), (by first | rfl | (simp; done) | (simp [*]; done)), H', ⟨by have := HJ1.out; have := HK2.out; omega⟩, by repeat (first | exact Drawn0.refl _ | apply Drawn0.step)⟩
       ·
        rw [if_neg c8] at H
        exact absurd H (by simp)
      ·
       rw [if_neg c7] at H
       have c7b0 : decide (x4_2 < (18 : Int)) = false := decide_eq_false c7
       clear c7
       obtain rfl := Option.some.inj H
       go_wp2
       go_ret
       exact ⟨by first | rfl | (simp; done) | (simp [*]; done), by repeat (first | exact Drawn0.refl _ | apply Drawn0.step)⟩
end Go.Proofs.YthcdjgekmfnmnaaGreatDoor.PVerb
end
section
namespace Go.Proofs.YthcdjgekmfnmnaaGreatDoor.PVerb
open Go.RowKit Go.Proofs.YthcdjgekmfnmnaaGreatDoorW.PrintWords Go.Proofs.YthcdjgekmfnmnaaGreatDoorW.PrintLast Go.Proofs.YthcdjgekmfnmnaaGreatDoorW.PrintMore
attribute [local go_sem] max2_int min2_int max_two min_two max_three min_three max_four min_four
set_option linter.unusedVariables false
set_option linter.unusedSimpArgs false
mutual
def wherryref11_Local.j0 : Nat → ByteArray → Bool → Option (Bool)
 | 0, _, _ => none
 | k + 1, x0, x20 => if x20 = true then (some false) else (wherryref11_Local.l0 k x0 0)
def wherryref11_Local.l0 : Nat → ByteArray → Int → Option (Bool)
 | 0, _, _ => none
 | k + 1, x0, x3 => if x3 < (x0.size : Int) then (if 0 ≤ x3 then (if (bt x0 x3) = 46 then (if 0 ≤ (wrap64 (x3 - 1)) then (if (wrap64 (x3 - 1)) < (x0.size : Int) then (if (bt x0 (wrap64 (x3 - 1))) = 46 then (some false) else (wherryref11_Local.l0 k x0 (wrap64 (x3 + 1)))) else (none)) else (none)) else ((wherryref11_sign.f k (bt x0 x3)).bind fun t198 => (if t198 = true then (wherryref11_Local.l0 k x0 (wrap64 (x3 + 1))) else (some false)))) else (none)) else (some true)
end
def wherryref11_Local.f (k : Nat) (a0 : ByteArray) : Option (Bool) := (wherryref11_in.f (a0.size : Int) 1 64).bind fun t197 => (if t197 = true then (if 0 < (a0.size : Int) then (if (bt a0 0) = 46 then (wherryref11_Local.j0 k a0 true) else (if 0 ≤ (wrap64 ((a0.size : Int) - 1)) then (if (wrap64 ((a0.size : Int) - 1)) < (a0.size : Int) then (wherryref11_Local.j0 k a0 ((bt a0 (wrap64 ((a0.size : Int) - 1))) == 46)) else (none)) else (none))) else (none)) else (wherryref11_Local.j0 k a0 true))
set_option maxHeartbeats 8000000 in
set_option maxRecDepth 100000 in
theorem wherryref11_Local.calls (k : Nat) (a0 : ByteArray) (r : Bool) (w : World) (h : wherryref11_Local.f k a0 = some r) :
  Calls Tryz.prog 36 #[.string a0] w fun e w' => e = .returned (.bool r) ∧ Drawn0 w w' := by
 have H : ((wherryref11_in.f (a0.size : Int) 1 64).bind fun t197 => (if t197 = true then (if 0 < (a0.size : Int) then (if (bt a0 0) = 46 then (wherryref11_Local.j0 k a0 true) else (if 0 ≤ (wrap64 ((a0.size : Int) - 1)) then (if (wrap64 ((a0.size : Int) - 1)) < (a0.size : Int) then (wherryref11_Local.j0 k a0 ((bt a0 (wrap64 ((a0.size : Int) - 1))) == 46)) else (none)) else (none))) else (none)) else (wherryref11_Local.j0 k a0 true))) = some r := h
 clear h
 have HC2 := Aside0.mk H
 clear H
 go_enter Tryz.func36, Tryz.ntmps36
 go_upto_region 1 with (fail)
 go_cut [20] (fun v20 wc => ∃ (kq : Nat) (x20_1 : Bool), v20 = .bool x20_1 ∧ Aside0 (wherryref11_Local.j0 kq a0 x20_1 = some r) ∧ Aside0 (kq ≤ k) ∧ Drawn0 w wc)
 case first =>
  have H := HC2.out
  clear HC2
  replace H := Option.bind_eq_some_iff.mp H
  obtain ⟨t197, A30, H⟩ := H
  try dsimp -simprocs only at H
  have A3 := Aside0.mk A30
  clear A30
  by_cases c4 : t197 = true
  ·
   subst c4
   rw [if_pos rfl] at H
   try dsimp -simprocs only at H
   by_cases c5 : 0 < (a0.size : Int)
   ·
    rw [if_pos c5] at H
    have c5b0 : decide (0 < (a0.size : Int)) = true := decide_eq_true c5
    have c5b1 : decide (0 < a0.size) = true := decide_eq_true (by omega)
    clear c5
    (first | rw [c5b0] | (simp only [i64_w, i32_w]; rw [c5b0]) | skip)
    by_cases c7 : (bt a0 0) = 46
    ·
     rw [if_pos c7] at H
     have c7b0 : ((bt a0 0) == 46) = true := beq_iff_eq.mpr c7
     have c7b1 : ((bt a0 0) != 46) = false := bne_eq_false_iff_eq.mpr c7
     clear c7
     have H' := Aside0.mk H
     clear H
     go_wp2_with (first | ((with_reducible refine gate_callee (f := 44) rfl ?_); refine goesL_ (some 6) rfl rfl Tryz.func44 (by kernel_rfl) rfl #[.int .i64 (a0.size : Int), .int .i64 1, .int .i64 64] rfl sM ?_; (with_reducible refine (wherryref11_in.calls (a0.size : Int) 1 64 true _ A3.out).mono ?_); rintro e w' ⟨rfl, ⟨nd, rfl⟩⟩; refine ⟨_, rfl, ?_⟩; have p6 : 0 ≤ (0 : Int) := (by omega); have q6 : 0 < a0.size := (by have : (0 : Int) < (a0.size : Int) := of_decide_eq_true sA; omega); have hx6 : ∀ h : 0 < a0.size, ((a0[0]'h).toNat : Int) = bt a0 0 := bt_at a0 0; clear p6; have qi6 : (0 < (a0.size : Int)) = True := eq_true (of_decide_eq_true sA); replace q6 := eq_true q6))
     go_meet
     case rel => exact ⟨_, (true), (by first | rfl | (simp; done) | (simp [*]; done)), H', ⟨by first | omega | exact Nat.le_refl _⟩, by repeat (first | exact Drawn0.refl _ | apply Drawn0.step)⟩
    ·
     rw [if_neg c7] at H
     have c7b0 : ((bt a0 0) == 46) = false := beq_eq_false_iff_ne.mpr c7
     have c7b1 : ((bt a0 0) != 46) = true := bne_iff_ne.mpr c7
     obtain ⟨ji8, hji8⟩ : ∃ j_ : Int, (wrap64 ((a0.size : Int) - 1)) = j_ := ⟨_, rfl⟩
     replace H : (if 0 ≤ (ji8) then (if (ji8) < (a0.size : Int) then (wherryref11_Local.j0 k a0 ((bt a0 (ji8)) == 46)) else (none)) else (none)) = some r := by first | (rw [hji8] at H; exact H) | (simp only [hji8] at H ⊢; exact H)
     (try rw [hji8] at A3)
     have hji8w : (IntKind.i64.wrap ((a0.size : Int) - 1)) = ji8 := (i64_w _).trans hji8
     by_cases c9 : 0 ≤ (ji8)
     ·
      rw [if_pos c9] at H
      have c9b0 : decide (0 ≤ (ji8)) = true := decide_eq_true c9
      clear c9
      by_cases c10 : (ji8) < (a0.size : Int)
      ·
       rw [if_pos c10] at H
       have c10b0 : decide ((ji8) < (a0.size : Int)) = true := decide_eq_true c10
       clear c10
       have H' := Aside0.mk H
       clear H
       go_wp2_with (first | ((with_reducible refine gate_callee (f := 44) rfl ?_); refine goesL_ (some 6) rfl rfl Tryz.func44 (by kernel_rfl) rfl #[.int .i64 (a0.size : Int), .int .i64 1, .int .i64 64] rfl sM ?_; (with_reducible refine (wherryref11_in.calls (a0.size : Int) 1 64 true _ A3.out).mono ?_); rintro e w' ⟨rfl, ⟨nd, rfl⟩⟩; refine ⟨_, rfl, ?_⟩; have p6 : 0 ≤ (0 : Int) := (by omega); have q6 : 0 < a0.size := (by have : (0 : Int) < (a0.size : Int) := of_decide_eq_true sA; omega); have hx6 : ∀ h : 0 < a0.size, ((a0[0]'h).toNat : Int) = bt a0 0 := bt_at a0 0; clear p6; have qi6 : (0 < (a0.size : Int)) = True := eq_true (of_decide_eq_true sA); replace q6 := eq_true q6; have p11 : 0 ≤ ((ji8) : Int) := of_decide_eq_true sA; have q11 : (ji8) < (a0.size : Int) := of_decide_eq_true sA; have hx11 := bt_at a0 (ji8); replace p11 := eq_true p11; replace q11 := eq_true q11))
       go_meet
       case rel => exact ⟨_, (((bt a0 (ji8)) == 46)), (by first | rfl | (simp; done) | (simp only [← hji8] <;> (first | rfl | simp)) | (simp [*]; done)), H', ⟨by first | omega | exact Nat.le_refl _⟩, by repeat (first | exact Drawn0.refl _ | apply Drawn0.step)⟩
      ·
       rw [if_neg c10] at H
       exact absurd H (by simp)
     ·
      rw [if_neg c9] at H
      exact absurd H (by simp)
   ·
    rw [if_neg c5] at H
    exact absurd H (by simp)
  ·
   replace c4 := Bool.eq_false_iff.mpr c4
   subst c4
   rw [if_neg (show ¬ (false = true) by decide)] at H
   try dsimp -simprocs only at H
   have H' := Aside0.mk H
   clear H
   go_wp2_with (first | ((with_reducible refine gate_callee (f := 44) rfl ?_); refine goesL_ (some 6) rfl rfl Tryz.func44 (by kernel_rfl) rfl #[.int .i64 (a0.size : Int), .int .i64 1, .int .i64 64] rfl sM ?_; (with_reducible refine (wherryref11_in.calls (a0.size : Int) 1 64 false _ A3.out).mono ?_); rintro e w' ⟨rfl, ⟨nd, rfl⟩⟩; refine ⟨_, rfl, ?_⟩))
   go_meet
   case rel => exact ⟨_, (true), (by first | rfl | (simp; done) | (simp [*]; done)), H', ⟨by first | omega | exact Nat.le_refl _⟩, by repeat (first | exact Drawn0.refl _ | apply Drawn0.step)⟩
 case rest =>
  clear HC2
  try clear c1; try clear p1; try clear q1; try clear hx1; try clear p2; try clear c3; try clear c4; try clear c5; try clear c5b0; try clear c5b1; try clear p6; try clear q6; try clear hx6; try clear qi6; try clear c7; try clear c7b0; try clear c7b1; try clear c9; try clear c9b0; try clear c10; try clear c10b0; try clear p11; try clear q11; try clear hx11; try clear p11; try clear p6; try clear q11; try clear q6
  obtain ⟨kq, x20_1, rfl, HA, HJ1, ⟨mc1, rfl⟩⟩ := hcut
  cases kq with
  | zero => exact absurd HA.out (by simp [wherryref11_Local.j0])
  | succ kj1 =>
   have H := HA.out
   clear HA
   simp only [wherryref11_Local.j0] at H
   by_cases c12 : x20_1 = true
   ·
    subst c12
    rw [if_pos rfl] at H
    try dsimp -simprocs only at H
    obtain rfl := Option.some.inj H
    go_wp2
    go_ret
    exact ⟨by first | rfl | (simp; done) | (simp [*]; done), by repeat (first | exact Drawn0.refl _ | apply Drawn0.step)⟩
   ·
    replace c12 := Bool.eq_false_iff.mpr c12
    subst c12
    rw [if_neg (show ¬ (false = true) by decide)] at H
    try dsimp -simprocs only at H
    have H' := Aside0.mk H
    clear H
    go_wp2
    go_loopg [3] kj1 (fun kq v3 w' => ∃ (x3_2 : Int), v3 = .int .i64 x3_2 ∧ Aside0 (wherryref11_Local.l0 kq a0 x3_2 = some r) ∧ Aside0 (kq ≤ kj1) ∧ Drawn0 w w')
    case atStart => exact ⟨(0), (by first | rfl | (simp; done) | (simp [*]; done)), H', ⟨Nat.le_refl _⟩, by repeat (first | exact Drawn0.refl _ | apply Drawn0.step)⟩
    case round =>
     clear H'
     try clear c1; try clear p1; try clear q1; try clear hx1; try clear p2; try clear c3; try clear c4; try clear c5; try clear c5b0; try clear c5b1; try clear p6; try clear q6; try clear hx6; try clear qi6; try clear c7; try clear c7b0; try clear c7b1; try clear c9; try clear c9b0; try clear c10; try clear c10b0; try clear p11; try clear q11; try clear hx11; try clear c12; try clear p1; try clear p11; try clear p2; try clear p6; try clear q1; try clear q11; try clear q6
     obtain ⟨x3_2, rfl, HA, HK2, ⟨m2, rfl⟩⟩ := hrel
     cases gk with
     | zero => exact absurd HA.out (by simp [wherryref11_Local.l0])
     | succ k2 =>
      have H := HA.out
      clear HA
      simp only [wherryref11_Local.l0] at H
      by_cases c13 : x3_2 < (a0.size : Int)
      ·
       rw [if_pos c13] at H
       have c13b0 : decide (x3_2 < (a0.size : Int)) = true := decide_eq_true c13
       clear c13
       by_cases c14 : 0 ≤ x3_2
       ·
        rw [if_pos c14] at H
        have c14b0 : decide (0 ≤ x3_2) = true := decide_eq_true c14
        clear c14
        by_cases c16 : (bt a0 x3_2) = 46
        ·
         rw [if_pos c16] at H
         have c16b0 : ((bt a0 x3_2) == 46) = true := beq_iff_eq.mpr c16
         have c16b1 : ((bt a0 x3_2) != 46) = false := bne_eq_false_iff_eq.mpr c16
         clear c16
         obtain ⟨ji17, hji17⟩ : ∃ j_ : Int, (wrap64 (x3_2 - 1)) = j_ := ⟨_, rfl⟩
         replace H : (if 0 ≤ (ji17) then (if (ji17) < (a0.size : Int) then (if (bt a0 (ji17)) = 46 then (some false) else (wherryref11_Local.l0 k2 a0 (wrap64 (x3_2 + 1)))) else (none)) else (none)) = some r := by first | (rw [hji17] at H; exact H) | (simp only [hji17] at H ⊢; exact H)
         have hji17w : (IntKind.i64.wrap (x3_2 - 1)) = ji17 := (i64_w _).trans hji17
         by_cases c18 : 0 ≤ (ji17)
         ·
          rw [if_pos c18] at H
          have c18b0 : decide (0 ≤ (ji17)) = true := decide_eq_true c18
          clear c18
          by_cases c19 : (ji17) < (a0.size : Int)
          ·
           rw [if_pos c19] at H
           have c19b0 : decide ((ji17) < (a0.size : Int)) = true := decide_eq_true c19
           clear c19
           by_cases c21 : (bt a0 (ji17)) = 46
           ·
            rw [if_pos c21] at H
            have c21b0 : ((bt a0 (ji17)) == 46) = true := beq_iff_eq.mpr c21
            have c21b1 : ((bt a0 (ji17)) != 46) = false := bne_eq_false_iff_eq.mpr c21
            clear c21
            obtain rfl := Option.some.inj H
            have p15 : 0 ≤ (x3_2 : Int) := of_decide_eq_true sA
            have q15 : x3_2 < (a0.size : Int) := of_decide_eq_true sA
            have hx15 := bt_at a0 x3_2
            replace p15 := eq_true p15
            replace q15 := eq_true q15
            have p20 : 0 ≤ ((ji17) : Int) := of_decide_eq_true sA
            have q20 : (ji17) < (a0.size : Int) := of_decide_eq_true sA
            have hx20 := bt_at a0 (ji17)
            replace p20 := eq_true p20
            replace q20 := eq_true q20
            go_wp2
            go_ret
            exact ⟨by first | rfl | (simp; done) | (simp only [← hji17] <;> (first | rfl | simp)) | (simp [*]; done), by repeat (first | exact Drawn0.refl _ | apply Drawn0.step)⟩
           ·
            rw [if_neg c21] at H
            have c21b0 : ((bt a0 (ji17)) == 46) = false := beq_eq_false_iff_ne.mpr c21
            have c21b1 : ((bt a0 (ji17)) != 46) = true := bne_iff_ne.mpr c21
            have H' := Aside0.mk H
            clear H
            have p15 : 0 ≤ (x3_2 : Int) := of_decide_eq_true sA
            have q15 : x3_2 < (a0.size : Int) := of_decide_eq_true sA
            have hx15 := bt_at a0 x3_2
            replace p15 := eq_true p15
            replace q15 := eq_true q15
            have p20 : 0 ≤ ((ji17) : Int) := of_decide_eq_true sA
            have q20 : (ji17) < (a0.size : Int) := of_decide_eq_true sA
            have hx20 := bt_at a0 (ji17)
            replace p20 := eq_true p20
            replace q20 := eq_true q20
            have p22 : 0 ≤ (x3_2 : Int) := of_decide_eq_true sA
            have q22 : x3_2 < (a0.size : Int) := of_decide_eq_true sA
            have hx22 := bt_at a0 x3_2
            replace p22 := eq_true p22
            replace q22 := eq_true q22
            go_wp2
            go_roundg k2
            case measure => have := HJ1.out; have := HK2.out; omega
            case rel => exact ⟨(wrap64 (x3_2 + 1)), (by first | rfl | (simp; done) | (simp [*]; done)), H', ⟨by have := HJ1.out; have := HK2.out; omega⟩, by repeat (first | exact Drawn0.refl _ | apply Drawn0.step)⟩
          ·
           rw [if_neg c19] at H
           exact absurd H (by simp)
         ·
          rw [if_neg c18] at H
          exact absurd H (by simp)
        ·
         rw [if_neg c16] at H
         have c16b0 : ((bt a0 x3_2) == 46) = false := beq_eq_false_iff_ne.mpr c16
         have c16b1 : ((bt a0 x3_2) != 46) = true := bne_iff_ne.mpr c16
         replace H := Option.bind_eq_some_iff.mp H
         obtain ⟨t198, A250, H⟩ := H
         try dsimp -simprocs only at H
         have A25 := Aside0.mk A250
         clear A250
         by_cases c26 : t198 = true
         ·
          subst c26
          rw [if_pos rfl] at H
          try dsimp -simprocs only at H
          have H' := Aside0.mk H
          clear H
          have p15 : 0 ≤ (x3_2 : Int) := of_decide_eq_true sA
          have q15 : x3_2 < (a0.size : Int) := of_decide_eq_true sA
          have hx15 := bt_at a0 x3_2
          replace p15 := eq_true p15
          replace q15 := eq_true q15
          have p23 : 0 ≤ (x3_2 : Int) := of_decide_eq_true sA
          have q23 : x3_2 < (a0.size : Int) := of_decide_eq_true sA
          have hx23 := bt_at a0 x3_2
          replace p23 := eq_true p23
          replace q23 := eq_true q23
          have p24 : 0 ≤ (x3_2 : Int) := of_decide_eq_true sA
          have q24 : x3_2 < (a0.size : Int) := of_decide_eq_true sA
          have hx24 := bt_at a0 x3_2
          replace p24 := eq_true p24
          replace q24 := eq_true q24
          go_wp2_with (first | (go_at_call 51; (with_reducible refine (wherryref11_sign.calls k2 (bt a0 x3_2) true _ A25.out).mono ?_); rintro e w' ⟨rfl, ⟨nd, rfl⟩⟩))
          go_roundg k2
          case measure => have := HJ1.out; have := HK2.out; omega
          case rel => exact ⟨(wrap64 (x3_2 + 1)), (by first | rfl | (simp; done) | (simp [*]; done)), H', ⟨by have := HJ1.out; have := HK2.out; omega⟩, by repeat (first | exact Drawn0.refl _ | apply Drawn0.step)⟩
         ·
          replace c26 := Bool.eq_false_iff.mpr c26
          subst c26
          rw [if_neg (show ¬ (false = true) by decide)] at H
          try dsimp -simprocs only at H
          obtain rfl := Option.some.inj H
          have p15 : 0 ≤ (x3_2 : Int) := of_decide_eq_true sA
          have q15 : x3_2 < (a0.size : Int) := of_decide_eq_true sA
          have hx15 := bt_at a0 x3_2
          replace p15 := eq_true p15
          replace q15 := eq_true q15
          have p23 : 0 ≤ (x3_2 : Int) := of_decide_eq_true sA
          have q23 : x3_2 < (a0.size : Int) := of_decide_eq_true sA
          have hx23 := bt_at a0 x3_2
          replace p23 := eq_true p23
          replace q23 := eq_true q23
          have p24 : 0 ≤ (x3_2 : Int) := of_decide_eq_true sA
          have q24 : x3_2 < (a0.size : Int) := of_decide_eq_true sA
          have hx24 := bt_at a0 x3_2
          replace p24 := eq_true p24
          replace q24 := eq_true q24
          go_wp2_with (first | (go_at_call 51; (with_reducible refine (wherryref11_sign.calls k2 (bt a0 x3_2) false _ A25.out).mono ?_); rintro e w' ⟨rfl, ⟨nd, rfl⟩⟩))
          go_ret
          exact ⟨by first | rfl | (simp; done) | (simp [*]; done), by repeat (first | exact Drawn0.refl _ | apply Drawn0.step)⟩
       ·
        rw [if_neg c14] at H
        exact absurd H (by simp)
      ·
       rw [if_neg c13] at H
       have c13b0 : decide (x3_2 < (a0.size : Int)) = false := decide_eq_false c13
       clear c13
       obtain rfl := Option.some.inj H
       go_wp2
       go_ret
       exact ⟨by first | rfl | (simp; done) | (simp [*]; done), by repeat (first | exact Drawn0.refl _ | apply Drawn0.step)⟩
def wherryref11_Path.f (k : Nat) (a0_0 : Bool) (a0_1 : ByteArray) (a0_2 : ByteArray) : Option (Bool) := if a0_0 = true then (if a0_1.toList = ([] : List UInt8) then (some (a0_2.toList.isEmpty)) else (some false)) else ((wherryref11_Local.f k a0_1).bind fun t200 => (if t200 = true then ((wherryref11_Domain.f k a0_2).bind fun t201 => (some t201)) else (some false)))
set_option maxHeartbeats 8000000 in
set_option maxRecDepth 100000 in
theorem wherryref11_Path.calls (k : Nat) (a0_0 : Bool) (a0_1 : ByteArray) (a0_2 : ByteArray) (r : Bool) (w : World) (h : wherryref11_Path.f k a0_0 a0_1 a0_2 = some r) :
  Calls Tryz.prog 14 #[.agg #[.bool a0_0, .string a0_1, .string a0_2]] w fun e w' => e = .returned (.bool r) ∧ Below w.heap.size w w' := by
 have hu23 := Tryz.underlying23
 have HB := Aside0.mk (Below.refl w.heap.size w)
 have H : (if a0_0 = true then (if a0_1.toList = ([] : List UInt8) then (some (a0_2.toList.isEmpty)) else (some false)) else ((wherryref11_Local.f k a0_1).bind fun t200 => (if t200 = true then ((wherryref11_Domain.f k a0_2).bind fun t201 => (some t201)) else (some false)))) = some r := h
 clear h
 by_cases c2 : a0_0 = true
 ·
  subst c2
  rw [if_pos rfl] at H
  try dsimp -simprocs only at H
  by_cases c3 : a0_1.toList = ([] : List UInt8)
  ·
   rw [if_pos c3] at H
   have c3b0 : (a0_1.toList == ([] : List UInt8)) = true := beq_iff_eq.mpr c3
   have c3b1 : (a0_1.toList != ([] : List UInt8)) = false := bne_eq_false_iff_eq.mpr c3
   clear c3
   obtain rfl := Option.some.inj H
   go_enter Tryz.func14, Tryz.ntmps14
   go_wp2_with (first | ((with_reducible refine gate_dst (N := 1) rfl ?_); refine box_event ?hg (N := 1) ?hd (cs := #[.bool true, .string a0_1, .string a0_2]) (t := 23) ?hr ?_; (case hd => rfl); (case hg => rfl); (case hr => first | (go_simp; done) | (go_simp; rfl)); intro gb199 hg w4 hbox hb; have BK199 := Aside0.mk (hbox); have GW199 := Aside0.mk ((by rw [hg]; exact (below_size (sB HB.out)) : w.heap.size ≤ gb199)); have GE199 := Aside0.mk ((by rw [hg]; exact (below_size (sB HB.out)) : w.heap.size ≤ gb199)); replace HB := Aside0.mk (below_step (sB HB.out) hb); clear hb hbox hg; have hcz5_0 := sC BK199.out 0; have hcz5_1 := sC BK199.out 1; have hcz5_2 := sC BK199.out 2; have hfz5_0 := blk_frozen BK199.out 0; have hfz5_1 := blk_frozen BK199.out 1; have hfz5_2 := blk_frozen BK199.out 2))
   go_ret
   exact ⟨by first | rfl | (simp [errW_none, errW_some] <;> rfl) | (simp [*, errW_none, errW_some] <;> rfl), sB HB.out⟩
  ·
   rw [if_neg c3] at H
   have c3b0 : (a0_1.toList == ([] : List UInt8)) = false := beq_eq_false_iff_ne.mpr c3
   have c3b1 : (a0_1.toList != ([] : List UInt8)) = true := bne_iff_ne.mpr c3
   obtain rfl := Option.some.inj H
   go_enter Tryz.func14, Tryz.ntmps14
   go_wp2_with (first | ((with_reducible refine gate_dst (N := 1) rfl ?_); refine box_event ?hg (N := 1) ?hd (cs := #[.bool true, .string a0_1, .string a0_2]) (t := 23) ?hr ?_; (case hd => rfl); (case hg => rfl); (case hr => first | (go_simp; done) | (go_simp; rfl)); intro gb199 hg w6 hbox hb; have BK199 := Aside0.mk (hbox); have GW199 := Aside0.mk ((by rw [hg]; exact (below_size (sB HB.out)) : w.heap.size ≤ gb199)); have GE199 := Aside0.mk ((by rw [hg]; exact (below_size (sB HB.out)) : w.heap.size ≤ gb199)); replace HB := Aside0.mk (below_step (sB HB.out) hb); clear hb hbox hg; have hcz7_0 := sC BK199.out 0; have hcz7_1 := sC BK199.out 1; have hcz7_2 := sC BK199.out 2; have hfz7_0 := blk_frozen BK199.out 0; have hfz7_1 := blk_frozen BK199.out 1; have hfz7_2 := blk_frozen BK199.out 2))
   go_ret
   exact ⟨by first | rfl | (simp [errW_none, errW_some] <;> rfl) | (simp [*, errW_none, errW_some] <;> rfl), sB HB.out⟩
 ·
  replace c2 := Bool.eq_false_iff.mpr c2
  subst c2
  rw [if_neg (show ¬ (false = true) by decide)] at H
  try dsimp -simprocs only at H
  replace H := Option.bind_eq_some_iff.mp H
  obtain ⟨t200, A80, H⟩ := H
  try dsimp -simprocs only at H
  have A8 := Aside0.mk A80
  clear A80
  by_cases c9 : t200 = true
  ·
   subst c9
   rw [if_pos rfl] at H
   try dsimp -simprocs only at H
   replace H := Option.bind_eq_some_iff.mp H
   obtain ⟨t201, A100, H⟩ := H
   try dsimp -simprocs only at H
   have A10 := Aside0.mk A100
   clear A100
   obtain rfl := Option.some.inj H
   go_enter Tryz.func14, Tryz.ntmps14
   go_wp2_with (first | ((with_reducible refine gate_dst (N := 1) rfl ?_); refine box_event ?hg (N := 1) ?hd (cs := #[.bool false, .string a0_1, .string a0_2]) (t := 23) ?hr ?_; (case hd => rfl); (case hg => rfl); (case hr => first | (go_simp; done) | (go_simp; rfl)); intro gb199 hg w11 hbox hb; have BK199 := Aside0.mk (hbox); have GW199 := Aside0.mk ((by rw [hg]; exact (below_size (sB HB.out)) : w.heap.size ≤ gb199)); have GE199 := Aside0.mk ((by rw [hg]; exact (below_size (sB HB.out)) : w.heap.size ≤ gb199)); replace HB := Aside0.mk (below_step (sB HB.out) hb); clear hb hbox hg; have hcz12_0 := sC BK199.out 0; have hcz12_1 := sC BK199.out 1; have hcz12_2 := sC BK199.out 2; have hfz12_0 := blk_frozen BK199.out 0; have hfz12_1 := blk_frozen BK199.out 1; have hfz12_2 := blk_frozen BK199.out 2) | ((with_reducible refine gate_callee (f := 36) rfl ?_); refine goesL_ (some 15) rfl rfl Tryz.func36 (by kernel_rfl) rfl #[.string a0_1] rfl sM ?_; (with_reducible refine (wherryref11_Local.calls k a0_1 true _ A8.out).mono ?_); rintro e w' ⟨rfl, ⟨nd, rfl⟩⟩; refine ⟨_, rfl, ?_⟩) | (go_at_call 26; (with_reducible refine (wherryref11_Domain.calls k a0_2 t201 _ A10.out).mono ?_); rintro e w' ⟨rfl, ⟨nd, rfl⟩⟩))
   go_ret
   exact ⟨by first | rfl | (simp [errW_none, errW_some] <;> rfl) | (simp [*, errW_none, errW_some] <;> rfl), sB HB.out⟩
  ·
   replace c9 := Bool.eq_false_iff.mpr c9
   subst c9
   rw [if_neg (show ¬ (false = true) by decide)] at H
   try dsimp -simprocs only at H
   obtain rfl := Option.some.inj H
   go_enter Tryz.func14, Tryz.ntmps14
   go_wp2_with (first | ((with_reducible refine gate_dst (N := 1) rfl ?_); refine box_event ?hg (N := 1) ?hd (cs := #[.bool false, .string a0_1, .string a0_2]) (t := 23) ?hr ?_; (case hd => rfl); (case hg => rfl); (case hr => first | (go_simp; done) | (go_simp; rfl)); intro gb199 hg w13 hbox hb; have BK199 := Aside0.mk (hbox); have GW199 := Aside0.mk ((by rw [hg]; exact (below_size (sB HB.out)) : w.heap.size ≤ gb199)); have GE199 := Aside0.mk ((by rw [hg]; exact (below_size (sB HB.out)) : w.heap.size ≤ gb199)); replace HB := Aside0.mk (below_step (sB HB.out) hb); clear hb hbox hg; have hcz14_0 := sC BK199.out 0; have hcz14_1 := sC BK199.out 1; have hcz14_2 := sC BK199.out 2; have hfz14_0 := blk_frozen BK199.out 0; have hfz14_1 := blk_frozen BK199.out 1; have hfz14_2 := blk_frozen BK199.out 2) | ((with_reducible refine gate_callee (f := 36) rfl ?_); refine goesL_ (some 15) rfl rfl Tryz.func36 (by kernel_rfl) rfl #[.string a0_1] rfl sM ?_; (with_reducible refine (wherryref11_Local.calls k a0_1 false _ A8.out).mono ?_); rintro e w' ⟨rfl, ⟨nd, rfl⟩⟩; refine ⟨_, rfl, ?_⟩))
   go_ret
   exact ⟨by first | rfl | (simp [errW_none, errW_some] <;> rfl) | (simp [*, errW_none, errW_some] <;> rfl), sB HB.out⟩
def wherryref11_keep.f (a0_0 : Bool) (a0_1 : ByteArray) (a0_2 : ByteArray) (a1 : Bool) : Option (Bool × ByteArray × ByteArray × Bool) := if a1 = true then (some (a0_0, a0_1, a0_2, true)) else (some (false, (⟨#[]⟩ : ByteArray), (⟨#[]⟩ : ByteArray), false))
set_option maxHeartbeats 8000000 in
set_option maxRecDepth 100000 in
theorem wherryref11_keep.calls (a0_0 : Bool) (a0_1 : ByteArray) (a0_2 : ByteArray) (a1 : Bool) (r1 : Bool) (r2 : ByteArray) (r3 : ByteArray) (r4 : Bool) (w : World) (h : wherryref11_keep.f a0_0 a0_1 a0_2 a1 = some (r1, r2, r3, r4)) :
  Calls Tryz.prog 59 #[.agg #[.bool a0_0, .string a0_1, .string a0_2], .bool a1] w fun e w' => e = .returned (.tuple #[.agg #[.bool r1, .string r2, .string r3], .bool r4]) ∧ Below w.heap.size w w' := by
 have hu23 := Tryz.underlying23
 have HB := Aside0.mk (Below.refl w.heap.size w)
 have H : (if a1 = true then (some (a0_0, a0_1, a0_2, true)) else (some (false, (⟨#[]⟩ : ByteArray), (⟨#[]⟩ : ByteArray), false))) = some (r1, r2, r3, r4) := h
 clear h
 by_cases c3 : a1 = true
 ·
  subst c3
  rw [if_pos rfl] at H
  try dsimp -simprocs only at H
  simp only [Option.some.injEq, Prod.mk.injEq] at H
  obtain ⟨rfl, rfl, rfl, rfl⟩ := H
  go_enter Tryz.func59, Tryz.ntmps59
  go_wp2_with (first | ((with_reducible refine gate_dst (N := 2) rfl ?_); refine box_event ?hg (N := 2) ?hd (cs := #[.bool a0_0, .string a0_1, .string a0_2]) (t := 23) ?hr ?_; (case hd => rfl); (case hg => rfl); (case hr => first | (go_simp; done) | (go_simp; rfl)); intro gb202 hg w4 hbox hb; have BK202 := Aside0.mk (hbox); have GW202 := Aside0.mk ((by rw [hg]; exact (below_size (sB HB.out)) : w.heap.size ≤ gb202)); have GE202 := Aside0.mk ((by rw [hg]; exact (below_size (sB HB.out)) : w.heap.size ≤ gb202)); replace HB := Aside0.mk (below_step (sB HB.out) hb); clear hb hbox hg) | ((with_reducible refine gate_dst (N := 4) rfl ?_); refine box_event ?hg (N := 4) ?hd (cs := #[.bool false, .string ⟨#[]⟩, .string ⟨#[]⟩]) (t := 23) ?hr ?_; (case hd => rfl); (case hg => rfl); (case hr => first | (go_simp; done) | (go_simp; rfl)); intro gb203 hg w5 hbox hb; have BK203 := Aside0.mk (hbox); have GW203 := Aside0.mk ((by rw [hg]; exact (below_size (sB HB.out)) : w.heap.size ≤ gb203)); have GE203 := Aside0.mk ((by rw [hg]; exact (below_size (sB HB.out)) : w.heap.size ≤ gb203)); replace HB := Aside0.mk (below_step (sB HB.out) hb); have NB202_203 := Aside0.mk ((by rw [hg]; exact Nat.ne_of_lt (blk_lt (g := gb202) (o := .cells #[.bool a0_0, .string a0_1, .string a0_2] 23 (0, 0)) (sK BK202.out)) : gb202 ≠ gb203)); have NB203_202 := Aside0.mk ((by rw [hg]; exact Nat.ne_of_gt (blk_lt (g := gb202) (o := .cells #[.bool a0_0, .string a0_1, .string a0_2] 23 (0, 0)) (sK BK202.out)) : gb203 ≠ gb202)); replace BK202 := Aside0.mk (blk_below (g := gb202) (o := .cells #[.bool a0_0, .string a0_1, .string a0_2] 23 (0, 0)) (sK BK202.out) hb); clear hb hbox hg; have hnb6 := NB202_203.out; have hnc6 := NB203_202.out; have hcz7_0 := sC BK202.out 0; have hcz7_1 := sC BK202.out 1; have hcz7_2 := sC BK202.out 2; have hfz7_0 := blk_frozen BK202.out 0; have hfz7_1 := blk_frozen BK202.out 1; have hfz7_2 := blk_frozen BK202.out 2; have hcz8_0 := sC BK203.out 0; have hcz8_1 := sC BK203.out 1; have hcz8_2 := sC BK203.out 2; have hfz8_0 := blk_frozen BK203.out 0; have hfz8_1 := blk_frozen BK203.out 1; have hfz8_2 := blk_frozen BK203.out 2))
  refine bodyPost_ret (results_ct rfl _ _ gb203 23 #[.bool a0_0, .string a0_1, .string a0_2] (0, 0) _ rfl (by refine sK ?_; refine blk_put (cs := #[.bool a0_0, .string a0_1, .string ⟨#[]⟩]) ?_ 2 _ rfl; refine sK ?_; refine blk_put (cs := #[.bool a0_0, .string ⟨#[]⟩, .string ⟨#[]⟩]) ?_ 1 _ rfl; refine sK ?_; refine blk_put (cs := #[.bool false, .string ⟨#[]⟩, .string ⟨#[]⟩]) ?_ 0 _ rfl; refine sK ?_; exact BK203.out) Tryz.underlying23 rfl (by kernel_rfl)) rfl ?_
  exact ⟨by first | rfl | (simp [errW_none, errW_some] <;> rfl) | (simp [*, errW_none, errW_some] <;> rfl), sB HB.out⟩
 ·
  replace c3 := Bool.eq_false_iff.mpr c3
  subst c3
  rw [if_neg (show ¬ (false = true) by decide)] at H
  try dsimp -simprocs only at H
  simp only [Option.some.injEq, Prod.mk.injEq] at H
  obtain ⟨rfl, rfl, rfl, rfl⟩ := H
  go_enter Tryz.func59, Tryz.ntmps59
  go_wp2_with (first | ((with_reducible refine gate_dst (N := 2) rfl ?_); refine box_event ?hg (N := 2) ?hd (cs := #[.bool a0_0, .string a0_1, .string a0_2]) (t := 23) ?hr ?_; (case hd => rfl); (case hg => rfl); (case hr => first | (go_simp; done) | (go_simp; rfl)); intro gb202 hg w9 hbox hb; have BK202 := Aside0.mk (hbox); have GW202 := Aside0.mk ((by rw [hg]; exact (below_size (sB HB.out)) : w.heap.size ≤ gb202)); have GE202 := Aside0.mk ((by rw [hg]; exact (below_size (sB HB.out)) : w.heap.size ≤ gb202)); replace HB := Aside0.mk (below_step (sB HB.out) hb); clear hb hbox hg) | ((with_reducible refine gate_dst (N := 4) rfl ?_); refine box_event ?hg (N := 4) ?hd (cs := #[.bool false, .string ⟨#[]⟩, .string ⟨#[]⟩]) (t := 23) ?hr ?_; (case hd => rfl); (case hg => rfl); (case hr => first | (go_simp; done) | (go_simp; rfl)); intro gb203 hg w10 hbox hb; have BK203 := Aside0.mk (hbox); have GW203 := Aside0.mk ((by rw [hg]; exact (below_size (sB HB.out)) : w.heap.size ≤ gb203)); have GE203 := Aside0.mk ((by rw [hg]; exact (below_size (sB HB.out)) : w.heap.size ≤ gb203)); replace HB := Aside0.mk (below_step (sB HB.out) hb); have NB202_203 := Aside0.mk ((by rw [hg]; exact Nat.ne_of_lt (blk_lt (g := gb202) (o := .cells #[.bool a0_0, .string a0_1, .string a0_2] 23 (0, 0)) (sK BK202.out)) : gb202 ≠ gb203)); have NB203_202 := Aside0.mk ((by rw [hg]; exact Nat.ne_of_gt (blk_lt (g := gb202) (o := .cells #[.bool a0_0, .string a0_1, .string a0_2] 23 (0, 0)) (sK BK202.out)) : gb203 ≠ gb202)); replace BK202 := Aside0.mk (blk_below (g := gb202) (o := .cells #[.bool a0_0, .string a0_1, .string a0_2] 23 (0, 0)) (sK BK202.out) hb); clear hb hbox hg; have hnb11 := NB203_202.out; have hnc11 := NB202_203.out; have hcz12_0 := sC BK203.out 0; have hcz12_1 := sC BK203.out 1; have hcz12_2 := sC BK203.out 2; have hfz12_0 := blk_frozen BK203.out 0; have hfz12_1 := blk_frozen BK203.out 1; have hfz12_2 := blk_frozen BK203.out 2))
  refine bodyPost_ret (results_ct rfl _ _ gb203 23 #[.bool false, .string ⟨#[]⟩, .string ⟨#[]⟩] (0, 0) _ rfl (by refine sK ?_; refine blk_put (cs := #[.bool false, .string ⟨#[]⟩, .string ⟨#[]⟩]) ?_ 2 _ rfl; refine sK ?_; refine blk_put (cs := #[.bool false, .string ⟨#[]⟩, .string ⟨#[]⟩]) ?_ 1 _ rfl; refine sK ?_; refine blk_put (cs := #[.bool false, .string ⟨#[]⟩, .string ⟨#[]⟩]) ?_ 0 _ rfl; refine sK ?_; exact BK203.out) Tryz.underlying23 rfl (by kernel_rfl)) rfl ?_
  exact ⟨by first | rfl | (simp [errW_none, errW_some] <;> rfl) | (simp [*, errW_none, errW_some] <;> rfl), sB HB.out⟩
end Go.Proofs.YthcdjgekmfnmnaaGreatDoor.PVerb
end
section
namespace Go.Proofs.YthcdjgekmfnmnaaGreatDoor.PVerb
open Go.RowKit Go.Proofs.YthcdjgekmfnmnaaGreatDoorW.PrintWords Go.Proofs.YthcdjgekmfnmnaaGreatDoorW.PrintLast Go.Proofs.YthcdjgekmfnmnaaGreatDoorW.PrintMore
attribute [local go_sem] max2_int min2_int max_two min_two max_three min_three max_four min_four
set_option linter.unusedVariables false
set_option linter.unusedSimpArgs false
mutual
def wherryref11_Parse.j0 : Nat → ByteArray → Bool → Option (Bool × ByteArray × ByteArray × Bool)
 | 0, _, _ => none
 | k + 1, x0, x24 => if x24 = true then (some (false, (⟨#[]⟩ : ByteArray), (⟨#[]⟩ : ByteArray), false)) else (if 1 ≤ (wrap64 ((x0.size : Int) - 1)) then (if (wrap64 ((x0.size : Int) - 1)) ≤ (x0.size : Int) then (wherryref11_Parse.l0 k (x0.extract 1 ((wrap64 ((x0.size : Int) - 1)) : Int).toNat) 0) else (none)) else (none))
def wherryref11_Parse.l0 : Nat → ByteArray → Int → Option (Bool × ByteArray × ByteArray × Bool)
 | 0, _, _ => none
 | k + 1, x0, x4 => if x4 < (x0.size : Int) then (if 0 ≤ x4 then (if (bt x0 x4) = 64 then (if x4 ≤ (x0.size : Int) then (if 0 ≤ (wrap64 (x4 + 1)) then (if (wrap64 (x4 + 1)) ≤ (x0.size : Int) then ((wherryref11_Path.f k false (x0.extract 0 (x4 : Int).toNat) (x0.extract ((wrap64 (x4 + 1)) : Int).toNat x0.size)).bind fun t206 => ((wherryref11_keep.f false (x0.extract 0 (x4 : Int).toNat) (x0.extract ((wrap64 (x4 + 1)) : Int).toNat x0.size) t206).bind fun bt207 => (some (bt207.1, bt207.2.1, bt207.2.2.1, bt207.2.2.2)))) else (none)) else (none)) else (none)) else (wherryref11_Parse.l0 k x0 (wrap64 (x4 + 1)))) else (none)) else (some (false, (⟨#[]⟩ : ByteArray), (⟨#[]⟩ : ByteArray), false))
end
def wherryref11_Parse.f (k : Nat) (a0 : ByteArray) : Option (Bool × ByteArray × ByteArray × Bool) := if a0.toList = ([60, 62] : List UInt8) then (some (true, (⟨#[]⟩ : ByteArray), (⟨#[]⟩ : ByteArray), true)) else (if (a0.size : Int) < 2 then (wherryref11_Parse.j0 k a0 true) else (if 0 < (a0.size : Int) then (if (bt a0 0) = 60 then (if 0 ≤ (wrap64 ((a0.size : Int) - 1)) then (if (wrap64 ((a0.size : Int) - 1)) < (a0.size : Int) then (wherryref11_Parse.j0 k a0 ((bt a0 (wrap64 ((a0.size : Int) - 1))) != 62)) else (none)) else (none)) else (wherryref11_Parse.j0 k a0 true)) else (none)))
def wherryref11_Parse.T10 : Bool × List (List Nat × List Nat) := (true, [([], []), ([], []), ([0, 1], [0, 1]), ([], []), ([], []), ([4], [4]), ([3, 5], [3, 5]), ([2, 6], [2, 6]), ([], []), ([8, 7, 0, 1, 2, 3, 4, 5, 6, 7, 8], [7, 8])])
def wherryref11_Parse.B10 : List Nat := [0, 0, 3, 0, 0, 16, 56, 127, 0, 511]
theorem wherryref11_Parse.tab10 : rtab .any (opsOf Tryz.f47 10) = wherryref11_Parse.T10 := by kernel_rfl
theorem wherryref11_Parse.bits10 : waitsOk wherryref11_Parse.T10.2 wherryref11_Parse.B10 = true := by kernel_rfl
def wherryref11_Parse.T11 : Bool × List (List Nat × List Nat) := (true, [([], []), ([], []), ([1], [1]), ([0, 2, 2], [0, 2]), ([3], [3]), ([3], [3]), ([4, 3, 0, 1, 2, 3, 4, 5], [4]), ([5, 6, 0, 1, 2, 3, 4, 5, 6], [5])])
def wherryref11_Parse.B11 : List Nat := [0, 0, 2, 7, 15, 15, 63, 127]
theorem wherryref11_Parse.tab11 : rtab .any (opsOf Tryz.f47 11) = wherryref11_Parse.T11 := by kernel_rfl
theorem wherryref11_Parse.bits11 : waitsOk wherryref11_Parse.T11.2 wherryref11_Parse.B11 = true := by kernel_rfl
set_option maxHeartbeats 8000000 in
set_option maxRecDepth 100000 in
theorem wherryref11_Parse.calls (k : Nat) (a0 : ByteArray) (r1 : Bool) (r2 : ByteArray) (r3 : ByteArray) (r4 : Bool) (w : World) (h : wherryref11_Parse.f k a0 = some (r1, r2, r3, r4)) :
  Calls Tryz.prog 47 #[.string a0] w fun e w' => e = .returned (.tuple #[.agg #[.bool r1, .string r2, .string r3], .bool r4]) ∧ Below w.heap.size w w' := by
 have hu23 := Tryz.underlying23
 have HB := Aside0.mk (Below.refl w.heap.size w)
 have H : (if a0.toList = ([60, 62] : List UInt8) then (some (true, (⟨#[]⟩ : ByteArray), (⟨#[]⟩ : ByteArray), true)) else (if (a0.size : Int) < 2 then (wherryref11_Parse.j0 k a0 true) else (if 0 < (a0.size : Int) then (if (bt a0 0) = 60 then (if 0 ≤ (wrap64 ((a0.size : Int) - 1)) then (if (wrap64 ((a0.size : Int) - 1)) < (a0.size : Int) then (wherryref11_Parse.j0 k a0 ((bt a0 (wrap64 ((a0.size : Int) - 1))) != 62)) else (none)) else (none)) else (wherryref11_Parse.j0 k a0 true)) else (none)))) = some (r1, r2, r3, r4) := h
 clear h
 by_cases c2 : a0.toList = ([60, 62] : List UInt8)
 ·
  rw [if_pos c2] at H
  have c2b0 : (a0.toList == ([60, 62] : List UInt8)) = true := beq_iff_eq.mpr c2
  have c2b1 : (a0.toList != ([60, 62] : List UInt8)) = false := bne_eq_false_iff_eq.mpr c2
  clear c2
  simp only [Option.some.injEq, Prod.mk.injEq] at H
  obtain ⟨rfl, rfl, rfl, rfl⟩ := H
  go_enter Tryz.func47, Tryz.ntmps47
  go_wp2_with (first | ((with_reducible refine gate_dst (N := 2) rfl ?_); (try (refine gate_guard (by rfl) ?_; dsimp only)); refine box_event ?hg (N := 2) ?hd (cs := #[.bool false, .string ⟨#[]⟩, .string ⟨#[]⟩]) (t := 23) ?hr ?_; (case hd => rfl); (case hg => rfl); (case hr => first | (go_simp; done) | (go_simp; rfl)); intro gb204 hg w3 hbox hb; have BK204 := Aside0.mk (hbox); have GW204 := Aside0.mk ((by rw [hg]; exact (below_size (sB HB.out)) : w.heap.size ≤ gb204)); have GE204 := Aside0.mk ((by rw [hg]; exact (below_size (sB HB.out)) : w.heap.size ≤ gb204)); replace HB := Aside0.mk (below_step (sB HB.out) hb); clear hb hbox hg; have hcz4_0 := sC BK204.out 0; have hcz4_1 := sC BK204.out 1; have hcz4_2 := sC BK204.out 2; have hfz4_0 := blk_frozen BK204.out 0; have hfz4_1 := blk_frozen BK204.out 1; have hfz4_2 := blk_frozen BK204.out 2))
  refine bodyPost_ret (results_ct rfl _ _ gb204 23 #[.bool true, .string ⟨#[]⟩, .string ⟨#[]⟩] (0, 0) _ rfl (by refine sK ?_; refine blk_put (cs := #[.bool true, .string ⟨#[]⟩, .string ⟨#[]⟩]) ?_ 2 _ rfl; refine sK ?_; refine blk_put (cs := #[.bool true, .string ⟨#[]⟩, .string ⟨#[]⟩]) ?_ 1 _ rfl; refine sK ?_; refine blk_put (cs := #[.bool false, .string ⟨#[]⟩, .string ⟨#[]⟩]) ?_ 0 _ rfl; refine sK ?_; exact BK204.out) Tryz.underlying23 rfl (by kernel_rfl)) rfl ?_
  exact ⟨by first | rfl | (simp [errW_none, errW_some] <;> rfl) | (simp [*, errW_none, errW_some] <;> rfl), sB HB.out⟩
 ·
  rw [if_neg c2] at H
  have c2b0 : (a0.toList == ([60, 62] : List UInt8)) = false := beq_eq_false_iff_ne.mpr c2
  have c2b1 : (a0.toList != ([60, 62] : List UInt8)) = true := bne_iff_ne.mpr c2
  have HC5 := Aside0.mk H
  clear H
  go_enter Tryz.func47, Tryz.ntmps47
  go_upto_region 3 with (first | ((with_reducible refine gate_dst (N := 2) rfl ?_); (try (refine gate_guard (by rfl) ?_; dsimp only)); refine box_event ?hg (N := 2) ?hd (cs := #[.bool false, .string ⟨#[]⟩, .string ⟨#[]⟩]) (t := 23) ?hr ?_; (case hd => rfl); (case hg => rfl); (case hr => first | (go_simp; done) | (go_simp; rfl)); intro gb204 hg w6 hbox hb; have BK204 := Aside0.mk (hbox); have GW204 := Aside0.mk ((by rw [hg]; exact (below_size (sB HB.out)) : w.heap.size ≤ gb204)); have GE204 := Aside0.mk ((by rw [hg]; exact (below_size (sB HB.out)) : w.heap.size ≤ gb204)); replace HB := Aside0.mk (below_step (sB HB.out) hb); clear hb hbox hg))
  (try simp only [Act.put, List.setIfInBounds_toArray, List.set_cons_zero, List.set_cons_succ])
  go_cut [24] (fun v24 wc => ∃ (kq : Nat) (x24_4 : Bool), v24 = .bool x24_4 ∧ Aside0 (wherryref11_Parse.j0 kq a0 x24_4 = some (r1, r2, r3, r4)) ∧ Aside0 (kq ≤ k) ∧ Aside0 (wc.heap[gb204]? = some (.cells #[.bool false, .string ⟨#[]⟩, .string ⟨#[]⟩] 23 (0, 0))) ∧ Aside0 (Below w.heap.size w wc))
  case first =>
   have H := HC5.out
   clear HC5
   by_cases c7 : (a0.size : Int) < 2
   ·
    rw [if_pos c7] at H
    have c7b0 : decide ((a0.size : Int) < 2) = true := decide_eq_true c7
    have c7b1 : decide (a0.size < 2) = true := decide_eq_true (by omega)
    clear c7
    (first | rw [c7b0] | (simp only [i64_w, i32_w]; rw [c7b0]) | skip)
    have H' := Aside0.mk H
    clear H
    go_wp2
    go_meet
    case rel => exact ⟨_, (true), (by first | rfl | (simp; done) | (simp [*]; done)), H', ⟨by first | omega | exact Nat.le_refl _⟩, ⟨by refine sK ?_; exact BK204.out⟩, ⟨sB HB.out⟩⟩
   ·
    rw [if_neg c7] at H
    have c7b0 : decide ((a0.size : Int) < 2) = false := decide_eq_false c7
    have c7b1 : decide (a0.size < 2) = false := decide_eq_false (by omega)
    clear c7
    (first | rw [c7b0] | (simp only [i64_w, i32_w]; rw [c7b0]) | skip)
    by_cases c8 : 0 < (a0.size : Int)
    ·
     rw [if_pos c8] at H
     have c8b0 : decide (0 < (a0.size : Int)) = true := decide_eq_true c8
     have c8b1 : decide (0 < a0.size) = true := decide_eq_true (by omega)
     clear c8
     by_cases c10 : (bt a0 0) = 60
     ·
      rw [if_pos c10] at H
      have c10b0 : ((bt a0 0) == 60) = true := beq_iff_eq.mpr c10
      have c10b1 : ((bt a0 0) != 60) = false := bne_eq_false_iff_eq.mpr c10
      clear c10
      obtain ⟨ji11, hji11⟩ : ∃ j_ : Int, (wrap64 ((a0.size : Int) - 1)) = j_ := ⟨_, rfl⟩
      replace H : (if 0 ≤ (ji11) then (if (ji11) < (a0.size : Int) then (wherryref11_Parse.j0 k a0 ((bt a0 (ji11)) != 62)) else (none)) else (none)) = some (r1, r2, r3, r4) := by first | (rw [hji11] at H; exact H) | (simp only [hji11] at H ⊢; exact H)
      have hji11w : (IntKind.i64.wrap ((a0.size : Int) - 1)) = ji11 := (i64_w _).trans hji11
      by_cases c12 : 0 ≤ (ji11)
      ·
       rw [if_pos c12] at H
       have c12b0 : decide (0 ≤ (ji11)) = true := decide_eq_true c12
       clear c12
       by_cases c13 : (ji11) < (a0.size : Int)
       ·
        rw [if_pos c13] at H
        have c13b0 : decide ((ji11) < (a0.size : Int)) = true := decide_eq_true c13
        clear c13
        have H' := Aside0.mk H
        clear H
        have p9 : 0 ≤ (0 : Int) := (by omega)
        have q9 : 0 < a0.size := (by have : (0 : Int) < (a0.size : Int) := of_decide_eq_true sA; omega)
        have hx9 : ∀ h : 0 < a0.size, ((a0[0]'h).toNat : Int) = bt a0 0 := bt_at a0 0
        clear p9
        have qi9 : (0 < (a0.size : Int)) = True := eq_true (of_decide_eq_true sA)
        replace q9 := eq_true q9
        have p14 : 0 ≤ ((ji11) : Int) := of_decide_eq_true sA
        have q14 : (ji11) < (a0.size : Int) := of_decide_eq_true sA
        have hx14 := bt_at a0 (ji11)
        replace p14 := eq_true p14
        replace q14 := eq_true q14
        go_wp2
        go_meet
        case rel => exact ⟨_, (((bt a0 (ji11)) != 62)), (by first | rfl | (simp; done) | (simp only [← hji11] <;> (first | rfl | simp)) | (simp [*]; done)), H', ⟨by first | omega | exact Nat.le_refl _⟩, ⟨by refine sK ?_; exact BK204.out⟩, ⟨sB HB.out⟩⟩
       ·
        rw [if_neg c13] at H
        exact absurd H (by simp)
      ·
       rw [if_neg c12] at H
       exact absurd H (by simp)
     ·
      rw [if_neg c10] at H
      have c10b0 : ((bt a0 0) == 60) = false := beq_eq_false_iff_ne.mpr c10
      have c10b1 : ((bt a0 0) != 60) = true := bne_iff_ne.mpr c10
      have H' := Aside0.mk H
      clear H
      have p9 : 0 ≤ (0 : Int) := (by omega)
      have q9 : 0 < a0.size := (by have : (0 : Int) < (a0.size : Int) := of_decide_eq_true sA; omega)
      have hx9 : ∀ h : 0 < a0.size, ((a0[0]'h).toNat : Int) = bt a0 0 := bt_at a0 0
      clear p9
      have qi9 : (0 < (a0.size : Int)) = True := eq_true (of_decide_eq_true sA)
      replace q9 := eq_true q9
      go_wp2
      go_meet
      case rel => exact ⟨_, (true), (by first | rfl | (simp; done) | (simp [*]; done)), H', ⟨by first | omega | exact Nat.le_refl _⟩, ⟨by refine sK ?_; exact BK204.out⟩, ⟨sB HB.out⟩⟩
    ·
     rw [if_neg c8] at H
     exact absurd H (by simp)
  case rest =>
   clear HC5
   try clear c1; try clear p1; try clear q1; try clear hx1; try clear c2; try clear c2b0; try clear c2b1; try clear p2; try clear c4; try clear p6; try clear c7; try clear c7b0; try clear c7b1; try clear c8; try clear c8b0; try clear c8b1; try clear p9; try clear q9; try clear hx9; try clear qi9; try clear c10; try clear c10b0; try clear c10b1; try clear c12; try clear c12b0; try clear c13; try clear c13b0; try clear p14; try clear q14; try clear hx14; try clear hcz4_0; try clear hcz4_1; try clear hcz4_2; try clear hfz4_0; try clear hfz4_1; try clear hfz4_2; try clear p14; try clear p9; try clear q14; try clear q9
   obtain ⟨kq, x24_4, rfl, HA, HJ4, BK204, HB⟩ := hcut
   cases kq with
   | zero => exact absurd HA.out (by simp [wherryref11_Parse.j0])
   | succ kj4 =>
    have H := HA.out
    clear HA
    simp only [wherryref11_Parse.j0] at H
    by_cases c15 : x24_4 = true
    ·
     subst c15
     rw [if_pos rfl] at H
     try dsimp -simprocs only at H
     simp only [Option.some.injEq, Prod.mk.injEq] at H
     obtain ⟨rfl, rfl, rfl, rfl⟩ := H
     have hcz16_0 := sC BK204.out 0
     have hcz16_1 := sC BK204.out 1
     have hcz16_2 := sC BK204.out 2
     have hfz16_0 := blk_frozen BK204.out 0
     have hfz16_1 := blk_frozen BK204.out 1
     have hfz16_2 := blk_frozen BK204.out 2
     go_wp2
     refine bodyPost_ret (results_ct rfl _ _ gb204 23 #[.bool false, .string ⟨#[]⟩, .string ⟨#[]⟩] (0, 0) _ rfl (by refine sK ?_; refine blk_put (cs := #[.bool false, .string ⟨#[]⟩, .string ⟨#[]⟩]) ?_ 2 _ rfl; refine sK ?_; refine blk_put (cs := #[.bool false, .string ⟨#[]⟩, .string ⟨#[]⟩]) ?_ 1 _ rfl; refine sK ?_; refine blk_put (cs := #[.bool false, .string ⟨#[]⟩, .string ⟨#[]⟩]) ?_ 0 _ rfl; refine sK ?_; exact BK204.out) Tryz.underlying23 rfl (by kernel_rfl)) rfl ?_
     exact ⟨by first | rfl | (simp [errW_none, errW_some] <;> rfl) | (simp [*, errW_none, errW_some] <;> rfl), sB HB.out⟩
    ·
     replace c15 := Bool.eq_false_iff.mpr c15
     subst c15
     rw [if_neg (show ¬ (false = true) by decide)] at H
     try dsimp -simprocs only at H
     by_cases c17 : 1 ≤ (wrap64 ((a0.size : Int) - 1))
     ·
      rw [if_pos c17] at H
      have c17b0 := eq_true c17
      have c17b1 : decide (1 ≤ (wrap64 ((a0.size : Int) - 1))) = true := decide_eq_true c17
      clear c17
      by_cases c18 : (wrap64 ((a0.size : Int) - 1)) ≤ (a0.size : Int)
      ·
       rw [if_pos c18] at H
       have c18b0 := eq_true c18
       have c18b1 : decide ((wrap64 ((a0.size : Int) - 1)) ≤ (a0.size : Int)) = true := decide_eq_true c18
       clear c18
       have H' := Aside0.mk H
       clear H
       go_wp2
       generalize (a0.extract 1 ((wrap64 ((a0.size : Int) - 1)) : Int).toNat) = xg at *
       go_loopg [4] kj4 (fun kq v4 w' => ∃ (x4_2 : Int) (x205000_2 : Bool) (x205001_2 : ByteArray) (x205002_2 : ByteArray), v4 = .int .i64 x4_2 ∧ Aside0 (wherryref11_Parse.l0 kq xg x4_2 = some (r1, r2, r3, r4)) ∧ Aside0 (kq ≤ kj4) ∧ Aside0 (w'.heap[gb204]? = some (.cells #[.bool x205000_2, .string x205001_2, .string x205002_2] 23 (0, 0))) ∧ Aside0 (Below w.heap.size w w'))
       case atStart => exact ⟨(0), (false), ((⟨#[]⟩ : ByteArray)), ((⟨#[]⟩ : ByteArray)), (by first | rfl | (simp; done) | (simp [*]; done)), H', ⟨Nat.le_refl _⟩, ⟨by refine sK ?_; exact BK204.out⟩, ⟨sB HB.out⟩⟩
       case round =>
        clear H'
        try clear c1; try clear p1; try clear q1; try clear hx1; try clear c2; try clear c2b0; try clear c2b1; try clear p2; try clear c4; try clear p6; try clear c7; try clear c7b0; try clear c7b1; try clear c8; try clear c8b0; try clear c8b1; try clear p9; try clear q9; try clear hx9; try clear qi9; try clear c10; try clear c10b0; try clear c10b1; try clear c12; try clear c12b0; try clear c13; try clear c13b0; try clear p14; try clear q14; try clear hx14; try clear c15; try clear c17; try clear c17b0; try clear c17b1; try clear c18; try clear c18b0; try clear c18b1; try clear hcz16_0; try clear hcz16_1; try clear hcz16_2; try clear hcz4_0; try clear hcz4_1; try clear hcz4_2; try clear hfz16_0; try clear hfz16_1; try clear hfz16_2; try clear hfz4_0; try clear hfz4_1; try clear hfz4_2; try clear p1; try clear p14; try clear p2; try clear p6; try clear p9; try clear q1; try clear q14; try clear q9
        obtain ⟨x4_2, x205000_2, x205001_2, x205002_2, rfl, HA, HK2, BK204, HB⟩ := hrel
        cases gk with
        | zero => exact absurd HA.out (by simp [wherryref11_Parse.l0])
        | succ k2 =>
         have H := HA.out
         clear HA
         simp only [wherryref11_Parse.l0] at H
         by_cases c19 : x4_2 < (xg.size : Int)
         ·
          rw [if_pos c19] at H
          have c19b0 : decide (x4_2 < (xg.size : Int)) = true := decide_eq_true c19
          clear c19
          by_cases c20 : 0 ≤ x4_2
          ·
           rw [if_pos c20] at H
           have c20b0 : decide (0 ≤ x4_2) = true := decide_eq_true c20
           clear c20
           by_cases c22 : (bt xg x4_2) = 64
           ·
            rw [if_pos c22] at H
            have c22b0 : ((bt xg x4_2) == 64) = true := beq_iff_eq.mpr c22
            have c22b1 : ((bt xg x4_2) != 64) = false := bne_eq_false_iff_eq.mpr c22
            clear c22
            have c23b0 := eq_true (of_decide_eq_true sA : 0 ≤ x4_2)
            by_cases c24 : x4_2 ≤ (xg.size : Int)
            ·
             rw [if_pos c24] at H
             have c24b0 := eq_true c24
             have c24b1 : decide (x4_2 ≤ (xg.size : Int)) = true := decide_eq_true c24
             clear c24
             obtain ⟨ji25, hji25⟩ : ∃ j_ : Int, (wrap64 (x4_2 + 1)) = j_ := ⟨_, rfl⟩
             replace H : (if 0 ≤ (ji25) then (if (ji25) ≤ (xg.size : Int) then ((wherryref11_Path.f k2 false (xg.extract 0 (x4_2 : Int).toNat) (xg.extract ((ji25) : Int).toNat xg.size)).bind fun t206 => ((wherryref11_keep.f false (xg.extract 0 (x4_2 : Int).toNat) (xg.extract ((ji25) : Int).toNat xg.size) t206).bind fun bt207 => (some (bt207.1, bt207.2.1, bt207.2.2.1, bt207.2.2.2)))) else (none)) else (none)) = some (r1, r2, r3, r4) := by first | (rw [hji25] at H; exact H) | (simp only [hji25] at H ⊢; exact H)
             have hji25w : (IntKind.i64.wrap (x4_2 + 1)) = ji25 := (i64_w _).trans hji25
             by_cases c26 : 0 ≤ (ji25)
             ·
              rw [if_pos c26] at H
              have c26b0 := eq_true c26
              have c26b1 : decide (0 ≤ (ji25)) = true := decide_eq_true c26
              clear c26
              by_cases c27 : (ji25) ≤ (xg.size : Int)
              ·
               rw [if_pos c27] at H
               have c27b0 := eq_true c27
               have c27b1 : decide ((ji25) ≤ (xg.size : Int)) = true := decide_eq_true c27
               clear c27
               replace H := Option.bind_eq_some_iff.mp H
               obtain ⟨t206, A280, H⟩ := H
               try dsimp -simprocs only at H
               have A28 := Aside0.mk A280
               clear A280
               replace H := Option.bind_eq_some_iff.mp H
               obtain ⟨⟨t207, t208, t209, t210⟩, A290, H⟩ := H
               try dsimp -simprocs only at H
               have A29 := Aside0.mk A290
               clear A290
               simp only [Option.some.injEq, Prod.mk.injEq] at H
               obtain ⟨rfl, rfl, rfl, rfl⟩ := H
               have p21 : 0 ≤ (x4_2 : Int) := of_decide_eq_true sA
               have q21 : x4_2 < (xg.size : Int) := of_decide_eq_true sA
               have hx21 := bt_at xg x4_2
               replace p21 := eq_true p21
               replace q21 := eq_true q21
               try go_wp2
               have n0_ := Aside0.mk (blk_drew BK204.out)
               have n1_ := Aside0.mk (below_drew1 HB.out)
               clear BK204
               clear HB
               have BK204 := n0_
               have HB := n1_
               clear n0_ n1_
               refine start_ (n := 10) (S := fun w' => True) (ds := []) #[false, false, false, false, false, false, false, false, false, false] (by kernel_rfl) rfl rfl trivial (fun hHeld => ?_); refine with_tabW wherryref11_Parse.tab10 wherryref11_Parse.bits10 (fun HT_ HW_ => ?_)
               generalize wr.drew = w30 at BK204 HB hHeld ⊢
               refine pure_ (i := 0) (N := some 41) (v := ?_) (a' := ?_) #[true, false, false, false, false, false, false, false, false, false] rfl rfl (any_of HT_.out (by kernel_rfl)) (fun _ _ _ h => h) (Or.inl ⟨by rfl, ?_⟩) ?_ ?_
               rotate_left
               ·
                intro w'
                go_simp
                with_reducible rfl
               rotate_left
               ·
                simp only [Act.put, List.setIfInBounds_toArray, List.set_cons_zero, List.set_cons_succ, i64_w, i32_w]
                rfl
               refine pure_ (i := 1) (N := some 42) (v := ?_) (a' := ?_) #[true, true, false, false, false, false, false, false, false, false] rfl rfl (any_of HT_.out (by kernel_rfl)) (fun _ _ _ h => h) (Or.inl ⟨by rfl, ?_⟩) ?_ ?_
               rotate_left
               ·
                intro w'
                go_simp
                with_reducible rfl
               rotate_left
               ·
                simp only [Act.put, List.setIfInBounds_toArray, List.set_cons_zero, List.set_cons_succ, i64_w, i32_w]
                rfl
               refine pure_ (i := 2) (N := some 43) (v := ?_) (a' := ?_) #[true, true, true, false, false, false, false, false, false, false] rfl rfl (any_of HT_.out (by kernel_rfl)) (fun _ _ _ h => h) (Or.inl ⟨by rfl, ?_⟩) ?_ ?_
               rotate_left
               ·
                intro w'
                go_simp
                with_reducible rfl
               rotate_left
               ·
                simp only [Act.put, List.setIfInBounds_toArray, List.set_cons_zero, List.set_cons_succ, i64_w, i32_w]
                rfl
               refine pure_ (i := 3) (N := some 44) (v := ?_) (a' := ?_) #[true, true, true, true, false, false, false, false, false, false] rfl rfl (any_of HT_.out (by kernel_rfl)) (fun _ _ _ h => h) (Or.inl ⟨by rfl, ?_⟩) ?_ ?_
               rotate_left
               ·
                intro w'
                go_simp
                with_reducible rfl
               rotate_left
               ·
                simp only [Act.put, List.setIfInBounds_toArray, List.set_cons_zero, List.set_cons_succ, i64_w, i32_w]
                rfl
               refine pure_ (i := 4) (N := some 45) (v := ?_) (a' := ?_) #[true, true, true, true, true, false, false, false, false, false] rfl rfl (any_of HT_.out (by kernel_rfl)) (fun _ _ _ h => h) (Or.inl ⟨by rfl, ?_⟩) ?_ ?_
               rotate_left
               ·
                intro w'
                go_simp
                with_reducible rfl
               rotate_left
               ·
                simp only [Act.put, List.setIfInBounds_toArray, List.set_cons_zero, List.set_cons_succ, i64_w, i32_w]
                rfl
               refine pure_ (i := 5) (N := some 46) (v := ?_) (a' := ?_) #[true, true, true, true, true, true, false, false, false, false] rfl rfl (any_of HT_.out (by kernel_rfl)) (fun _ _ _ h => h) (Or.inl ⟨by rfl, ?_⟩) ?_ ?_
               rotate_left
               ·
                intro w'
                go_simp
                with_reducible rfl
               rotate_left
               ·
                simp only [Act.put, List.setIfInBounds_toArray, List.set_cons_zero, List.set_cons_succ, i64_w, i32_w]
                rfl
               refine pure_ (i := 6) (N := some 47) (v := ?_) (a' := ?_) #[true, true, true, true, true, true, true, false, false, false] rfl rfl (any_of HT_.out (by kernel_rfl)) (fun _ _ _ h => h) (Or.inl ⟨by rfl, ?_⟩) ?_ ?_
               rotate_left
               ·
                intro w'
                go_simp
                with_reducible rfl
               rotate_left
               ·
                simp only [Act.put, List.setIfInBounds_toArray, List.set_cons_zero, List.set_cons_succ, i64_w, i32_w]
                rfl
               refine pure_ (i := 7) (N := some 48) (v := ?_) (a' := ?_) #[true, true, true, true, true, true, true, true, false, false] rfl rfl (any_of HT_.out (by kernel_rfl)) (fun _ _ _ h => h) (Or.inl ⟨by rfl, ?_⟩) ?_ ?_
               rotate_left
               ·
                intro w'
                go_simp
                with_reducible rfl
               rotate_left
               ·
                simp only [Act.put, List.setIfInBounds_toArray, List.set_cons_zero, List.set_cons_succ, i64_w, i32_w]
                rfl
               refine one_ (i := 8) (N := some 5) #[true, true, true, true, true, true, true, true, true, false] rfl rfl (one_of HT_.out (by kernel_rfl)) (by decide) (fun K hK => ?_)
               refine box_step ?hg (N := 5) ?hd (cs := #[.bool false, .string ⟨#[]⟩, .string ⟨#[]⟩]) (t := 23) ?hr ?_; (case hd => rfl); (case hg => rfl); (case hr => first | (go_simp; done) | (go_simp; rfl))
               intro gb205 hg w31 hbox hb
               have n0_ := Aside0.mk (blk_below (g := gb204) (o := .cells #[.bool x205000_2, .string x205001_2, .string x205002_2] 23 (0, 0)) (sK BK204.out) hb)
               have n1_ := Aside0.mk (below_step (sB HB.out) hb)
               have n2_ := Aside0.mk (hbox)
               have n3_ := Aside0.mk ((by rw [hg]; exact (below_size (sB HB.out)) : w.heap.size ≤ gb205))
               have n4_ := Aside0.mk ((by rw [hg]; exact (below_size (sB HB.out)) : w.heap.size ≤ gb205))
               have n5_ := Aside0.mk ((by rw [hg]; exact Nat.ne_of_lt (blk_lt (g := gb204) (o := .cells #[.bool x205000_2, .string x205001_2, .string x205002_2] 23 (0, 0)) (sK BK204.out)) : gb204 ≠ gb205))
               have n6_ := Aside0.mk ((by rw [hg]; exact Nat.ne_of_gt (blk_lt (g := gb204) (o := .cells #[.bool x205000_2, .string x205001_2, .string x205002_2] 23 (0, 0)) (sK BK204.out)) : gb205 ≠ gb204))
               clear BK204
               clear HB
               have BK204 := n0_
               have HB := n1_
               have BK205 := n2_
               have GW205 := n3_
               have GE205 := n4_
               have NB204_205 := n5_
               have NB205_204 := n6_
               clear n0_ n1_ n2_ n3_ n4_ n5_ n6_
               clear hb hbox hg
               refine hK.out _ _ trivial (fun hHeld => ?_)
               clear hK K
               refine norm_ (a' := ?_) ?_ ?_
               rotate_left
               ·
                show Act.put _ (some 5) _ = _
                simp only [Act.put, List.setIfInBounds_toArray, List.set_cons_zero, List.set_cons_succ, i64_w, i32_w]
                rfl
               refine one_ (i := 9) (N := none) #[true, true, true, true, true, true, true, true, true, true] rfl rfl (one_of HT_.out (by kernel_rfl)) (by decide) (fun K hK => ?_)
               have hs32 : w31.cell? ⟨gb205, 0, none⟩ = some (.bool false) := (blk_cell BK205.out 0).trans rfl
               have hfs32 := blk_frozen BK205.out 0
               have hns32_0 := NB204_205.out
               have hms32_0 := NB205_204.out
               have hs33 : w31.cell? ⟨gb205, 1, none⟩ = some (.string ⟨#[]⟩) := (blk_cell BK205.out 1).trans rfl
               have hfs33 := blk_frozen BK205.out 1
               have hns33_0 := NB204_205.out
               have hms33_0 := NB205_204.out
               have hs34 : w31.cell? ⟨gb205, 2, none⟩ = some (.string ⟨#[]⟩) := (blk_cell BK205.out 2).trans rfl
               have hfs34 := blk_frozen BK205.out 2
               have hns34_0 := NB204_205.out
               have hms34_0 := NB205_204.out
               refine skip_ (w1 := ?_) (by rfl) rfl ?_ ?_
               rotate_left
               ·
                go_simp
                rfl
               refine hK.out _ _ trivial (fun hHeld => ?_)
               clear hK K
               refine done_ (done_of HT_.out (by kernel_rfl)) ?_
               try go_wp2
               have n0_ : Aside0 ((((w31.setCell ⟨gb205, 0, none⟩ (.bool false)).setCell ⟨gb205, 1, none⟩ (.string (xg.extract 0 (x4_2 : Int).toNat))).setCell ⟨gb205, 2, none⟩ (.string (xg.extract ((ji25) : Int).toNat xg.size))).heap[gb204]? = some (.cells #[.bool x205000_2, .string x205001_2, .string x205002_2] 23 (0, 0))) := ⟨by refine sK ?_; refine blk_far ?_ NB204_205.out _; refine sK ?_; refine blk_far ?_ NB204_205.out _; refine sK ?_; refine blk_far ?_ NB204_205.out _; refine sK ?_; exact BK204.out⟩
               have n1_ : Aside0 ((((w31.setCell ⟨gb205, 0, none⟩ (.bool false)).setCell ⟨gb205, 1, none⟩ (.string (xg.extract 0 (x4_2 : Int).toNat))).setCell ⟨gb205, 2, none⟩ (.string (xg.extract ((ji25) : Int).toNat xg.size))).heap[gb205]? = some (.cells #[.bool false, .string (xg.extract 0 (x4_2 : Int).toNat), .string (xg.extract ((ji25) : Int).toNat xg.size)] 23 (0, 0))) := ⟨by refine sK ?_; refine blk_put (cs := #[.bool false, .string (xg.extract 0 (x4_2 : Int).toNat), .string ⟨#[]⟩]) ?_ 2 _ rfl; refine sK ?_; refine blk_put (cs := #[.bool false, .string ⟨#[]⟩, .string ⟨#[]⟩]) ?_ 1 _ rfl; refine sK ?_; refine blk_put (cs := #[.bool false, .string ⟨#[]⟩, .string ⟨#[]⟩]) ?_ 0 _ rfl; refine sK ?_; exact BK205.out⟩
               have n2_ : Aside0 (Below w.heap.size w (((w31.setCell ⟨gb205, 0, none⟩ (.bool false)).setCell ⟨gb205, 1, none⟩ (.string (xg.extract 0 (x4_2 : Int).toNat))).setCell ⟨gb205, 2, none⟩ (.string (xg.extract ((ji25) : Int).toNat xg.size)))) := ⟨sB HB.out⟩
               (try clear BK204)
               (try clear BK205)
               (try clear HB)
               generalize (((w31.setCell ⟨gb205, 0, none⟩ (.bool false)).setCell ⟨gb205, 1, none⟩ (.string (xg.extract 0 (x4_2 : Int).toNat))).setCell ⟨gb205, 2, none⟩ (.string (xg.extract ((ji25) : Int).toNat xg.size))) = w35 at n0_ n1_ n2_ ⊢
               have BK204 := n0_
               have BK205 := n1_
               have HB := n2_
               clear n0_ n1_ n2_
               have n0_ := Aside0.mk (blk_drew BK204.out)
               have n1_ := Aside0.mk (blk_drew BK205.out)
               have n2_ := Aside0.mk (below_drew1 HB.out)
               clear BK204
               clear BK205
               clear HB
               have BK204 := n0_
               have BK205 := n1_
               have HB := n2_
               clear n0_ n1_ n2_
               refine start_ (n := 8) (S := fun w' => w'.cell? ⟨gb205, 0, none⟩ = some (.bool false) ∧ w'.cell? ⟨gb205, 1, none⟩ = some (.string (xg.extract 0 (x4_2 : Int).toNat)) ∧ w'.cell? ⟨gb205, 2, none⟩ = some (.string (xg.extract ((ji25) : Int).toNat xg.size))) (ds := []) #[false, false, false, false, false, false, false, false] (by kernel_rfl) rfl rfl ⟨(blk_cell BK205.out 0).trans rfl, (blk_cell BK205.out 1).trans rfl, (blk_cell BK205.out 2).trans rfl⟩ (fun hHeld => ?_); refine with_tabW wherryref11_Parse.tab11 wherryref11_Parse.bits11 (fun HT_ HW_ => ?_)
               generalize w35.drew = w36 at BK204 BK205 HB hHeld ⊢
               refine take_ (i := 0) (N := some 49) (v := ?_) (a' := ?_) #[true, false, false, false, false, false, false, false] rfl rfl (take_ofW HT_.out HW_.out (by kernel_rfl)) (fun _ _ _ h => h) (Or.inl ⟨by rfl, ?_⟩) hHeld ?_ ?_
               rotate_left
               ·
                rintro w' ⟨s0, s1, s2⟩
                go_simp
                with_reducible rfl
               rotate_left
               ·
                simp only [Act.put, List.setIfInBounds_toArray, List.set_cons_zero, List.set_cons_succ, i64_w, i32_w]
                rfl
               refine take_ (i := 1) (N := some 50) (v := ?_) (a' := ?_) #[true, true, false, false, false, false, false, false] rfl rfl (take_ofW HT_.out HW_.out (by kernel_rfl)) (fun _ _ _ h => h) (Or.inl ⟨by rfl, ?_⟩) hHeld ?_ ?_
               rotate_left
               ·
                rintro w' ⟨s0, s1, s2⟩
                go_simp
                with_reducible rfl
               rotate_left
               ·
                simp only [Act.put, List.setIfInBounds_toArray, List.set_cons_zero, List.set_cons_succ, i64_w, i32_w]
                rfl
               refine one_ (i := 2) (N := some 51) #[true, true, true, false, false, false, false, false] rfl rfl (one_of HT_.out (by kernel_rfl)) (by decide) (fun K hK => ?_)
               refine goes_ Tryz.func14 (by kernel_rfl) rfl #[.agg #[.bool false, .string (xg.extract 0 (x4_2 : Int).toNat), .string (xg.extract ((ji25) : Int).toNat xg.size)]] (by rfl) rfl rfl (by (try simp only [List.map_toArray, List.map_cons, List.map_nil]); first | done | (simp only [hji25]; rfl) | rfl | (simp only [List.length_drop, List.length_take]; rfl)) ?_
               with_reducible refine (wherryref11_Path.calls k2 false (xg.extract 0 (x4_2 : Int).toNat) (xg.extract ((ji25) : Int).toNat xg.size) t206 _ A28.out).mono ?_
               rintro e w37 ⟨rfl, hb⟩
               refine ⟨_, rfl, ?_⟩
               have n0_ := Aside0.mk (blk_below (g := gb204) (o := .cells #[.bool x205000_2, .string x205001_2, .string x205002_2] 23 (0, 0)) (sK BK204.out) hb)
               have n1_ := Aside0.mk (blk_below (g := gb205) (o := .cells #[.bool false, .string (xg.extract 0 (x4_2 : Int).toNat), .string (xg.extract ((ji25) : Int).toNat xg.size)] 23 (0, 0)) (sK BK205.out) hb)
               have n2_ := Aside0.mk (below_step (sB HB.out) hb)
               clear BK204
               clear BK205
               clear HB
               have BK204 := n0_
               have BK205 := n1_
               have HB := n2_
               clear n0_ n1_ n2_
               (try clear hb)
               (try clear hb2)
               (try clear hk)
               (try clear hi)
               refine hK.out _ _ ⟨(blk_cell BK205.out 0).trans rfl, (blk_cell BK205.out 1).trans rfl, (blk_cell BK205.out 2).trans rfl⟩ (fun hHeld => ?_)
               clear hK K
               refine norm_ (a' := ?_) ?_ ?_
               rotate_left
               ·
                show Act.put _ (some 51) _ = _
                simp only [Act.put, List.setIfInBounds_toArray, List.set_cons_zero, List.set_cons_succ, i64_w, i32_w]
                rfl
               refine one_ (i := 3) (N := some 52) #[true, true, true, true, false, false, false, false] rfl rfl (one_of HT_.out (by kernel_rfl)) (by decide) (fun K hK => ?_)
               refine goes_ Tryz.func59 (by kernel_rfl) rfl #[.agg #[.bool false, .string (xg.extract 0 (x4_2 : Int).toNat), .string (xg.extract ((ji25) : Int).toNat xg.size)], .bool t206] (by rfl) rfl rfl (by (try simp only [List.map_toArray, List.map_cons, List.map_nil]); first | done | (simp only [hji25]; rfl) | rfl | (simp only [List.length_drop, List.length_take]; rfl)) ?_
               with_reducible refine (wherryref11_keep.calls false (xg.extract 0 (x4_2 : Int).toNat) (xg.extract ((ji25) : Int).toNat xg.size) t206 t207 t208 t209 t210 _ A29.out).mono ?_
               rintro e w38 ⟨rfl, hb⟩
               refine ⟨_, rfl, ?_⟩
               have n0_ := Aside0.mk (blk_below (g := gb204) (o := .cells #[.bool x205000_2, .string x205001_2, .string x205002_2] 23 (0, 0)) (sK BK204.out) hb)
               have n1_ := Aside0.mk (blk_below (g := gb205) (o := .cells #[.bool false, .string (xg.extract 0 (x4_2 : Int).toNat), .string (xg.extract ((ji25) : Int).toNat xg.size)] 23 (0, 0)) (sK BK205.out) hb)
               have n2_ := Aside0.mk (below_step (sB HB.out) hb)
               clear BK204
               clear BK205
               clear HB
               have BK204 := n0_
               have BK205 := n1_
               have HB := n2_
               clear n0_ n1_ n2_
               (try clear hb)
               (try clear hb2)
               (try clear hk)
               (try clear hi)
               refine hK.out _ _ ⟨(blk_cell BK205.out 0).trans rfl, (blk_cell BK205.out 1).trans rfl, (blk_cell BK205.out 2).trans rfl⟩ (fun hHeld => ?_)
               clear hK K
               refine norm_ (a' := ?_) ?_ ?_
               rotate_left
               ·
                show Act.put _ (some 52) _ = _
                simp only [Act.put, List.setIfInBounds_toArray, List.set_cons_zero, List.set_cons_succ, i64_w, i32_w]
                rfl
               refine pure_ (i := 4) (N := some 53) (v := ?_) (a' := ?_) #[true, true, true, true, true, false, false, false] rfl rfl (any_of HT_.out (by kernel_rfl)) (fun _ _ _ h => h) (Or.inl ⟨by rfl, ?_⟩) ?_ ?_
               rotate_left
               ·
                intro w'
                go_simp
                with_reducible rfl
               rotate_left
               ·
                simp only [Act.put, List.setIfInBounds_toArray, List.set_cons_zero, List.set_cons_succ, i64_w, i32_w]
                rfl
               refine pure_ (i := 5) (N := some 54) (v := ?_) (a' := ?_) #[true, true, true, true, true, true, false, false] rfl rfl (any_of HT_.out (by kernel_rfl)) (fun _ _ _ h => h) (Or.inl ⟨by rfl, ?_⟩) ?_ ?_
               rotate_left
               ·
                intro w'
                go_simp
                with_reducible rfl
               rotate_left
               ·
                simp only [Act.put, List.setIfInBounds_toArray, List.set_cons_zero, List.set_cons_succ, i64_w, i32_w]
                rfl
               refine one_ (i := 6) (N := none) #[true, true, true, true, true, true, true, false] rfl rfl (one_of HT_.out (by kernel_rfl)) (by decide) (fun K hK => ?_)
               have hs39 : w38.cell? ⟨gb204, 0, none⟩ = some (.bool x205000_2) := (blk_cell BK204.out 0).trans rfl
               have hfs39 := blk_frozen BK204.out 0
               have hns39_1 := NB205_204.out
               have hms39_1 := NB204_205.out
               have hs40 : w38.cell? ⟨gb204, 1, none⟩ = some (.string x205001_2) := (blk_cell BK204.out 1).trans rfl
               have hfs40 := blk_frozen BK204.out 1
               have hns40_1 := NB205_204.out
               have hms40_1 := NB204_205.out
               have hs41 : w38.cell? ⟨gb204, 2, none⟩ = some (.string x205002_2) := (blk_cell BK204.out 2).trans rfl
               have hfs41 := blk_frozen BK204.out 2
               have hns41_1 := NB205_204.out
               have hms41_1 := NB204_205.out
               refine skip_ (w1 := ?_) (by rfl) rfl ?_ ?_
               rotate_left
               ·
                go_simp
                rfl
               refine hK.out _ _ ⟨((cell_far (p := ⟨gb204, _, none⟩) NB205_204.out _).trans (((cell_far (p := ⟨gb204, _, none⟩) NB205_204.out _).trans (((cell_far (p := ⟨gb204, _, none⟩) NB205_204.out _).trans (hHeld.1)))))), ((cell_far (p := ⟨gb204, _, none⟩) NB205_204.out _).trans (((cell_far (p := ⟨gb204, _, none⟩) NB205_204.out _).trans (((cell_far (p := ⟨gb204, _, none⟩) NB205_204.out _).trans (hHeld.2.1)))))), ((cell_far (p := ⟨gb204, _, none⟩) NB205_204.out _).trans (((cell_far (p := ⟨gb204, _, none⟩) NB205_204.out _).trans (((cell_far (p := ⟨gb204, _, none⟩) NB205_204.out _).trans (hHeld.2.2))))))⟩ (fun hHeld => ?_)
               clear hK K
               refine pure_ (i := 7) (N := some 3) (v := ?_) (a' := ?_) #[true, true, true, true, true, true, true, true] rfl rfl (any_of HT_.out (by kernel_rfl)) (fun _ _ _ h => h) (Or.inl ⟨by rfl, ?_⟩) ?_ ?_
               rotate_left
               ·
                intro w'
                go_simp
                with_reducible rfl
               rotate_left
               ·
                simp only [Act.put, List.setIfInBounds_toArray, List.set_cons_zero, List.set_cons_succ, i64_w, i32_w]
                rfl
               refine done_ (done_of HT_.out (by kernel_rfl)) ?_
               try go_wp2
               refine bodyPost_ret (results_ct rfl _ _ gb204 23 #[.bool t207, .string t208, .string t209] (0, 0) _ rfl (by refine sK ?_; refine blk_put (cs := #[.bool t207, .string t208, .string x205002_2]) ?_ 2 _ rfl; refine sK ?_; refine blk_put (cs := #[.bool t207, .string x205001_2, .string x205002_2]) ?_ 1 _ rfl; refine sK ?_; refine blk_put (cs := #[.bool x205000_2, .string x205001_2, .string x205002_2]) ?_ 0 _ rfl; refine sK ?_; exact BK204.out) Tryz.underlying23 rfl (by kernel_rfl)) rfl ?_
               exact ⟨by first | rfl | (simp [errW_none, errW_some] <;> rfl) | (simp only [← hji25]; first | rfl | (simp [errW_none, errW_some] <;> rfl)) | (simp [*, errW_none, errW_some] <;> rfl), sB HB.out⟩
              ·
               rw [if_neg c27] at H
               exact absurd H (by simp)
             ·
              rw [if_neg c26] at H
              exact absurd H (by simp)
            ·
             rw [if_neg c24] at H
             exact absurd H (by simp)
           ·
            rw [if_neg c22] at H
            have c22b0 : ((bt xg x4_2) == 64) = false := beq_eq_false_iff_ne.mpr c22
            have c22b1 : ((bt xg x4_2) != 64) = true := bne_iff_ne.mpr c22
            have H' := Aside0.mk H
            clear H
            have p21 : 0 ≤ (x4_2 : Int) := of_decide_eq_true sA
            have q21 : x4_2 < (xg.size : Int) := of_decide_eq_true sA
            have hx21 := bt_at xg x4_2
            replace p21 := eq_true p21
            replace q21 := eq_true q21
            go_wp2
            go_roundg k2
            case measure => have := HJ4.out; have := HK2.out; omega
            case rel => exact ⟨(wrap64 (x4_2 + 1)), (x205000_2), (x205001_2), (x205002_2), (by first | rfl | (simp; done) | (simp [*]; done)), H', ⟨by have := HJ4.out; have := HK2.out; omega⟩, ⟨by refine sK ?_; exact BK204.out⟩, ⟨sB HB.out⟩⟩
          ·
           rw [if_neg c20] at H
           exact absurd H (by simp)
         ·
          rw [if_neg c19] at H
          have c19b0 : decide (x4_2 < (xg.size : Int)) = false := decide_eq_false c19
          clear c19
          simp only [Option.some.injEq, Prod.mk.injEq] at H
          obtain ⟨rfl, rfl, rfl, rfl⟩ := H
          have hcz42_0 := sC BK204.out 0
          have hcz42_1 := sC BK204.out 1
          have hcz42_2 := sC BK204.out 2
          have hfz42_0 := blk_frozen BK204.out 0
          have hfz42_1 := blk_frozen BK204.out 1
          have hfz42_2 := blk_frozen BK204.out 2
          go_wp2
          refine bodyPost_ret (results_ct rfl _ _ gb204 23 #[.bool false, .string ⟨#[]⟩, .string ⟨#[]⟩] (0, 0) _ rfl (by refine sK ?_; refine blk_put (cs := #[.bool false, .string ⟨#[]⟩, .string x205002_2]) ?_ 2 _ rfl; refine sK ?_; refine blk_put (cs := #[.bool false, .string x205001_2, .string x205002_2]) ?_ 1 _ rfl; refine sK ?_; refine blk_put (cs := #[.bool x205000_2, .string x205001_2, .string x205002_2]) ?_ 0 _ rfl; refine sK ?_; exact BK204.out) Tryz.underlying23 rfl (by kernel_rfl)) rfl ?_
          exact ⟨by first | rfl | (simp [errW_none, errW_some] <;> rfl) | (simp [*, errW_none, errW_some] <;> rfl), sB HB.out⟩
      ·
       rw [if_neg c18] at H
       exact absurd H (by simp)
     ·
      rw [if_neg c17] at H
      exact absurd H (by simp)
end Go.Proofs.YthcdjgekmfnmnaaGreatDoor.PVerb
end
section
namespace Go.Proofs.YthcdjgekmfnmnaaGreatDoor.PVerb
open Go.RowKit Go.Proofs.YthcdjgekmfnmnaaGreatDoorW.PrintWords Go.Proofs.YthcdjgekmfnmnaaGreatDoorW.PrintLast Go.Proofs.YthcdjgekmfnmnaaGreatDoorW.PrintMore
attribute [local go_sem] max2_int min2_int max_two min_two max_three min_three max_four min_four
set_option linter.unusedVariables false
set_option linter.unusedSimpArgs false
mutual
def wherryref11_number.j0 : Nat → ByteArray → Bool → Option (Int)
 | 0, _, _ => none
 | k + 1, x0, x21 => if x21 = true then (some (-1)) else (wherryref11_number.l0 k x0 0 0)
def wherryref11_number.l0 : Nat → ByteArray → Int → Int → Option (Int)
 | 0, _, _, _ => none
 | k + 1, x0, x5, x6 => if x6 < (x0.size : Int) then (if 0 ≤ x6 then ((wherryref11_digit.f (bt x0 x6)).bind fun t212 => (if t212 = true then (wherryref11_number.l0 k x0 (wrap64 ((wrap64 (10 * x5)) + (((bt x0 x6) - 48) % 256))) (wrap64 (x6 + 1))) else (some (-1)))) else (none)) else (some x5)
end
def wherryref11_number.f (k : Nat) (a0 : ByteArray) (a1 : Int) : Option (Int) := (wherryref11_in.f (a0.size : Int) 1 a1).bind fun t211 => (if t211 = true then (if (a0.size : Int) > 1 then (if 0 < (a0.size : Int) then (wherryref11_number.j0 k a0 ((bt a0 0) == 48)) else (none)) else (wherryref11_number.j0 k a0 false)) else (wherryref11_number.j0 k a0 true))
set_option maxHeartbeats 8000000 in
set_option maxRecDepth 100000 in
theorem wherryref11_number.calls (k : Nat) (a0 : ByteArray) (a1 : Int) (r : Int) (w : World) (h : wherryref11_number.f k a0 a1 = some r) :
  Calls Tryz.prog 77 #[.string a0, .int .i64 a1] w fun e w' => e = .returned (.int .i64 r) ∧ Drawn0 w w' := by
 have H : ((wherryref11_in.f (a0.size : Int) 1 a1).bind fun t211 => (if t211 = true then (if (a0.size : Int) > 1 then (if 0 < (a0.size : Int) then (wherryref11_number.j0 k a0 ((bt a0 0) == 48)) else (none)) else (wherryref11_number.j0 k a0 false)) else (wherryref11_number.j0 k a0 true))) = some r := h
 clear h
 have HC3 := Aside0.mk H
 clear H
 go_enter Tryz.func77, Tryz.ntmps77
 go_upto_region 1 with (fail)
 go_cut [21] (fun v21 wc => ∃ (kq : Nat) (x21_2 : Bool), v21 = .bool x21_2 ∧ Aside0 (wherryref11_number.j0 kq a0 x21_2 = some r) ∧ Aside0 (kq ≤ k) ∧ Drawn0 w wc)
 case first =>
  have H := HC3.out
  clear HC3
  replace H := Option.bind_eq_some_iff.mp H
  obtain ⟨t211, A40, H⟩ := H
  try dsimp -simprocs only at H
  have A4 := Aside0.mk A40
  clear A40
  by_cases c5 : t211 = true
  ·
   subst c5
   rw [if_pos rfl] at H
   try dsimp -simprocs only at H
   by_cases c6 : (a0.size : Int) > 1
   ·
    rw [if_pos c6] at H
    have c6b0 : decide (1 < (a0.size : Int)) = true := decide_eq_true c6
    have c6b1 : decide (1 < a0.size) = true := decide_eq_true (by omega)
    clear c6
    (first | rw [c6b0] | (simp only [i64_w, i32_w]; rw [c6b0]) | skip)
    by_cases c7 : 0 < (a0.size : Int)
    ·
     rw [if_pos c7] at H
     have c7b0 : decide (0 < (a0.size : Int)) = true := decide_eq_true c7
     have c7b1 : decide (0 < a0.size) = true := decide_eq_true (by omega)
     clear c7
     have H' := Aside0.mk H
     clear H
     go_wp2_with (first | ((with_reducible refine gate_callee (f := 44) rfl ?_); refine goesL_ (some 10) rfl rfl Tryz.func44 (by kernel_rfl) rfl #[.int .i64 (a0.size : Int), .int .i64 1, .int .i64 a1] rfl sM ?_; (with_reducible refine (wherryref11_in.calls (a0.size : Int) 1 a1 true _ A4.out).mono ?_); rintro e w' ⟨rfl, ⟨nd, rfl⟩⟩; refine ⟨_, rfl, ?_⟩; have p8 : 0 ≤ (0 : Int) := (by omega); have q8 : 0 < a0.size := (by have : (0 : Int) < (a0.size : Int) := of_decide_eq_true sA; omega); have hx8 : ∀ h : 0 < a0.size, ((a0[0]'h).toNat : Int) = bt a0 0 := bt_at a0 0; clear p8; have qi8 : (0 < (a0.size : Int)) = True := eq_true (of_decide_eq_true sA); replace q8 := eq_true q8))
     go_meet
     case rel => exact ⟨_, (((bt a0 0) == 48)), (by first | rfl | (simp; done) | (simp [*]; done)), H', ⟨by first | omega | exact Nat.le_refl _⟩, by repeat (first | exact Drawn0.refl _ | apply Drawn0.step)⟩
    ·
     rw [if_neg c7] at H
     exact absurd H (by simp)
   ·
    rw [if_neg c6] at H
    have c6b0 : decide (1 < (a0.size : Int)) = false := decide_eq_false c6
    have c6b1 : decide (1 < a0.size) = false := decide_eq_false (by omega)
    clear c6
    (first | rw [c6b0] | (simp only [i64_w, i32_w]; rw [c6b0]) | skip)
    have H' := Aside0.mk H
    clear H
    go_wp2_with (first | ((with_reducible refine gate_callee (f := 44) rfl ?_); refine goesL_ (some 10) rfl rfl Tryz.func44 (by kernel_rfl) rfl #[.int .i64 (a0.size : Int), .int .i64 1, .int .i64 a1] rfl sM ?_; (with_reducible refine (wherryref11_in.calls (a0.size : Int) 1 a1 true _ A4.out).mono ?_); rintro e w' ⟨rfl, ⟨nd, rfl⟩⟩; refine ⟨_, rfl, ?_⟩))
    go_meet
    case rel => exact ⟨_, (false), (by first | rfl | (simp; done) | (simp [*]; done)), H', ⟨by first | omega | exact Nat.le_refl _⟩, by repeat (first | exact Drawn0.refl _ | apply Drawn0.step)⟩
  ·
   replace c5 := Bool.eq_false_iff.mpr c5
   subst c5
   rw [if_neg (show ¬ (false = true) by decide)] at H
   try dsimp -simprocs only at H
   have H' := Aside0.mk H
   clear H
   go_wp2_with (first | ((with_reducible refine gate_callee (f := 44) rfl ?_); refine goesL_ (some 10) rfl rfl Tryz.func44 (by kernel_rfl) rfl #[.int .i64 (a0.size : Int), .int .i64 1, .int .i64 a1] rfl sM ?_; (with_reducible refine (wherryref11_in.calls (a0.size : Int) 1 a1 false _ A4.out).mono ?_); rintro e w' ⟨rfl, ⟨nd, rfl⟩⟩; refine ⟨_, rfl, ?_⟩))
   go_meet
   case rel => exact ⟨_, (true), (by first | rfl | (simp; done) | (simp [*]; done)), H', ⟨by first | omega | exact Nat.le_refl _⟩, by repeat (first | exact Drawn0.refl _ | apply Drawn0.step)⟩
 case rest =>
  clear HC3
  try clear p2; try clear c4; try clear c5; try clear c6; try clear c6b0; try clear c6b1; try clear c7; try clear c7b0; try clear c7b1; try clear p8; try clear q8; try clear hx8; try clear qi8; try clear p8; try clear q8
  obtain ⟨kq, x21_2, rfl, HA, HJ2, ⟨mc2, rfl⟩⟩ := hcut
  cases kq with
  | zero => exact absurd HA.out (by simp [wherryref11_number.j0])
  | succ kj2 =>
   have H := HA.out
   clear HA
   simp only [wherryref11_number.j0] at H
   by_cases c9 : x21_2 = true
   ·
    subst c9
    rw [if_pos rfl] at H
    try dsimp -simprocs only at H
    obtain rfl := Option.some.inj H
    go_wp2
    go_ret
    exact ⟨by first | rfl | (simp; done) | (simp [*]; done), by repeat (first | exact Drawn0.refl _ | apply Drawn0.step)⟩
   ·
    replace c9 := Bool.eq_false_iff.mpr c9
    subst c9
    rw [if_neg (show ¬ (false = true) by decide)] at H
    try dsimp -simprocs only at H
    have H' := Aside0.mk H
    clear H
    go_wp2
    go_loopg [5, 6] kj2 (fun kq v5 v6 w' => ∃ (x5_2 : Int) (x6_2 : Int), v5 = .int .i64 x5_2 ∧ v6 = .int .i64 x6_2 ∧ Aside0 (wherryref11_number.l0 kq a0 x5_2 x6_2 = some r) ∧ Aside0 (kq ≤ kj2) ∧ Drawn0 w w')
    case atStart => exact ⟨(0), (0), (by first | rfl | (simp; done) | (simp [*]; done)), (by first | rfl | (simp; done) | (simp [*]; done)), H', ⟨Nat.le_refl _⟩, by repeat (first | exact Drawn0.refl _ | apply Drawn0.step)⟩
    case round =>
     clear H'
     try clear c2; try clear p2; try clear c4; try clear c5; try clear c6; try clear c6b0; try clear c6b1; try clear c7; try clear c7b0; try clear c7b1; try clear p8; try clear q8; try clear hx8; try clear qi8; try clear c9; try clear p2; try clear p8; try clear q8
     obtain ⟨x5_2, x6_2, rfl, rfl, HA, HK2, ⟨m2, rfl⟩⟩ := hrel
     cases gk with
     | zero => exact absurd HA.out (by simp [wherryref11_number.l0])
     | succ k2 =>
      have H := HA.out
      clear HA
      simp only [wherryref11_number.l0] at H
      by_cases c10 : x6_2 < (a0.size : Int)
      ·
       rw [if_pos c10] at H
       have c10b0 : decide (x6_2 < (a0.size : Int)) = true := decide_eq_true c10
       clear c10
       by_cases c11 : 0 ≤ x6_2
       ·
        rw [if_pos c11] at H
        have c11b0 : decide (0 ≤ x6_2) = true := decide_eq_true c11
        clear c11
        replace H := Option.bind_eq_some_iff.mp H
        obtain ⟨t212, A130, H⟩ := H
        try dsimp -simprocs only at H
        have A13 := Aside0.mk A130
        clear A130
        by_cases c14 : t212 = true
        ·
         subst c14
         rw [if_pos rfl] at H
         try dsimp -simprocs only at H
         have H' := Aside0.mk H
         clear H
         have p12 : 0 ≤ (x6_2 : Int) := of_decide_eq_true sA
         have q12 : x6_2 < (a0.size : Int) := of_decide_eq_true sA
         have hx12 := bt_at a0 x6_2
         replace p12 := eq_true p12
         replace q12 := eq_true q12
         go_wp2_with (first | ((with_reducible refine gate_callee (f := 46) rfl ?_); refine goesL_ (some 31) rfl rfl Tryz.func46 (by kernel_rfl) rfl #[.int .u8 (bt a0 x6_2)] rfl sM ?_; (with_reducible refine (wherryref11_digit.calls (bt a0 x6_2) true _ A13.out).mono ?_); rintro e w' ⟨rfl, ⟨nd, rfl⟩⟩; refine ⟨_, rfl, ?_⟩; have p15 : 0 ≤ (x6_2 : Int) := of_decide_eq_true sA; have q15 : x6_2 < (a0.size : Int) := of_decide_eq_true sA; have hx15 := bt_at a0 x6_2; replace p15 := eq_true p15; replace q15 := eq_true q15))
         go_roundg k2
         case measure => have := HJ2.out; have := HK2.out; omega
         case rel => exact ⟨(wrap64 ((wrap64 (10 * x5_2)) + (((bt a0 x6_2) - 48) % 256))), (wrap64 (x6_2 + 1)), (by first | rfl | (simp; done) | (simp [*]; done)), (by first | rfl | (simp; done) | (simp [*]; done)), H', ⟨by have := HJ2.out; have := HK2.out; omega⟩, by repeat (first | exact Drawn0.refl _ | apply Drawn0.step)⟩
        ·
         replace c14 := Bool.eq_false_iff.mpr c14
         subst c14
         rw [if_neg (show ¬ (false = true) by decide)] at H
         try dsimp -simprocs only at H
         obtain rfl := Option.some.inj H
         have p12 : 0 ≤ (x6_2 : Int) := of_decide_eq_true sA
         have q12 : x6_2 < (a0.size : Int) := of_decide_eq_true sA
         have hx12 := bt_at a0 x6_2
         replace p12 := eq_true p12
         replace q12 := eq_true q12
         go_wp2_with (first | ((with_reducible refine gate_callee (f := 46) rfl ?_); refine goesL_ (some 31) rfl rfl Tryz.func46 (by kernel_rfl) rfl #[.int .u8 (bt a0 x6_2)] rfl sM ?_; (with_reducible refine (wherryref11_digit.calls (bt a0 x6_2) false _ A13.out).mono ?_); rintro e w' ⟨rfl, ⟨nd, rfl⟩⟩; refine ⟨_, rfl, ?_⟩))
         go_ret
         exact ⟨by first | rfl | (simp; done) | (simp [*]; done), by repeat (first | exact Drawn0.refl _ | apply Drawn0.step)⟩
       ·
        rw [if_neg c11] at H
        exact absurd H (by simp)
      ·
       rw [if_neg c10] at H
       have c10b0 : decide (x6_2 < (a0.size : Int)) = false := decide_eq_false c10
       clear c10
       obtain rfl := Option.some.inj H
       go_wp2
       go_ret
       exact ⟨by first | rfl | (simp; done) | (simp [*]; done), by repeat (first | exact Drawn0.refl _ | apply Drawn0.step)⟩
mutual
def wherryref11_param.j0 : Nat → ByteArray → Int → ByteArray → Bool → Option (ByteArray × ByteArray × Bool)
 | 0, _, _, _, _ => none
 | k + 1, x0, x1, x6, x30 => if x30 = true then (some ((⟨#[83, 73, 90, 69]⟩ : ByteArray), x6, true)) else ((wherryref11_begins.f k x0 (⟨#[114, 101, 116, 61]⟩ : ByteArray)).bind fun bt217 => (if bt217.2 = true then (if x1 = 2 then ((wherryref11_Fold.f k bt217.1).bind fun t219 => (wherryref11_param.j1 k x0 x1 (t219.toList == ([102, 117, 108, 108] : List UInt8)))) else (wherryref11_param.j1 k x0 x1 false)) else (wherryref11_param.j1 k x0 x1 false)))
def wherryref11_param.j1 : Nat → ByteArray → Int → Bool → Option (ByteArray × ByteArray × Bool)
 | 0, _, _, _ => none
 | k + 1, x0, x1, x47 => if x47 = true then (some ((⟨#[82, 69, 84]⟩ : ByteArray), (⟨#[70, 85, 76, 76]⟩ : ByteArray), true)) else ((wherryref11_begins.f k x0 (⟨#[114, 101, 116, 61]⟩ : ByteArray)).bind fun bt220 => (if bt220.2 = true then (if x1 = 2 then ((wherryref11_Fold.f k bt220.1).bind fun t222 => (wherryref11_param.j2 k x0 x1 (t222.toList == ([104, 100, 114, 115] : List UInt8)))) else (wherryref11_param.j2 k x0 x1 false)) else (wherryref11_param.j2 k x0 x1 false)))
def wherryref11_param.j2 : Nat → ByteArray → Int → Bool → Option (ByteArray × ByteArray × Bool)
 | 0, _, _, _ => none
 | k + 1, x0, x1, x63 => if x63 = true then (some ((⟨#[82, 69, 84]⟩ : ByteArray), (⟨#[72, 68, 82, 83]⟩ : ByteArray), true)) else ((wherryref11_begins.f k x0 (⟨#[110, 111, 116, 105, 102, 121, 61]⟩ : ByteArray)).bind fun bt223 => (if bt223.2 = true then (if x1 = 3 then ((wherryref11_Fold.f k bt223.1).bind fun t225 => (wherryref11_param.j3 k x0 x1 (t225.toList == ([110, 101, 118, 101, 114] : List UInt8)))) else (wherryref11_param.j3 k x0 x1 false)) else (wherryref11_param.j3 k x0 x1 false)))
def wherryref11_param.j3 : Nat → ByteArray → Int → Bool → Option (ByteArray × ByteArray × Bool)
 | 0, _, _, _ => none
 | k + 1, x0, x1, x79 => if x79 = true then (some ((⟨#[78, 79, 84, 73, 70, 89]⟩ : ByteArray), (⟨#[78, 69, 86, 69, 82]⟩ : ByteArray), true)) else ((wherryref11_begins.f k x0 (⟨#[110, 111, 116, 105, 102, 121, 61]⟩ : ByteArray)).bind fun bt226 => (if bt226.2 = true then (if x1 = 3 then ((wherryref11_Fold.f k bt226.1).bind fun t228 => (if t228.toList = ([102, 97, 105, 108, 117, 114, 101] : List UInt8) then (some ((⟨#[78, 79, 84, 73, 70, 89]⟩ : ByteArray), (⟨#[70, 65, 73, 76, 85, 82, 69]⟩ : ByteArray), true)) else (some ((⟨#[]⟩ : ByteArray), (⟨#[]⟩ : ByteArray), false)))) else (some ((⟨#[]⟩ : ByteArray), (⟨#[]⟩ : ByteArray), false))) else (some ((⟨#[]⟩ : ByteArray), (⟨#[]⟩ : ByteArray), false))))
end
def wherryref11_param.f (k : Nat) (a0 : ByteArray) (a1 : Int) : Option (ByteArray × ByteArray × Bool) := (wherryref11_begins.f k a0 (⟨#[115, 105, 122, 101, 61]⟩ : ByteArray)).bind fun bt214 => (if bt214.2 = true then (if a1 = 2 then ((wherryref11_number.f k bt214.1 9).bind fun t216 => (wherryref11_param.j0 k a0 a1 bt214.1 (decide (t216 ≥ 0)))) else (wherryref11_param.j0 k a0 a1 bt214.1 false)) else (wherryref11_param.j0 k a0 a1 bt214.1 false))
set_option maxHeartbeats 8000000 in
set_option maxRecDepth 100000 in
theorem wherryref11_param.calls (k : Nat) (a0 : ByteArray) (a1 : Int) (r1 : ByteArray) (r2 : ByteArray) (r3 : Bool) (w : World) (h : wherryref11_param.f k a0 a1 = some (r1, r2, r3)) :
  Calls Tryz.prog 60 #[.string a0, .int .i64 a1] w fun e w' => e = .returned (.tuple #[.agg #[.string r1, .string r2], .bool r3]) ∧ Below w.heap.size w w' := by
 have hu47 := Tryz.underlying47
 have HB := Aside0.mk (Below.refl w.heap.size w)
 have H : ((wherryref11_begins.f k a0 (⟨#[115, 105, 122, 101, 61]⟩ : ByteArray)).bind fun bt214 => (if bt214.2 = true then (if a1 = 2 then ((wherryref11_number.f k bt214.1 9).bind fun t216 => (wherryref11_param.j0 k a0 a1 bt214.1 (decide (t216 ≥ 0)))) else (wherryref11_param.j0 k a0 a1 bt214.1 false)) else (wherryref11_param.j0 k a0 a1 bt214.1 false))) = some (r1, r2, r3) := h
 clear h
 replace H := Option.bind_eq_some_iff.mp H
 obtain ⟨⟨t214, t215⟩, A30, H⟩ := H
 try dsimp -simprocs only at H
 have A3 := Aside0.mk A30
 clear A30
 have HC4 := Aside0.mk H
 clear H
 go_enter Tryz.func60, Tryz.ntmps60
 go_upto_region 2 with (first | ((with_reducible refine gate_dst (N := 4) rfl ?_); refine box_event ?hg (N := 4) ?hd (cs := #[.string ⟨#[]⟩, .string ⟨#[]⟩]) (t := 47) ?hr ?_; (case hd => rfl); (case hg => rfl); (case hr => first | (go_simp; done) | (go_simp; rfl)); intro gb213 hg w5 hbox hb; have BK213 := Aside0.mk (hbox); have GW213 := Aside0.mk ((by rw [hg]; exact (below_size (sB HB.out)) : w.heap.size ≤ gb213)); have GE213 := Aside0.mk ((by rw [hg]; exact (below_size (sB HB.out)) : w.heap.size ≤ gb213)); replace HB := Aside0.mk (below_step (sB HB.out) hb); clear hb hbox hg) | ((with_reducible refine gate_callee (f := 27) rfl ?_); refine goesL_ (some 18) rfl rfl Tryz.func27 (by kernel_rfl) rfl #[.string a0, .string ⟨#[115, 105, 122, 101, 61]⟩] rfl sM ?_; (with_reducible refine (wherryref11_begins.calls k a0 (⟨#[115, 105, 122, 101, 61]⟩ : ByteArray) t214 t215 _ A3.out).mono ?_); rintro e w6 ⟨rfl, hb⟩; refine ⟨_, rfl, ?_⟩; replace BK213 := Aside0.mk (blk_below (g := gb213) (o := .cells #[.string ⟨#[]⟩, .string ⟨#[]⟩] 47 (0, 0)) (sK BK213.out) hb); replace HB := Aside0.mk (below_step (sB HB.out) hb); (try clear hb)))
 (try simp only [Act.put, List.setIfInBounds_toArray, List.set_cons_zero, List.set_cons_succ])
 go_cut [30] (fun v30 wc => ∃ (kq : Nat) (x30_3 : Bool), v30 = .bool x30_3 ∧ Aside0 (wherryref11_param.j0 kq a0 a1 t214 x30_3 = some (r1, r2, r3)) ∧ Aside0 (kq ≤ k) ∧ Aside0 (wc.heap[gb213]? = some (.cells #[.string ⟨#[]⟩, .string ⟨#[]⟩] 47 (0, 0))) ∧ Aside0 (Below w.heap.size w wc))
 case first =>
  have H := HC4.out
  clear HC4
  by_cases c7 : t215 = true
  ·
   subst c7
   rw [if_pos rfl] at H
   try dsimp -simprocs only at H
   by_cases c8 : a1 = 2
   ·
    rw [if_pos c8] at H
    have c8b0 : (a1 == 2) = true := beq_iff_eq.mpr c8
    have c8b1 : (a1 != 2) = false := bne_eq_false_iff_eq.mpr c8
    clear c8
    (first | rw [c8b0] | (simp only [i64_w, i32_w]; rw [c8b0]) | skip)
    replace H := Option.bind_eq_some_iff.mp H
    obtain ⟨t216, A90, H⟩ := H
    try dsimp -simprocs only at H
    have A9 := Aside0.mk A90
    clear A90
    have H' := Aside0.mk H
    clear H
    go_wp2_with (first | (go_at_call 77; (with_reducible refine (wherryref11_number.calls k t214 9 t216 _ A9.out).mono ?_); rintro e w' ⟨rfl, ⟨nd, rfl⟩⟩))
    go_meet
    case rel => exact ⟨_, (decide (t216 ≥ 0)), (by first | rfl | (simp; done) | (simp [*]; done)), H', ⟨by first | omega | exact Nat.le_refl _⟩, ⟨by refine sK ?_; exact BK213.out⟩, ⟨sB HB.out⟩⟩
   ·
    rw [if_neg c8] at H
    have c8b0 : (a1 == 2) = false := beq_eq_false_iff_ne.mpr c8
    have c8b1 : (a1 != 2) = true := bne_iff_ne.mpr c8
    (first | rw [c8b0] | (simp only [i64_w, i32_w]; rw [c8b0]) | skip)
    have H' := Aside0.mk H
    clear H
    go_wp2
    go_meet
    case rel => exact ⟨_, (false), (by first | rfl | (simp; done) | (simp [*]; done)), H', ⟨by first | omega | exact Nat.le_refl _⟩, ⟨by refine sK ?_; exact BK213.out⟩, ⟨sB HB.out⟩⟩
  ·
   replace c7 := Bool.eq_false_iff.mpr c7
   subst c7
   rw [if_neg (show ¬ (false = true) by decide)] at H
   try dsimp -simprocs only at H
   have H' := Aside0.mk H
   clear H
   go_wp2
   go_meet
   case rel => exact ⟨_, (false), (by first | rfl | (simp; done) | (simp [*]; done)), H', ⟨by first | omega | exact Nat.le_refl _⟩, ⟨by refine sK ?_; exact BK213.out⟩, ⟨sB HB.out⟩⟩
 case rest =>
  clear HC4
  try clear c2; try clear p2; try clear c6; try clear c7; try clear c8; try clear c8b0; try clear c8b1
  obtain ⟨kq, x30_3, rfl, HA, HJ3, BK213, HB⟩ := hcut
  cases kq with
  | zero => exact absurd HA.out (by simp [wherryref11_param.j0])
  | succ kj3 =>
   have H := HA.out
   clear HA
   simp only [wherryref11_param.j0] at H
   by_cases c10 : x30_3 = true
   ·
    subst c10
    rw [if_pos rfl] at H
    try dsimp -simprocs only at H
    simp only [Option.some.injEq, Prod.mk.injEq] at H
    obtain ⟨rfl, rfl, rfl⟩ := H
    have hcz11_0 := sC BK213.out 0
    have hcz11_1 := sC BK213.out 1
    have hfz11_0 := blk_frozen BK213.out 0
    have hfz11_1 := blk_frozen BK213.out 1
    go_wp2
    refine bodyPost_ret (results_ct rfl _ _ gb213 47 #[.string ⟨#[83, 73, 90, 69]⟩, .string t214] (0, 0) _ rfl (by refine sK ?_; refine blk_put (cs := #[.string ⟨#[83, 73, 90, 69]⟩, .string ⟨#[]⟩]) ?_ 1 _ rfl; refine sK ?_; refine blk_put (cs := #[.string ⟨#[]⟩, .string ⟨#[]⟩]) ?_ 0 _ rfl; refine sK ?_; exact BK213.out) Tryz.underlying47 rfl (by kernel_rfl)) rfl ?_
    exact ⟨by first | rfl | (simp [errW_none, errW_some] <;> rfl) | (simp [*, errW_none, errW_some] <;> rfl), sB HB.out⟩
   ·
    replace c10 := Bool.eq_false_iff.mpr c10
    subst c10
    rw [if_neg (show ¬ (false = true) by decide)] at H
    try dsimp -simprocs only at H
    replace H := Option.bind_eq_some_iff.mp H
    obtain ⟨⟨t217, t218⟩, A120, H⟩ := H
    try dsimp -simprocs only at H
    have A12 := Aside0.mk A120
    clear A120
    have HC13 := Aside0.mk H
    clear H
    go_upto_region 5 with (first | ((with_reducible refine gate_callee (f := 27) rfl ?_); refine goesL_ (some 35) rfl rfl Tryz.func27 (by kernel_rfl) rfl #[.string a0, .string ⟨#[114, 101, 116, 61]⟩] rfl sM ?_; (with_reducible refine (wherryref11_begins.calls kj3 a0 (⟨#[114, 101, 116, 61]⟩ : ByteArray) t217 t218 _ A12.out).mono ?_); rintro e w14 ⟨rfl, hb⟩; refine ⟨_, rfl, ?_⟩; replace BK213 := Aside0.mk (blk_below (g := gb213) (o := .cells #[.string ⟨#[]⟩, .string ⟨#[]⟩] 47 (0, 0)) (sK BK213.out) hb); replace HB := Aside0.mk (below_step (sB HB.out) hb); (try clear hb)))
    (try simp only [Act.put, List.setIfInBounds_toArray, List.set_cons_zero, List.set_cons_succ])
    go_cut [47] (fun v47 wc => ∃ (kq : Nat) (x47_12 : Bool), v47 = .bool x47_12 ∧ Aside0 (wherryref11_param.j1 kq a0 a1 x47_12 = some (r1, r2, r3)) ∧ Aside0 (kq ≤ kj3) ∧ Aside0 (wc.heap[gb213]? = some (.cells #[.string ⟨#[]⟩, .string ⟨#[]⟩] 47 (0, 0))) ∧ Aside0 (Below w.heap.size w wc))
    case first =>
     have H := HC13.out
     clear HC13
     by_cases c15 : t218 = true
     ·
      subst c15
      rw [if_pos rfl] at H
      try dsimp -simprocs only at H
      by_cases c16 : a1 = 2
      ·
       rw [if_pos c16] at H
       have c16b0 : (a1 == 2) = true := beq_iff_eq.mpr c16
       have c16b1 : (a1 != 2) = false := bne_eq_false_iff_eq.mpr c16
       clear c16
       (first | rw [c16b0] | (simp only [i64_w, i32_w]; rw [c16b0]) | skip)
       replace H := Option.bind_eq_some_iff.mp H
       obtain ⟨t219, A170, H⟩ := H
       try dsimp -simprocs only at H
       have A17 := Aside0.mk A170
       clear A170
       have H' := Aside0.mk H
       clear H
       go_wp2_with (first | (go_at_call 29; (with_reducible refine (wherryref11_Fold.calls kj3 t217 t219 _ A17.out).mono ?_); rintro e w18 ⟨rfl, hb⟩; replace BK213 := Aside0.mk (blk_below (g := gb213) (o := .cells #[.string ⟨#[]⟩, .string ⟨#[]⟩] 47 (0, 0)) (sK BK213.out) hb); replace HB := Aside0.mk (below_step (sB HB.out) hb); (try clear hb)))
       go_meet
       case rel => exact ⟨_, ((t219.toList == ([102, 117, 108, 108] : List UInt8))), (by first | rfl | (simp; done) | (simp [*]; done)), H', ⟨by have := HJ3.out; first | omega | exact Nat.le_refl _⟩, ⟨by refine sK ?_; exact BK213.out⟩, ⟨sB HB.out⟩⟩
      ·
       rw [if_neg c16] at H
       have c16b0 : (a1 == 2) = false := beq_eq_false_iff_ne.mpr c16
       have c16b1 : (a1 != 2) = true := bne_iff_ne.mpr c16
       (first | rw [c16b0] | (simp only [i64_w, i32_w]; rw [c16b0]) | skip)
       have H' := Aside0.mk H
       clear H
       go_wp2
       go_meet
       case rel => exact ⟨_, (false), (by first | rfl | (simp; done) | (simp [*]; done)), H', ⟨by have := HJ3.out; first | omega | exact Nat.le_refl _⟩, ⟨by refine sK ?_; exact BK213.out⟩, ⟨sB HB.out⟩⟩
     ·
      replace c15 := Bool.eq_false_iff.mpr c15
      subst c15
      rw [if_neg (show ¬ (false = true) by decide)] at H
      try dsimp -simprocs only at H
      have H' := Aside0.mk H
      clear H
      go_wp2
      go_meet
      case rel => exact ⟨_, (false), (by first | rfl | (simp; done) | (simp [*]; done)), H', ⟨by have := HJ3.out; first | omega | exact Nat.le_refl _⟩, ⟨by refine sK ?_; exact BK213.out⟩, ⟨sB HB.out⟩⟩
    case rest =>
     clear HC13
     try clear c1; try clear c2; try clear p2; try clear c6; try clear c7; try clear c8; try clear c8b0; try clear c8b1; try clear c10; try clear c15; try clear c16; try clear c16b0; try clear c16b1; try clear hcz11_0; try clear hcz11_1; try clear hfz11_0; try clear hfz11_1; try clear p2
     obtain ⟨kq, x47_12, rfl, HA, HJ12, BK213, HB⟩ := hcut
     cases kq with
     | zero => exact absurd HA.out (by simp [wherryref11_param.j1])
     | succ kj12 =>
      have H := HA.out
      clear HA
      simp only [wherryref11_param.j1] at H
      by_cases c19 : x47_12 = true
      ·
       subst c19
       rw [if_pos rfl] at H
       try dsimp -simprocs only at H
       simp only [Option.some.injEq, Prod.mk.injEq] at H
       obtain ⟨rfl, rfl, rfl⟩ := H
       have hcz20_0 := sC BK213.out 0
       have hcz20_1 := sC BK213.out 1
       have hfz20_0 := blk_frozen BK213.out 0
       have hfz20_1 := blk_frozen BK213.out 1
       go_wp2
       refine bodyPost_ret (results_ct rfl _ _ gb213 47 #[.string ⟨#[82, 69, 84]⟩, .string ⟨#[70, 85, 76, 76]⟩] (0, 0) _ rfl (by refine sK ?_; refine blk_put (cs := #[.string ⟨#[82, 69, 84]⟩, .string ⟨#[]⟩]) ?_ 1 _ rfl; refine sK ?_; refine blk_put (cs := #[.string ⟨#[]⟩, .string ⟨#[]⟩]) ?_ 0 _ rfl; refine sK ?_; exact BK213.out) Tryz.underlying47 rfl (by kernel_rfl)) rfl ?_
       exact ⟨by first | rfl | (simp [errW_none, errW_some] <;> rfl) | (simp [*, errW_none, errW_some] <;> rfl), sB HB.out⟩
      ·
       replace c19 := Bool.eq_false_iff.mpr c19
       subst c19
       rw [if_neg (show ¬ (false = true) by decide)] at H
       try dsimp -simprocs only at H
       replace H := Option.bind_eq_some_iff.mp H
       obtain ⟨⟨t220, t221⟩, A210, H⟩ := H
       try dsimp -simprocs only at H
       have A21 := Aside0.mk A210
       clear A210
       have HC22 := Aside0.mk H
       clear H
       go_upto_region 8 with (first | ((with_reducible refine gate_callee (f := 27) rfl ?_); refine goesL_ (some 51) rfl rfl Tryz.func27 (by kernel_rfl) rfl #[.string a0, .string ⟨#[114, 101, 116, 61]⟩] rfl sM ?_; (with_reducible refine (wherryref11_begins.calls kj12 a0 (⟨#[114, 101, 116, 61]⟩ : ByteArray) t220 t221 _ A21.out).mono ?_); rintro e w23 ⟨rfl, hb⟩; refine ⟨_, rfl, ?_⟩; replace BK213 := Aside0.mk (blk_below (g := gb213) (o := .cells #[.string ⟨#[]⟩, .string ⟨#[]⟩] 47 (0, 0)) (sK BK213.out) hb); replace HB := Aside0.mk (below_step (sB HB.out) hb); (try clear hb)))
       (try simp only [Act.put, List.setIfInBounds_toArray, List.set_cons_zero, List.set_cons_succ])
       go_cut [63] (fun v63 wc => ∃ (kq : Nat) (x63_21 : Bool), v63 = .bool x63_21 ∧ Aside0 (wherryref11_param.j2 kq a0 a1 x63_21 = some (r1, r2, r3)) ∧ Aside0 (kq ≤ kj12) ∧ Aside0 (wc.heap[gb213]? = some (.cells #[.string ⟨#[]⟩, .string ⟨#[]⟩] 47 (0, 0))) ∧ Aside0 (Below w.heap.size w wc))
       case first =>
        have H := HC22.out
        clear HC22
        by_cases c24 : t221 = true
        ·
         subst c24
         rw [if_pos rfl] at H
         try dsimp -simprocs only at H
         by_cases c25 : a1 = 2
         ·
          rw [if_pos c25] at H
          have c25b0 : (a1 == 2) = true := beq_iff_eq.mpr c25
          have c25b1 : (a1 != 2) = false := bne_eq_false_iff_eq.mpr c25
          clear c25
          (first | rw [c25b0] | (simp only [i64_w, i32_w]; rw [c25b0]) | skip)
          replace H := Option.bind_eq_some_iff.mp H
          obtain ⟨t222, A260, H⟩ := H
          try dsimp -simprocs only at H
          have A26 := Aside0.mk A260
          clear A260
          have H' := Aside0.mk H
          clear H
          go_wp2_with (first | (go_at_call 29; (with_reducible refine (wherryref11_Fold.calls kj12 t220 t222 _ A26.out).mono ?_); rintro e w27 ⟨rfl, hb⟩; replace BK213 := Aside0.mk (blk_below (g := gb213) (o := .cells #[.string ⟨#[]⟩, .string ⟨#[]⟩] 47 (0, 0)) (sK BK213.out) hb); replace HB := Aside0.mk (below_step (sB HB.out) hb); (try clear hb)))
          go_meet
          case rel => exact ⟨_, ((t222.toList == ([104, 100, 114, 115] : List UInt8))), (by first | rfl | (simp; done) | (simp [*]; done)), H', ⟨by have := HJ3.out; have := HJ12.out; first | omega | exact Nat.le_refl _⟩, ⟨by refine sK ?_; exact BK213.out⟩, ⟨sB HB.out⟩⟩
         ·
          rw [if_neg c25] at H
          have c25b0 : (a1 == 2) = false := beq_eq_false_iff_ne.mpr c25
          have c25b1 : (a1 != 2) = true := bne_iff_ne.mpr c25
          (first | rw [c25b0] | (simp only [i64_w, i32_w]; rw [c25b0]) | skip)
          have H' := Aside0.mk H
          clear H
          go_wp2
          go_meet
          case rel => exact ⟨_, (false), (by first | rfl | (simp; done) | (simp [*]; done)), H', ⟨by have := HJ3.out; have := HJ12.out; first | omega | exact Nat.le_refl _⟩, ⟨by refine sK ?_; exact BK213.out⟩, ⟨sB HB.out⟩⟩
        ·
         replace c24 := Bool.eq_false_iff.mpr c24
         subst c24
         rw [if_neg (show ¬ (false = true) by decide)] at H
         try dsimp -simprocs only at H
         have H' := Aside0.mk H
         clear H
         go_wp2
         go_meet
         case rel => exact ⟨_, (false), (by first | rfl | (simp; done) | (simp [*]; done)), H', ⟨by have := HJ3.out; have := HJ12.out; first | omega | exact Nat.le_refl _⟩, ⟨by refine sK ?_; exact BK213.out⟩, ⟨sB HB.out⟩⟩
       case rest =>
        clear HC22
        try clear c1; try clear c2; try clear p2; try clear c6; try clear c7; try clear c8; try clear c8b0; try clear c8b1; try clear c10; try clear c15; try clear c16; try clear c16b0; try clear c16b1; try clear c19; try clear c24; try clear c25; try clear c25b0; try clear c25b1; try clear c27; try clear hcz11_0; try clear hcz11_1; try clear hcz20_0; try clear hcz20_1; try clear hfz11_0; try clear hfz11_1; try clear hfz20_0; try clear hfz20_1; try clear p2
        obtain ⟨kq, x63_21, rfl, HA, HJ21, BK213, HB⟩ := hcut
        cases kq with
        | zero => exact absurd HA.out (by simp [wherryref11_param.j2])
        | succ kj21 =>
         have H := HA.out
         clear HA
         simp only [wherryref11_param.j2] at H
         by_cases c28 : x63_21 = true
         ·
          subst c28
          rw [if_pos rfl] at H
          try dsimp -simprocs only at H
          simp only [Option.some.injEq, Prod.mk.injEq] at H
          obtain ⟨rfl, rfl, rfl⟩ := H
          have hcz29_0 := sC BK213.out 0
          have hcz29_1 := sC BK213.out 1
          have hfz29_0 := blk_frozen BK213.out 0
          have hfz29_1 := blk_frozen BK213.out 1
          go_wp2
          refine bodyPost_ret (results_ct rfl _ _ gb213 47 #[.string ⟨#[82, 69, 84]⟩, .string ⟨#[72, 68, 82, 83]⟩] (0, 0) _ rfl (by refine sK ?_; refine blk_put (cs := #[.string ⟨#[82, 69, 84]⟩, .string ⟨#[]⟩]) ?_ 1 _ rfl; refine sK ?_; refine blk_put (cs := #[.string ⟨#[]⟩, .string ⟨#[]⟩]) ?_ 0 _ rfl; refine sK ?_; exact BK213.out) Tryz.underlying47 rfl (by kernel_rfl)) rfl ?_
          exact ⟨by first | rfl | (simp [errW_none, errW_some] <;> rfl) | (simp [*, errW_none, errW_some] <;> rfl), sB HB.out⟩
         ·
          replace c28 := Bool.eq_false_iff.mpr c28
          subst c28
          rw [if_neg (show ¬ (false = true) by decide)] at H
          try dsimp -simprocs only at H
          replace H := Option.bind_eq_some_iff.mp H
          obtain ⟨⟨t223, t224⟩, A300, H⟩ := H
          try dsimp -simprocs only at H
          have A30 := Aside0.mk A300
          clear A300
          have HC31 := Aside0.mk H
          clear H
          go_upto_region 11 with (first | ((with_reducible refine gate_callee (f := 27) rfl ?_); refine goesL_ (some 67) rfl rfl Tryz.func27 (by kernel_rfl) rfl #[.string a0, .string ⟨#[110, 111, 116, 105, 102, 121, 61]⟩] rfl sM ?_; (with_reducible refine (wherryref11_begins.calls kj21 a0 (⟨#[110, 111, 116, 105, 102, 121, 61]⟩ : ByteArray) t223 t224 _ A30.out).mono ?_); rintro e w32 ⟨rfl, hb⟩; refine ⟨_, rfl, ?_⟩; replace BK213 := Aside0.mk (blk_below (g := gb213) (o := .cells #[.string ⟨#[]⟩, .string ⟨#[]⟩] 47 (0, 0)) (sK BK213.out) hb); replace HB := Aside0.mk (below_step (sB HB.out) hb); (try clear hb)))
          (try simp only [Act.put, List.setIfInBounds_toArray, List.set_cons_zero, List.set_cons_succ])
          go_cut [79] (fun v79 wc => ∃ (kq : Nat) (x79_30 : Bool), v79 = .bool x79_30 ∧ Aside0 (wherryref11_param.j3 kq a0 a1 x79_30 = some (r1, r2, r3)) ∧ Aside0 (kq ≤ kj21) ∧ Aside0 (wc.heap[gb213]? = some (.cells #[.string ⟨#[]⟩, .string ⟨#[]⟩] 47 (0, 0))) ∧ Aside0 (Below w.heap.size w wc))
          case first =>
           have H := HC31.out
           clear HC31
           by_cases c33 : t224 = true
           ·
            subst c33
            rw [if_pos rfl] at H
            try dsimp -simprocs only at H
            by_cases c34 : a1 = 3
            ·
             rw [if_pos c34] at H
             have c34b0 : (a1 == 3) = true := beq_iff_eq.mpr c34
             have c34b1 : (a1 != 3) = false := bne_eq_false_iff_eq.mpr c34
             clear c34
             (first | rw [c34b0] | (simp only [i64_w, i32_w]; rw [c34b0]) | skip)
             replace H := Option.bind_eq_some_iff.mp H
             obtain ⟨t225, A350, H⟩ := H
             try dsimp -simprocs only at H
             have A35 := Aside0.mk A350
             clear A350
             have H' := Aside0.mk H
             clear H
             go_wp2_with (first | (go_at_call 29; (with_reducible refine (wherryref11_Fold.calls kj21 t223 t225 _ A35.out).mono ?_); rintro e w36 ⟨rfl, hb⟩; replace BK213 := Aside0.mk (blk_below (g := gb213) (o := .cells #[.string ⟨#[]⟩, .string ⟨#[]⟩] 47 (0, 0)) (sK BK213.out) hb); replace HB := Aside0.mk (below_step (sB HB.out) hb); (try clear hb)))
             go_meet
             case rel => exact ⟨_, ((t225.toList == ([110, 101, 118, 101, 114] : List UInt8))), (by first | rfl | (simp; done) | (simp [*]; done)), H', ⟨by have := HJ3.out; have := HJ12.out; have := HJ21.out; first | omega | exact Nat.le_refl _⟩, ⟨by refine sK ?_; exact BK213.out⟩, ⟨sB HB.out⟩⟩
            ·
             rw [if_neg c34] at H
             have c34b0 : (a1 == 3) = false := beq_eq_false_iff_ne.mpr c34
             have c34b1 : (a1 != 3) = true := bne_iff_ne.mpr c34
             (first | rw [c34b0] | (simp only [i64_w, i32_w]; rw [c34b0]) | skip)
             have H' := Aside0.mk H
             clear H
             go_wp2
             go_meet
             case rel => exact ⟨_, (false), (by first | rfl | (simp; done) | (simp [*]; done)), H', ⟨by have := HJ3.out; have := HJ12.out; have := HJ21.out; first | omega | exact Nat.le_refl _⟩, ⟨by refine sK ?_; exact BK213.out⟩, ⟨sB HB.out⟩⟩
           ·
            replace c33 := Bool.eq_false_iff.mpr c33
            subst c33
            rw [if_neg (show ¬ (false = true) by decide)] at H
            try dsimp -simprocs only at H
            have H' := Aside0.mk H
            clear H
            go_wp2
            go_meet
            case rel => exact ⟨_, (false), (by first | rfl | (simp; done) | (simp [*]; done)), H', ⟨by have := HJ3.out; have := HJ12.out; have := HJ21.out; first | omega | exact Nat.le_refl _⟩, ⟨by refine sK ?_; exact BK213.out⟩, ⟨sB HB.out⟩⟩
          case rest =>
           clear HC31
           try clear c1; try clear c2; try clear p2; try clear c3; try clear c6; try clear c7; try clear c8; try clear c8b0; try clear c8b1; try clear c10; try clear c15; try clear c16; try clear c16b0; try clear c16b1; try clear c19; try clear c24; try clear c25; try clear c25b0; try clear c25b1; try clear c27; try clear c28; try clear c33; try clear c34; try clear c34b0; try clear c34b1; try clear hcz11_0; try clear hcz11_1; try clear hcz20_0; try clear hcz20_1; try clear hcz29_0; try clear hcz29_1; try clear hfz11_0; try clear hfz11_1; try clear hfz20_0; try clear hfz20_1; try clear hfz29_0; try clear hfz29_1; try clear p2
           obtain ⟨kq, x79_30, rfl, HA, HJ30, BK213, HB⟩ := hcut
           cases kq with
           | zero => exact absurd HA.out (by simp [wherryref11_param.j3])
           | succ kj30 =>
            have H := HA.out
            clear HA
            simp only [wherryref11_param.j3] at H
            by_cases c37 : x79_30 = true
            ·
             subst c37
             rw [if_pos rfl] at H
             try dsimp -simprocs only at H
             simp only [Option.some.injEq, Prod.mk.injEq] at H
             obtain ⟨rfl, rfl, rfl⟩ := H
             have hcz38_0 := sC BK213.out 0
             have hcz38_1 := sC BK213.out 1
             have hfz38_0 := blk_frozen BK213.out 0
             have hfz38_1 := blk_frozen BK213.out 1
             go_wp2
             refine bodyPost_ret (results_ct rfl _ _ gb213 47 #[.string ⟨#[78, 79, 84, 73, 70, 89]⟩, .string ⟨#[78, 69, 86, 69, 82]⟩] (0, 0) _ rfl (by refine sK ?_; refine blk_put (cs := #[.string ⟨#[78, 79, 84, 73, 70, 89]⟩, .string ⟨#[]⟩]) ?_ 1 _ rfl; refine sK ?_; refine blk_put (cs := #[.string ⟨#[]⟩, .string ⟨#[]⟩]) ?_ 0 _ rfl; refine sK ?_; exact BK213.out) Tryz.underlying47 rfl (by kernel_rfl)) rfl ?_
             exact ⟨by first | rfl | (simp [errW_none, errW_some] <;> rfl) | (simp [*, errW_none, errW_some] <;> rfl), sB HB.out⟩
            ·
             replace c37 := Bool.eq_false_iff.mpr c37
             subst c37
             rw [if_neg (show ¬ (false = true) by decide)] at H
             try dsimp -simprocs only at H
             replace H := Option.bind_eq_some_iff.mp H
             obtain ⟨⟨t226, t227⟩, A390, H⟩ := H
             try dsimp -simprocs only at H
             have A39 := Aside0.mk A390
             clear A390
             by_cases c40 : t227 = true
             ·
              subst c40
              rw [if_pos rfl] at H
              try dsimp -simprocs only at H
              by_cases c41 : a1 = 3
              ·
               rw [if_pos c41] at H
               have c41b0 : (a1 == 3) = true := beq_iff_eq.mpr c41
               have c41b1 : (a1 != 3) = false := bne_eq_false_iff_eq.mpr c41
               clear c41
               replace H := Option.bind_eq_some_iff.mp H
               obtain ⟨t228, A420, H⟩ := H
               try dsimp -simprocs only at H
               have A42 := Aside0.mk A420
               clear A420
               by_cases c43 : t228.toList = ([102, 97, 105, 108, 117, 114, 101] : List UInt8)
               ·
                rw [if_pos c43] at H
                have c43b0 : (t228.toList == ([102, 97, 105, 108, 117, 114, 101] : List UInt8)) = true := beq_iff_eq.mpr c43
                have c43b1 : (t228.toList != ([102, 97, 105, 108, 117, 114, 101] : List UInt8)) = false := bne_eq_false_iff_eq.mpr c43
                clear c43
                simp only [Option.some.injEq, Prod.mk.injEq] at H
                obtain ⟨rfl, rfl, rfl⟩ := H
                go_wp2_with (first | ((with_reducible refine gate_callee (f := 27) rfl ?_); refine goesL_ (some 83) rfl rfl Tryz.func27 (by kernel_rfl) rfl #[.string a0, .string ⟨#[110, 111, 116, 105, 102, 121, 61]⟩] rfl sM ?_; (with_reducible refine (wherryref11_begins.calls kj30 a0 (⟨#[110, 111, 116, 105, 102, 121, 61]⟩ : ByteArray) t226 true _ A39.out).mono ?_); rintro e w44 ⟨rfl, hb⟩; refine ⟨_, rfl, ?_⟩; replace BK213 := Aside0.mk (blk_below (g := gb213) (o := .cells #[.string ⟨#[]⟩, .string ⟨#[]⟩] 47 (0, 0)) (sK BK213.out) hb); replace HB := Aside0.mk (below_step (sB HB.out) hb); (try clear hb)) | (go_at_call 29; (with_reducible refine (wherryref11_Fold.calls kj30 t226 t228 _ A42.out).mono ?_); rintro e w45 ⟨rfl, hb⟩; replace BK213 := Aside0.mk (blk_below (g := gb213) (o := .cells #[.string ⟨#[]⟩, .string ⟨#[]⟩] 47 (0, 0)) (sK BK213.out) hb); replace HB := Aside0.mk (below_step (sB HB.out) hb); (try clear hb); have hcz46_0 := sC BK213.out 0; have hcz46_1 := sC BK213.out 1; have hfz46_0 := blk_frozen BK213.out 0; have hfz46_1 := blk_frozen BK213.out 1))
                refine bodyPost_ret (results_ct rfl _ _ gb213 47 #[.string ⟨#[78, 79, 84, 73, 70, 89]⟩, .string ⟨#[70, 65, 73, 76, 85, 82, 69]⟩] (0, 0) _ rfl (by refine sK ?_; refine blk_put (cs := #[.string ⟨#[78, 79, 84, 73, 70, 89]⟩, .string ⟨#[]⟩]) ?_ 1 _ rfl; refine sK ?_; refine blk_put (cs := #[.string ⟨#[]⟩, .string ⟨#[]⟩]) ?_ 0 _ rfl; refine sK ?_; exact BK213.out) Tryz.underlying47 rfl (by kernel_rfl)) rfl ?_
                exact ⟨by first | rfl | (simp [errW_none, errW_some] <;> rfl) | (simp [*, errW_none, errW_some] <;> rfl), sB HB.out⟩
               ·
                rw [if_neg c43] at H
                have c43b0 : (t228.toList == ([102, 97, 105, 108, 117, 114, 101] : List UInt8)) = false := beq_eq_false_iff_ne.mpr c43
                have c43b1 : (t228.toList != ([102, 97, 105, 108, 117, 114, 101] : List UInt8)) = true := bne_iff_ne.mpr c43
                simp only [Option.some.injEq, Prod.mk.injEq] at H
                obtain ⟨rfl, rfl, rfl⟩ := H
                go_wp2_with (first | ((with_reducible refine gate_callee (f := 27) rfl ?_); refine goesL_ (some 83) rfl rfl Tryz.func27 (by kernel_rfl) rfl #[.string a0, .string ⟨#[110, 111, 116, 105, 102, 121, 61]⟩] rfl sM ?_; (with_reducible refine (wherryref11_begins.calls kj30 a0 (⟨#[110, 111, 116, 105, 102, 121, 61]⟩ : ByteArray) t226 true _ A39.out).mono ?_); rintro e w47 ⟨rfl, hb⟩; refine ⟨_, rfl, ?_⟩; replace BK213 := Aside0.mk (blk_below (g := gb213) (o := .cells #[.string ⟨#[]⟩, .string ⟨#[]⟩] 47 (0, 0)) (sK BK213.out) hb); replace HB := Aside0.mk (below_step (sB HB.out) hb); (try clear hb)) | (go_at_call 29; (with_reducible refine (wherryref11_Fold.calls kj30 t226 t228 _ A42.out).mono ?_); rintro e w48 ⟨rfl, hb⟩; replace BK213 := Aside0.mk (blk_below (g := gb213) (o := .cells #[.string ⟨#[]⟩, .string ⟨#[]⟩] 47 (0, 0)) (sK BK213.out) hb); replace HB := Aside0.mk (below_step (sB HB.out) hb); (try clear hb); have hcz49_0 := sC BK213.out 0; have hcz49_1 := sC BK213.out 1; have hfz49_0 := blk_frozen BK213.out 0; have hfz49_1 := blk_frozen BK213.out 1))
                refine bodyPost_ret (results_ct rfl _ _ gb213 47 #[.string ⟨#[]⟩, .string ⟨#[]⟩] (0, 0) _ rfl (by refine sK ?_; refine blk_put (cs := #[.string ⟨#[]⟩, .string ⟨#[]⟩]) ?_ 1 _ rfl; refine sK ?_; refine blk_put (cs := #[.string ⟨#[]⟩, .string ⟨#[]⟩]) ?_ 0 _ rfl; refine sK ?_; exact BK213.out) Tryz.underlying47 rfl (by kernel_rfl)) rfl ?_
                exact ⟨by first | rfl | (simp [errW_none, errW_some] <;> rfl) | (simp [*, errW_none, errW_some] <;> rfl), sB HB.out⟩
              ·
               rw [if_neg c41] at H
               have c41b0 : (a1 == 3) = false := beq_eq_false_iff_ne.mpr c41
               have c41b1 : (a1 != 3) = true := bne_iff_ne.mpr c41
               simp only [Option.some.injEq, Prod.mk.injEq] at H
               obtain ⟨rfl, rfl, rfl⟩ := H
               go_wp2_with (first | ((with_reducible refine gate_callee (f := 27) rfl ?_); refine goesL_ (some 83) rfl rfl Tryz.func27 (by kernel_rfl) rfl #[.string a0, .string ⟨#[110, 111, 116, 105, 102, 121, 61]⟩] rfl sM ?_; (with_reducible refine (wherryref11_begins.calls kj30 a0 (⟨#[110, 111, 116, 105, 102, 121, 61]⟩ : ByteArray) t226 true _ A39.out).mono ?_); rintro e w50 ⟨rfl, hb⟩; refine ⟨_, rfl, ?_⟩; replace BK213 := Aside0.mk (blk_below (g := gb213) (o := .cells #[.string ⟨#[]⟩, .string ⟨#[]⟩] 47 (0, 0)) (sK BK213.out) hb); replace HB := Aside0.mk (below_step (sB HB.out) hb); (try clear hb); have hcz51_0 := sC BK213.out 0; have hcz51_1 := sC BK213.out 1; have hfz51_0 := blk_frozen BK213.out 0; have hfz51_1 := blk_frozen BK213.out 1))
               refine bodyPost_ret (results_ct rfl _ _ gb213 47 #[.string ⟨#[]⟩, .string ⟨#[]⟩] (0, 0) _ rfl (by refine sK ?_; refine blk_put (cs := #[.string ⟨#[]⟩, .string ⟨#[]⟩]) ?_ 1 _ rfl; refine sK ?_; refine blk_put (cs := #[.string ⟨#[]⟩, .string ⟨#[]⟩]) ?_ 0 _ rfl; refine sK ?_; exact BK213.out) Tryz.underlying47 rfl (by kernel_rfl)) rfl ?_
               exact ⟨by first | rfl | (simp [errW_none, errW_some] <;> rfl) | (simp [*, errW_none, errW_some] <;> rfl), sB HB.out⟩
             ·
              replace c40 := Bool.eq_false_iff.mpr c40
              subst c40
              rw [if_neg (show ¬ (false = true) by decide)] at H
              try dsimp -simprocs only at H
              simp only [Option.some.injEq, Prod.mk.injEq] at H
              obtain ⟨rfl, rfl, rfl⟩ := H
              go_wp2_with (first | ((with_reducible refine gate_callee (f := 27) rfl ?_); refine goesL_ (some 83) rfl rfl Tryz.func27 (by kernel_rfl) rfl #[.string a0, .string ⟨#[110, 111, 116, 105, 102, 121, 61]⟩] rfl sM ?_; (with_reducible refine (wherryref11_begins.calls kj30 a0 (⟨#[110, 111, 116, 105, 102, 121, 61]⟩ : ByteArray) t226 false _ A39.out).mono ?_); rintro e w52 ⟨rfl, hb⟩; refine ⟨_, rfl, ?_⟩; replace BK213 := Aside0.mk (blk_below (g := gb213) (o := .cells #[.string ⟨#[]⟩, .string ⟨#[]⟩] 47 (0, 0)) (sK BK213.out) hb); replace HB := Aside0.mk (below_step (sB HB.out) hb); (try clear hb); have hcz53_0 := sC BK213.out 0; have hcz53_1 := sC BK213.out 1; have hfz53_0 := blk_frozen BK213.out 0; have hfz53_1 := blk_frozen BK213.out 1))
              refine bodyPost_ret (results_ct rfl _ _ gb213 47 #[.string ⟨#[]⟩, .string ⟨#[]⟩] (0, 0) _ rfl (by refine sK ?_; refine blk_put (cs := #[.string ⟨#[]⟩, .string ⟨#[]⟩]) ?_ 1 _ rfl; refine sK ?_; refine blk_put (cs := #[.string ⟨#[]⟩, .string ⟨#[]⟩]) ?_ 0 _ rfl; refine sK ?_; exact BK213.out) Tryz.underlying47 rfl (by kernel_rfl)) rfl ?_
              exact ⟨by first | rfl | (simp [errW_none, errW_some] <;> rfl) | (simp [*, errW_none, errW_some] <;> rfl), sB HB.out⟩
end Go.Proofs.YthcdjgekmfnmnaaGreatDoor.PVerb
end
section
namespace Go.Proofs.YthcdjgekmfnmnaaGreatDoor.PVerb
open Go.RowKit Go.Proofs.YthcdjgekmfnmnaaGreatDoorW.PrintWords Go.Proofs.YthcdjgekmfnmnaaGreatDoorW.PrintLast Go.Proofs.YthcdjgekmfnmnaaGreatDoorW.PrintMore
attribute [local go_sem] max2_int min2_int max_two min_two max_three min_three max_four min_four
set_option linter.unusedVariables false
set_option linter.unusedSimpArgs false
mutual
def wherryref11_params.l0 : Nat → ByteArray → Int → List (S47) → Option ((List (S47)) × Bool)
 | 0, _, _, _ => none
 | k + 1, x0, x1, x6 => if (x0.size : Int) > 0 then (if 0 < (x0.size : Int) then (if (bt x0 0) = 32 then (if 1 ≤ (x0.size : Int) then (wherryref11_params.l1 k (x0.extract 1 x0.size) x1 x6 0) else (none)) else (some (([] : List (S47)), false))) else (none)) else (some (x6, true))
def wherryref11_params.j2 : Nat → ByteArray → Int → List (S47) → Int → Option ((List (S47)) × Bool)
 | 0, _, _, _, _ => none
 | k + 1, x0, x1, x6, x7 => if 0 ≤ x7 then (if x7 ≤ (x0.size : Int) then ((wherryref11_param.f k (x0.extract 0 (x7 : Int).toNat) x1).bind fun bt229 => (if bt229.2.2 = true then (wherryref11_params.l2 k x0 x1 x6 x7 0 bt229.1 bt229.2.1) else (some (([] : List (S47)), false)))) else (none)) else (none)
def wherryref11_params.l2 : Nat → ByteArray → Int → List (S47) → Int → Int → ByteArray → ByteArray → Option ((List (S47)) × Bool)
 | 0, _, _, _, _, _, _, _ => none
 | k + 1, x0, x1, x6, x7, x10, x233000, x233001 => if x10 < (x6.length : Int) then (if 0 ≤ x10 then (if ((rd_T47 x6 x10).f0).toList = x233000.toList then (some (([] : List (S47)), false)) else (wherryref11_params.l2 k x0 x1 x6 x7 (wrap64 (x10 + 1)) x233000 x233001)) else (none)) else (if x6.length < 4398046511104 then (if 0 ≤ x7 then (if x7 ≤ (x0.size : Int) then (wherryref11_params.l0 k (x0.extract (x7 : Int).toNat x0.size) x1 (x6 ++ [(⟨x233000, x233001⟩ : S47)])) else (none)) else (none)) else (none))
def wherryref11_params.l1 : Nat → ByteArray → Int → List (S47) → Int → Option ((List (S47)) × Bool)
 | 0, _, _, _, _ => none
 | k + 1, x0, x1, x6, x7 => if x7 < (x0.size : Int) then (if 0 ≤ x7 then (if (bt x0 x7) = 32 then (wherryref11_params.j2 k x0 x1 x6 x7) else (wherryref11_params.l1 k x0 x1 x6 (wrap64 (x7 + 1)))) else (none)) else (wherryref11_params.j2 k x0 x1 x6 x7)
end
def wherryref11_params.f (k : Nat) (a0 : ByteArray) (a1 : Int) : Option ((List (S47)) × Bool) := wherryref11_params.l0 k a0 a1 ([] : List (S47))
set_option maxHeartbeats 8000000 in
set_option maxRecDepth 100000 in
theorem wherryref11_params.calls (k : Nat) (a0 : ByteArray) (a1 : Int) (r1 : List (S47)) (r2 : Bool) (w : World) (h : wherryref11_params.f k a0 a1 = some (r1, r2)) :
  Calls Tryz.prog 48 #[.string a0, .int .i64 a1] w fun e w' => ∃ v0_ : Value, e = .returned (.tuple #[v0_, .bool r2]) ∧ Kd.R k47 47 w' w.heap.size (fun _ => True) v0_ r1 ∧ Below w.heap.size w w' := by
 have hu47 := Tryz.underlying47
 have HB := Aside0.mk (Below.refl w.heap.size w)
 have H : (wherryref11_params.l0 k a0 a1 ([] : List (S47))) = some (r1, r2) := h
 clear h
 have H' := Aside0.mk H
 clear H
 go_enter Tryz.func48, Tryz.ntmps48
 go_wp2
 repeat (go_quiet (fail); try go_wp2)
 go_loopg [0, 6] k (fun kq v0 v6 w' => ∃ (x0_1 : ByteArray) (x6_1 : List (S47)), v0 = .string x0_1 ∧ Aside0 (wherryref11_params.l0 kq x0_1 a1 x6_1 = some (r1, r2)) ∧ Aside0 (kq ≤ k) ∧ Aside0 (Kd.R k47 47 w' w.heap.size (fun _ => True) v6 x6_1) ∧ Aside0 (Below w.heap.size w w'))
 case atStart => exact ⟨(a0), (([] : List (S47))), (by first | rfl | (simp; done) | (simp [*]; done)), H', ⟨Nat.le_refl _⟩, ⟨by first | exact Kd.R_nil _ _ _ _ _ | exact Kd.N_nil _ _ _ _ _ | exact Kd.V_nil _ _ _ _ _ | exact Kd.Q_nil _ _ _ _ _ | exact Kd.S_nil _ _ _ _ _⟩, ⟨sB HB.out⟩⟩
 case round =>
  clear H'
  try clear p2
  obtain ⟨x0_1, x6_1, rfl, HA, HK1, HO_6, HB⟩ := hrel
  cases gk with
  | zero => exact absurd HA.out (by simp [wherryref11_params.l0])
  | succ k1 =>
   have H := HA.out
   clear HA
   simp only [wherryref11_params.l0] at H
   by_cases c3 : (x0_1.size : Int) > 0
   ·
    rw [if_pos c3] at H
    have c3b0 : decide (0 < (x0_1.size : Int)) = true := decide_eq_true c3
    have c3b1 : decide (0 < x0_1.size) = true := decide_eq_true (by omega)
    clear c3
    by_cases c4 : 0 < (x0_1.size : Int)
    ·
     rw [if_pos c4] at H
     have c4b0 : decide (0 < (x0_1.size : Int)) = true := decide_eq_true c4
     have c4b1 : decide (0 < x0_1.size) = true := decide_eq_true (by omega)
     clear c4
     by_cases c6 : (bt x0_1 0) = 32
     ·
      rw [if_pos c6] at H
      have c6b0 : ((bt x0_1 0) == 32) = true := beq_iff_eq.mpr c6
      have c6b1 : ((bt x0_1 0) != 32) = false := bne_eq_false_iff_eq.mpr c6
      clear c6
      by_cases c7 : 1 ≤ (x0_1.size : Int)
      ·
       rw [if_pos c7] at H
       have c7b0 := eq_true c7
       have c7b1 : decide (1 ≤ (x0_1.size : Int)) = true := decide_eq_true c7
       clear c7
       have HC8 := Aside0.mk H
       clear H
       have p5 : 0 ≤ (0 : Int) := (by omega)
       have q5 : 0 < x0_1.size := (by have : (0 : Int) < (x0_1.size : Int) := of_decide_eq_true sA; omega)
       have hx5 : ∀ h : 0 < x0_1.size, ((x0_1[0]'h).toNat : Int) = bt x0_1 0 := bt_at x0_1 0
       clear p5
       have qi5 : (0 < (x0_1.size : Int)) = True := eq_true (of_decide_eq_true sA)
       replace q5 := eq_true q5
       go_upto_block 2 with (fail)
       repeat (go_quiet (fail); go_upto_block 2 with (fail))
       generalize (x0_1.extract 1 x0_1.size) = xg at *
       go_cut [7] (fun v7 wc => ∃ (kq : Nat) (x7_7 : Int), v7 = .int .i64 x7_7 ∧ Aside0 (wherryref11_params.j2 kq xg a1 x6_1 x7_7 = some (r1, r2)) ∧ Aside0 (kq ≤ k1) ∧ Aside0 (Kd.R k47 47 wc w.heap.size (fun _ => True) u6 x6_1) ∧ Aside0 (Below w.heap.size w wc))
       case first =>
        have H := HC8.out
        clear HC8
        have H' := Aside0.mk H
        clear H
        go_wp2
        repeat (go_quiet (fail); try go_wp2)
        go_loopg [7] k1 (fun kq v7 w' => ∃ (x7_2 : Int), v7 = .int .i64 x7_2 ∧ Aside0 (wherryref11_params.l1 kq xg a1 x6_1 x7_2 = some (r1, r2)) ∧ Aside0 (kq ≤ k1) ∧ Aside0 (Kd.R k47 47 w' w.heap.size (fun _ => True) u6 x6_1) ∧ Aside0 (Below w.heap.size w w'))
        case atStart => exact ⟨(0), (by first | rfl | (simp; done) | (simp [*]; done)), H', ⟨Nat.le_refl _⟩, ⟨by (with_reducible repeat (first | apply Kd.R_alloc | apply Kd.R_drewN | apply Kd.R_drew)); exact HO_6.out⟩, ⟨sB HB.out⟩⟩
        case round =>
         clear H'
         try clear p2; try clear c3; try clear c3b0; try clear c3b1; try clear c4; try clear c4b0; try clear c4b1; try clear p5; try clear q5; try clear hx5; try clear qi5; try clear c6; try clear c6b0; try clear c6b1; try clear c7; try clear c7b0; try clear c7b1; try clear p2; try clear p5; try clear q5
         obtain ⟨x7_2, rfl, HA, HK2, HO_6, HB⟩ := hrel
         cases gk with
         | zero => exact absurd HA.out (by simp [wherryref11_params.l1])
         | succ k2 =>
          have H := HA.out
          clear HA
          simp only [wherryref11_params.l1] at H
          by_cases c9 : x7_2 < (xg.size : Int)
          ·
           rw [if_pos c9] at H
           have c9b0 : decide (x7_2 < (xg.size : Int)) = true := decide_eq_true c9
           clear c9
           (first | rw [c9b0] | (simp only [i64_w, i32_w]; rw [c9b0]) | skip)
           by_cases c10 : 0 ≤ x7_2
           ·
            rw [if_pos c10] at H
            have c10b0 : decide (0 ≤ x7_2) = true := decide_eq_true c10
            clear c10
            by_cases c12 : (bt xg x7_2) = 32
            ·
             rw [if_pos c12] at H
             have c12b0 : ((bt xg x7_2) == 32) = true := beq_iff_eq.mpr c12
             have c12b1 : ((bt xg x7_2) != 32) = false := bne_eq_false_iff_eq.mpr c12
             clear c12
             have H' := Aside0.mk H
             clear H
             have p11 : 0 ≤ (x7_2 : Int) := of_decide_eq_true sA
             have q11 : x7_2 < (xg.size : Int) := of_decide_eq_true sA
             have hx11 := bt_at xg x7_2
             replace p11 := eq_true p11
             replace q11 := eq_true q11
             go_wp2
             repeat (go_quiet (fail); try go_wp2)
             go_meet
             case rel => exact ⟨_, (x7_2), (by first | rfl | (simp; done) | (simp [*]; done)), H', ⟨by have := HK1.out; have := HK2.out; first | omega | exact Nat.le_refl _⟩, ⟨by (with_reducible repeat (first | apply Kd.R_alloc | apply Kd.R_drewN | apply Kd.R_drew)); exact HO_6.out⟩, ⟨sB HB.out⟩⟩
            ·
             rw [if_neg c12] at H
             have c12b0 : ((bt xg x7_2) == 32) = false := beq_eq_false_iff_ne.mpr c12
             have c12b1 : ((bt xg x7_2) != 32) = true := bne_iff_ne.mpr c12
             have H' := Aside0.mk H
             clear H
             have p11 : 0 ≤ (x7_2 : Int) := of_decide_eq_true sA
             have q11 : x7_2 < (xg.size : Int) := of_decide_eq_true sA
             have hx11 := bt_at xg x7_2
             replace p11 := eq_true p11
             replace q11 := eq_true q11
             go_wp2
             repeat (go_quiet (fail); try go_wp2)
             go_roundg k2
             case measure => have := HK1.out; have := HK2.out; omega
             case rel => exact ⟨(wrap64 (x7_2 + 1)), (by first | rfl | (simp; done) | (simp [*]; done)), H', ⟨by have := HK1.out; have := HK2.out; omega⟩, ⟨by (with_reducible repeat (first | apply Kd.R_alloc | apply Kd.R_drewN | apply Kd.R_drew)); exact HO_6.out⟩, ⟨sB HB.out⟩⟩
           ·
            rw [if_neg c10] at H
            exact absurd H (by simp)
          ·
           rw [if_neg c9] at H
           have c9b0 : decide (x7_2 < (xg.size : Int)) = false := decide_eq_false c9
           clear c9
           (first | rw [c9b0] | (simp only [i64_w, i32_w]; rw [c9b0]) | skip)
           have H' := Aside0.mk H
           clear H
           go_wp2
           repeat (go_quiet (fail); try go_wp2)
           go_meet
           case rel => exact ⟨_, (x7_2), (by first | rfl | (simp; done) | (simp [*]; done)), H', ⟨by have := HK1.out; have := HK2.out; first | omega | exact Nat.le_refl _⟩, ⟨by (with_reducible repeat (first | apply Kd.R_alloc | apply Kd.R_drewN | apply Kd.R_drew)); exact HO_6.out⟩, ⟨sB HB.out⟩⟩
       case rest =>
        clear HC8
        try clear c1; try clear p1; try clear q1; try clear hx1; try clear p2; try clear c3; try clear c3b0; try clear c3b1; try clear c4; try clear c4b0; try clear c4b1; try clear p5; try clear q5; try clear hx5; try clear qi5; try clear c6; try clear c6b0; try clear c6b1; try clear p6; try clear c7; try clear c7b0; try clear c7b1; try clear c9; try clear c9b0; try clear c10; try clear c10b0; try clear p11; try clear q11; try clear hx11; try clear c12; try clear c12b0; try clear c12b1; try clear p11; try clear p2; try clear p5; try clear q11; try clear q5
        obtain ⟨kq, x7_7, rfl, HA, HJ7, HO_6, HB⟩ := hcut
        cases kq with
        | zero => exact absurd HA.out (by simp [wherryref11_params.j2])
        | succ kj7 =>
         have H := HA.out
         clear HA
         simp only [wherryref11_params.j2] at H
         by_cases c13 : 0 ≤ x7_7
         ·
          rw [if_pos c13] at H
          have c13b0 := eq_true c13
          have c13b1 : decide (0 ≤ x7_7) = true := decide_eq_true c13
          clear c13
          by_cases c14 : x7_7 ≤ (xg.size : Int)
          ·
           rw [if_pos c14] at H
           have c14b0 := eq_true c14
           have c14b1 : decide (x7_7 ≤ (xg.size : Int)) = true := decide_eq_true c14
           clear c14
           replace H := Option.bind_eq_some_iff.mp H
           obtain ⟨⟨t229, t230, t231⟩, A150, H⟩ := H
           try dsimp -simprocs only at H
           have A15 := Aside0.mk A150
           clear A150
           by_cases c16 : t231 = true
           ·
            subst c16
            rw [if_pos rfl] at H
            try dsimp -simprocs only at H
            have H' := Aside0.mk H
            clear H
            go_wp2_with (first | (go_at_call 60; (with_reducible refine (wherryref11_param.calls kj7 (xg.extract 0 (x7_7 : Int).toNat) a1 t229 t230 true _ A15.out).mono ?_); rintro e w17 ⟨rfl, hb⟩; replace HO_6 := Aside0.mk (Kd.R_below (sR HO_6.out) hb); replace HB := Aside0.mk (below_step (sB HB.out) hb); (try clear hb)) | ((with_reducible refine gate_dst (N := 8) rfl ?_); refine box_event ?hg (N := 8) ?hd (cs := #[.string ⟨#[]⟩, .string ⟨#[]⟩]) (t := 47) ?hr ?_; (case hd => rfl); (case hg => rfl); (case hr => first | (go_simp; done) | (go_simp; rfl)); intro gb232 hg w18 hbox hb; replace HO_6 := Aside0.mk (Kd.R_below (Kd.R_elderB (sR HO_6.out) gb232 (Nat.le_of_eq hg.symm)) hb); have BK232 := Aside0.mk (hbox); have GW232 := Aside0.mk ((by rw [hg]; exact (below_size (sB HB.out)) : w.heap.size ≤ gb232)); have GE232 := Aside0.mk ((by rw [hg]; exact (below_size (sB HB.out)) : w.heap.size ≤ gb232)); replace HB := Aside0.mk (below_step (sB HB.out) hb); clear hb hbox hg; have hcz19_0 := sC BK232.out 0; have hcz19_1 := sC BK232.out 1; have hfz19_0 := blk_frozen BK232.out 0; have hfz19_1 := blk_frozen BK232.out 1))
            repeat (go_quiet (first | (go_at_call 60; (with_reducible refine (wherryref11_param.calls kj7 (xg.extract 0 (x7_7 : Int).toNat) a1 t229 t230 true _ A15.out).mono ?_); rintro e w17 ⟨rfl, hb⟩; replace HO_6 := Aside0.mk (Kd.R_below (sR HO_6.out) hb); replace HB := Aside0.mk (below_step (sB HB.out) hb); (try clear hb)) | ((with_reducible refine gate_dst (N := 8) rfl ?_); refine box_event ?hg (N := 8) ?hd (cs := #[.string ⟨#[]⟩, .string ⟨#[]⟩]) (t := 47) ?hr ?_; (case hd => rfl); (case hg => rfl); (case hr => first | (go_simp; done) | (go_simp; rfl)); intro gb232 hg w18 hbox hb; replace HO_6 := Aside0.mk (Kd.R_below (Kd.R_elderB (sR HO_6.out) gb232 (Nat.le_of_eq hg.symm)) hb); have BK232 := Aside0.mk (hbox); have GW232 := Aside0.mk ((by rw [hg]; exact (below_size (sB HB.out)) : w.heap.size ≤ gb232)); have GE232 := Aside0.mk ((by rw [hg]; exact (below_size (sB HB.out)) : w.heap.size ≤ gb232)); replace HB := Aside0.mk (below_step (sB HB.out) hb); clear hb hbox hg; have hcz19_0 := sC BK232.out 0; have hcz19_1 := sC BK232.out 1; have hfz19_0 := blk_frozen BK232.out 0; have hfz19_1 := blk_frozen BK232.out 1)); try go_wp2_with (first | (go_at_call 60; (with_reducible refine (wherryref11_param.calls kj7 (xg.extract 0 (x7_7 : Int).toNat) a1 t229 t230 true _ A15.out).mono ?_); rintro e w17 ⟨rfl, hb⟩; replace HO_6 := Aside0.mk (Kd.R_below (sR HO_6.out) hb); replace HB := Aside0.mk (below_step (sB HB.out) hb); (try clear hb)) | ((with_reducible refine gate_dst (N := 8) rfl ?_); refine box_event ?hg (N := 8) ?hd (cs := #[.string ⟨#[]⟩, .string ⟨#[]⟩]) (t := 47) ?hr ?_; (case hd => rfl); (case hg => rfl); (case hr => first | (go_simp; done) | (go_simp; rfl)); intro gb232 hg w18 hbox hb; replace HO_6 := Aside0.mk (Kd.R_below (Kd.R_elderB (sR HO_6.out) gb232 (Nat.le_of_eq hg.symm)) hb); have BK232 := Aside0.mk (hbox); have GW232 := Aside0.mk ((by rw [hg]; exact (below_size (sB HB.out)) : w.heap.size ≤ gb232)); have GE232 := Aside0.mk ((by rw [hg]; exact (below_size (sB HB.out)) : w.heap.size ≤ gb232)); replace HB := Aside0.mk (below_step (sB HB.out) hb); clear hb hbox hg; have hcz19_0 := sC BK232.out 0; have hcz19_1 := sC BK232.out 1; have hfz19_0 := blk_frozen BK232.out 0; have hfz19_1 := blk_frozen BK232.out 1)))
            go_loopg [10] kj7 (fun kq v10 w' => ∃ (x10_3 : Int), v10 = .int .i64 x10_3 ∧ Aside0 (wherryref11_params.l2 kq xg a1 x6_1 x7_7 x10_3 t229 t230 = some (r1, r2)) ∧ Aside0 (kq ≤ kj7) ∧ Aside0 (Kd.R k47 47 w' w.heap.size (fun k_ => k_ ≠ gb232) u6 x6_1) ∧ Aside0 (w'.heap[gb232]? = some (.cells #[.string t229, .string t230] 47 (0, 0))) ∧ Aside0 (Below w.heap.size w w'))
            case atStart => exact ⟨(0), (by first | rfl | (simp; done) | (simp [*]; done)), H', ⟨Nat.le_refl _⟩, ⟨by (with_reducible repeat (first | apply Kd.R_alloc | apply Kd.R_drewN | apply Kd.R_drew)); exact Kd.R_mono (Kd.R_far (p := ⟨gb232, 1, none⟩) (Kd.R_far (p := ⟨gb232, 0, none⟩) (Kd.R_mono HO_6.out (fun k_ hk => (⟨hk, hk.2⟩ : _ ∧ k_ ≠ gb232))) (fun _ hk => hk.2) (.string t229)) (fun _ hk => hk.2) (.string t230)) (fun _ hk => hk.1.2)⟩, ⟨by refine sK ?_; refine blk_put (cs := #[.string t229, .string ⟨#[]⟩]) ?_ 1 _ rfl; refine sK ?_; refine blk_put (cs := #[.string ⟨#[]⟩, .string ⟨#[]⟩]) ?_ 0 _ rfl; refine sK ?_; exact BK232.out⟩, ⟨sB HB.out⟩⟩
            case round =>
             clear H'
             try clear c1; try clear p1; try clear q1; try clear hx1; try clear p2; try clear c3; try clear c3b0; try clear c3b1; try clear c4; try clear c4b0; try clear c4b1; try clear p5; try clear q5; try clear hx5; try clear qi5; try clear c6; try clear c6b0; try clear c6b1; try clear p6; try clear c7; try clear c7b0; try clear c7b1; try clear c9; try clear c9b0; try clear c10; try clear c10b0; try clear p11; try clear q11; try clear hx11; try clear c12; try clear c12b0; try clear c12b1; try clear c13; try clear c13b0; try clear c13b1; try clear c14; try clear c14b0; try clear c14b1; try clear c16; try clear hcz19_0; try clear hcz19_1; try clear hfz19_0; try clear hfz19_1; try clear p1; try clear p11; try clear p2; try clear p5; try clear p6; try clear q1; try clear q11; try clear q5
             obtain ⟨x10_3, rfl, HA, HK3, HO_6, BK232, HB⟩ := hrel
             cases gk with
             | zero => exact absurd HA.out (by simp [wherryref11_params.l2])
             | succ k3 =>
              have H := HA.out
              clear HA
              simp only [wherryref11_params.l2] at H
              by_cases c20 : x10_3 < (x6_1.length : Int)
              ·
               rw [if_pos c20] at H
               have c20b0 : decide (x10_3 < (x6_1.length : Int)) = true := decide_eq_true c20
               clear c20
               by_cases c21 : 0 ≤ x10_3
               ·
                rw [if_pos c21] at H
                have c21b0 : decide (0 ≤ x10_3) = true := decide_eq_true c21
                clear c21
                by_cases c22 : ((rd_T47 x6_1 x10_3).f0).toList = t229.toList
                ·
                 rw [if_pos c22] at H
                 have c22b0 : (((rd_T47 x6_1 x10_3).f0).toList == t229.toList) = true := beq_iff_eq.mpr c22
                 have c22b1 : (((rd_T47 x6_1 x10_3).f0).toList != t229.toList) = false := bne_eq_false_iff_eq.mpr c22
                 clear c22
                 simp only [Option.some.injEq, Prod.mk.injEq] at H
                 obtain ⟨rfl, rfl⟩ := H
                 obtain ⟨Ao23, co23, eo23⟩ := Kd.R_slice HO_6.out
                 subst eo23
                 have p233 : 0 ≤ (x10_3 : Int) := of_decide_eq_true sA
                 have q233 : x10_3 < (x6_1.length : Int) := of_decide_eq_true sA
                 obtain ⟨ad233, e233, hx233_0, hx233_1⟩ := at_T47 (Kd.R_reads' HO_6.out).2.2 x10_3 p233 q233
                 cases e233
                 replace p233 := eq_true p233
                 replace q233 := eq_true q233
                 have hcz24_0 := sC BK232.out 0
                 have hcz24_1 := sC BK232.out 1
                 have hfz24_0 := blk_frozen BK232.out 0
                 have hfz24_1 := blk_frozen BK232.out 1
                 go_wp2
                 repeat (go_quiet (fail); try go_wp2)
                 go_ret2
                 exact ⟨_, by first | rfl | (simp [errW_none, errW_some] <;> rfl) | (simp [*, errW_none, errW_some] <;> rfl), by first | exact Kd.R_nil _ _ _ _ _ | exact Kd.N_nil _ _ _ _ _ | exact Kd.V_nil _ _ _ _ _ | exact Kd.Q_nil _ _ _ _ _ | exact Kd.S_nil _ _ _ _ _, sB HB.out⟩
                ·
                 rw [if_neg c22] at H
                 have c22b0 : (((rd_T47 x6_1 x10_3).f0).toList == t229.toList) = false := beq_eq_false_iff_ne.mpr c22
                 have c22b1 : (((rd_T47 x6_1 x10_3).f0).toList != t229.toList) = true := bne_iff_ne.mpr c22
                 have H' := Aside0.mk H
                 clear H
                 obtain ⟨Ao25, co25, eo25⟩ := Kd.R_slice HO_6.out
                 subst eo25
                 have p233 : 0 ≤ (x10_3 : Int) := of_decide_eq_true sA
                 have q233 : x10_3 < (x6_1.length : Int) := of_decide_eq_true sA
                 obtain ⟨ad233, e233, hx233_0, hx233_1⟩ := at_T47 (Kd.R_reads' HO_6.out).2.2 x10_3 p233 q233
                 cases e233
                 replace p233 := eq_true p233
                 replace q233 := eq_true q233
                 have hcz26_0 := sC BK232.out 0
                 have hcz26_1 := sC BK232.out 1
                 have hfz26_0 := blk_frozen BK232.out 0
                 have hfz26_1 := blk_frozen BK232.out 1
                 go_wp2
                 repeat (go_quiet (fail); try go_wp2)
                 go_roundg k3
                 case measure => have := HK1.out; have := HJ7.out; have := HK3.out; omega
                 case rel => exact ⟨(wrap64 (x10_3 + 1)), (by first | rfl | (simp; done) | (simp [*]; done)), H', ⟨by have := HK1.out; have := HJ7.out; have := HK3.out; omega⟩, ⟨by (with_reducible repeat (first | apply Kd.R_alloc | apply Kd.R_drewN | apply Kd.R_drew)); exact HO_6.out⟩, ⟨by refine sK ?_; exact BK232.out⟩, ⟨sB HB.out⟩⟩
               ·
                rw [if_neg c21] at H
                exact absurd H (by simp)
              ·
               rw [if_neg c20] at H
               have c20b0 : decide (x10_3 < (x6_1.length : Int)) = false := decide_eq_false c20
               clear c20
               by_cases c27 : x6_1.length < 4398046511104
               ·
                rw [if_pos c27] at H
                have LMc27 := Aside0.mk c27
                clear c27
                obtain ⟨y234, hy234⟩ : ∃ y_ : List (S47), y_ = (x6_1 ++ [(⟨t229, t230⟩ : S47)]) := ⟨_, rfl⟩
                replace H : (if 0 ≤ x7_7 then (if x7_7 ≤ (xg.size : Int) then (wherryref11_params.l0 k3 (xg.extract (x7_7 : Int).toNat xg.size) a1 y234) else (none)) else (none)) = some (r1, r2) := by first | (rw [hy234]; with_reducible exact H) | (have H2_ := (Option.bind_some _ _).symm.trans H; rw [hy234]; with_reducible exact H2_) | (have H2_ := (Option.bind_some _ _).symm.trans H; with_reducible exact H2_) | with_reducible exact H | (rw [hy234]; exact H) | exact H
                have Ny234 := Aside0.mk hy234
                clear hy234
                by_cases c28 : 0 ≤ x7_7
                ·
                 rw [if_pos c28] at H
                 have c28b0 := eq_true c28
                 have c28b1 : decide (0 ≤ x7_7) = true := decide_eq_true c28
                 clear c28
                 by_cases c29 : x7_7 ≤ (xg.size : Int)
                 ·
                  rw [if_pos c29] at H
                  have c29b0 := eq_true c29
                  have c29b1 : decide (x7_7 ≤ (xg.size : Int)) = true := decide_eq_true c29
                  clear c29
                  have H' := Aside0.mk H
                  clear H
                  obtain ⟨Ao30, co30, eo30⟩ := Kd.R_slice HO_6.out
                  subst eo30
                  have hcz31_0 := sC BK232.out 0
                  have hcz31_1 := sC BK232.out 1
                  have hfz31_0 := blk_frozen BK232.out 0
                  have hfz31_1 := blk_frozen BK232.out 1
                  go_wp2_with (first | ((with_reducible refine gate_builtin (b := .append) (xs := #[.tmp 55, .tmp 57]) rfl ?_); at_builtin; refine Kd.R_append k47 (w0 := w) w.heap.size rfl (.tmp 55) (.tmp 57) 24 47 (.agg #[(.string ⟨#[]⟩), (.string ⟨#[]⟩)]) 32 rfl Tryz.underlying24 info47 rfl (by decide) (by omega) (.slice Ao30 x6_1.length co30) x6_1 (⟨t229, t230⟩ : S47) [.string t229, .string t230] (fun k_ => k_ ≠ gb232) (fun _ => False) rfl rfl ?aP (fun _ hk => hk.elim) ?aF ?aO ?aB ?aS ?aL ?_; (case aP => exact k47_mkM _ _ _ (⟨t229, t230⟩ : S47)); (case aB => exact (sB HB.out)); (case aF => exact (fun k_ hk => Kd.freshB (g := gb232) (o := .cells #[.string t229, .string t230] 47 (0, 0)) (sK BK232.out) k_ hk)); (case aO => exact (sR HO_6.out)); (case aS => exact (below_size (sB HB.out))); (case aL => have := LMc27.out; omega); intro v235 w32 ho hb hg hat; rw [← Ny234.out] at ho; have n0_ := Aside0.mk (blk_grown (g := gb232) (o := .cells #[.string t229, .string t230] 47 (0, 0)) (sK BK232.out) hg (Kd.R_away HO_6.out (fun _ hk => hk))); have n1_ := Aside0.mk (hb); have n2_ := Aside0.mk (ho); clear BK232; clear HB; clear HO_6; have BK232 := n0_; have HB := n1_; have HO236 := n2_; clear n0_ n1_ n2_; clear ho hb hg hat))
                  repeat (go_quiet (first | ((with_reducible refine gate_builtin (b := .append) (xs := #[.tmp 55, .tmp 57]) rfl ?_); at_builtin; refine Kd.R_append k47 (w0 := w) w.heap.size rfl (.tmp 55) (.tmp 57) 24 47 (.agg #[(.string ⟨#[]⟩), (.string ⟨#[]⟩)]) 32 rfl Tryz.underlying24 info47 rfl (by decide) (by omega) (.slice Ao30 x6_1.length co30) x6_1 (⟨t229, t230⟩ : S47) [.string t229, .string t230] (fun k_ => k_ ≠ gb232) (fun _ => False) rfl rfl ?aP (fun _ hk => hk.elim) ?aF ?aO ?aB ?aS ?aL ?_; (case aP => exact k47_mkM _ _ _ (⟨t229, t230⟩ : S47)); (case aB => exact (sB HB.out)); (case aF => exact (fun k_ hk => Kd.freshB (g := gb232) (o := .cells #[.string t229, .string t230] 47 (0, 0)) (sK BK232.out) k_ hk)); (case aO => exact (sR HO_6.out)); (case aS => exact (below_size (sB HB.out))); (case aL => have := LMc27.out; omega); intro v235 w32 ho hb hg hat; rw [← Ny234.out] at ho; have n0_ := Aside0.mk (blk_grown (g := gb232) (o := .cells #[.string t229, .string t230] 47 (0, 0)) (sK BK232.out) hg (Kd.R_away HO_6.out (fun _ hk => hk))); have n1_ := Aside0.mk (hb); have n2_ := Aside0.mk (ho); clear BK232; clear HB; clear HO_6; have BK232 := n0_; have HB := n1_; have HO236 := n2_; clear n0_ n1_ n2_; clear ho hb hg hat)); try go_wp2_with (first | ((with_reducible refine gate_builtin (b := .append) (xs := #[.tmp 55, .tmp 57]) rfl ?_); at_builtin; refine Kd.R_append k47 (w0 := w) w.heap.size rfl (.tmp 55) (.tmp 57) 24 47 (.agg #[(.string ⟨#[]⟩), (.string ⟨#[]⟩)]) 32 rfl Tryz.underlying24 info47 rfl (by decide) (by omega) (.slice Ao30 x6_1.length co30) x6_1 (⟨t229, t230⟩ : S47) [.string t229, .string t230] (fun k_ => k_ ≠ gb232) (fun _ => False) rfl rfl ?aP (fun _ hk => hk.elim) ?aF ?aO ?aB ?aS ?aL ?_; (case aP => exact k47_mkM _ _ _ (⟨t229, t230⟩ : S47)); (case aB => exact (sB HB.out)); (case aF => exact (fun k_ hk => Kd.freshB (g := gb232) (o := .cells #[.string t229, .string t230] 47 (0, 0)) (sK BK232.out) k_ hk)); (case aO => exact (sR HO_6.out)); (case aS => exact (below_size (sB HB.out))); (case aL => have := LMc27.out; omega); intro v235 w32 ho hb hg hat; rw [← Ny234.out] at ho; have n0_ := Aside0.mk (blk_grown (g := gb232) (o := .cells #[.string t229, .string t230] 47 (0, 0)) (sK BK232.out) hg (Kd.R_away HO_6.out (fun _ hk => hk))); have n1_ := Aside0.mk (hb); have n2_ := Aside0.mk (ho); clear BK232; clear HB; clear HO_6; have BK232 := n0_; have HB := n1_; have HO236 := n2_; clear n0_ n1_ n2_; clear ho hb hg hat)))
                  go_roundg k3
                  case measure => have := HK1.out; have := HJ7.out; have := HK3.out; omega
                  case rel => exact ⟨(xg.extract (x7_7 : Int).toNat xg.size), (y234), (by first | rfl | (simp; done) | (simp [*]; done)), H', ⟨by have := HK1.out; have := HJ7.out; have := HK3.out; omega⟩, ⟨by (with_reducible repeat (first | apply Kd.R_alloc | apply Kd.R_drewN | apply Kd.R_drew)); exact Kd.R_mono HO236.out (fun _ hk => trivial)⟩, ⟨sB HB.out⟩⟩
                 ·
                  rw [if_neg c29] at H
                  exact absurd H (by simp)
                ·
                 rw [if_neg c28] at H
                 exact absurd H (by simp)
               ·
                rw [if_neg c27] at H
                exact absurd H (by simp)
           ·
            replace c16 := Bool.eq_false_iff.mpr c16
            subst c16
            rw [if_neg (show ¬ (false = true) by decide)] at H
            try dsimp -simprocs only at H
            simp only [Option.some.injEq, Prod.mk.injEq] at H
            obtain ⟨rfl, rfl⟩ := H
            go_wp2_with (first | (go_at_call 60; (with_reducible refine (wherryref11_param.calls kj7 (xg.extract 0 (x7_7 : Int).toNat) a1 t229 t230 false _ A15.out).mono ?_); rintro e w33 ⟨rfl, hb⟩; replace HO_6 := Aside0.mk (Kd.R_below (sR HO_6.out) hb); replace HB := Aside0.mk (below_step (sB HB.out) hb); (try clear hb)) | ((with_reducible refine gate_dst (N := 8) rfl ?_); refine box_event ?hg (N := 8) ?hd (cs := #[.string ⟨#[]⟩, .string ⟨#[]⟩]) (t := 47) ?hr ?_; (case hd => rfl); (case hg => rfl); (case hr => first | (go_simp; done) | (go_simp; rfl)); intro gb232 hg w34 hbox hb; replace HO_6 := Aside0.mk (Kd.R_below (Kd.R_elderB (sR HO_6.out) gb232 (Nat.le_of_eq hg.symm)) hb); have BK232 := Aside0.mk (hbox); have GW232 := Aside0.mk ((by rw [hg]; exact (below_size (sB HB.out)) : w.heap.size ≤ gb232)); have GE232 := Aside0.mk ((by rw [hg]; exact (below_size (sB HB.out)) : w.heap.size ≤ gb232)); replace HB := Aside0.mk (below_step (sB HB.out) hb); clear hb hbox hg; have hcz35_0 := sC BK232.out 0; have hcz35_1 := sC BK232.out 1; have hfz35_0 := blk_frozen BK232.out 0; have hfz35_1 := blk_frozen BK232.out 1))
            repeat (go_quiet (first | (go_at_call 60; (with_reducible refine (wherryref11_param.calls kj7 (xg.extract 0 (x7_7 : Int).toNat) a1 t229 t230 false _ A15.out).mono ?_); rintro e w33 ⟨rfl, hb⟩; replace HO_6 := Aside0.mk (Kd.R_below (sR HO_6.out) hb); replace HB := Aside0.mk (below_step (sB HB.out) hb); (try clear hb)) | ((with_reducible refine gate_dst (N := 8) rfl ?_); refine box_event ?hg (N := 8) ?hd (cs := #[.string ⟨#[]⟩, .string ⟨#[]⟩]) (t := 47) ?hr ?_; (case hd => rfl); (case hg => rfl); (case hr => first | (go_simp; done) | (go_simp; rfl)); intro gb232 hg w34 hbox hb; replace HO_6 := Aside0.mk (Kd.R_below (Kd.R_elderB (sR HO_6.out) gb232 (Nat.le_of_eq hg.symm)) hb); have BK232 := Aside0.mk (hbox); have GW232 := Aside0.mk ((by rw [hg]; exact (below_size (sB HB.out)) : w.heap.size ≤ gb232)); have GE232 := Aside0.mk ((by rw [hg]; exact (below_size (sB HB.out)) : w.heap.size ≤ gb232)); replace HB := Aside0.mk (below_step (sB HB.out) hb); clear hb hbox hg; have hcz35_0 := sC BK232.out 0; have hcz35_1 := sC BK232.out 1; have hfz35_0 := blk_frozen BK232.out 0; have hfz35_1 := blk_frozen BK232.out 1)); try go_wp2_with (first | (go_at_call 60; (with_reducible refine (wherryref11_param.calls kj7 (xg.extract 0 (x7_7 : Int).toNat) a1 t229 t230 false _ A15.out).mono ?_); rintro e w33 ⟨rfl, hb⟩; replace HO_6 := Aside0.mk (Kd.R_below (sR HO_6.out) hb); replace HB := Aside0.mk (below_step (sB HB.out) hb); (try clear hb)) | ((with_reducible refine gate_dst (N := 8) rfl ?_); refine box_event ?hg (N := 8) ?hd (cs := #[.string ⟨#[]⟩, .string ⟨#[]⟩]) (t := 47) ?hr ?_; (case hd => rfl); (case hg => rfl); (case hr => first | (go_simp; done) | (go_simp; rfl)); intro gb232 hg w34 hbox hb; replace HO_6 := Aside0.mk (Kd.R_below (Kd.R_elderB (sR HO_6.out) gb232 (Nat.le_of_eq hg.symm)) hb); have BK232 := Aside0.mk (hbox); have GW232 := Aside0.mk ((by rw [hg]; exact (below_size (sB HB.out)) : w.heap.size ≤ gb232)); have GE232 := Aside0.mk ((by rw [hg]; exact (below_size (sB HB.out)) : w.heap.size ≤ gb232)); replace HB := Aside0.mk (below_step (sB HB.out) hb); clear hb hbox hg; have hcz35_0 := sC BK232.out 0; have hcz35_1 := sC BK232.out 1; have hfz35_0 := blk_frozen BK232.out 0; have hfz35_1 := blk_frozen BK232.out 1)))
            go_ret2
            exact ⟨_, by first | rfl | (simp [errW_none, errW_some] <;> rfl) | (simp [*, errW_none, errW_some] <;> rfl), by first | exact Kd.R_nil _ _ _ _ _ | exact Kd.N_nil _ _ _ _ _ | exact Kd.V_nil _ _ _ _ _ | exact Kd.Q_nil _ _ _ _ _ | exact Kd.S_nil _ _ _ _ _, sB HB.out⟩
          ·
           rw [if_neg c14] at H
           exact absurd H (by simp)
         ·
          rw [if_neg c13] at H
          exact absurd H (by simp)
      ·
       rw [if_neg c7] at H
       exact absurd H (by simp)
     ·
      rw [if_neg c6] at H
      have c6b0 : ((bt x0_1 0) == 32) = false := beq_eq_false_iff_ne.mpr c6
      have c6b1 : ((bt x0_1 0) != 32) = true := bne_iff_ne.mpr c6
      simp only [Option.some.injEq, Prod.mk.injEq] at H
      obtain ⟨rfl, rfl⟩ := H
      have p5 : 0 ≤ (0 : Int) := (by omega)
      have q5 : 0 < x0_1.size := (by have : (0 : Int) < (x0_1.size : Int) := of_decide_eq_true sA; omega)
      have hx5 : ∀ h : 0 < x0_1.size, ((x0_1[0]'h).toNat : Int) = bt x0_1 0 := bt_at x0_1 0
      clear p5
      have qi5 : (0 < (x0_1.size : Int)) = True := eq_true (of_decide_eq_true sA)
      replace q5 := eq_true q5
      go_wp2
      repeat (go_quiet (fail); try go_wp2)
      go_ret2
      exact ⟨_, by first | rfl | (simp [errW_none, errW_some] <;> rfl) | (simp [*, errW_none, errW_some] <;> rfl), by first | exact Kd.R_nil _ _ _ _ _ | exact Kd.N_nil _ _ _ _ _ | exact Kd.V_nil _ _ _ _ _ | exact Kd.Q_nil _ _ _ _ _ | exact Kd.S_nil _ _ _ _ _, sB HB.out⟩
    ·
     rw [if_neg c4] at H
     exact absurd H (by simp)
   ·
    rw [if_neg c3] at H
    have c3b0 : decide (0 < (x0_1.size : Int)) = false := decide_eq_false c3
    have c3b1 : decide (0 < x0_1.size) = false := decide_eq_false (by omega)
    clear c3
    simp only [Option.some.injEq, Prod.mk.injEq] at H
    obtain ⟨rfl, rfl⟩ := H
    go_wp2
    repeat (go_quiet (fail); try go_wp2)
    go_ret2
    exact ⟨_, by first | rfl | (simp [errW_none, errW_some] <;> rfl) | (simp [*, errW_none, errW_some] <;> rfl), by (with_reducible repeat (first | apply Kd.R_alloc | apply Kd.R_drewN | apply Kd.R_drew)); exact HO_6.out, sB HB.out⟩
mutual
def wherryref11_pathed.j1 : Nat → ByteArray → Int → Int → Option (Int × ByteArray × Bool × ByteArray × ByteArray × (List (S47)) × Int)
 | 0, _, _, _ => none
 | k + 1, x0, x1, x6 => if x6 = (x0.size : Int) then (some (0, (⟨#[]⟩ : ByteArray), false, (⟨#[]⟩ : ByteArray), (⟨#[]⟩ : ByteArray), ([] : List (S47)), 501)) else (if 0 ≤ (wrap64 (x6 + 1)) then (if (wrap64 (x6 + 1)) ≤ (x0.size : Int) then ((wherryref11_Parse.f k (x0.extract 0 ((wrap64 (x6 + 1)) : Int).toNat)).bind fun bt238 => ((wherryref11_params.f k (x0.extract ((wrap64 (x6 + 1)) : Int).toNat x0.size) x1).bind fun bt243 => (if bt238.2.2.2 = true then (if bt243.2 = true then (if x1 = 3 then (if bt238.1 = true then (some (0, (⟨#[]⟩ : ByteArray), false, (⟨#[]⟩ : ByteArray), (⟨#[]⟩ : ByteArray), ([] : List (S47)), 501)) else (some (x1, (⟨#[]⟩ : ByteArray), bt238.1, bt238.2.1, bt238.2.2.1, bt243.1, 0))) else (some (x1, (⟨#[]⟩ : ByteArray), bt238.1, bt238.2.1, bt238.2.2.1, bt243.1, 0))) else (some (0, (⟨#[]⟩ : ByteArray), false, (⟨#[]⟩ : ByteArray), (⟨#[]⟩ : ByteArray), ([] : List (S47)), 501))) else (some (0, (⟨#[]⟩ : ByteArray), false, (⟨#[]⟩ : ByteArray), (⟨#[]⟩ : ByteArray), ([] : List (S47)), 501))))) else (none)) else (none))
def wherryref11_pathed.l0 : Nat → ByteArray → Int → Int → Option (Int × ByteArray × Bool × ByteArray × ByteArray × (List (S47)) × Int)
 | 0, _, _, _ => none
 | k + 1, x0, x1, x6 => if x6 < (x0.size : Int) then (if 0 ≤ x6 then (if (bt x0 x6) = 62 then (wherryref11_pathed.j1 k x0 x1 x6) else (wherryref11_pathed.l0 k x0 x1 (wrap64 (x6 + 1)))) else (none)) else (wherryref11_pathed.j1 k x0 x1 x6)
end
def wherryref11_pathed.f (k : Nat) (a0 : ByteArray) (a1 : Int) : Option (Int × ByteArray × Bool × ByteArray × ByteArray × (List (S47)) × Int) := wherryref11_pathed.l0 k a0 a1 0
set_option maxHeartbeats 8000000 in
set_option maxRecDepth 100000 in
theorem wherryref11_pathed.calls (k : Nat) (a0 : ByteArray) (a1 : Int) (r1 : Int) (r2 : ByteArray) (r3 : Bool) (r4 : ByteArray) (r5 : ByteArray) (r6 : List (S47)) (r7 : Int) (w : World) (h : wherryref11_pathed.f k a0 a1 = some (r1, r2, r3, r4, r5, r6, r7)) :
  Calls Tryz.prog 28 #[.string a0, .int .i64 a1] w fun e w' => ∃ v5_ : Value, e = .returned (.tuple #[.agg #[.int .i64 r1, .string r2, .bool r3, .string r4, .string r5, v5_], .int .i64 r7]) ∧ Kd.R k47 47 w' w.heap.size (fun _ => True) v5_ r6 ∧ Below w.heap.size w w' := by
 have hu26 := Tryz.underlying26
 have hu23 := Tryz.underlying23
 have HB := Aside0.mk (Below.refl w.heap.size w)
 have H : (wherryref11_pathed.l0 k a0 a1 0) = some (r1, r2, r3, r4, r5, r6, r7) := h
 clear h
 have HC3 := Aside0.mk H
 clear H
 go_enter Tryz.func28, Tryz.ntmps28
 go_upto_block 0 with (first | ((with_reducible refine gate_dst (N := 4) rfl ?_); refine box_event ?hg (N := 4) ?hd (cs := #[.int .i64 0, .string ⟨#[]⟩, .bool false, .string ⟨#[]⟩, .string ⟨#[]⟩, .slice none 0 0]) (t := 26) ?hr ?_; (case hd => rfl); (case hg => rfl); (case hr => first | (go_simp; done) | (go_simp; rfl)); intro gb237 hg w4 hbox hb; have BK237 := Aside0.mk (hbox); have GW237 := Aside0.mk ((by rw [hg]; exact (below_size (sB HB.out)) : w.heap.size ≤ gb237)); have GE237 := Aside0.mk ((by rw [hg]; exact (below_size (sB HB.out)) : w.heap.size ≤ gb237)); replace HB := Aside0.mk (below_step (sB HB.out) hb); clear hb hbox hg))
 (try simp only [Act.put, List.setIfInBounds_toArray, List.set_cons_zero, List.set_cons_succ])
 go_cut [6] (fun v6 wc => ∃ (kq : Nat) (x6_2 : Int), v6 = .int .i64 x6_2 ∧ Aside0 (wherryref11_pathed.j1 kq a0 a1 x6_2 = some (r1, r2, r3, r4, r5, r6, r7)) ∧ Aside0 (kq ≤ k) ∧ Aside0 (wc.heap[gb237]? = some (.cells #[.int .i64 0, .string ⟨#[]⟩, .bool false, .string ⟨#[]⟩, .string ⟨#[]⟩, (.slice none 0 0)] 26 (0, 0))) ∧ Aside0 (Below w.heap.size w wc))
 case first =>
  have H := HC3.out
  clear HC3
  have H' := Aside0.mk H
  clear H
  go_wp2
  go_loopg [6] k (fun kq v6 w' => ∃ (x6_1 : Int), v6 = .int .i64 x6_1 ∧ Aside0 (wherryref11_pathed.l0 kq a0 a1 x6_1 = some (r1, r2, r3, r4, r5, r6, r7)) ∧ Aside0 (kq ≤ k) ∧ Aside0 (w'.heap[gb237]? = some (.cells #[.int .i64 0, .string ⟨#[]⟩, .bool false, .string ⟨#[]⟩, .string ⟨#[]⟩, (.slice none 0 0)] 26 (0, 0))) ∧ Aside0 (Below w.heap.size w w'))
  case atStart => exact ⟨(0), (by first | rfl | (simp; done) | (simp [*]; done)), H', ⟨Nat.le_refl _⟩, ⟨by refine sK ?_; exact BK237.out⟩, ⟨sB HB.out⟩⟩
  case round =>
   clear H'
   try clear c2; try clear p2
   obtain ⟨x6_1, rfl, HA, HK1, BK237, HB⟩ := hrel
   cases gk with
   | zero => exact absurd HA.out (by simp [wherryref11_pathed.l0])
   | succ k1 =>
    have H := HA.out
    clear HA
    simp only [wherryref11_pathed.l0] at H
    by_cases c5 : x6_1 < (a0.size : Int)
    ·
     rw [if_pos c5] at H
     have c5b0 : decide (x6_1 < (a0.size : Int)) = true := decide_eq_true c5
     clear c5
     (first | rw [c5b0] | (simp only [i64_w, i32_w]; rw [c5b0]) | skip)
     by_cases c6 : 0 ≤ x6_1
     ·
      rw [if_pos c6] at H
      have c6b0 : decide (0 ≤ x6_1) = true := decide_eq_true c6
      clear c6
      by_cases c8 : (bt a0 x6_1) = 62
      ·
       rw [if_pos c8] at H
       have c8b0 : ((bt a0 x6_1) == 62) = true := beq_iff_eq.mpr c8
       have c8b1 : ((bt a0 x6_1) != 62) = false := bne_eq_false_iff_eq.mpr c8
       clear c8
       have H' := Aside0.mk H
       clear H
       have p7 : 0 ≤ (x6_1 : Int) := of_decide_eq_true sA
       have q7 : x6_1 < (a0.size : Int) := of_decide_eq_true sA
       have hx7 := bt_at a0 x6_1
       replace p7 := eq_true p7
       replace q7 := eq_true q7
       go_wp2
       go_meet
       case rel => exact ⟨_, (x6_1), (by first | rfl | (simp; done) | (simp [*]; done)), H', ⟨by have := HK1.out; first | omega | exact Nat.le_refl _⟩, ⟨by refine sK ?_; exact BK237.out⟩, ⟨sB HB.out⟩⟩
      ·
       rw [if_neg c8] at H
       have c8b0 : ((bt a0 x6_1) == 62) = false := beq_eq_false_iff_ne.mpr c8
       have c8b1 : ((bt a0 x6_1) != 62) = true := bne_iff_ne.mpr c8
       have H' := Aside0.mk H
       clear H
       have p7 : 0 ≤ (x6_1 : Int) := of_decide_eq_true sA
       have q7 : x6_1 < (a0.size : Int) := of_decide_eq_true sA
       have hx7 := bt_at a0 x6_1
       replace p7 := eq_true p7
       replace q7 := eq_true q7
       go_wp2
       go_roundg k1
       case measure => have := HK1.out; omega
       case rel => exact ⟨(wrap64 (x6_1 + 1)), (by first | rfl | (simp; done) | (simp [*]; done)), H', ⟨by have := HK1.out; omega⟩, ⟨by refine sK ?_; exact BK237.out⟩, ⟨sB HB.out⟩⟩
     ·
      rw [if_neg c6] at H
      exact absurd H (by simp)
    ·
     rw [if_neg c5] at H
     have c5b0 : decide (x6_1 < (a0.size : Int)) = false := decide_eq_false c5
     clear c5
     (first | rw [c5b0] | (simp only [i64_w, i32_w]; rw [c5b0]) | skip)
     have H' := Aside0.mk H
     clear H
     go_wp2
     go_meet
     case rel => exact ⟨_, (x6_1), (by first | rfl | (simp; done) | (simp [*]; done)), H', ⟨by have := HK1.out; first | omega | exact Nat.le_refl _⟩, ⟨by refine sK ?_; exact BK237.out⟩, ⟨sB HB.out⟩⟩
 case rest =>
  clear HC3
  try clear c2; try clear p2; try clear c5; try clear c5b0; try clear c6; try clear c6b0; try clear p6; try clear p7; try clear q7; try clear hx7; try clear c8; try clear c8b0; try clear c8b1; try clear p2; try clear p7; try clear q7
  obtain ⟨kq, x6_2, rfl, HA, HJ2, BK237, HB⟩ := hcut
  cases kq with
  | zero => exact absurd HA.out (by simp [wherryref11_pathed.j1])
  | succ kj2 =>
   have H := HA.out
   clear HA
   simp only [wherryref11_pathed.j1] at H
   by_cases c9 : x6_2 = (a0.size : Int)
   ·
    rw [if_pos c9] at H
    have c9b0 : (x6_2 == (a0.size : Int)) = true := beq_iff_eq.mpr c9
    have c9b1 : (x6_2 != (a0.size : Int)) = false := bne_eq_false_iff_eq.mpr c9
    clear c9
    simp only [Option.some.injEq, Prod.mk.injEq] at H
    obtain ⟨rfl, rfl, rfl, rfl, rfl, rfl, rfl⟩ := H
    have hcz10_0 := sC BK237.out 0
    have hcz10_1 := sC BK237.out 1
    have hcz10_2 := sC BK237.out 2
    have hcz10_3 := sC BK237.out 3
    have hcz10_4 := sC BK237.out 4
    have hcz10_5 := sC BK237.out 5
    have hfz10_0 := blk_frozen BK237.out 0
    have hfz10_1 := blk_frozen BK237.out 1
    have hfz10_2 := blk_frozen BK237.out 2
    have hfz10_3 := blk_frozen BK237.out 3
    have hfz10_4 := blk_frozen BK237.out 4
    have hfz10_5 := blk_frozen BK237.out 5
    go_wp2
    refine bodyPost_ret (results_ct rfl _ _ gb237 26 #[.int .i64 0, .string ⟨#[]⟩, .bool false, .string ⟨#[]⟩, .string ⟨#[]⟩, .slice none 0 0] (0, 0) _ rfl (by refine sK ?_; refine blk_put (cs := #[.int .i64 0, .string ⟨#[]⟩, .bool false, .string ⟨#[]⟩, .string ⟨#[]⟩, .slice none 0 0]) ?_ 5 _ rfl; refine sK ?_; refine blk_put (cs := #[.int .i64 0, .string ⟨#[]⟩, .bool false, .string ⟨#[]⟩, .string ⟨#[]⟩, .slice none 0 0]) ?_ 4 _ rfl; refine sK ?_; refine blk_put (cs := #[.int .i64 0, .string ⟨#[]⟩, .bool false, .string ⟨#[]⟩, .string ⟨#[]⟩, .slice none 0 0]) ?_ 3 _ rfl; refine sK ?_; refine blk_put (cs := #[.int .i64 0, .string ⟨#[]⟩, .bool false, .string ⟨#[]⟩, .string ⟨#[]⟩, .slice none 0 0]) ?_ 2 _ rfl; refine sK ?_; refine blk_put (cs := #[.int .i64 0, .string ⟨#[]⟩, .bool false, .string ⟨#[]⟩, .string ⟨#[]⟩, .slice none 0 0]) ?_ 1 _ rfl; refine sK ?_; refine blk_put (cs := #[.int .i64 0, .string ⟨#[]⟩, .bool false, .string ⟨#[]⟩, .string ⟨#[]⟩, .slice none 0 0]) ?_ 0 _ rfl; refine sK ?_; exact BK237.out) Tryz.underlying26 rfl (by kernel_rfl)) rfl ?_
    exact ⟨_, by first | rfl | (simp [errW_none, errW_some] <;> rfl) | (simp [*, errW_none, errW_some] <;> rfl), by first | exact Kd.R_nil _ _ _ _ _ | exact Kd.N_nil _ _ _ _ _ | exact Kd.V_nil _ _ _ _ _ | exact Kd.Q_nil _ _ _ _ _ | exact Kd.S_nil _ _ _ _ _, sB HB.out⟩
   ·
    rw [if_neg c9] at H
    have c9b0 : (x6_2 == (a0.size : Int)) = false := beq_eq_false_iff_ne.mpr c9
    have c9b1 : (x6_2 != (a0.size : Int)) = true := bne_iff_ne.mpr c9
    obtain ⟨ji11, hji11⟩ : ∃ j_ : Int, (wrap64 (x6_2 + 1)) = j_ := ⟨_, rfl⟩
    replace H : (if 0 ≤ (ji11) then (if (ji11) ≤ (a0.size : Int) then ((wherryref11_Parse.f kj2 (a0.extract 0 ((ji11) : Int).toNat)).bind fun bt238 => ((wherryref11_params.f kj2 (a0.extract ((ji11) : Int).toNat a0.size) a1).bind fun bt243 => (if bt238.2.2.2 = true then (if bt243.2 = true then (if a1 = 3 then (if bt238.1 = true then (some (0, (⟨#[]⟩ : ByteArray), false, (⟨#[]⟩ : ByteArray), (⟨#[]⟩ : ByteArray), ([] : List (S47)), 501)) else (some (a1, (⟨#[]⟩ : ByteArray), bt238.1, bt238.2.1, bt238.2.2.1, bt243.1, 0))) else (some (a1, (⟨#[]⟩ : ByteArray), bt238.1, bt238.2.1, bt238.2.2.1, bt243.1, 0))) else (some (0, (⟨#[]⟩ : ByteArray), false, (⟨#[]⟩ : ByteArray), (⟨#[]⟩ : ByteArray), ([] : List (S47)), 501))) else (some (0, (⟨#[]⟩ : ByteArray), false, (⟨#[]⟩ : ByteArray), (⟨#[]⟩ : ByteArray), ([] : List (S47)), 501))))) else (none)) else (none)) = some (r1, r2, r3, r4, r5, r6, r7) := by first | (rw [hji11] at H; exact H) | (simp only [hji11] at H ⊢; exact H)
    have hji11w : (IntKind.i64.wrap (x6_2 + 1)) = ji11 := (i64_w _).trans hji11
    by_cases c12 : 0 ≤ (ji11)
    ·
     rw [if_pos c12] at H
     have c12b0 := eq_true c12
     have c12b1 : decide (0 ≤ (ji11)) = true := decide_eq_true c12
     clear c12
     by_cases c13 : (ji11) ≤ (a0.size : Int)
     ·
      rw [if_pos c13] at H
      have c13b0 := eq_true c13
      have c13b1 : decide ((ji11) ≤ (a0.size : Int)) = true := decide_eq_true c13
      clear c13
      replace H := Option.bind_eq_some_iff.mp H
      obtain ⟨⟨t238, t239, t240, t241⟩, A140, H⟩ := H
      try dsimp -simprocs only at H
      have A14 := Aside0.mk A140
      clear A140
      have c15b0 := eq_true (of_decide_eq_true sA : 0 ≤ (ji11))
      have c16b0 := eq_true (of_decide_eq_true sA : (ji11) ≤ (a0.size : Int))
      replace H := Option.bind_eq_some_iff.mp H
      obtain ⟨⟨t243, t244⟩, A170, H⟩ := H
      try dsimp -simprocs only at H
      have A17 := Aside0.mk A170
      clear A170
      by_cases c18 : t241 = true
      ·
       subst c18
       rw [if_pos rfl] at H
       try dsimp -simprocs only at H
       by_cases c19 : t244 = true
       ·
        subst c19
        rw [if_pos rfl] at H
        try dsimp -simprocs only at H
        by_cases c20 : a1 = 3
        ·
         rw [if_pos c20] at H
         have c20b0 : (a1 == 3) = true := beq_iff_eq.mpr c20
         have c20b1 : (a1 != 3) = false := bne_eq_false_iff_eq.mpr c20
         clear c20
         by_cases c21 : t238 = true
         ·
          subst c21
          rw [if_pos rfl] at H
          try dsimp -simprocs only at H
          simp only [Option.some.injEq, Prod.mk.injEq] at H
          obtain ⟨rfl, rfl, rfl, rfl, rfl, rfl, rfl⟩ := H
          go_wp2_with (first | ((with_reducible refine gate_callee (f := 47) rfl ?_); refine goesL_ (some 33) rfl rfl Tryz.func47 (by kernel_rfl) rfl #[.string (a0.extract 0 ((ji11) : Int).toNat)] rfl (by (try simp only [List.map_toArray, List.map_cons, List.map_nil]); first | done | (simp only [hji11]; rfl) | rfl | (simp only [List.length_drop, List.length_take]; rfl)) ?_; (with_reducible refine (wherryref11_Parse.calls kj2 (a0.extract 0 ((ji11) : Int).toNat) true t239 t240 true _ A14.out).mono ?_); rintro e w22 ⟨rfl, hb⟩; refine ⟨_, rfl, ?_⟩; replace BK237 := Aside0.mk (blk_below (g := gb237) (o := .cells #[.int .i64 0, .string ⟨#[]⟩, .bool false, .string ⟨#[]⟩, .string ⟨#[]⟩, .slice none 0 0] 26 (0, 0)) (sK BK237.out) hb); replace HB := Aside0.mk (below_step (sB HB.out) hb); (try clear hb)) | ((with_reducible refine gate_dst (N := 7) rfl ?_); refine box_event ?hg (N := 7) ?hd (cs := #[.bool false, .string ⟨#[]⟩, .string ⟨#[]⟩]) (t := 23) ?hr ?_; (case hd => rfl); (case hg => rfl); (case hr => first | (go_simp; done) | (go_simp; rfl)); intro gb242 hg w23 hbox hb; have BK242 := Aside0.mk (hbox); have GW242 := Aside0.mk ((by rw [hg]; exact (below_size (sB HB.out)) : w.heap.size ≤ gb242)); have GE242 := Aside0.mk ((by rw [hg]; exact (below_size (sB HB.out)) : w.heap.size ≤ gb242)); replace HB := Aside0.mk (below_step (sB HB.out) hb); have NB237_242 := Aside0.mk ((by rw [hg]; exact Nat.ne_of_lt (blk_lt (g := gb237) (o := .cells #[.int .i64 0, .string ⟨#[]⟩, .bool false, .string ⟨#[]⟩, .string ⟨#[]⟩, .slice none 0 0] 26 (0, 0)) (sK BK237.out)) : gb237 ≠ gb242)); have NB242_237 := Aside0.mk ((by rw [hg]; exact Nat.ne_of_gt (blk_lt (g := gb237) (o := .cells #[.int .i64 0, .string ⟨#[]⟩, .bool false, .string ⟨#[]⟩, .string ⟨#[]⟩, .slice none 0 0] 26 (0, 0)) (sK BK237.out)) : gb242 ≠ gb237)); replace BK237 := Aside0.mk (blk_below (g := gb237) (o := .cells #[.int .i64 0, .string ⟨#[]⟩, .bool false, .string ⟨#[]⟩, .string ⟨#[]⟩, .slice none 0 0] 26 (0, 0)) (sK BK237.out) hb); clear hb hbox hg; have hnb24 := NB242_237.out; have hnc24 := NB237_242.out; have hcz25_0 := sC BK242.out 0; have hcz25_1 := sC BK242.out 1; have hcz25_2 := sC BK242.out 2; have hfz25_0 := blk_frozen BK242.out 0; have hfz25_1 := blk_frozen BK242.out 1; have hfz25_2 := blk_frozen BK242.out 2) | ((with_reducible refine gate_callee (f := 48) rfl ?_); refine goesL_ (some 42) rfl rfl Tryz.func48 (by kernel_rfl) rfl #[.string (a0.extract ((ji11) : Int).toNat a0.size), .int .i64 a1] rfl (by (try simp only [List.map_toArray, List.map_cons, List.map_nil]); first | done | (simp only [hji11]; rfl) | rfl | (simp only [List.length_drop, List.length_take]; rfl)) ?_; (with_reducible refine (wherryref11_params.calls kj2 (a0.extract ((ji11) : Int).toNat a0.size) a1 t243 true _ A17.out).mono ?_); rintro e w26 ⟨v245, rfl, ho0, hb⟩; refine ⟨_, rfl, ?_⟩; have HO246 := Aside0.mk (Kd.R_lower ho0 (below_size (sB HB.out))); replace BK237 := Aside0.mk (blk_below (g := gb237) (o := .cells #[.int .i64 0, .string ⟨#[]⟩, .bool false, .string ⟨#[]⟩, .string ⟨#[]⟩, .slice none 0 0] 26 (0, 0)) (by refine sK ?_; refine blk_far ?_ NB237_242.out _; refine sK ?_; refine blk_far ?_ NB237_242.out _; refine sK ?_; refine blk_far ?_ NB237_242.out _; refine sK ?_; exact BK237.out) hb); replace BK242 := Aside0.mk (blk_below (g := gb242) (o := .cells #[.bool true, .string t239, .string t240] 23 (0, 0)) (by refine sK ?_; refine blk_put (cs := #[.bool true, .string t239, .string ⟨#[]⟩]) ?_ 2 _ rfl; refine sK ?_; refine blk_put (cs := #[.bool true, .string ⟨#[]⟩, .string ⟨#[]⟩]) ?_ 1 _ rfl; refine sK ?_; refine blk_put (cs := #[.bool false, .string ⟨#[]⟩, .string ⟨#[]⟩]) ?_ 0 _ rfl; refine sK ?_; exact BK242.out) hb); replace HB := Aside0.mk (below_step (sB HB.out) hb); (try clear hb); (try clear ho0); have hcz27_0 := sC BK242.out 0; have hcz27_1 := sC BK242.out 1; have hcz27_2 := sC BK242.out 2; have hfz27_0 := blk_frozen BK242.out 0; have hfz27_1 := blk_frozen BK242.out 1; have hfz27_2 := blk_frozen BK242.out 2; have hcz28_0 := sC BK237.out 0; have hcz28_1 := sC BK237.out 1; have hcz28_2 := sC BK237.out 2; have hcz28_3 := sC BK237.out 3; have hcz28_4 := sC BK237.out 4; have hcz28_5 := sC BK237.out 5; have hfz28_0 := blk_frozen BK237.out 0; have hfz28_1 := blk_frozen BK237.out 1; have hfz28_2 := blk_frozen BK237.out 2; have hfz28_3 := blk_frozen BK237.out 3; have hfz28_4 := blk_frozen BK237.out 4; have hfz28_5 := blk_frozen BK237.out 5))
          refine bodyPost_ret (results_ct rfl _ _ gb237 26 #[.int .i64 0, .string ⟨#[]⟩, .bool false, .string ⟨#[]⟩, .string ⟨#[]⟩, .slice none 0 0] (0, 0) _ rfl (by refine sK ?_; refine blk_put (cs := #[.int .i64 0, .string ⟨#[]⟩, .bool false, .string ⟨#[]⟩, .string ⟨#[]⟩, .slice none 0 0]) ?_ 5 _ rfl; refine sK ?_; refine blk_put (cs := #[.int .i64 0, .string ⟨#[]⟩, .bool false, .string ⟨#[]⟩, .string ⟨#[]⟩, .slice none 0 0]) ?_ 4 _ rfl; refine sK ?_; refine blk_put (cs := #[.int .i64 0, .string ⟨#[]⟩, .bool false, .string ⟨#[]⟩, .string ⟨#[]⟩, .slice none 0 0]) ?_ 3 _ rfl; refine sK ?_; refine blk_put (cs := #[.int .i64 0, .string ⟨#[]⟩, .bool false, .string ⟨#[]⟩, .string ⟨#[]⟩, .slice none 0 0]) ?_ 2 _ rfl; refine sK ?_; refine blk_put (cs := #[.int .i64 0, .string ⟨#[]⟩, .bool false, .string ⟨#[]⟩, .string ⟨#[]⟩, .slice none 0 0]) ?_ 1 _ rfl; refine sK ?_; refine blk_put (cs := #[.int .i64 0, .string ⟨#[]⟩, .bool false, .string ⟨#[]⟩, .string ⟨#[]⟩, .slice none 0 0]) ?_ 0 _ rfl; refine sK ?_; exact BK237.out) Tryz.underlying26 rfl (by kernel_rfl)) rfl ?_
          exact ⟨_, by first | rfl | (simp [errW_none, errW_some] <;> rfl) | (simp only [← hji11]; first | rfl | (simp [errW_none, errW_some] <;> rfl)) | (simp [*, errW_none, errW_some] <;> rfl), by first | exact Kd.R_nil _ _ _ _ _ | exact Kd.N_nil _ _ _ _ _ | exact Kd.V_nil _ _ _ _ _ | exact Kd.Q_nil _ _ _ _ _ | exact Kd.S_nil _ _ _ _ _, sB HB.out⟩
         ·
          replace c21 := Bool.eq_false_iff.mpr c21
          subst c21
          rw [if_neg (show ¬ (false = true) by decide)] at H
          try dsimp -simprocs only at H
          simp only [Option.some.injEq, Prod.mk.injEq] at H
          obtain ⟨rfl, rfl, rfl, rfl, rfl, rfl, rfl⟩ := H
          go_wp2_with (first | ((with_reducible refine gate_callee (f := 47) rfl ?_); refine goesL_ (some 33) rfl rfl Tryz.func47 (by kernel_rfl) rfl #[.string (a0.extract 0 ((ji11) : Int).toNat)] rfl (by (try simp only [List.map_toArray, List.map_cons, List.map_nil]); first | done | (simp only [hji11]; rfl) | rfl | (simp only [List.length_drop, List.length_take]; rfl)) ?_; (with_reducible refine (wherryref11_Parse.calls kj2 (a0.extract 0 ((ji11) : Int).toNat) false t239 t240 true _ A14.out).mono ?_); rintro e w29 ⟨rfl, hb⟩; refine ⟨_, rfl, ?_⟩; replace BK237 := Aside0.mk (blk_below (g := gb237) (o := .cells #[.int .i64 0, .string ⟨#[]⟩, .bool false, .string ⟨#[]⟩, .string ⟨#[]⟩, .slice none 0 0] 26 (0, 0)) (sK BK237.out) hb); replace HB := Aside0.mk (below_step (sB HB.out) hb); (try clear hb)) | ((with_reducible refine gate_dst (N := 7) rfl ?_); refine box_event ?hg (N := 7) ?hd (cs := #[.bool false, .string ⟨#[]⟩, .string ⟨#[]⟩]) (t := 23) ?hr ?_; (case hd => rfl); (case hg => rfl); (case hr => first | (go_simp; done) | (go_simp; rfl)); intro gb242 hg w30 hbox hb; have BK242 := Aside0.mk (hbox); have GW242 := Aside0.mk ((by rw [hg]; exact (below_size (sB HB.out)) : w.heap.size ≤ gb242)); have GE242 := Aside0.mk ((by rw [hg]; exact (below_size (sB HB.out)) : w.heap.size ≤ gb242)); replace HB := Aside0.mk (below_step (sB HB.out) hb); have NB237_242 := Aside0.mk ((by rw [hg]; exact Nat.ne_of_lt (blk_lt (g := gb237) (o := .cells #[.int .i64 0, .string ⟨#[]⟩, .bool false, .string ⟨#[]⟩, .string ⟨#[]⟩, .slice none 0 0] 26 (0, 0)) (sK BK237.out)) : gb237 ≠ gb242)); have NB242_237 := Aside0.mk ((by rw [hg]; exact Nat.ne_of_gt (blk_lt (g := gb237) (o := .cells #[.int .i64 0, .string ⟨#[]⟩, .bool false, .string ⟨#[]⟩, .string ⟨#[]⟩, .slice none 0 0] 26 (0, 0)) (sK BK237.out)) : gb242 ≠ gb237)); replace BK237 := Aside0.mk (blk_below (g := gb237) (o := .cells #[.int .i64 0, .string ⟨#[]⟩, .bool false, .string ⟨#[]⟩, .string ⟨#[]⟩, .slice none 0 0] 26 (0, 0)) (sK BK237.out) hb); clear hb hbox hg; have hnb31 := NB242_237.out; have hnc31 := NB237_242.out; have hcz32_0 := sC BK242.out 0; have hcz32_1 := sC BK242.out 1; have hcz32_2 := sC BK242.out 2; have hfz32_0 := blk_frozen BK242.out 0; have hfz32_1 := blk_frozen BK242.out 1; have hfz32_2 := blk_frozen BK242.out 2) | ((with_reducible refine gate_callee (f := 48) rfl ?_); refine goesL_ (some 42) rfl rfl Tryz.func48 (by kernel_rfl) rfl #[.string (a0.extract ((ji11) : Int).toNat a0.size), .int .i64 a1] rfl (by (try simp only [List.map_toArray, List.map_cons, List.map_nil]); first | done | (simp only [hji11]; rfl) | rfl | (simp only [List.length_drop, List.length_take]; rfl)) ?_; (with_reducible refine (wherryref11_params.calls kj2 (a0.extract ((ji11) : Int).toNat a0.size) a1 t243 true _ A17.out).mono ?_); rintro e w33 ⟨v245, rfl, ho0, hb⟩; refine ⟨_, rfl, ?_⟩; have HO246 := Aside0.mk (Kd.R_lower ho0 (below_size (sB HB.out))); replace BK237 := Aside0.mk (blk_below (g := gb237) (o := .cells #[.int .i64 0, .string ⟨#[]⟩, .bool false, .string ⟨#[]⟩, .string ⟨#[]⟩, .slice none 0 0] 26 (0, 0)) (by refine sK ?_; refine blk_far ?_ NB237_242.out _; refine sK ?_; refine blk_far ?_ NB237_242.out _; refine sK ?_; refine blk_far ?_ NB237_242.out _; refine sK ?_; exact BK237.out) hb); replace BK242 := Aside0.mk (blk_below (g := gb242) (o := .cells #[.bool false, .string t239, .string t240] 23 (0, 0)) (by refine sK ?_; refine blk_put (cs := #[.bool false, .string t239, .string ⟨#[]⟩]) ?_ 2 _ rfl; refine sK ?_; refine blk_put (cs := #[.bool false, .string ⟨#[]⟩, .string ⟨#[]⟩]) ?_ 1 _ rfl; refine sK ?_; refine blk_put (cs := #[.bool false, .string ⟨#[]⟩, .string ⟨#[]⟩]) ?_ 0 _ rfl; refine sK ?_; exact BK242.out) hb); replace HB := Aside0.mk (below_step (sB HB.out) hb); (try clear hb); (try clear ho0); have hcz34_0 := sC BK242.out 0; have hcz34_1 := sC BK242.out 1; have hcz34_2 := sC BK242.out 2; have hfz34_0 := blk_frozen BK242.out 0; have hfz34_1 := blk_frozen BK242.out 1; have hfz34_2 := blk_frozen BK242.out 2; obtain ⟨Ao35, co35, eo35⟩ := Kd.R_slice HO246.out; subst eo35; have hcz36_0 := sC BK237.out 0; have hcz36_1 := sC BK237.out 1; have hcz36_2 := sC BK237.out 2; have hcz36_3 := sC BK237.out 3; have hcz36_4 := sC BK237.out 4; have hcz36_5 := sC BK237.out 5; have hfz36_0 := blk_frozen BK237.out 0; have hfz36_1 := blk_frozen BK237.out 1; have hfz36_2 := blk_frozen BK237.out 2; have hfz36_3 := blk_frozen BK237.out 3; have hfz36_4 := blk_frozen BK237.out 4; have hfz36_5 := blk_frozen BK237.out 5))
          refine bodyPost_ret (results_ct rfl _ _ gb237 26 #[.int .i64 a1, .string ⟨#[]⟩, .bool false, .string t239, .string t240, .slice Ao35 t243.length co35] (0, 0) _ rfl (by refine sK ?_; refine blk_put (cs := #[.int .i64 a1, .string ⟨#[]⟩, .bool false, .string t239, .string t240, .slice none 0 0]) ?_ 5 _ rfl; refine sK ?_; refine blk_put (cs := #[.int .i64 a1, .string ⟨#[]⟩, .bool false, .string t239, .string ⟨#[]⟩, .slice none 0 0]) ?_ 4 _ rfl; refine sK ?_; refine blk_put (cs := #[.int .i64 a1, .string ⟨#[]⟩, .bool false, .string ⟨#[]⟩, .string ⟨#[]⟩, .slice none 0 0]) ?_ 3 _ rfl; refine sK ?_; refine blk_put (cs := #[.int .i64 a1, .string ⟨#[]⟩, .bool false, .string ⟨#[]⟩, .string ⟨#[]⟩, .slice none 0 0]) ?_ 2 _ rfl; refine sK ?_; refine blk_put (cs := #[.int .i64 a1, .string ⟨#[]⟩, .bool false, .string ⟨#[]⟩, .string ⟨#[]⟩, .slice none 0 0]) ?_ 1 _ rfl; refine sK ?_; refine blk_put (cs := #[.int .i64 0, .string ⟨#[]⟩, .bool false, .string ⟨#[]⟩, .string ⟨#[]⟩, .slice none 0 0]) ?_ 0 _ rfl; refine sK ?_; exact BK237.out) Tryz.underlying26 rfl (by kernel_rfl)) rfl ?_
          exact ⟨_, by first | rfl | (simp [errW_none, errW_some] <;> rfl) | (simp only [← hji11]; first | rfl | (simp [errW_none, errW_some] <;> rfl)) | (simp [*, errW_none, errW_some] <;> rfl), by (with_reducible repeat (first | apply Kd.R_alloc | apply Kd.R_drewN | apply Kd.R_drew)); exact Kd.R_mono (Kd.R_far (p := ⟨gb237, 5, none⟩) (Kd.R_far (p := ⟨gb237, 4, none⟩) (Kd.R_far (p := ⟨gb237, 3, none⟩) (Kd.R_far (p := ⟨gb237, 2, none⟩) (Kd.R_far (p := ⟨gb237, 1, none⟩) (Kd.R_far (p := ⟨gb237, 0, none⟩) (Kd.R_types HO246.out BK237.out (by decide)) (fun _ hk => hk.2) (.int .i64 a1)) (fun _ hk => hk.2) (.string ⟨#[]⟩)) (fun _ hk => hk.2) (.bool false)) (fun _ hk => hk.2) (.string t239)) (fun _ hk => hk.2) (.string t240)) (fun _ hk => hk.2) (.slice Ao35 t243.length co35)) (fun _ hk => trivial), sB HB.out⟩
        ·
         rw [if_neg c20] at H
         have c20b0 : (a1 == 3) = false := beq_eq_false_iff_ne.mpr c20
         have c20b1 : (a1 != 3) = true := bne_iff_ne.mpr c20
         simp only [Option.some.injEq, Prod.mk.injEq] at H
         obtain ⟨rfl, rfl, rfl, rfl, rfl, rfl, rfl⟩ := H
         go_wp2_with (first | ((with_reducible refine gate_callee (f := 47) rfl ?_); refine goesL_ (some 33) rfl rfl Tryz.func47 (by kernel_rfl) rfl #[.string (a0.extract 0 ((ji11) : Int).toNat)] rfl (by (try simp only [List.map_toArray, List.map_cons, List.map_nil]); first | done | (simp only [hji11]; rfl) | rfl | (simp only [List.length_drop, List.length_take]; rfl)) ?_; (with_reducible refine (wherryref11_Parse.calls kj2 (a0.extract 0 ((ji11) : Int).toNat) t238 t239 t240 true _ A14.out).mono ?_); rintro e w37 ⟨rfl, hb⟩; refine ⟨_, rfl, ?_⟩; replace BK237 := Aside0.mk (blk_below (g := gb237) (o := .cells #[.int .i64 0, .string ⟨#[]⟩, .bool false, .string ⟨#[]⟩, .string ⟨#[]⟩, .slice none 0 0] 26 (0, 0)) (sK BK237.out) hb); replace HB := Aside0.mk (below_step (sB HB.out) hb); (try clear hb)) | ((with_reducible refine gate_dst (N := 7) rfl ?_); refine box_event ?hg (N := 7) ?hd (cs := #[.bool false, .string ⟨#[]⟩, .string ⟨#[]⟩]) (t := 23) ?hr ?_; (case hd => rfl); (case hg => rfl); (case hr => first | (go_simp; done) | (go_simp; rfl)); intro gb242 hg w38 hbox hb; have BK242 := Aside0.mk (hbox); have GW242 := Aside0.mk ((by rw [hg]; exact (below_size (sB HB.out)) : w.heap.size ≤ gb242)); have GE242 := Aside0.mk ((by rw [hg]; exact (below_size (sB HB.out)) : w.heap.size ≤ gb242)); replace HB := Aside0.mk (below_step (sB HB.out) hb); have NB237_242 := Aside0.mk ((by rw [hg]; exact Nat.ne_of_lt (blk_lt (g := gb237) (o := .cells #[.int .i64 0, .string ⟨#[]⟩, .bool false, .string ⟨#[]⟩, .string ⟨#[]⟩, .slice none 0 0] 26 (0, 0)) (sK BK237.out)) : gb237 ≠ gb242)); have NB242_237 := Aside0.mk ((by rw [hg]; exact Nat.ne_of_gt (blk_lt (g := gb237) (o := .cells #[.int .i64 0, .string ⟨#[]⟩, .bool false, .string ⟨#[]⟩, .string ⟨#[]⟩, .slice none 0 0] 26 (0, 0)) (sK BK237.out)) : gb242 ≠ gb237)); replace BK237 := Aside0.mk (blk_below (g := gb237) (o := .cells #[.int .i64 0, .string ⟨#[]⟩, .bool false, .string ⟨#[]⟩, .string ⟨#[]⟩, .slice none 0 0] 26 (0, 0)) (sK BK237.out) hb); clear hb hbox hg; have hnb39 := NB242_237.out; have hnc39 := NB237_242.out; have hcz40_0 := sC BK242.out 0; have hcz40_1 := sC BK242.out 1; have hcz40_2 := sC BK242.out 2; have hfz40_0 := blk_frozen BK242.out 0; have hfz40_1 := blk_frozen BK242.out 1; have hfz40_2 := blk_frozen BK242.out 2) | ((with_reducible refine gate_callee (f := 48) rfl ?_); refine goesL_ (some 42) rfl rfl Tryz.func48 (by kernel_rfl) rfl #[.string (a0.extract ((ji11) : Int).toNat a0.size), .int .i64 a1] rfl (by (try simp only [List.map_toArray, List.map_cons, List.map_nil]); first | done | (simp only [hji11]; rfl) | rfl | (simp only [List.length_drop, List.length_take]; rfl)) ?_; (with_reducible refine (wherryref11_params.calls kj2 (a0.extract ((ji11) : Int).toNat a0.size) a1 t243 true _ A17.out).mono ?_); rintro e w41 ⟨v245, rfl, ho0, hb⟩; refine ⟨_, rfl, ?_⟩; have HO246 := Aside0.mk (Kd.R_lower ho0 (below_size (sB HB.out))); replace BK237 := Aside0.mk (blk_below (g := gb237) (o := .cells #[.int .i64 0, .string ⟨#[]⟩, .bool false, .string ⟨#[]⟩, .string ⟨#[]⟩, .slice none 0 0] 26 (0, 0)) (by refine sK ?_; refine blk_far ?_ NB237_242.out _; refine sK ?_; refine blk_far ?_ NB237_242.out _; refine sK ?_; refine blk_far ?_ NB237_242.out _; refine sK ?_; exact BK237.out) hb); replace BK242 := Aside0.mk (blk_below (g := gb242) (o := .cells #[.bool t238, .string t239, .string t240] 23 (0, 0)) (by refine sK ?_; refine blk_put (cs := #[.bool t238, .string t239, .string ⟨#[]⟩]) ?_ 2 _ rfl; refine sK ?_; refine blk_put (cs := #[.bool t238, .string ⟨#[]⟩, .string ⟨#[]⟩]) ?_ 1 _ rfl; refine sK ?_; refine blk_put (cs := #[.bool false, .string ⟨#[]⟩, .string ⟨#[]⟩]) ?_ 0 _ rfl; refine sK ?_; exact BK242.out) hb); replace HB := Aside0.mk (below_step (sB HB.out) hb); (try clear hb); (try clear ho0); have hcz42_0 := sC BK242.out 0; have hcz42_1 := sC BK242.out 1; have hcz42_2 := sC BK242.out 2; have hfz42_0 := blk_frozen BK242.out 0; have hfz42_1 := blk_frozen BK242.out 1; have hfz42_2 := blk_frozen BK242.out 2; obtain ⟨Ao43, co43, eo43⟩ := Kd.R_slice HO246.out; subst eo43; have hcz44_0 := sC BK237.out 0; have hcz44_1 := sC BK237.out 1; have hcz44_2 := sC BK237.out 2; have hcz44_3 := sC BK237.out 3; have hcz44_4 := sC BK237.out 4; have hcz44_5 := sC BK237.out 5; have hfz44_0 := blk_frozen BK237.out 0; have hfz44_1 := blk_frozen BK237.out 1; have hfz44_2 := blk_frozen BK237.out 2; have hfz44_3 := blk_frozen BK237.out 3; have hfz44_4 := blk_frozen BK237.out 4; have hfz44_5 := blk_frozen BK237.out 5))
         refine bodyPost_ret (results_ct rfl _ _ gb237 26 #[.int .i64 a1, .string ⟨#[]⟩, .bool t238, .string t239, .string t240, .slice Ao43 t243.length co43] (0, 0) _ rfl (by refine sK ?_; refine blk_put (cs := #[.int .i64 a1, .string ⟨#[]⟩, .bool t238, .string t239, .string t240, .slice none 0 0]) ?_ 5 _ rfl; refine sK ?_; refine blk_put (cs := #[.int .i64 a1, .string ⟨#[]⟩, .bool t238, .string t239, .string ⟨#[]⟩, .slice none 0 0]) ?_ 4 _ rfl; refine sK ?_; refine blk_put (cs := #[.int .i64 a1, .string ⟨#[]⟩, .bool t238, .string ⟨#[]⟩, .string ⟨#[]⟩, .slice none 0 0]) ?_ 3 _ rfl; refine sK ?_; refine blk_put (cs := #[.int .i64 a1, .string ⟨#[]⟩, .bool false, .string ⟨#[]⟩, .string ⟨#[]⟩, .slice none 0 0]) ?_ 2 _ rfl; refine sK ?_; refine blk_put (cs := #[.int .i64 a1, .string ⟨#[]⟩, .bool false, .string ⟨#[]⟩, .string ⟨#[]⟩, .slice none 0 0]) ?_ 1 _ rfl; refine sK ?_; refine blk_put (cs := #[.int .i64 0, .string ⟨#[]⟩, .bool false, .string ⟨#[]⟩, .string ⟨#[]⟩, .slice none 0 0]) ?_ 0 _ rfl; refine sK ?_; exact BK237.out) Tryz.underlying26 rfl (by kernel_rfl)) rfl ?_
         exact ⟨_, by first | rfl | (simp [errW_none, errW_some] <;> rfl) | (simp only [← hji11]; first | rfl | (simp [errW_none, errW_some] <;> rfl)) | (simp [*, errW_none, errW_some] <;> rfl), by (with_reducible repeat (first | apply Kd.R_alloc | apply Kd.R_drewN | apply Kd.R_drew)); exact Kd.R_mono (Kd.R_far (p := ⟨gb237, 5, none⟩) (Kd.R_far (p := ⟨gb237, 4, none⟩) (Kd.R_far (p := ⟨gb237, 3, none⟩) (Kd.R_far (p := ⟨gb237, 2, none⟩) (Kd.R_far (p := ⟨gb237, 1, none⟩) (Kd.R_far (p := ⟨gb237, 0, none⟩) (Kd.R_types HO246.out BK237.out (by decide)) (fun _ hk => hk.2) (.int .i64 a1)) (fun _ hk => hk.2) (.string ⟨#[]⟩)) (fun _ hk => hk.2) (.bool t238)) (fun _ hk => hk.2) (.string t239)) (fun _ hk => hk.2) (.string t240)) (fun _ hk => hk.2) (.slice Ao43 t243.length co43)) (fun _ hk => trivial), sB HB.out⟩
       ·
        replace c19 := Bool.eq_false_iff.mpr c19
        subst c19
        rw [if_neg (show ¬ (false = true) by decide)] at H
        try dsimp -simprocs only at H
        simp only [Option.some.injEq, Prod.mk.injEq] at H
        obtain ⟨rfl, rfl, rfl, rfl, rfl, rfl, rfl⟩ := H
        go_wp2_with (first | ((with_reducible refine gate_callee (f := 47) rfl ?_); refine goesL_ (some 33) rfl rfl Tryz.func47 (by kernel_rfl) rfl #[.string (a0.extract 0 ((ji11) : Int).toNat)] rfl (by (try simp only [List.map_toArray, List.map_cons, List.map_nil]); first | done | (simp only [hji11]; rfl) | rfl | (simp only [List.length_drop, List.length_take]; rfl)) ?_; (with_reducible refine (wherryref11_Parse.calls kj2 (a0.extract 0 ((ji11) : Int).toNat) t238 t239 t240 true _ A14.out).mono ?_); rintro e w45 ⟨rfl, hb⟩; refine ⟨_, rfl, ?_⟩; replace BK237 := Aside0.mk (blk_below (g := gb237) (o := .cells #[.int .i64 0, .string ⟨#[]⟩, .bool false, .string ⟨#[]⟩, .string ⟨#[]⟩, .slice none 0 0] 26 (0, 0)) (sK BK237.out) hb); replace HB := Aside0.mk (below_step (sB HB.out) hb); (try clear hb)) | ((with_reducible refine gate_dst (N := 7) rfl ?_); refine box_event ?hg (N := 7) ?hd (cs := #[.bool false, .string ⟨#[]⟩, .string ⟨#[]⟩]) (t := 23) ?hr ?_; (case hd => rfl); (case hg => rfl); (case hr => first | (go_simp; done) | (go_simp; rfl)); intro gb242 hg w46 hbox hb; have BK242 := Aside0.mk (hbox); have GW242 := Aside0.mk ((by rw [hg]; exact (below_size (sB HB.out)) : w.heap.size ≤ gb242)); have GE242 := Aside0.mk ((by rw [hg]; exact (below_size (sB HB.out)) : w.heap.size ≤ gb242)); replace HB := Aside0.mk (below_step (sB HB.out) hb); have NB237_242 := Aside0.mk ((by rw [hg]; exact Nat.ne_of_lt (blk_lt (g := gb237) (o := .cells #[.int .i64 0, .string ⟨#[]⟩, .bool false, .string ⟨#[]⟩, .string ⟨#[]⟩, .slice none 0 0] 26 (0, 0)) (sK BK237.out)) : gb237 ≠ gb242)); have NB242_237 := Aside0.mk ((by rw [hg]; exact Nat.ne_of_gt (blk_lt (g := gb237) (o := .cells #[.int .i64 0, .string ⟨#[]⟩, .bool false, .string ⟨#[]⟩, .string ⟨#[]⟩, .slice none 0 0] 26 (0, 0)) (sK BK237.out)) : gb242 ≠ gb237)); replace BK237 := Aside0.mk (blk_below (g := gb237) (o := .cells #[.int .i64 0, .string ⟨#[]⟩, .bool false, .string ⟨#[]⟩, .string ⟨#[]⟩, .slice none 0 0] 26 (0, 0)) (sK BK237.out) hb); clear hb hbox hg; have hnb47 := NB242_237.out; have hnc47 := NB237_242.out; have hcz48_0 := sC BK242.out 0; have hcz48_1 := sC BK242.out 1; have hcz48_2 := sC BK242.out 2; have hfz48_0 := blk_frozen BK242.out 0; have hfz48_1 := blk_frozen BK242.out 1; have hfz48_2 := blk_frozen BK242.out 2) | ((with_reducible refine gate_callee (f := 48) rfl ?_); refine goesL_ (some 42) rfl rfl Tryz.func48 (by kernel_rfl) rfl #[.string (a0.extract ((ji11) : Int).toNat a0.size), .int .i64 a1] rfl (by (try simp only [List.map_toArray, List.map_cons, List.map_nil]); first | done | (simp only [hji11]; rfl) | rfl | (simp only [List.length_drop, List.length_take]; rfl)) ?_; (with_reducible refine (wherryref11_params.calls kj2 (a0.extract ((ji11) : Int).toNat a0.size) a1 t243 false _ A17.out).mono ?_); rintro e w49 ⟨v245, rfl, ho0, hb⟩; refine ⟨_, rfl, ?_⟩; have HO246 := Aside0.mk (Kd.R_lower ho0 (below_size (sB HB.out))); replace BK237 := Aside0.mk (blk_below (g := gb237) (o := .cells #[.int .i64 0, .string ⟨#[]⟩, .bool false, .string ⟨#[]⟩, .string ⟨#[]⟩, .slice none 0 0] 26 (0, 0)) (by refine sK ?_; refine blk_far ?_ NB237_242.out _; refine sK ?_; refine blk_far ?_ NB237_242.out _; refine sK ?_; refine blk_far ?_ NB237_242.out _; refine sK ?_; exact BK237.out) hb); replace BK242 := Aside0.mk (blk_below (g := gb242) (o := .cells #[.bool t238, .string t239, .string t240] 23 (0, 0)) (by refine sK ?_; refine blk_put (cs := #[.bool t238, .string t239, .string ⟨#[]⟩]) ?_ 2 _ rfl; refine sK ?_; refine blk_put (cs := #[.bool t238, .string ⟨#[]⟩, .string ⟨#[]⟩]) ?_ 1 _ rfl; refine sK ?_; refine blk_put (cs := #[.bool false, .string ⟨#[]⟩, .string ⟨#[]⟩]) ?_ 0 _ rfl; refine sK ?_; exact BK242.out) hb); replace HB := Aside0.mk (below_step (sB HB.out) hb); (try clear hb); (try clear ho0); have hcz50_0 := sC BK237.out 0; have hcz50_1 := sC BK237.out 1; have hcz50_2 := sC BK237.out 2; have hcz50_3 := sC BK237.out 3; have hcz50_4 := sC BK237.out 4; have hcz50_5 := sC BK237.out 5; have hfz50_0 := blk_frozen BK237.out 0; have hfz50_1 := blk_frozen BK237.out 1; have hfz50_2 := blk_frozen BK237.out 2; have hfz50_3 := blk_frozen BK237.out 3; have hfz50_4 := blk_frozen BK237.out 4; have hfz50_5 := blk_frozen BK237.out 5))
        refine bodyPost_ret (results_ct rfl _ _ gb237 26 #[.int .i64 0, .string ⟨#[]⟩, .bool false, .string ⟨#[]⟩, .string ⟨#[]⟩, .slice none 0 0] (0, 0) _ rfl (by refine sK ?_; refine blk_put (cs := #[.int .i64 0, .string ⟨#[]⟩, .bool false, .string ⟨#[]⟩, .string ⟨#[]⟩, .slice none 0 0]) ?_ 5 _ rfl; refine sK ?_; refine blk_put (cs := #[.int .i64 0, .string ⟨#[]⟩, .bool false, .string ⟨#[]⟩, .string ⟨#[]⟩, .slice none 0 0]) ?_ 4 _ rfl; refine sK ?_; refine blk_put (cs := #[.int .i64 0, .string ⟨#[]⟩, .bool false, .string ⟨#[]⟩, .string ⟨#[]⟩, .slice none 0 0]) ?_ 3 _ rfl; refine sK ?_; refine blk_put (cs := #[.int .i64 0, .string ⟨#[]⟩, .bool false, .string ⟨#[]⟩, .string ⟨#[]⟩, .slice none 0 0]) ?_ 2 _ rfl; refine sK ?_; refine blk_put (cs := #[.int .i64 0, .string ⟨#[]⟩, .bool false, .string ⟨#[]⟩, .string ⟨#[]⟩, .slice none 0 0]) ?_ 1 _ rfl; refine sK ?_; refine blk_put (cs := #[.int .i64 0, .string ⟨#[]⟩, .bool false, .string ⟨#[]⟩, .string ⟨#[]⟩, .slice none 0 0]) ?_ 0 _ rfl; refine sK ?_; exact BK237.out) Tryz.underlying26 rfl (by kernel_rfl)) rfl ?_
        exact ⟨_, by first | rfl | (simp [errW_none, errW_some] <;> rfl) | (simp only [← hji11]; first | rfl | (simp [errW_none, errW_some] <;> rfl)) | (simp [*, errW_none, errW_some] <;> rfl), by first | exact Kd.R_nil _ _ _ _ _ | exact Kd.N_nil _ _ _ _ _ | exact Kd.V_nil _ _ _ _ _ | exact Kd.Q_nil _ _ _ _ _ | exact Kd.S_nil _ _ _ _ _, sB HB.out⟩
      ·
       replace c18 := Bool.eq_false_iff.mpr c18
       subst c18
       rw [if_neg (show ¬ (false = true) by decide)] at H
       try dsimp -simprocs only at H
       simp only [Option.some.injEq, Prod.mk.injEq] at H
       obtain ⟨rfl, rfl, rfl, rfl, rfl, rfl, rfl⟩ := H
       go_wp2_with (first | ((with_reducible refine gate_callee (f := 47) rfl ?_); refine goesL_ (some 33) rfl rfl Tryz.func47 (by kernel_rfl) rfl #[.string (a0.extract 0 ((ji11) : Int).toNat)] rfl (by (try simp only [List.map_toArray, List.map_cons, List.map_nil]); first | done | (simp only [hji11]; rfl) | rfl | (simp only [List.length_drop, List.length_take]; rfl)) ?_; (with_reducible refine (wherryref11_Parse.calls kj2 (a0.extract 0 ((ji11) : Int).toNat) t238 t239 t240 false _ A14.out).mono ?_); rintro e w51 ⟨rfl, hb⟩; refine ⟨_, rfl, ?_⟩; replace BK237 := Aside0.mk (blk_below (g := gb237) (o := .cells #[.int .i64 0, .string ⟨#[]⟩, .bool false, .string ⟨#[]⟩, .string ⟨#[]⟩, .slice none 0 0] 26 (0, 0)) (sK BK237.out) hb); replace HB := Aside0.mk (below_step (sB HB.out) hb); (try clear hb)) | ((with_reducible refine gate_dst (N := 7) rfl ?_); refine box_event ?hg (N := 7) ?hd (cs := #[.bool false, .string ⟨#[]⟩, .string ⟨#[]⟩]) (t := 23) ?hr ?_; (case hd => rfl); (case hg => rfl); (case hr => first | (go_simp; done) | (go_simp; rfl)); intro gb242 hg w52 hbox hb; have BK242 := Aside0.mk (hbox); have GW242 := Aside0.mk ((by rw [hg]; exact (below_size (sB HB.out)) : w.heap.size ≤ gb242)); have GE242 := Aside0.mk ((by rw [hg]; exact (below_size (sB HB.out)) : w.heap.size ≤ gb242)); replace HB := Aside0.mk (below_step (sB HB.out) hb); have NB237_242 := Aside0.mk ((by rw [hg]; exact Nat.ne_of_lt (blk_lt (g := gb237) (o := .cells #[.int .i64 0, .string ⟨#[]⟩, .bool false, .string ⟨#[]⟩, .string ⟨#[]⟩, .slice none 0 0] 26 (0, 0)) (sK BK237.out)) : gb237 ≠ gb242)); have NB242_237 := Aside0.mk ((by rw [hg]; exact Nat.ne_of_gt (blk_lt (g := gb237) (o := .cells #[.int .i64 0, .string ⟨#[]⟩, .bool false, .string ⟨#[]⟩, .string ⟨#[]⟩, .slice none 0 0] 26 (0, 0)) (sK BK237.out)) : gb242 ≠ gb237)); replace BK237 := Aside0.mk (blk_below (g := gb237) (o := .cells #[.int .i64 0, .string ⟨#[]⟩, .bool false, .string ⟨#[]⟩, .string ⟨#[]⟩, .slice none 0 0] 26 (0, 0)) (sK BK237.out) hb); clear hb hbox hg; have hnb53 := NB242_237.out; have hnc53 := NB237_242.out; have hcz54_0 := sC BK242.out 0; have hcz54_1 := sC BK242.out 1; have hcz54_2 := sC BK242.out 2; have hfz54_0 := blk_frozen BK242.out 0; have hfz54_1 := blk_frozen BK242.out 1; have hfz54_2 := blk_frozen BK242.out 2) | ((with_reducible refine gate_callee (f := 48) rfl ?_); refine goesL_ (some 42) rfl rfl Tryz.func48 (by kernel_rfl) rfl #[.string (a0.extract ((ji11) : Int).toNat a0.size), .int .i64 a1] rfl (by (try simp only [List.map_toArray, List.map_cons, List.map_nil]); first | done | (simp only [hji11]; rfl) | rfl | (simp only [List.length_drop, List.length_take]; rfl)) ?_; (with_reducible refine (wherryref11_params.calls kj2 (a0.extract ((ji11) : Int).toNat a0.size) a1 t243 t244 _ A17.out).mono ?_); rintro e w55 ⟨v245, rfl, ho0, hb⟩; refine ⟨_, rfl, ?_⟩; have HO246 := Aside0.mk (Kd.R_lower ho0 (below_size (sB HB.out))); replace BK237 := Aside0.mk (blk_below (g := gb237) (o := .cells #[.int .i64 0, .string ⟨#[]⟩, .bool false, .string ⟨#[]⟩, .string ⟨#[]⟩, .slice none 0 0] 26 (0, 0)) (by refine sK ?_; refine blk_far ?_ NB237_242.out _; refine sK ?_; refine blk_far ?_ NB237_242.out _; refine sK ?_; refine blk_far ?_ NB237_242.out _; refine sK ?_; exact BK237.out) hb); replace BK242 := Aside0.mk (blk_below (g := gb242) (o := .cells #[.bool t238, .string t239, .string t240] 23 (0, 0)) (by refine sK ?_; refine blk_put (cs := #[.bool t238, .string t239, .string ⟨#[]⟩]) ?_ 2 _ rfl; refine sK ?_; refine blk_put (cs := #[.bool t238, .string ⟨#[]⟩, .string ⟨#[]⟩]) ?_ 1 _ rfl; refine sK ?_; refine blk_put (cs := #[.bool false, .string ⟨#[]⟩, .string ⟨#[]⟩]) ?_ 0 _ rfl; refine sK ?_; exact BK242.out) hb); replace HB := Aside0.mk (below_step (sB HB.out) hb); (try clear hb); (try clear ho0); have hcz56_0 := sC BK237.out 0; have hcz56_1 := sC BK237.out 1; have hcz56_2 := sC BK237.out 2; have hcz56_3 := sC BK237.out 3; have hcz56_4 := sC BK237.out 4; have hcz56_5 := sC BK237.out 5; have hfz56_0 := blk_frozen BK237.out 0; have hfz56_1 := blk_frozen BK237.out 1; have hfz56_2 := blk_frozen BK237.out 2; have hfz56_3 := blk_frozen BK237.out 3; have hfz56_4 := blk_frozen BK237.out 4; have hfz56_5 := blk_frozen BK237.out 5))
       refine bodyPost_ret (results_ct rfl _ _ gb237 26 #[.int .i64 0, .string ⟨#[]⟩, .bool false, .string ⟨#[]⟩, .string ⟨#[]⟩, .slice none 0 0] (0, 0) _ rfl (by refine sK ?_; refine blk_put (cs := #[.int .i64 0, .string ⟨#[]⟩, .bool false, .string ⟨#[]⟩, .string ⟨#[]⟩, .slice none 0 0]) ?_ 5 _ rfl; refine sK ?_; refine blk_put (cs := #[.int .i64 0, .string ⟨#[]⟩, .bool false, .string ⟨#[]⟩, .string ⟨#[]⟩, .slice none 0 0]) ?_ 4 _ rfl; refine sK ?_; refine blk_put (cs := #[.int .i64 0, .string ⟨#[]⟩, .bool false, .string ⟨#[]⟩, .string ⟨#[]⟩, .slice none 0 0]) ?_ 3 _ rfl; refine sK ?_; refine blk_put (cs := #[.int .i64 0, .string ⟨#[]⟩, .bool false, .string ⟨#[]⟩, .string ⟨#[]⟩, .slice none 0 0]) ?_ 2 _ rfl; refine sK ?_; refine blk_put (cs := #[.int .i64 0, .string ⟨#[]⟩, .bool false, .string ⟨#[]⟩, .string ⟨#[]⟩, .slice none 0 0]) ?_ 1 _ rfl; refine sK ?_; refine blk_put (cs := #[.int .i64 0, .string ⟨#[]⟩, .bool false, .string ⟨#[]⟩, .string ⟨#[]⟩, .slice none 0 0]) ?_ 0 _ rfl; refine sK ?_; exact BK237.out) Tryz.underlying26 rfl (by kernel_rfl)) rfl ?_
       exact ⟨_, by first | rfl | (simp [errW_none, errW_some] <;> rfl) | (simp only [← hji11]; first | rfl | (simp [errW_none, errW_some] <;> rfl)) | (simp [*, errW_none, errW_some] <;> rfl), by first | exact Kd.R_nil _ _ _ _ _ | exact Kd.N_nil _ _ _ _ _ | exact Kd.V_nil _ _ _ _ _ | exact Kd.Q_nil _ _ _ _ _ | exact Kd.S_nil _ _ _ _ _, sB HB.out⟩
     ·
      rw [if_neg c13] at H
      exact absurd H (by simp)
    ·
     rw [if_neg c12] at H
     exact absurd H (by simp)
end Go.Proofs.YthcdjgekmfnmnaaGreatDoor.PVerb
end
section
namespace Go.Proofs.YthcdjgekmfnmnaaGreatDoor.PVerb
open Go.RowKit Go.Proofs.YthcdjgekmfnmnaaGreatDoorW.PrintWords Go.Proofs.YthcdjgekmfnmnaaGreatDoorW.PrintLast Go.Proofs.YthcdjgekmfnmnaaGreatDoorW.PrintMore
attribute [local go_sem] max2_int min2_int max_two min_two max_three min_three max_four min_four
set_option linter.unusedVariables false
set_option linter.unusedSimpArgs false
def wherryref11_mechanism.l0 : Nat → ByteArray → Int → Option (Bool)
 | 0, _, _ => none
 | k + 1, x0, x3 => if x3 < (x0.size : Int) then (if 0 ≤ x3 then ((wherryref11_letter.f (bt x0 x3)).bind fun t247 => (if t247 = true then (wherryref11_mechanism.l0 k x0 (wrap64 (x3 + 1))) else ((wherryref11_digit.f (bt x0 x3)).bind fun t248 => (if t248 = true then (wherryref11_mechanism.l0 k x0 (wrap64 (x3 + 1))) else (if (bt x0 x3) = 45 then (wherryref11_mechanism.l0 k x0 (wrap64 (x3 + 1))) else (some false)))))) else (none)) else (some (decide ((x0.size : Int) > 0)))
def wherryref11_mechanism.f (k : Nat) (a0 : ByteArray) : Option (Bool) := wherryref11_mechanism.l0 k a0 0
set_option maxHeartbeats 8000000 in
set_option maxRecDepth 100000 in
theorem wherryref11_mechanism.calls (k : Nat) (a0 : ByteArray) (r : Bool) (w : World) (h : wherryref11_mechanism.f k a0 = some r) :
  Calls Tryz.prog 30 #[.string a0] w fun e w' => e = .returned (.bool r) ∧ Drawn0 w w' := by
 have H : (wherryref11_mechanism.l0 k a0 0) = some r := h
 clear h
 have H' := Aside0.mk H
 clear H
 go_enter Tryz.func30, Tryz.ntmps30
 go_wp2
 go_loopg [3] k (fun kq v3 w' => ∃ (x3_1 : Int), v3 = .int .i64 x3_1 ∧ Aside0 (wherryref11_mechanism.l0 kq a0 x3_1 = some r) ∧ Aside0 (kq ≤ k) ∧ Drawn0 w w')
 case atStart => exact ⟨(0), (by first | rfl | (simp; done) | (simp [*]; done)), H', ⟨Nat.le_refl _⟩, by repeat (first | exact Drawn0.refl _ | apply Drawn0.step)⟩
 case round =>
  clear H'
  obtain ⟨x3_1, rfl, HA, HK1, ⟨m1, rfl⟩⟩ := hrel
  cases gk with
  | zero => exact absurd HA.out (by simp [wherryref11_mechanism.l0])
  | succ k1 =>
   have H := HA.out
   clear HA
   simp only [wherryref11_mechanism.l0] at H
   by_cases c2 : x3_1 < (a0.size : Int)
   ·
    rw [if_pos c2] at H
    have c2b0 : decide (x3_1 < (a0.size : Int)) = true := decide_eq_true c2
    clear c2
    by_cases c3 : 0 ≤ x3_1
    ·
     rw [if_pos c3] at H
     have c3b0 : decide (0 ≤ x3_1) = true := decide_eq_true c3
     clear c3
     replace H := Option.bind_eq_some_iff.mp H
     obtain ⟨t247, A50, H⟩ := H
     try dsimp -simprocs only at H
     have A5 := Aside0.mk A50
     clear A50
     by_cases c6 : t247 = true
     ·
      subst c6
      rw [if_pos rfl] at H
      try dsimp -simprocs only at H
      have H' := Aside0.mk H
      clear H
      have p4 : 0 ≤ (x3_1 : Int) := of_decide_eq_true sA
      have q4 : x3_1 < (a0.size : Int) := of_decide_eq_true sA
      have hx4 := bt_at a0 x3_1
      replace p4 := eq_true p4
      replace q4 := eq_true q4
      go_wp2_with (first | ((with_reducible refine gate_callee (f := 45) rfl ?_); refine goesL_ (some 13) rfl rfl Tryz.func45 (by kernel_rfl) rfl #[.int .u8 (bt a0 x3_1)] rfl sM ?_; (with_reducible refine (wherryref11_letter.calls (bt a0 x3_1) true _ A5.out).mono ?_); rintro e w' ⟨rfl, ⟨nd, rfl⟩⟩; refine ⟨_, rfl, ?_⟩))
      go_roundg k1
      case measure => have := HK1.out; omega
      case rel => exact ⟨(wrap64 (x3_1 + 1)), (by first | rfl | (simp; done) | (simp [*]; done)), H', ⟨by have := HK1.out; omega⟩, by repeat (first | exact Drawn0.refl _ | apply Drawn0.step)⟩
     ·
      replace c6 := Bool.eq_false_iff.mpr c6
      subst c6
      rw [if_neg (show ¬ (false = true) by decide)] at H
      try dsimp -simprocs only at H
      replace H := Option.bind_eq_some_iff.mp H
      obtain ⟨t248, A80, H⟩ := H
      try dsimp -simprocs only at H
      have A8 := Aside0.mk A80
      clear A80
      by_cases c9 : t248 = true
      ·
       subst c9
       rw [if_pos rfl] at H
       try dsimp -simprocs only at H
       have H' := Aside0.mk H
       clear H
       have p4 : 0 ≤ (x3_1 : Int) := of_decide_eq_true sA
       have q4 : x3_1 < (a0.size : Int) := of_decide_eq_true sA
       have hx4 := bt_at a0 x3_1
       replace p4 := eq_true p4
       replace q4 := eq_true q4
       go_wp2_with (first | ((with_reducible refine gate_callee (f := 45) rfl ?_); refine goesL_ (some 13) rfl rfl Tryz.func45 (by kernel_rfl) rfl #[.int .u8 (bt a0 x3_1)] rfl sM ?_; (with_reducible refine (wherryref11_letter.calls (bt a0 x3_1) false _ A5.out).mono ?_); rintro e w' ⟨rfl, ⟨nd, rfl⟩⟩; refine ⟨_, rfl, ?_⟩; have p7 : 0 ≤ (x3_1 : Int) := of_decide_eq_true sA; have q7 : x3_1 < (a0.size : Int) := of_decide_eq_true sA; have hx7 := bt_at a0 x3_1; replace p7 := eq_true p7; replace q7 := eq_true q7) | (go_at_call 46; (with_reducible refine (wherryref11_digit.calls (bt a0 x3_1) true _ A8.out).mono ?_); rintro e w' ⟨rfl, ⟨nd, rfl⟩⟩))
       go_roundg k1
       case measure => have := HK1.out; omega
       case rel => exact ⟨(wrap64 (x3_1 + 1)), (by first | rfl | (simp; done) | (simp [*]; done)), H', ⟨by have := HK1.out; omega⟩, by repeat (first | exact Drawn0.refl _ | apply Drawn0.step)⟩
      ·
       replace c9 := Bool.eq_false_iff.mpr c9
       subst c9
       rw [if_neg (show ¬ (false = true) by decide)] at H
       try dsimp -simprocs only at H
       by_cases c11 : (bt a0 x3_1) = 45
       ·
        rw [if_pos c11] at H
        have c11b0 : ((bt a0 x3_1) == 45) = true := beq_iff_eq.mpr c11
        have c11b1 : ((bt a0 x3_1) != 45) = false := bne_eq_false_iff_eq.mpr c11
        clear c11
        have H' := Aside0.mk H
        clear H
        have p4 : 0 ≤ (x3_1 : Int) := of_decide_eq_true sA
        have q4 : x3_1 < (a0.size : Int) := of_decide_eq_true sA
        have hx4 := bt_at a0 x3_1
        replace p4 := eq_true p4
        replace q4 := eq_true q4
        go_wp2_with (first | ((with_reducible refine gate_callee (f := 45) rfl ?_); refine goesL_ (some 13) rfl rfl Tryz.func45 (by kernel_rfl) rfl #[.int .u8 (bt a0 x3_1)] rfl sM ?_; (with_reducible refine (wherryref11_letter.calls (bt a0 x3_1) false _ A5.out).mono ?_); rintro e w' ⟨rfl, ⟨nd, rfl⟩⟩; refine ⟨_, rfl, ?_⟩; have p7 : 0 ≤ (x3_1 : Int) := of_decide_eq_true sA; have q7 : x3_1 < (a0.size : Int) := of_decide_eq_true sA; have hx7 := bt_at a0 x3_1; replace p7 := eq_true p7; replace q7 := eq_true q7) | (go_at_call 46; (with_reducible refine (wherryref11_digit.calls (bt a0 x3_1) false _ A8.out).mono ?_); rintro e w' ⟨rfl, ⟨nd, rfl⟩⟩; have p10 : 0 ≤ (x3_1 : Int) := of_decide_eq_true sA; have q10 : x3_1 < (a0.size : Int) := of_decide_eq_true sA; have hx10 := bt_at a0 x3_1; replace p10 := eq_true p10; replace q10 := eq_true q10))
        go_roundg k1
        case measure => have := HK1.out; omega
        case rel => exact ⟨(wrap64 (x3_1 + 1)), (by first | rfl | (simp; done) | (simp [*]; done)), H', ⟨by have := HK1.out; omega⟩, by repeat (first | exact Drawn0.refl _ | apply Drawn0.step)⟩
       ·
        rw [if_neg c11] at H
        have c11b0 : ((bt a0 x3_1) == 45) = false := beq_eq_false_iff_ne.mpr c11
        have c11b1 : ((bt a0 x3_1) != 45) = true := bne_iff_ne.mpr c11
        obtain rfl := Option.some.inj H
        have p4 : 0 ≤ (x3_1 : Int) := of_decide_eq_true sA
        have q4 : x3_1 < (a0.size : Int) := of_decide_eq_true sA
        have hx4 := bt_at a0 x3_1
        replace p4 := eq_true p4
        replace q4 := eq_true q4
        go_wp2_with (first | ((with_reducible refine gate_callee (f := 45) rfl ?_); refine goesL_ (some 13) rfl rfl Tryz.func45 (by kernel_rfl) rfl #[.int .u8 (bt a0 x3_1)] rfl sM ?_; (with_reducible refine (wherryref11_letter.calls (bt a0 x3_1) false _ A5.out).mono ?_); rintro e w' ⟨rfl, ⟨nd, rfl⟩⟩; refine ⟨_, rfl, ?_⟩; have p7 : 0 ≤ (x3_1 : Int) := of_decide_eq_true sA; have q7 : x3_1 < (a0.size : Int) := of_decide_eq_true sA; have hx7 := bt_at a0 x3_1; replace p7 := eq_true p7; replace q7 := eq_true q7) | (go_at_call 46; (with_reducible refine (wherryref11_digit.calls (bt a0 x3_1) false _ A8.out).mono ?_); rintro e w' ⟨rfl, ⟨nd, rfl⟩⟩; have p10 : 0 ≤ (x3_1 : Int) := of_decide_eq_true sA; have q10 : x3_1 < (a0.size : Int) := of_decide_eq_true sA; have hx10 := bt_at a0 x3_1; replace p10 := eq_true p10; replace q10 := eq_true q10))
        go_ret
        exact ⟨by first | rfl | (simp; done) | (simp [*]; done), by repeat (first | exact Drawn0.refl _ | apply Drawn0.step)⟩
    ·
     rw [if_neg c3] at H
     exact absurd H (by simp)
   ·
    rw [if_neg c2] at H
    have c2b0 : decide (x3_1 < (a0.size : Int)) = false := decide_eq_false c2
    clear c2
    obtain rfl := Option.some.inj H
    go_wp2
    go_ret
    exact ⟨by first | rfl | (simp; done) | (simp [*]; done), by repeat (first | exact Drawn0.refl _ | apply Drawn0.step)⟩
end Go.Proofs.YthcdjgekmfnmnaaGreatDoor.PVerb
end
