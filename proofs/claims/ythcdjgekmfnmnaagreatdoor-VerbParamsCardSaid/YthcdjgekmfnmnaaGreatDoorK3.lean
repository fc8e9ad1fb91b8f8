/- Parts of the proof, put together by program. -/
import Derived.Test.YthcdjgekmfnmnaaGreatDoorK2
section
namespace Go.Proofs.YthcdjgekmfnmnaaGreatDoor.PVerb
open Go.RowKit Go.Proofs.YthcdjgekmfnmnaaGreatDoorW.PrintWords Go.Proofs.YthcdjgekmfnmnaaGreatDoorW.PrintLast Go.Proofs.YthcdjgekmfnmnaaGreatDoorW.PrintMore
attribute [local go_sem] max2_int min2_int max_two min_two max_three min_three max_four min_four
set_option linter.unusedVariables false
set_option linter.unusedSimpArgs false
def verb_strange.l0 : Nat → ByteArray → Bool → Int → Int → Option (Bool)
 | 0, _, _, _, _ => none
 | k + 1, x3, x4, x13, x14 => if x14 < x13 then (if 0 ≤ x14 then (if x14 < (x3.size : Int) then (if (bt x3 x14) ≥ 97 then (if (bt x3 x14) ≤ 122 then (verb_strange.l0 k x3 x4 x13 (wrap64 (x14 + 1))) else (if (bt x3 x14) ≥ 65 then (if (bt x3 x14) ≤ 90 then (verb_strange.l0 k x3 x4 x13 (wrap64 (x14 + 1))) else (if (bt x3 x14) ≥ 48 then (if (bt x3 x14) ≤ 57 then (verb_strange.l0 k x3 x4 x13 (wrap64 (x14 + 1))) else (if ((bt x3 x14) = 45) then (verb_strange.l0 k x3 x4 x13 (wrap64 (x14 + 1))) else (some false))) else (if ((bt x3 x14) = 45) then (verb_strange.l0 k x3 x4 x13 (wrap64 (x14 + 1))) else (some false)))) else (if (bt x3 x14) ≥ 48 then (if (bt x3 x14) ≤ 57 then (verb_strange.l0 k x3 x4 x13 (wrap64 (x14 + 1))) else (if ((bt x3 x14) = 45) then (verb_strange.l0 k x3 x4 x13 (wrap64 (x14 + 1))) else (some false))) else (if ((bt x3 x14) = 45) then (verb_strange.l0 k x3 x4 x13 (wrap64 (x14 + 1))) else (some false))))) else (if (bt x3 x14) ≥ 65 then (if (bt x3 x14) ≤ 90 then (verb_strange.l0 k x3 x4 x13 (wrap64 (x14 + 1))) else (if (bt x3 x14) ≥ 48 then (if (bt x3 x14) ≤ 57 then (verb_strange.l0 k x3 x4 x13 (wrap64 (x14 + 1))) else (if ((bt x3 x14) = 45) then (verb_strange.l0 k x3 x4 x13 (wrap64 (x14 + 1))) else (some false))) else (if ((bt x3 x14) = 45) then (verb_strange.l0 k x3 x4 x13 (wrap64 (x14 + 1))) else (some false)))) else (if (bt x3 x14) ≥ 48 then (if (bt x3 x14) ≤ 57 then (verb_strange.l0 k x3 x4 x13 (wrap64 (x14 + 1))) else (if ((bt x3 x14) = 45) then (verb_strange.l0 k x3 x4 x13 (wrap64 (x14 + 1))) else (some false))) else (if ((bt x3 x14) = 45) then (verb_strange.l0 k x3 x4 x13 (wrap64 (x14 + 1))) else (some false))))) else (none)) else (none)) else (if x4 = true then (some (!x3.toList.isEmpty)) else (some false))
def verb_strange.f (k : Nat) (a0 : ByteArray) : Option (Bool) := (verb_after.f a0 (⟨#[97, 117, 116, 104, 32]⟩ : ByteArray)).bind fun bt156 => (verb_strange.l0 k bt156.1 bt156.2 (bt156.1.size : Int) 0)
theorem verb_strange.mono_l : ∀ k, (∀ y0 y1 y2 y3, LeO (verb_strange.l0 k y0 y1 y2 y3) (verb_strange.l0 (k + 1) y0 y1 y2 y3))
 | 0 => fun _ _ _ _ r h => by simp [verb_strange.l0] at h
 | k + 1 => by
  have ih0 := verb_strange.mono_l k
  ·
   intro y0 y1 y2 y3
   unfold verb_strange.l0
   repeat' first
   | (with_reducible exact ih0 _ _ _ _)
   | (with_reducible exact LeO.refl _)
   | (with_reducible exact LeO.none _)
   | (with_reducible refine LeO.ite ?_ ?_)
   | (with_reducible refine LeO.bind ?_ (fun _ => ?_))
   | exact ih0 _ _ _ _
   | exact LeO.none _
   | refine LeO.ite ?_ ?_
   | refine LeO.bind ?_ (fun _ => ?_)
theorem verb_strange.mono : ∀ a0 k, LeO (verb_strange.f k a0) (verb_strange.f (k + 1) a0) := by
 intro a0 k
 have ih0 := verb_strange.mono_l k
 unfold verb_strange.f
 repeat' first
   | (with_reducible exact ih0 _ _ _ _)
   | (with_reducible exact LeO.refl _)
   | (with_reducible exact LeO.none _)
   | (with_reducible refine LeO.ite ?_ ?_)
   | (with_reducible refine LeO.bind ?_ (fun _ => ?_))
   | exact ih0 _ _ _ _
   | exact LeO.none _
   | refine LeO.ite ?_ ?_
   | refine LeO.bind ?_ (fun _ => ?_)
set_option maxHeartbeats 8000000 in
set_option maxRecDepth 100000 in
theorem verb_strange.calls (k : Nat) (a0 : ByteArray) (r : Bool) (w : World) (h : verb_strange.f k a0 = some r) :
  Calls Tryz.prog 23 #[.string a0] w fun e w' => e = .returned (.bool r) ∧ Below w.heap.size w w' := by
 have HB := Aside0.mk (Below.refl w.heap.size w)
 have H : ((verb_after.f a0 (⟨#[97, 117, 116, 104, 32]⟩ : ByteArray)).bind fun bt156 => (verb_strange.l0 k bt156.1 bt156.2 (bt156.1.size : Int) 0)) = some r := h
 clear h
 replace H := Option.bind_eq_some_iff.mp H
 obtain ⟨⟨t156, t157⟩, A20, H⟩ := H
 try dsimp -simprocs only at H
 have A2 := Aside0.mk A20
 clear A20
 have H' := Aside0.mk H
 clear H
 go_enter Tryz.func23, Tryz.ntmps23
 go_wp2_with (first | ((with_reducible refine gate_callee (f := 43) rfl ?_); refine goesL_ (some 9) rfl rfl Tryz.func43 (by kernel_rfl) rfl #[.string a0, .string ⟨#[97, 117, 116, 104, 32]⟩] rfl sM ?_; (with_reducible refine (verb_after.calls a0 (⟨#[97, 117, 116, 104, 32]⟩ : ByteArray) t156 t157 _ A2.out).mono ?_); rintro e w3 ⟨rfl, hb⟩; refine ⟨_, rfl, ?_⟩; replace HB := Aside0.mk (below_step (sB HB.out) hb); (try clear hb)))
 go_loopg [14] k (fun kq v14 w' => ∃ (x14_1 : Int), v14 = .int .i64 x14_1 ∧ Aside0 (verb_strange.l0 kq t156 t157 (t156.size : Int) x14_1 = some r) ∧ Aside0 (kq ≤ k) ∧ Aside0 (Below w.heap.size w w'))
 case atStart => exact ⟨(0), (by first | rfl | (simp; done) | (simp [*]; done)), H', ⟨Nat.le_refl _⟩, ⟨sB HB.out⟩⟩
 case round =>
  clear H'
  try clear c2; try clear p2
  obtain ⟨x14_1, rfl, HA, HK1, HB⟩ := hrel
  cases gk with
  | zero => exact absurd HA.out (by simp [verb_strange.l0])
  | succ k1 =>
   have H := HA.out
   clear HA
   simp only [verb_strange.l0] at H
   by_cases c4 : x14_1 < (t156.size : Int)
   ·
    rw [if_pos c4] at H
    have c4b0 : decide (x14_1 < (t156.size : Int)) = true := decide_eq_true c4
    clear c4
    by_cases c5 : 0 ≤ x14_1
    ·
     rw [if_pos c5] at H
     have c5b0 : decide (0 ≤ x14_1) = true := decide_eq_true c5
     clear c5
     by_cases c6 : x14_1 < (t156.size : Int)
     ·
      rw [if_pos c6] at H
      have c6b0 : decide (x14_1 < (t156.size : Int)) = true := decide_eq_true c6
      clear c6
      by_cases c8 : (bt t156 x14_1) ≥ 97
      ·
       rw [if_pos c8] at H
       have c8b0 : decide (97 ≤ (bt t156 x14_1)) = true := decide_eq_true c8
       clear c8
       by_cases c9 : (bt t156 x14_1) ≤ 122
       ·
        rw [if_pos c9] at H
        have c9b0 : decide ((bt t156 x14_1) ≤ 122) = true := decide_eq_true c9
        clear c9
        have H' := Aside0.mk H
        clear H
        have p7 : 0 ≤ (x14_1 : Int) := of_decide_eq_true sA
        have q7 : x14_1 < (t156.size : Int) := of_decide_eq_true sA
        have hx7 := bt_at t156 x14_1
        replace p7 := eq_true p7
        replace q7 := eq_true q7
        go_wp2
        go_roundg k1
        case measure => have := HK1.out; omega
        case rel => exact ⟨(wrap64 (x14_1 + 1)), (by first | rfl | (simp; done) | (simp [*]; done)), H', ⟨by have := HK1.out; omega⟩, ⟨sB HB.out⟩⟩
       ·
        rw [if_neg c9] at H
        have c9b0 : decide ((bt t156 x14_1) ≤ 122) = false := decide_eq_false c9
        clear c9
        by_cases c10 : (bt t156 x14_1) ≥ 65
        ·
         rw [if_pos c10] at H
         have c10b0 : decide (65 ≤ (bt t156 x14_1)) = true := decide_eq_true c10
         clear c10
         by_cases c11 : (bt t156 x14_1) ≤ 90
         ·
          rw [if_pos c11] at H
          have c11b0 : decide ((bt t156 x14_1) ≤ 90) = true := decide_eq_true c11
          clear c11
          have H' := Aside0.mk H
          clear H
          have p7 : 0 ≤ (x14_1 : Int) := of_decide_eq_true sA
          have q7 : x14_1 < (t156.size : Int) := of_decide_eq_true sA
          have hx7 := bt_at t156 x14_1
          replace p7 := eq_true p7
          replace q7 := eq_true q7
          go_wp2
          go_roundg k1
          case measure => have := HK1.out; omega
          case rel => exact ⟨(wrap64 (x14_1 + 1)), (by first | rfl | (simp; done) | (simp [*]; done)), H', ⟨by have := HK1.out; omega⟩, ⟨sB HB.out⟩⟩
         ·
          rw [if_neg c11] at H
          have c11b0 : decide ((bt t156 x14_1) ≤ 90) = false := decide_eq_false c11
          clear c11
          by_cases c12 : (bt t156 x14_1) ≥ 48
          ·
           rw [if_pos c12] at H
           have c12b0 : decide (48 ≤ (bt t156 x14_1)) = true := decide_eq_true c12
           clear c12
           by_cases c13 : (bt t156 x14_1) ≤ 57
           ·
            rw [if_pos c13] at H
            have c13b0 : decide ((bt t156 x14_1) ≤ 57) = true := decide_eq_true c13
            clear c13
            have H' := Aside0.mk H
            clear H
            have p7 : 0 ≤ (x14_1 : Int) := of_decide_eq_true sA
            have q7 : x14_1 < (t156.size : Int) := of_decide_eq_true sA
            have hx7 := bt_at t156 x14_1
            replace p7 := eq_true p7
            replace q7 := eq_true q7
            go_wp2
            go_roundg k1
            case measure => have := HK1.out; omega
            case rel => exact ⟨(wrap64 (x14_1 + 1)), (by first | rfl | (simp; done) | (simp [*]; done)), H', ⟨by have := HK1.out; omega⟩, ⟨sB HB.out⟩⟩
           ·
            rw [if_neg c13] at H
            have c13b0 : decide ((bt t156 x14_1) ≤ 57) = false := decide_eq_false c13
            clear c13
            by_cases c14 : ((bt t156 x14_1) = 45)
            ·
             rw [if_pos c14] at H
             have c14b0 : ((bt t156 x14_1) == 45) = true := beq_iff_eq.mpr c14
             have c14b1 : ((bt t156 x14_1) != 45) = false := bne_eq_false_iff_eq.mpr c14
             clear c14
             have H' := Aside0.mk H
             clear H
             have p7 : 0 ≤ (x14_1 : Int) := of_decide_eq_true sA
             have q7 : x14_1 < (t156.size : Int) := of_decide_eq_true sA
             have hx7 := bt_at t156 x14_1
             replace p7 := eq_true p7
             replace q7 := eq_true q7
             go_wp2
             go_roundg k1
             case measure => have := HK1.out; omega
             case rel => exact ⟨(wrap64 (x14_1 + 1)), (by first | rfl | (simp; done) | (simp [*]; done)), H', ⟨by have := HK1.out; omega⟩, ⟨sB HB.out⟩⟩
            ·
             rw [if_neg c14] at H
             have c14b0 : ((bt t156 x14_1) == 45) = false := beq_eq_false_iff_ne.mpr c14
             have c14b1 : ((bt t156 x14_1) != 45) = true := bne_iff_ne.mpr c14
             obtain rfl := Option.some.inj H
             have p7 : 0 ≤ (x14_1 : Int) := of_decide_eq_true sA
             have q7 : x14_1 < (t156.size : Int) := of_decide_eq_true sA
             have hx7 := bt_at t156 x14_1
             replace p7 := eq_true p7
             replace q7 := eq_true q7
             go_wp2
             go_ret
             exact ⟨by first | rfl | (simp [errW_none, errW_some] <;> rfl) | (simp [*, errW_none, errW_some] <;> rfl), sB HB.out⟩
          ·
           rw [if_neg c12] at H
           have c12b0 : decide (48 ≤ (bt t156 x14_1)) = false := decide_eq_false c12
           clear c12
           by_cases c15 : ((bt t156 x14_1) = 45)
           ·
            rw [if_pos c15] at H
            have c15b0 : ((bt t156 x14_1) == 45) = true := beq_iff_eq.mpr c15
            have c15b1 : ((bt t156 x14_1) != 45) = false := bne_eq_false_iff_eq.mpr c15
            clear c15
            have H' := Aside0.mk H
            clear H
            have p7 : 0 ≤ (x14_1 : Int) := of_decide_eq_true sA
            have q7 : x14_1 < (t156.size : Int) := of_decide_eq_true sA
            have hx7 := bt_at t156 x14_1
            replace p7 := eq_true p7
            replace q7 := eq_true q7
            go_wp2
            go_roundg k1
            case measure => have := HK1.out; omega
            case rel => exact ⟨(wrap64 (x14_1 + 1)), (by first | rfl | (simp; done) | (simp [*]; done)), H', ⟨by have := HK1.out; omega⟩, ⟨sB HB.out⟩⟩
           ·
            rw [if_neg c15] at H
            have c15b0 : ((bt t156 x14_1) == 45) = false := beq_eq_false_iff_ne.mpr c15
            have c15b1 : ((bt t156 x14_1) != 45) = true := bne_iff_ne.mpr c15
            obtain rfl := Option.some.inj H
            have p7 : 0 ≤ (x14_1 : Int) := of_decide_eq_true sA
            have q7 : x14_1 < (t156.size : Int) := of_decide_eq_true sA
            have hx7 := bt_at t156 x14_1
            replace p7 := eq_true p7
            replace q7 := eq_true q7
            go_wp2
            go_ret
            exact ⟨by first | rfl | (simp [errW_none, errW_some] <;> rfl) | (simp [*, errW_none, errW_some] <;> rfl), sB HB.out⟩
        ·
         rw [if_neg c10] at H
         have c10b0 : decide (65 ≤ (bt t156 x14_1)) = false := decide_eq_false c10
         clear c10
         by_cases c16 : (bt t156 x14_1) ≥ 48
         ·
          rw [if_pos c16] at H
          have c16b0 : decide (48 ≤ (bt t156 x14_1)) = true := decide_eq_true c16
          clear c16
          by_cases c17 : (bt t156 x14_1) ≤ 57
          ·
           rw [if_pos c17] at H
           have c17b0 : decide ((bt t156 x14_1) ≤ 57) = true := decide_eq_true c17
           clear c17
           have H' := Aside0.mk H
           clear H
           have p7 : 0 ≤ (x14_1 : Int) := of_decide_eq_true sA
           have q7 : x14_1 < (t156.size : Int) := of_decide_eq_true sA
           have hx7 := bt_at t156 x14_1
           replace p7 := eq_true p7
           replace q7 := eq_true q7
           go_wp2
           go_roundg k1
           case measure => have := HK1.out; omega
           case rel => exact ⟨(wrap64 (x14_1 + 1)), (by first | rfl | (simp; done) | (simp [*]; done)), H', ⟨by have := HK1.out; omega⟩, ⟨sB HB.out⟩⟩
          ·
           rw [if_neg c17] at H
           have c17b0 : decide ((bt t156 x14_1) ≤ 57) = false := decide_eq_false c17
           clear c17
           by_cases c18 : ((bt t156 x14_1) = 45)
           ·
            rw [if_pos c18] at H
            have c18b0 : ((bt t156 x14_1) == 45) = true := beq_iff_eq.mpr c18
            have c18b1 : ((bt t156 x14_1) != 45) = false := bne_eq_false_iff_eq.mpr c18
            clear c18
            have H' := Aside0.mk H
            clear H
            have p7 : 0 ≤ (x14_1 : Int) := of_decide_eq_true sA
            have q7 : x14_1 < (t156.size : Int) := of_decide_eq_true sA
            have hx7 := bt_at t156 x14_1
            replace p7 := eq_true p7
            replace q7 := eq_true q7
            go_wp2
            go_roundg k1
            case measure => have := HK1.out; omega
            case rel => exact ⟨(wrap64 (x14_1 + 1)), (by first | rfl | (simp; done) | (simp [*]; done)), H', ⟨by have := HK1.out; omega⟩, ⟨sB HB.out⟩⟩
           ·
            rw [if_neg c18] at H
            have c18b0 : ((bt t156 x14_1) == 45) = false := beq_eq_false_iff_ne.mpr c18
            have c18b1 : ((bt t156 x14_1) != 45) = true := bne_iff_ne.mpr c18
            obtain rfl := Option.some.inj H
            have p7 : 0 ≤ (x14_1 : Int) := of_decide_eq_true sA
            have q7 : x14_1 < (t156.size : Int) := of_decide_eq_true sA
            have hx7 := bt_at t156 x14_1
            replace p7 := eq_true p7
            replace q7 := eq_true q7
            go_wp2
            go_ret
            exact ⟨by first | rfl | (simp [errW_none, errW_some] <;> rfl) | (simp [*, errW_none, errW_some] <;> rfl), sB HB.out⟩
         ·
          rw [if_neg c16] at H
          have c16b0 : decide (48 ≤ (bt t156 x14_1)) = false := decide_eq_false c16
          clear c16
          by_cases c19 : ((bt t156 x14_1) = 45)
          ·
           rw [if_pos c19] at H
           have c19b0 : ((bt t156 x14_1) == 45) = true := beq_iff_eq.mpr c19
           have c19b1 : ((bt t156 x14_1) != 45) = false := bne_eq_false_iff_eq.mpr c19
           clear c19
           have H' := Aside0.mk H
           clear H
           have p7 : 0 ≤ (x14_1 : Int) := of_decide_eq_true sA
           have q7 : x14_1 < (t156.size : Int) := of_decide_eq_true sA
           have hx7 := bt_at t156 x14_1
           replace p7 := eq_true p7
           replace q7 := eq_true q7
           go_wp2
           go_roundg k1
           case measure => have := HK1.out; omega
           case rel => exact ⟨(wrap64 (x14_1 + 1)), (by first | rfl | (simp; done) | (simp [*]; done)), H', ⟨by have := HK1.out; omega⟩, ⟨sB HB.out⟩⟩
          ·
           rw [if_neg c19] at H
           have c19b0 : ((bt t156 x14_1) == 45) = false := beq_eq_false_iff_ne.mpr c19
           have c19b1 : ((bt t156 x14_1) != 45) = true := bne_iff_ne.mpr c19
           obtain rfl := Option.some.inj H
           have p7 : 0 ≤ (x14_1 : Int) := of_decide_eq_true sA
           have q7 : x14_1 < (t156.size : Int) := of_decide_eq_true sA
           have hx7 := bt_at t156 x14_1
           replace p7 := eq_true p7
           replace q7 := eq_true q7
           go_wp2
           go_ret
           exact ⟨by first | rfl | (simp [errW_none, errW_some] <;> rfl) | (simp [*, errW_none, errW_some] <;> rfl), sB HB.out⟩
      ·
       rw [if_neg c8] at H
       have c8b0 : decide (97 ≤ (bt t156 x14_1)) = false := decide_eq_false c8
       clear c8
       by_cases c20 : (bt t156 x14_1) ≥ 65
       ·
        rw [if_pos c20] at H
        have c20b0 : decide (65 ≤ (bt t156 x14_1)) = true := decide_eq_true c20
        clear c20
        by_cases c21 : (bt t156 x14_1) ≤ 90
        ·
         rw [if_pos c21] at H
         have c21b0 : decide ((bt t156 x14_1) ≤ 90) = true := decide_eq_true c21
         clear c21
         have H' := Aside0.mk H
         clear H
         have p7 : 0 ≤ (x14_1 : Int) := of_decide_eq_true sA
         have q7 : x14_1 < (t156.size : Int) := of_decide_eq_true sA
         have hx7 := bt_at t156 x14_1
         replace p7 := eq_true p7
         replace q7 := eq_true q7
         go_wp2
         go_roundg k1
         case measure => have := HK1.out; omega
         case rel => exact ⟨(wrap64 (x14_1 + 1)), (by first | rfl | (simp; done) | (simp [*]; done)), H', ⟨by have := HK1.out; omega⟩, ⟨sB HB.out⟩⟩
        ·
         rw [if_neg c21] at H
         have c21b0 : decide ((bt t156 x14_1) ≤ 90) = false := decide_eq_false c21
         clear c21
         by_cases c22 : (bt t156 x14_1) ≥ 48
         ·
          rw [if_pos c22] at H
          have c22b0 : decide (48 ≤ (bt t156 x14_1)) = true := decide_eq_true c22
          clear c22
          by_cases c23 : (bt t156 x14_1) ≤ 57
          ·
           rw [if_pos c23] at H
           have c23b0 : decide ((bt t156 x14_1) ≤ 57) = true := decide_eq_true c23
           clear c23
           have H' := Aside0.mk H
           clear H
           have p7 : 0 ≤ (x14_1 : Int) := of_decide_eq_true sA
           have q7 : x14_1 < (t156.size : Int) := of_decide_eq_true sA
           have hx7 := bt_at t156 x14_1
           replace p7 := eq_true p7
           replace q7 := eq_true q7
           go_wp2
           go_roundg k1
           case measure => have := HK1.out; omega
           case rel => exact ⟨(wrap64 (x14_1 + 1)), (by first | rfl | (simp; done) | (simp [*]; done)), H', ⟨by have := HK1.out; omega⟩, ⟨sB HB.out⟩⟩
          ·
           rw [if_neg c23] at H
           have c23b0 : decide ((bt t156 x14_1) ≤ 57) = false := decide_eq_false c23
           clear c23
           by_cases c24 : ((bt t156 x14_1) = 45)
           ·
            rw [if_pos c24] at H
            have c24b0 : ((bt t156 x14_1) == 45) = true := beq_iff_eq.mpr c24
            have c24b1 : ((bt t156 x14_1) != 45) = false := bne_eq_false_iff_eq.mpr c24
            clear c24
            have H' := Aside0.mk H
            clear H
            have p7 : 0 ≤ (x14_1 : Int) := of_decide_eq_true sA
            have q7 : x14_1 < (t156.size : Int) := of_decide_eq_true sA
            have hx7 := bt_at t156 x14_1
            replace p7 := eq_true p7
            replace q7 := eq_true q7
            go_wp2
            go_roundg k1
            case measure => have := HK1.out; omega
            case rel => exact ⟨(wrap64 (x14_1 + 1)), (by first | rfl | (simp; done) | (simp [*]; done)), H', ⟨by have := HK1.out; omega⟩, ⟨sB HB.out⟩⟩
           ·
            rw [if_neg c24] at H
            have c24b0 : ((bt t156 x14_1) == 45) = false := beq_eq_false_iff_ne.mpr c24
            have c24b1 : ((bt t156 x14_1) != 45) = true := bne_iff_ne.mpr c24
            obtain rfl := Option.some.inj H
            have p7 : 0 ≤ (x14_1 : Int) := of_decide_eq_true sA
            have q7 : x14_1 < (t156.size : Int) := of_decide_eq_true sA
            have hx7 := bt_at t156 x14_1
            replace p7 := eq_true p7
            replace q7 := eq_true q7
            go_wp2
            go_ret
            exact ⟨by first | rfl | (simp [errW_none, errW_some] <;> rfl) | (simp [*, errW_none, errW_some] <;> rfl), sB HB.out⟩
         ·
          rw [if_neg c22] at H
          have c22b0 : decide (48 ≤ (bt t156 x14_1)) = false := decide_eq_false c22
          clear c22
          by_cases c25 : ((bt t156 x14_1) = 45)
          ·
           rw [if_pos c25] at H
           have c25b0 : ((bt t156 x14_1) == 45) = true := beq_iff_eq.mpr c25
           have c25b1 : ((bt t156 x14_1) != 45) = false := bne_eq_false_iff_eq.mpr c25
           clear c25
           have H' := Aside0.mk H
           clear H
           have p7 : 0 ≤ (x14_1 : Int) := of_decide_eq_true sA
           have q7 : x14_1 < (t156.size : Int) := of_decide_eq_true sA
           have hx7 := bt_at t156 x14_1
           replace p7 := eq_true p7
           replace q7 := eq_true q7
           go_wp2
           go_roundg k1
           case measure => have := HK1.out; omega
           case rel => exact ⟨(wrap64 (x14_1 + 1)), (by first | rfl | (simp; done) | (simp [*]; done)), H', ⟨by have := HK1.out; omega⟩, ⟨sB HB.out⟩⟩
          ·
           rw [if_neg c25] at H
           have c25b0 : ((bt t156 x14_1) == 45) = false := beq_eq_false_iff_ne.mpr c25
           have c25b1 : ((bt t156 x14_1) != 45) = true := bne_iff_ne.mpr c25
           obtain rfl := Option.some.inj H
           have p7 : 0 ≤ (x14_1 : Int) := of_decide_eq_true sA
           have q7 : x14_1 < (t156.size : Int) := of_decide_eq_true sA
           have hx7 := bt_at t156 x14_1
           replace p7 := eq_true p7
           replace q7 := eq_true q7
           go_wp2
           go_ret
           exact ⟨by first | rfl | (simp [errW_none, errW_some] <;> rfl) | (simp [*, errW_none, errW_some] <;> rfl), sB HB.out⟩
       ·
        rw [if_neg c20] at H
        have c20b0 : decide (65 ≤ (bt t156 x14_1)) = false := decide_eq_false c20
        clear c20
        by_cases c26 : (bt t156 x14_1) ≥ 48
        ·
         rw [if_pos c26] at H
         have c26b0 : decide (48 ≤ (bt t156 x14_1)) = true := decide_eq_true c26
         clear c26
         by_cases c27 : (bt t156 x14_1) ≤ 57
         ·
          rw [if_pos c27] at H
          have c27b0 : decide ((bt t156 x14_1) ≤ 57) = true := decide_eq_true c27
          clear c27
          have H' := Aside0.mk H
          clear H
          have p7 : 0 ≤ (x14_1 : Int) := of_decide_eq_true sA
          have q7 : x14_1 < (t156.size : Int) := of_decide_eq_true sA
          have hx7 := bt_at t156 x14_1
          replace p7 := eq_true p7
          replace q7 := eq_true q7
          go_wp2
          go_roundg k1
          case measure => have := HK1.out; omega
          case rel => exact ⟨(wrap64 (x14_1 + 1)), (by first | rfl | (simp; done) | (simp [*]; done)), H', ⟨by have := HK1.out; omega⟩, ⟨sB HB.out⟩⟩
         ·
          rw [if_neg c27] at H
          have c27b0 : decide ((bt t156 x14_1) ≤ 57) = false := decide_eq_false c27
          clear c27
          by_cases c28 : ((bt t156 x14_1) = 45)
          ·
           rw [if_pos c28] at H
           have c28b0 : ((bt t156 x14_1) == 45) = true := beq_iff_eq.mpr c28
           have c28b1 : ((bt t156 x14_1) != 45) = false := bne_eq_false_iff_eq.mpr c28
           clear c28
           have H' := Aside0.mk H
           clear H
           have p7 : 0 ≤ (x14_1 : Int) := of_decide_eq_true sA
           have q7 : x14_1 < (t156.size : Int) := of_decide_eq_true sA
           have hx7 := bt_at t156 x14_1
           replace p7 := eq_true p7
           replace q7 := eq_true q7
           go_wp2
           go_roundg k1
           case measure => have := HK1.out; omega
           case rel => exact ⟨(wrap64 (x14_1 + 1)), (by first | rfl | (simp; done) | (simp [*]; done)), H', ⟨by have := HK1.out; omega⟩, ⟨sB HB.out⟩⟩
          ·
           rw [if_neg c28] at H
           have c28b0 : ((bt t156 x14_1) == 45) = false := beq_eq_false_iff_ne.mpr c28
           have c28b1 : ((bt t156 x14_1) != 45) = true := bne_iff_ne.mpr c28
           obtain rfl := Option.some.inj H
           have p7 : 0 ≤ (x14_1 : Int) := of_decide_eq_true sA
           have q7 : x14_1 < (t156.size : Int) := of_decide_eq_true sA
           have hx7 := bt_at t156 x14_1
           replace p7 := eq_true p7
           replace q7 := eq_true q7
           go_wp2
           go_ret
           exact ⟨by first | rfl | (simp [errW_none, errW_some] <;> rfl) | (simp [*, errW_none, errW_some] <;> rfl), sB HB.out⟩
        ·
         rw [if_neg c26] at H
         have c26b0 : decide (48 ≤ (bt t156 x14_1)) = false := decide_eq_false c26
         clear c26
         by_cases c29 : ((bt t156 x14_1) = 45)
         ·
          rw [if_pos c29] at H
          have c29b0 : ((bt t156 x14_1) == 45) = true := beq_iff_eq.mpr c29
          have c29b1 : ((bt t156 x14_1) != 45) = false := bne_eq_false_iff_eq.mpr c29
          clear c29
          have H' := Aside0.mk H
          clear H
          have p7 : 0 ≤ (x14_1 : Int) := of_decide_eq_true sA
          have q7 : x14_1 < (t156.size : Int) := of_decide_eq_true sA
          have hx7 := bt_at t156 x14_1
          replace p7 := eq_true p7
          replace q7 := eq_true q7
          go_wp2
          go_roundg k1
          case measure => have := HK1.out; omega
          case rel => exact ⟨(wrap64 (x14_1 + 1)), (by first | rfl | (simp; done) | (simp [*]; done)), H', ⟨by have := HK1.out; omega⟩, ⟨sB HB.out⟩⟩
         ·
          rw [if_neg c29] at H
          have c29b0 : ((bt t156 x14_1) == 45) = false := beq_eq_false_iff_ne.mpr c29
          have c29b1 : ((bt t156 x14_1) != 45) = true := bne_iff_ne.mpr c29
          obtain rfl := Option.some.inj H
          have p7 : 0 ≤ (x14_1 : Int) := of_decide_eq_true sA
          have q7 : x14_1 < (t156.size : Int) := of_decide_eq_true sA
          have hx7 := bt_at t156 x14_1
          replace p7 := eq_true p7
          replace q7 := eq_true q7
          go_wp2
          go_ret
          exact ⟨by first | rfl | (simp [errW_none, errW_some] <;> rfl) | (simp [*, errW_none, errW_some] <;> rfl), sB HB.out⟩
     ·
      rw [if_neg c6] at H
      exact absurd H (by simp)
    ·
     rw [if_neg c5] at H
     exact absurd H (by simp)
   ·
    rw [if_neg c4] at H
    have c4b0 : decide (x14_1 < (t156.size : Int)) = false := decide_eq_false c4
    clear c4
    by_cases c30 : t157 = true
    ·
     subst c30
     rw [if_pos rfl] at H
     try dsimp -simprocs only at H
     obtain rfl := Option.some.inj H
     go_wp2
     go_ret
     exact ⟨by first | rfl | (simp [errW_none, errW_some] <;> rfl) | (simp [*, errW_none, errW_some] <;> rfl), sB HB.out⟩
    ·
     replace c30 := Bool.eq_false_iff.mpr c30
     subst c30
     rw [if_neg (show ¬ (false = true) by decide)] at H
     try dsimp -simprocs only at H
     obtain rfl := Option.some.inj H
     go_wp2
     go_ret
     exact ⟨by first | rfl | (simp [errW_none, errW_some] <;> rfl) | (simp [*, errW_none, errW_some] <;> rfl), sB HB.out⟩
end Go.Proofs.YthcdjgekmfnmnaaGreatDoor.PVerb
end
section
namespace Go.Proofs.YthcdjgekmfnmnaaGreatDoor.PVerb
open Go.RowKit Go.Proofs.YthcdjgekmfnmnaaGreatDoorW.PrintWords Go.Proofs.YthcdjgekmfnmnaaGreatDoorW.PrintLast Go.Proofs.YthcdjgekmfnmnaaGreatDoorW.PrintMore
attribute [local go_sem] max2_int min2_int max_two min_two max_three min_three max_four min_four
set_option linter.unusedVariables false
set_option linter.unusedSimpArgs false
mutual
def verb_Parse.l0 : Nat → ByteArray → Int → Int → Option (Int × ByteArray × Bool × ByteArray × ByteArray × (List (S47)) × Int)
 | 0, _, _, _ => none
 | k + 1, x0, x16, x17 => if x17 < x16 then (if 0 ≤ x17 then (if x17 < (x0.size : Int) then (if (bt x0 x17) < 32 then (some (0, (⟨#[]⟩ : ByteArray), false, (⟨#[]⟩ : ByteArray), (⟨#[]⟩ : ByteArray), ([] : List (S47)), 500)) else (if (bt x0 x17) > 126 then (some (0, (⟨#[]⟩ : ByteArray), false, (⟨#[]⟩ : ByteArray), (⟨#[]⟩ : ByteArray), ([] : List (S47)), 500)) else (verb_Parse.l0 k x0 x16 (wrap64 (x17 + 1))))) else (none)) else (none)) else ((strings_Cut.f x0 (⟨#[32]⟩ : ByteArray)).bind fun bt159 => ((path_Fold.f bt159.1).bind fun t162 => (if t162.toList = ([] : List UInt8) then (verb_Parse.j1 k x0 true) else ((strings_Split.f (⟨#[101, 104, 108, 111, 32, 104, 101, 108, 111, 32, 109, 97, 105, 108, 32, 114, 99, 112, 116, 32, 100, 97, 116, 97, 32, 114, 115, 101, 116, 32, 113, 117, 105, 116, 32, 110, 111, 111, 112, 32, 118, 114, 102, 121, 32, 101, 116, 114, 110, 32, 97, 117, 116, 104, 32, 97, 116, 114, 110]⟩ : ByteArray) (⟨#[32]⟩ : ByteArray)).bind fun t163 => ((slices_Contains_string_string.f k t163 t162).bind fun t166 => (verb_Parse.j1 k x0 (!t166)))))))
def verb_Parse.j1 : Nat → ByteArray → Bool → Option (Int × ByteArray × Bool × ByteArray × ByteArray × (List (S47)) × Int)
 | 0, _, _ => none
 | k + 1, x0, x47 => if x47 = true then (some (0, (⟨#[]⟩ : ByteArray), false, (⟨#[]⟩ : ByteArray), (⟨#[]⟩ : ByteArray), ([] : List (S47)), 500)) else ((verb_read.f x0).bind fun bt167 => (if bt167.2.2.2.2.2.2 = true then (some (bt167.1, bt167.2.1, bt167.2.2.1, bt167.2.2.2.1, bt167.2.2.2.2.1, bt167.2.2.2.2.2.1, 0)) else ((verb_strange.f k x0).bind fun t177 => (if t177 = true then (some (0, (⟨#[]⟩ : ByteArray), false, (⟨#[]⟩ : ByteArray), (⟨#[]⟩ : ByteArray), ([] : List (S47)), 504)) else (some (0, (⟨#[]⟩ : ByteArray), false, (⟨#[]⟩ : ByteArray), (⟨#[]⟩ : ByteArray), ([] : List (S47)), 501))))))
end
def verb_Parse.f (k : Nat) (a0 : ByteArray) : Option (Int × ByteArray × Bool × ByteArray × ByteArray × (List (S47)) × Int) := if (a0.size : Int) > 510 then (some (0, (⟨#[]⟩ : ByteArray), false, (⟨#[]⟩ : ByteArray), (⟨#[]⟩ : ByteArray), ([] : List (S47)), 500)) else (verb_Parse.l0 k a0 (a0.size : Int) 0)
theorem verb_Parse.mono_l : ∀ k, (∀ y0 y1 y2, LeO (verb_Parse.l0 k y0 y1 y2) (verb_Parse.l0 (k + 1) y0 y1 y2)) ∧ (∀ y0 y1, LeO (verb_Parse.j1 k y0 y1) (verb_Parse.j1 (k + 1) y0 y1))
 | 0 => ⟨fun _ _ _ r h => by simp [verb_Parse.l0] at h, fun _ _ r h => by simp [verb_Parse.j1] at h⟩
 | k + 1 => by
  obtain ⟨ih0, ih1⟩ := verb_Parse.mono_l k
  refine ⟨?_, ?_⟩
  ·
   intro y0 y1 y2
   unfold verb_Parse.l0
   repeat' first
   | (with_reducible exact ih0 _ _ _)
   | (with_reducible exact ih1 _ _)
   | (with_reducible exact slices_Contains_string_string.mono _ _ _)
   | (with_reducible exact verb_strange.mono _ _)
   | (with_reducible exact LeO.refl _)
   | (with_reducible exact LeO.none _)
   | (with_reducible refine LeO.ite ?_ ?_)
   | (with_reducible refine LeO.bind ?_ (fun _ => ?_))
   | exact ih0 _ _ _
   | exact ih1 _ _
   | exact slices_Contains_string_string.mono _ _ _
   | exact verb_strange.mono _ _
   | exact LeO.none _
   | refine LeO.ite ?_ ?_
   | refine LeO.bind ?_ (fun _ => ?_)
  ·
   intro y0 y1
   unfold verb_Parse.j1
   repeat' first
   | (with_reducible exact ih0 _ _ _)
   | (with_reducible exact ih1 _ _)
   | (with_reducible exact slices_Contains_string_string.mono _ _ _)
   | (with_reducible exact verb_strange.mono _ _)
   | (with_reducible exact LeO.refl _)
   | (with_reducible exact LeO.none _)
   | (with_reducible refine LeO.ite ?_ ?_)
   | (with_reducible refine LeO.bind ?_ (fun _ => ?_))
   | exact ih0 _ _ _
   | exact ih1 _ _
   | exact slices_Contains_string_string.mono _ _ _
   | exact verb_strange.mono _ _
   | exact LeO.none _
   | refine LeO.ite ?_ ?_
   | refine LeO.bind ?_ (fun _ => ?_)
theorem verb_Parse.mono : ∀ a0 k, LeO (verb_Parse.f k a0) (verb_Parse.f (k + 1) a0) := by
 intro a0 k
 obtain ⟨ih0, ih1⟩ := verb_Parse.mono_l k
 unfold verb_Parse.f
 repeat' first
   | (with_reducible exact ih0 _ _ _)
   | (with_reducible exact ih1 _ _)
   | (with_reducible exact slices_Contains_string_string.mono _ _ _)
   | (with_reducible exact verb_strange.mono _ _)
   | (with_reducible exact LeO.refl _)
   | (with_reducible exact LeO.none _)
   | (with_reducible refine LeO.ite ?_ ?_)
   | (with_reducible refine LeO.bind ?_ (fun _ => ?_))
   | exact ih0 _ _ _
   | exact ih1 _ _
   | exact slices_Contains_string_string.mono _ _ _
   | exact verb_strange.mono _ _
   | exact LeO.none _
   | refine LeO.ite ?_ ?_
   | refine LeO.bind ?_ (fun _ => ?_)
set_option maxHeartbeats 8000000 in
set_option maxRecDepth 100000 in
theorem verb_Parse.calls (k : Nat) (a0 : ByteArray) (r1 : Int) (r2 : ByteArray) (r3 : Bool) (r4 : ByteArray) (r5 : ByteArray) (r6 : List (S47)) (r7 : Int) (w : World) (hG : Glob w) (h : verb_Parse.f k a0 = some (r1, r2, r3, r4, r5, r6, r7)) :
  Calls Tryz.prog 6 #[.string a0] w fun e w' => ∃ v5_ : Value, e = .returned (.tuple #[.agg #[.int .i64 r1, .string r2, .bool r3, .string r4, .string r5, v5_], .int .i64 r7]) ∧ Kd.R k47 47 w' w.heap.size (fun _ => True) v5_ r6 ∧ Below w.heap.size w w' := by
 have hu26 := Tryz.underlying26
 have HB := Aside0.mk (Below.refl w.heap.size w)
 have HG := Aside0.mk hG
 clear hG
 have H : (if (a0.size : Int) > 510 then (some (0, (⟨#[]⟩ : ByteArray), false, (⟨#[]⟩ : ByteArray), (⟨#[]⟩ : ByteArray), ([] : List (S47)), 500)) else (verb_Parse.l0 k a0 (a0.size : Int) 0)) = some (r1, r2, r3, r4, r5, r6, r7) := h
 clear h
 by_cases c2 : (a0.size : Int) > 510
 ·
  rw [if_pos c2] at H
  have c2b0 : decide (510 < (a0.size : Int)) = true := decide_eq_true c2
  have c2b1 : decide (510 < a0.size) = true := decide_eq_true (by omega)
  clear c2
  simp only [Option.some.injEq, Prod.mk.injEq] at H
  obtain ⟨rfl, rfl, rfl, rfl, rfl, rfl, rfl⟩ := H
  go_enter Tryz.func6, Tryz.ntmps6
  go_wp2_with (first | ((with_reducible refine gate_dst (N := 2) rfl ?_); refine box_event ?hg (N := 2) ?hd (cs := #[.int .i64 0, .string ⟨#[]⟩, .bool false, .string ⟨#[]⟩, .string ⟨#[]⟩, .slice none 0 0]) (t := 26) ?hr ?_; (case hd => rfl); (case hg => rfl); (case hr => first | (go_simp; done) | (go_simp; rfl)); intro gb158 hg w3 hbox hb; have BK158 := Aside0.mk (hbox); have GW158 := Aside0.mk ((by rw [hg]; exact (below_size (sB HB.out)) : w.heap.size ≤ gb158)); have GE158 := Aside0.mk ((by rw [hg]; exact (below_size (sB HB.out)) : w.heap.size ≤ gb158)); replace HB := Aside0.mk (below_step (sB HB.out) hb); clear hb hbox hg; have hcz4_0 := sC BK158.out 0; have hcz4_1 := sC BK158.out 1; have hcz4_2 := sC BK158.out 2; have hcz4_3 := sC BK158.out 3; have hcz4_4 := sC BK158.out 4; have hcz4_5 := sC BK158.out 5; have hfz4_0 := blk_frozen BK158.out 0; have hfz4_1 := blk_frozen BK158.out 1; have hfz4_2 := blk_frozen BK158.out 2; have hfz4_3 := blk_frozen BK158.out 3; have hfz4_4 := blk_frozen BK158.out 4; have hfz4_5 := blk_frozen BK158.out 5))
  refine bodyPost_ret (results_ct rfl _ _ gb158 26 #[.int .i64 0, .string ⟨#[]⟩, .bool false, .string ⟨#[]⟩, .string ⟨#[]⟩, .slice none 0 0] (0, 0) _ rfl (by refine sK ?_; refine blk_put (cs := #[.int .i64 0, .string ⟨#[]⟩, .bool false, .string ⟨#[]⟩, .string ⟨#[]⟩, .slice none 0 0]) ?_ 5 _ rfl; refine sK ?_; refine blk_put (cs := #[.int .i64 0, .string ⟨#[]⟩, .bool false, .string ⟨#[]⟩, .string ⟨#[]⟩, .slice none 0 0]) ?_ 4 _ rfl; refine sK ?_; refine blk_put (cs := #[.int .i64 0, .string ⟨#[]⟩, .bool false, .string ⟨#[]⟩, .string ⟨#[]⟩, .slice none 0 0]) ?_ 3 _ rfl; refine sK ?_; refine blk_put (cs := #[.int .i64 0, .string ⟨#[]⟩, .bool false, .string ⟨#[]⟩, .string ⟨#[]⟩, .slice none 0 0]) ?_ 2 _ rfl; refine sK ?_; refine blk_put (cs := #[.int .i64 0, .string ⟨#[]⟩, .bool false, .string ⟨#[]⟩, .string ⟨#[]⟩, .slice none 0 0]) ?_ 1 _ rfl; refine sK ?_; refine blk_put (cs := #[.int .i64 0, .string ⟨#[]⟩, .bool false, .string ⟨#[]⟩, .string ⟨#[]⟩, .slice none 0 0]) ?_ 0 _ rfl; refine sK ?_; exact BK158.out) Tryz.underlying26 rfl (by kernel_rfl)) rfl ?_
  exact ⟨_, by first | rfl | (simp [errW_none, errW_some] <;> rfl) | (simp [*, errW_none, errW_some] <;> rfl), by first | exact Kd.R_nil _ _ _ _ _ | exact Kd.N_nil _ _ _ _ _ | exact Kd.V_nil _ _ _ _ _ | exact Kd.Q_nil _ _ _ _ _ | exact Kd.S_nil _ _ _ _ _, sB HB.out⟩
 ·
  rw [if_neg c2] at H
  have c2b0 : decide (510 < (a0.size : Int)) = false := decide_eq_false c2
  have c2b1 : decide (510 < a0.size) = false := decide_eq_false (by omega)
  clear c2
  have H' := Aside0.mk H
  clear H
  go_enter Tryz.func6, Tryz.ntmps6
  go_wp2_with (first | ((with_reducible refine gate_dst (N := 2) rfl ?_); refine box_event ?hg (N := 2) ?hd (cs := #[.int .i64 0, .string ⟨#[]⟩, .bool false, .string ⟨#[]⟩, .string ⟨#[]⟩, .slice none 0 0]) (t := 26) ?hr ?_; (case hd => rfl); (case hg => rfl); (case hr => first | (go_simp; done) | (go_simp; rfl)); intro gb158 hg w5 hbox hb; have BK158 := Aside0.mk (hbox); have GW158 := Aside0.mk ((by rw [hg]; exact (below_size (sB HB.out)) : w.heap.size ≤ gb158)); have GE158 := Aside0.mk ((by rw [hg]; exact (below_size (sB HB.out)) : w.heap.size ≤ gb158)); replace HB := Aside0.mk (below_step (sB HB.out) hb); clear hb hbox hg))
  go_loopg [17] k (fun kq v17 w' => ∃ (x17_1 : Int) (x159000_1 : Int) (x159001_1 : ByteArray) (x159002_1 : Bool) (x159003_1 : ByteArray) (x159004_1 : ByteArray), v17 = .int .i64 x17_1 ∧ Aside0 (verb_Parse.l0 kq a0 (a0.size : Int) x17_1 = some (r1, r2, r3, r4, r5, r6, r7)) ∧ Aside0 (kq ≤ k) ∧ Aside0 (w'.heap[gb158]? = some (.cells #[.int .i64 x159000_1, .string x159001_1, .bool x159002_1, .string x159003_1, .string x159004_1, (.slice none 0 0)] 26 (0, 0))) ∧ Aside0 (Below w.heap.size w w'))
  case atStart => exact ⟨(0), (0), ((⟨#[]⟩ : ByteArray)), (false), ((⟨#[]⟩ : ByteArray)), ((⟨#[]⟩ : ByteArray)), (by first | rfl | (simp; done) | (simp [*]; done)), H', ⟨Nat.le_refl _⟩, ⟨by refine sK ?_; exact BK158.out⟩, ⟨sB HB.out⟩⟩
  case round =>
   clear H'
   try clear c2; try clear c2b0; try clear c2b1; try clear p2; try clear hcz4_0; try clear hcz4_1; try clear hcz4_2; try clear hcz4_3; try clear hcz4_4; try clear hcz4_5; try clear hfz4_0; try clear hfz4_1; try clear hfz4_2; try clear hfz4_3; try clear hfz4_4; try clear hfz4_5
   obtain ⟨x17_1, x159000_1, x159001_1, x159002_1, x159003_1, x159004_1, rfl, HA, HK1, BK158, HB⟩ := hrel
   cases gk with
   | zero => exact absurd HA.out (by simp [verb_Parse.l0])
   | succ k1 =>
    have H := HA.out
    clear HA
    simp only [verb_Parse.l0] at H
    by_cases c6 : x17_1 < (a0.size : Int)
    ·
     rw [if_pos c6] at H
     have c6b0 : decide (x17_1 < (a0.size : Int)) = true := decide_eq_true c6
     clear c6
     by_cases c7 : 0 ≤ x17_1
     ·
      rw [if_pos c7] at H
      have c7b0 : decide (0 ≤ x17_1) = true := decide_eq_true c7
      clear c7
      by_cases c8 : x17_1 < (a0.size : Int)
      ·
       rw [if_pos c8] at H
       have c8b0 : decide (x17_1 < (a0.size : Int)) = true := decide_eq_true c8
       clear c8
       by_cases c10 : (bt a0 x17_1) < 32
       ·
        rw [if_pos c10] at H
        have c10b0 : decide ((bt a0 x17_1) < 32) = true := decide_eq_true c10
        clear c10
        simp only [Option.some.injEq, Prod.mk.injEq] at H
        obtain ⟨rfl, rfl, rfl, rfl, rfl, rfl, rfl⟩ := H
        have p9 : 0 ≤ (x17_1 : Int) := of_decide_eq_true sA
        have q9 : x17_1 < (a0.size : Int) := of_decide_eq_true sA
        have hx9 := bt_at a0 x17_1
        replace p9 := eq_true p9
        replace q9 := eq_true q9
        have hcz11_0 := sC BK158.out 0
        have hcz11_1 := sC BK158.out 1
        have hcz11_2 := sC BK158.out 2
        have hcz11_3 := sC BK158.out 3
        have hcz11_4 := sC BK158.out 4
        have hcz11_5 := sC BK158.out 5
        have hfz11_0 := blk_frozen BK158.out 0
        have hfz11_1 := blk_frozen BK158.out 1
        have hfz11_2 := blk_frozen BK158.out 2
        have hfz11_3 := blk_frozen BK158.out 3
        have hfz11_4 := blk_frozen BK158.out 4
        have hfz11_5 := blk_frozen BK158.out 5
        go_wp2
        refine bodyPost_ret (results_ct rfl _ _ gb158 26 #[.int .i64 0, .string ⟨#[]⟩, .bool false, .string ⟨#[]⟩, .string ⟨#[]⟩, .slice none 0 0] (0, 0) _ rfl (by refine sK ?_; refine blk_put (cs := #[.int .i64 0, .string ⟨#[]⟩, .bool false, .string ⟨#[]⟩, .string ⟨#[]⟩, .slice none 0 0]) ?_ 5 _ rfl; refine sK ?_; refine blk_put (cs := #[.int .i64 0, .string ⟨#[]⟩, .bool false, .string ⟨#[]⟩, .string x159004_1, .slice none 0 0]) ?_ 4 _ rfl; refine sK ?_; refine blk_put (cs := #[.int .i64 0, .string ⟨#[]⟩, .bool false, .string x159003_1, .string x159004_1, .slice none 0 0]) ?_ 3 _ rfl; refine sK ?_; refine blk_put (cs := #[.int .i64 0, .string ⟨#[]⟩, .bool x159002_1, .string x159003_1, .string x159004_1, .slice none 0 0]) ?_ 2 _ rfl; refine sK ?_; refine blk_put (cs := #[.int .i64 0, .string x159001_1, .bool x159002_1, .string x159003_1, .string x159004_1, .slice none 0 0]) ?_ 1 _ rfl; refine sK ?_; refine blk_put (cs := #[.int .i64 x159000_1, .string x159001_1, .bool x159002_1, .string x159003_1, .string x159004_1, .slice none 0 0]) ?_ 0 _ rfl; refine sK ?_; exact BK158.out) Tryz.underlying26 rfl (by kernel_rfl)) rfl ?_
        exact ⟨_, by first | rfl | (simp [errW_none, errW_some] <;> rfl) | (simp [*, errW_none, errW_some] <;> rfl), by first | exact Kd.R_nil _ _ _ _ _ | exact Kd.N_nil _ _ _ _ _ | exact Kd.V_nil _ _ _ _ _ | exact Kd.Q_nil _ _ _ _ _ | exact Kd.S_nil _ _ _ _ _, sB HB.out⟩
       ·
        rw [if_neg c10] at H
        have c10b0 : decide ((bt a0 x17_1) < 32) = false := decide_eq_false c10
        clear c10
        by_cases c13 : (bt a0 x17_1) > 126
        ·
         rw [if_pos c13] at H
         have c13b0 : decide (126 < (bt a0 x17_1)) = true := decide_eq_true c13
         clear c13
         simp only [Option.some.injEq, Prod.mk.injEq] at H
         obtain ⟨rfl, rfl, rfl, rfl, rfl, rfl, rfl⟩ := H
         have p9 : 0 ≤ (x17_1 : Int) := of_decide_eq_true sA
         have q9 : x17_1 < (a0.size : Int) := of_decide_eq_true sA
         have hx9 := bt_at a0 x17_1
         replace p9 := eq_true p9
         replace q9 := eq_true q9
         have p12 : 0 ≤ (x17_1 : Int) := of_decide_eq_true sA
         have q12 : x17_1 < (a0.size : Int) := of_decide_eq_true sA
         have hx12 := bt_at a0 x17_1
         replace p12 := eq_true p12
         replace q12 := eq_true q12
         have hcz14_0 := sC BK158.out 0
         have hcz14_1 := sC BK158.out 1
         have hcz14_2 := sC BK158.out 2
         have hcz14_3 := sC BK158.out 3
         have hcz14_4 := sC BK158.out 4
         have hcz14_5 := sC BK158.out 5
         have hfz14_0 := blk_frozen BK158.out 0
         have hfz14_1 := blk_frozen BK158.out 1
         have hfz14_2 := blk_frozen BK158.out 2
         have hfz14_3 := blk_frozen BK158.out 3
         have hfz14_4 := blk_frozen BK158.out 4
         have hfz14_5 := blk_frozen BK158.out 5
         go_wp2
         refine bodyPost_ret (results_ct rfl _ _ gb158 26 #[.int .i64 0, .string ⟨#[]⟩, .bool false, .string ⟨#[]⟩, .string ⟨#[]⟩, .slice none 0 0] (0, 0) _ rfl (by refine sK ?_; refine blk_put (cs := #[.int .i64 0, .string ⟨#[]⟩, .bool false, .string ⟨#[]⟩, .string ⟨#[]⟩, .slice none 0 0]) ?_ 5 _ rfl; refine sK ?_; refine blk_put (cs := #[.int .i64 0, .string ⟨#[]⟩, .bool false, .string ⟨#[]⟩, .string x159004_1, .slice none 0 0]) ?_ 4 _ rfl; refine sK ?_; refine blk_put (cs := #[.int .i64 0, .string ⟨#[]⟩, .bool false, .string x159003_1, .string x159004_1, .slice none 0 0]) ?_ 3 _ rfl; refine sK ?_; refine blk_put (cs := #[.int .i64 0, .string ⟨#[]⟩, .bool x159002_1, .string x159003_1, .string x159004_1, .slice none 0 0]) ?_ 2 _ rfl; refine sK ?_; refine blk_put (cs := #[.int .i64 0, .string x159001_1, .bool x159002_1, .string x159003_1, .string x159004_1, .slice none 0 0]) ?_ 1 _ rfl; refine sK ?_; refine blk_put (cs := #[.int .i64 x159000_1, .string x159001_1, .bool x159002_1, .string x159003_1, .string x159004_1, .slice none 0 0]) ?_ 0 _ rfl; refine sK ?_; exact BK158.out) Tryz.underlying26 rfl (by kernel_rfl)) rfl ?_
         exact ⟨_, by first | rfl | (simp [errW_none, errW_some] <;> rfl) | (simp [*, errW_none, errW_some] <;> rfl), by first | exact Kd.R_nil _ _ _ _ _ | exact Kd.N_nil _ _ _ _ _ | exact Kd.V_nil _ _ _ _ _ | exact Kd.Q_nil _ _ _ _ _ | exact Kd.S_nil _ _ _ _ _, sB HB.out⟩
        ·
         rw [if_neg c13] at H
         have c13b0 : decide (126 < (bt a0 x17_1)) = false := decide_eq_false c13
         clear c13
         have H' := Aside0.mk H
         clear H
         have p9 : 0 ≤ (x17_1 : Int) := of_decide_eq_true sA
         have q9 : x17_1 < (a0.size : Int) := of_decide_eq_true sA
         have hx9 := bt_at a0 x17_1
         replace p9 := eq_true p9
         replace q9 := eq_true q9
         have p12 : 0 ≤ (x17_1 : Int) := of_decide_eq_true sA
         have q12 : x17_1 < (a0.size : Int) := of_decide_eq_true sA
         have hx12 := bt_at a0 x17_1
         replace p12 := eq_true p12
         replace q12 := eq_true q12
         go_wp2
         go_roundg k1
         case measure => have := HK1.out; omega
         case rel => exact ⟨(wrap64 (x17_1 + 1)), (x159000_1), (x159001_1), (x159002_1), (x159003_1), (x159004_1), (by first | rfl | (simp; done) | (simp [*]; done)), H', ⟨by have := HK1.out; omega⟩, ⟨by refine sK ?_; exact BK158.out⟩, ⟨sB HB.out⟩⟩
      ·
       rw [if_neg c8] at H
       exact absurd H (by simp)
     ·
      rw [if_neg c7] at H
      exact absurd H (by simp)
    ·
     rw [if_neg c6] at H
     have c6b0 : decide (x17_1 < (a0.size : Int)) = false := decide_eq_false c6
     clear c6
     replace H := Option.bind_eq_some_iff.mp H
     obtain ⟨⟨t159, t160, t161⟩, A150, H⟩ := H
     try dsimp -simprocs only at H
     have A15 := Aside0.mk A150
     clear A150
     replace H := Option.bind_eq_some_iff.mp H
     obtain ⟨t162, A160, H⟩ := H
     try dsimp -simprocs only at H
     have A16 := Aside0.mk A160
     clear A160
     have HC17 := Aside0.mk H
     clear H
     go_upto_region 11 with (first | ((with_reducible refine gate_callee (f := 18) rfl ?_); refine goesL_ (some 34) rfl rfl Tryz.func18 (by kernel_rfl) rfl #[.string a0, .string ⟨#[32]⟩] rfl sM ?_; (with_reducible refine (strings_Cut.calls a0 (⟨#[32]⟩ : ByteArray) t159 t160 t161 _ ?side1 A15.out).mono ?_); (case side1 => exact Glob.below HG.out (sB HB.out)); rintro e w18 ⟨rfl, hb⟩; refine ⟨_, rfl, ?_⟩; replace BK158 := Aside0.mk (blk_below (g := gb158) (o := .cells #[.int .i64 x159000_1, .string x159001_1, .bool x159002_1, .string x159003_1, .string x159004_1, .slice none 0 0] 26 (0, 0)) (sK BK158.out) hb); replace HB := Aside0.mk (below_step (sB HB.out) hb); (try clear hb)) | ((with_reducible refine gate_callee (f := 19) rfl ?_); refine goesL_ (some 39) rfl rfl Tryz.func19 (by kernel_rfl) rfl #[.string t159] rfl sM ?_; (with_reducible refine (path_Fold.calls t159 t162 _ A16.out).mono ?_); rintro e w19 ⟨rfl, hb⟩; refine ⟨_, rfl, ?_⟩; replace BK158 := Aside0.mk (blk_below (g := gb158) (o := .cells #[.int .i64 x159000_1, .string x159001_1, .bool x159002_1, .string x159003_1, .string x159004_1, .slice none 0 0] 26 (0, 0)) (sK BK158.out) hb); replace HB := Aside0.mk (below_step (sB HB.out) hb); (try clear hb)))
     (try simp only [Act.put, List.setIfInBounds_toArray, List.set_cons_zero, List.set_cons_succ])
     go_cut [47] (fun v47 wc => ∃ (kq : Nat) (x47_16 : Bool), v47 = .bool x47_16 ∧ Aside0 (verb_Parse.j1 kq a0 x47_16 = some (r1, r2, r3, r4, r5, r6, r7)) ∧ Aside0 (kq ≤ k1) ∧ Aside0 (wc.heap[gb158]? = some (.cells #[.int .i64 x159000_1, .string x159001_1, .bool x159002_1, .string x159003_1, .string x159004_1, (.slice none 0 0)] 26 (0, 0))) ∧ Aside0 (Below w.heap.size w wc))
     case first =>
      have H := HC17.out
      clear HC17
      by_cases c20 : t162.toList = ([] : List UInt8)
      ·
       rw [if_pos c20] at H
       have c20b0 : (t162.toList == ([] : List UInt8)) = true := beq_iff_eq.mpr c20
       have c20b1 : (t162.toList != ([] : List UInt8)) = false := bne_eq_false_iff_eq.mpr c20
       clear c20
       (first | rw [c20b0] | (simp only [i64_w, i32_w]; rw [c20b0]) | skip)
       have H' := Aside0.mk H
       clear H
       go_wp2
       go_meet
       case rel => exact ⟨_, (true), (by first | rfl | (simp; done) | (simp [*]; done)), H', ⟨by have := HK1.out; first | omega | exact Nat.le_refl _⟩, ⟨by refine sK ?_; exact BK158.out⟩, ⟨sB HB.out⟩⟩
      ·
       rw [if_neg c20] at H
       have c20b0 : (t162.toList == ([] : List UInt8)) = false := beq_eq_false_iff_ne.mpr c20
       have c20b1 : (t162.toList != ([] : List UInt8)) = true := bne_iff_ne.mpr c20
       (first | rw [c20b0] | (simp only [i64_w, i32_w]; rw [c20b0]) | skip)
       replace H := Option.bind_eq_some_iff.mp H
       obtain ⟨t163, A210, H⟩ := H
       try dsimp -simprocs only at H
       have A21 := Aside0.mk A210
       clear A210
       replace H := Option.bind_eq_some_iff.mp H
       obtain ⟨t166, A220, H⟩ := H
       try dsimp -simprocs only at H
       have A22 := Aside0.mk A220
       clear A220
       have H' := Aside0.mk H
       clear H
       go_wp2_with (first | (go_at_call 21; (with_reducible refine (strings_Split.calls (⟨#[101, 104, 108, 111, 32, 104, 101, 108, 111, 32, 109, 97, 105, 108, 32, 114, 99, 112, 116, 32, 100, 97, 116, 97, 32, 114, 115, 101, 116, 32, 113, 117, 105, 116, 32, 110, 111, 111, 112, 32, 118, 114, 102, 121, 32, 101, 116, 114, 110, 32, 97, 117, 116, 104, 32, 97, 116, 114, 110]⟩ : ByteArray) (⟨#[32]⟩ : ByteArray) t163 _ ?side1 A21.out).mono ?_); (case side1 => exact Glob.below HG.out (sB HB.out)); rintro e w23 ⟨v164, rfl, ho0, hb⟩; have HO165 := Aside0.mk (Kd.R_lower ho0 (below_size (sB HB.out))); replace BK158 := Aside0.mk (blk_below (g := gb158) (o := .cells #[.int .i64 x159000_1, .string x159001_1, .bool x159002_1, .string x159003_1, .string x159004_1, .slice none 0 0] 26 (0, 0)) (sK BK158.out) hb); replace HB := Aside0.mk (below_step (sB HB.out) hb); (try clear hb); (try clear ho0); obtain ⟨Ao24, co24, eo24⟩ := Kd.R_slice HO165.out; subst eo24) | (go_at_call 20; (with_reducible refine (slices_Contains_string_string.calls k1 _ _ t163 t162 t166 _ ?side1 ?side2 A22.out).mono ?_); (case side1 => repeat (first | exact (Kd.R_reads' HO165.out).2.2 | (with_reducible refine Kd.C_alloc ?_ _) | (with_reducible refine Kd.C_drewN ?_ _) | (with_reducible refine Kd.C_drew ?_))); (case side2 => exact (Kd.R_reads' HO165.out).2.1); rintro e w' ⟨rfl, ⟨nd, rfl⟩⟩))
       go_meet
       case rel => exact ⟨_, (!t166), (by first | rfl | (simp; done) | (simp [*]; done)), H', ⟨by have := HK1.out; first | omega | exact Nat.le_refl _⟩, ⟨by refine sK ?_; exact BK158.out⟩, ⟨sB HB.out⟩⟩
     case rest =>
      clear HC17
      try clear c1; try clear p1; try clear q1; try clear hx1; try clear c2; try clear c2b0; try clear c2b1; try clear p2; try clear c6; try clear c6b0; try clear p6; try clear c7; try clear c7b0; try clear c8; try clear c8b0; try clear p9; try clear q9; try clear hx9; try clear c10; try clear c10b0; try clear p12; try clear q12; try clear hx12; try clear c13; try clear c13b0; try clear c18; try clear c19; try clear c20; try clear c20b0; try clear c20b1; try clear hcz11_0; try clear hcz11_1; try clear hcz11_2; try clear hcz11_3; try clear hcz11_4; try clear hcz11_5; try clear hcz14_0; try clear hcz14_1; try clear hcz14_2; try clear hcz14_3; try clear hcz14_4; try clear hcz14_5; try clear hcz4_0; try clear hcz4_1; try clear hcz4_2; try clear hcz4_3; try clear hcz4_4; try clear hcz4_5; try clear hfz11_0; try clear hfz11_1; try clear hfz11_2; try clear hfz11_3; try clear hfz11_4; try clear hfz11_5; try clear hfz14_0; try clear hfz14_1; try clear hfz14_2; try clear hfz14_3; try clear hfz14_4; try clear hfz14_5; try clear hfz4_0; try clear hfz4_1; try clear hfz4_2; try clear hfz4_3; try clear hfz4_4; try clear hfz4_5; try clear p12; try clear p2; try clear p9; try clear q12; try clear q9
      obtain ⟨kq, x47_16, rfl, HA, HJ16, BK158, HB⟩ := hcut
      cases kq with
      | zero => exact absurd HA.out (by simp [verb_Parse.j1])
      | succ kj16 =>
       have H := HA.out
       clear HA
       simp only [verb_Parse.j1] at H
       by_cases c25 : x47_16 = true
       ·
        subst c25
        rw [if_pos rfl] at H
        try dsimp -simprocs only at H
        simp only [Option.some.injEq, Prod.mk.injEq] at H
        obtain ⟨rfl, rfl, rfl, rfl, rfl, rfl, rfl⟩ := H
        have hcz26_0 := sC BK158.out 0
        have hcz26_1 := sC BK158.out 1
        have hcz26_2 := sC BK158.out 2
        have hcz26_3 := sC BK158.out 3
        have hcz26_4 := sC BK158.out 4
        have hcz26_5 := sC BK158.out 5
        have hfz26_0 := blk_frozen BK158.out 0
        have hfz26_1 := blk_frozen BK158.out 1
        have hfz26_2 := blk_frozen BK158.out 2
        have hfz26_3 := blk_frozen BK158.out 3
        have hfz26_4 := blk_frozen BK158.out 4
        have hfz26_5 := blk_frozen BK158.out 5
        go_wp2
        refine bodyPost_ret (results_ct rfl _ _ gb158 26 #[.int .i64 0, .string ⟨#[]⟩, .bool false, .string ⟨#[]⟩, .string ⟨#[]⟩, .slice none 0 0] (0, 0) _ rfl (by refine sK ?_; refine blk_put (cs := #[.int .i64 0, .string ⟨#[]⟩, .bool false, .string ⟨#[]⟩, .string ⟨#[]⟩, .slice none 0 0]) ?_ 5 _ rfl; refine sK ?_; refine blk_put (cs := #[.int .i64 0, .string ⟨#[]⟩, .bool false, .string ⟨#[]⟩, .string x159004_1, .slice none 0 0]) ?_ 4 _ rfl; refine sK ?_; refine blk_put (cs := #[.int .i64 0, .string ⟨#[]⟩, .bool false, .string x159003_1, .string x159004_1, .slice none 0 0]) ?_ 3 _ rfl; refine sK ?_; refine blk_put (cs := #[.int .i64 0, .string ⟨#[]⟩, .bool x159002_1, .string x159003_1, .string x159004_1, .slice none 0 0]) ?_ 2 _ rfl; refine sK ?_; refine blk_put (cs := #[.int .i64 0, .string x159001_1, .bool x159002_1, .string x159003_1, .string x159004_1, .slice none 0 0]) ?_ 1 _ rfl; refine sK ?_; refine blk_put (cs := #[.int .i64 x159000_1, .string x159001_1, .bool x159002_1, .string x159003_1, .string x159004_1, .slice none 0 0]) ?_ 0 _ rfl; refine sK ?_; exact BK158.out) Tryz.underlying26 rfl (by kernel_rfl)) rfl ?_
        exact ⟨_, by first | rfl | (simp [errW_none, errW_some] <;> rfl) | (simp [*, errW_none, errW_some] <;> rfl), by first | exact Kd.R_nil _ _ _ _ _ | exact Kd.N_nil _ _ _ _ _ | exact Kd.V_nil _ _ _ _ _ | exact Kd.Q_nil _ _ _ _ _ | exact Kd.S_nil _ _ _ _ _, sB HB.out⟩
       ·
        replace c25 := Bool.eq_false_iff.mpr c25
        subst c25
        rw [if_neg (show ¬ (false = true) by decide)] at H
        try dsimp -simprocs only at H
        replace H := Option.bind_eq_some_iff.mp H
        obtain ⟨⟨t167, t168, t169, t170, t171, t172, t175⟩, A270, H⟩ := H
        try dsimp -simprocs only at H
        have A27 := Aside0.mk A270
        clear A270
        by_cases c28 : t175 = true
        ·
         subst c28
         rw [if_pos rfl] at H
         try dsimp -simprocs only at H
         simp only [Option.some.injEq, Prod.mk.injEq] at H
         obtain ⟨rfl, rfl, rfl, rfl, rfl, rfl, rfl⟩ := H
         go_wp2_with (first | ((with_reducible refine gate_callee (f := 22) rfl ?_); refine goesL_ (some 51) rfl rfl Tryz.func22 (by kernel_rfl) rfl #[.string a0] rfl sM ?_; (with_reducible refine (verb_read.calls a0 t167 t168 t169 t170 t171 t172 true _ ?side1 A27.out).mono ?_); (case side1 => exact Glob.below HG.out (sB HB.out)); rintro e w29 ⟨v173, rfl, ho0, hb⟩; refine ⟨_, rfl, ?_⟩; have HO174 := Aside0.mk (Kd.R_lower ho0 (below_size (sB HB.out))); replace BK158 := Aside0.mk (blk_below (g := gb158) (o := .cells #[.int .i64 x159000_1, .string x159001_1, .bool x159002_1, .string x159003_1, .string x159004_1, .slice none 0 0] 26 (0, 0)) (sK BK158.out) hb); replace HB := Aside0.mk (below_step (sB HB.out) hb); (try clear hb); (try clear ho0)) | ((with_reducible refine gate_dst (N := 9) rfl ?_); refine box_event ?hg (N := 9) ?hd (cs := #[.int .i64 0, .string ⟨#[]⟩, .bool false, .string ⟨#[]⟩, .string ⟨#[]⟩, .slice none 0 0]) (t := 26) ?hr ?_; (case hd => rfl); (case hg => rfl); (case hr => first | (go_simp; done) | (go_simp; rfl)); intro gb176 hg w30 hbox hb; replace HO174 := Aside0.mk (Kd.R_below (sR HO174.out) hb); have BK176 := Aside0.mk (hbox); have GW176 := Aside0.mk ((by rw [hg]; exact (below_size (sB HB.out)) : w.heap.size ≤ gb176)); have GE176 := Aside0.mk ((by rw [hg]; exact (below_size (sB HB.out)) : w.heap.size ≤ gb176)); replace HB := Aside0.mk (below_step (sB HB.out) hb); have NB158_176 := Aside0.mk ((by rw [hg]; exact Nat.ne_of_lt (blk_lt (g := gb158) (o := .cells #[.int .i64 x159000_1, .string x159001_1, .bool x159002_1, .string x159003_1, .string x159004_1, .slice none 0 0] 26 (0, 0)) (sK BK158.out)) : gb158 ≠ gb176)); have NB176_158 := Aside0.mk ((by rw [hg]; exact Nat.ne_of_gt (blk_lt (g := gb158) (o := .cells #[.int .i64 x159000_1, .string x159001_1, .bool x159002_1, .string x159003_1, .string x159004_1, .slice none 0 0] 26 (0, 0)) (sK BK158.out)) : gb176 ≠ gb158)); replace BK158 := Aside0.mk (blk_below (g := gb158) (o := .cells #[.int .i64 x159000_1, .string x159001_1, .bool x159002_1, .string x159003_1, .string x159004_1, .slice none 0 0] 26 (0, 0)) (sK BK158.out) hb); clear hb hbox hg; have hnb31 := NB176_158.out; have hnc31 := NB158_176.out; have hcz32_0 := sC BK176.out 0; have hcz32_1 := sC BK176.out 1; have hcz32_2 := sC BK176.out 2; have hcz32_3 := sC BK176.out 3; have hcz32_4 := sC BK176.out 4; have hcz32_5 := sC BK176.out 5; have hfz32_0 := blk_frozen BK176.out 0; have hfz32_1 := blk_frozen BK176.out 1; have hfz32_2 := blk_frozen BK176.out 2; have hfz32_3 := blk_frozen BK176.out 3; have hfz32_4 := blk_frozen BK176.out 4; have hfz32_5 := blk_frozen BK176.out 5; obtain ⟨Ao33, co33, eo33⟩ := Kd.R_slice HO174.out; subst eo33; have hcz34_0 := sC BK158.out 0; have hcz34_1 := sC BK158.out 1; have hcz34_2 := sC BK158.out 2; have hcz34_3 := sC BK158.out 3; have hcz34_4 := sC BK158.out 4; have hcz34_5 := sC BK158.out 5; have hfz34_0 := blk_frozen BK158.out 0; have hfz34_1 := blk_frozen BK158.out 1; have hfz34_2 := blk_frozen BK158.out 2; have hfz34_3 := blk_frozen BK158.out 3; have hfz34_4 := blk_frozen BK158.out 4; have hfz34_5 := blk_frozen BK158.out 5))
         refine bodyPost_ret (results_ct rfl _ _ gb158 26 #[.int .i64 t167, .string t168, .bool t169, .string t170, .string t171, .slice Ao33 t172.length co33] (0, 0) _ rfl (by refine sK ?_; refine blk_put (cs := #[.int .i64 t167, .string t168, .bool t169, .string t170, .string t171, .slice none 0 0]) ?_ 5 _ rfl; refine sK ?_; refine blk_put (cs := #[.int .i64 t167, .string t168, .bool t169, .string t170, .string x159004_1, .slice none 0 0]) ?_ 4 _ rfl; refine sK ?_; refine blk_put (cs := #[.int .i64 t167, .string t168, .bool t169, .string x159003_1, .string x159004_1, .slice none 0 0]) ?_ 3 _ rfl; refine sK ?_; refine blk_put (cs := #[.int .i64 t167, .string t168, .bool x159002_1, .string x159003_1, .string x159004_1, .slice none 0 0]) ?_ 2 _ rfl; refine sK ?_; refine blk_put (cs := #[.int .i64 t167, .string x159001_1, .bool x159002_1, .string x159003_1, .string x159004_1, .slice none 0 0]) ?_ 1 _ rfl; refine sK ?_; refine blk_put (cs := #[.int .i64 x159000_1, .string x159001_1, .bool x159002_1, .string x159003_1, .string x159004_1, .slice none 0 0]) ?_ 0 _ rfl; refine sK ?_; refine blk_far ?_ NB158_176.out _; refine sK ?_; refine blk_far ?_ NB158_176.out _; refine sK ?_; refine blk_far ?_ NB158_176.out _; refine sK ?_; refine blk_far ?_ NB158_176.out _; refine sK ?_; refine blk_far ?_ NB158_176.out _; refine sK ?_; refine blk_far ?_ NB158_176.out _; refine sK ?_; exact BK158.out) Tryz.underlying26 rfl (by kernel_rfl)) rfl ?_
         exact ⟨_, by first | rfl | (simp [errW_none, errW_some] <;> rfl) | (simp [*, errW_none, errW_some] <;> rfl), by (with_reducible repeat (first | apply Kd.R_alloc | apply Kd.R_drewN | apply Kd.R_drew)); exact Kd.R_mono (Kd.R_far (p := ⟨gb158, 5, none⟩) (Kd.R_far (p := ⟨gb158, 4, none⟩) (Kd.R_far (p := ⟨gb158, 3, none⟩) (Kd.R_far (p := ⟨gb158, 2, none⟩) (Kd.R_far (p := ⟨gb158, 1, none⟩) (Kd.R_far (p := ⟨gb158, 0, none⟩) (Kd.R_far (p := ⟨gb176, 5, none⟩) (Kd.R_far (p := ⟨gb176, 4, none⟩) (Kd.R_far (p := ⟨gb176, 3, none⟩) (Kd.R_far (p := ⟨gb176, 2, none⟩) (Kd.R_far (p := ⟨gb176, 1, none⟩) (Kd.R_far (p := ⟨gb176, 0, none⟩) (Kd.R_types (Kd.R_types HO174.out BK176.out (by decide)) BK158.out (by decide)) (fun _ hk => hk.1.2) (.int .i64 t167)) (fun _ hk => hk.1.2) (.string t168)) (fun _ hk => hk.1.2) (.bool t169)) (fun _ hk => hk.1.2) (.string t170)) (fun _ hk => hk.1.2) (.string t171)) (fun _ hk => hk.1.2) (.slice Ao33 t172.length co33)) (fun _ hk => hk.2) (.int .i64 t167)) (fun _ hk => hk.2) (.string t168)) (fun _ hk => hk.2) (.bool t169)) (fun _ hk => hk.2) (.string t170)) (fun _ hk => hk.2) (.string t171)) (fun _ hk => hk.2) (.slice Ao33 t172.length co33)) (fun _ hk => trivial), sB HB.out⟩
        ·
         replace c28 := Bool.eq_false_iff.mpr c28
         subst c28
         rw [if_neg (show ¬ (false = true) by decide)] at H
         try dsimp -simprocs only at H
         replace H := Option.bind_eq_some_iff.mp H
         obtain ⟨t177, A350, H⟩ := H
         try dsimp -simprocs only at H
         have A35 := Aside0.mk A350
         clear A350
         by_cases c36 : t177 = true
         ·
          subst c36
          rw [if_pos rfl] at H
          try dsimp -simprocs only at H
          simp only [Option.some.injEq, Prod.mk.injEq] at H
          obtain ⟨rfl, rfl, rfl, rfl, rfl, rfl, rfl⟩ := H
          go_wp2_with (first | ((with_reducible refine gate_callee (f := 22) rfl ?_); refine goesL_ (some 51) rfl rfl Tryz.func22 (by kernel_rfl) rfl #[.string a0] rfl sM ?_; (with_reducible refine (verb_read.calls a0 t167 t168 t169 t170 t171 t172 false _ ?side1 A27.out).mono ?_); (case side1 => exact Glob.below HG.out (sB HB.out)); rintro e w37 ⟨v173, rfl, ho0, hb⟩; refine ⟨_, rfl, ?_⟩; have HO174 := Aside0.mk (Kd.R_lower ho0 (below_size (sB HB.out))); replace BK158 := Aside0.mk (blk_below (g := gb158) (o := .cells #[.int .i64 x159000_1, .string x159001_1, .bool x159002_1, .string x159003_1, .string x159004_1, .slice none 0 0] 26 (0, 0)) (sK BK158.out) hb); replace HB := Aside0.mk (below_step (sB HB.out) hb); (try clear hb); (try clear ho0)) | ((with_reducible refine gate_dst (N := 9) rfl ?_); refine box_event ?hg (N := 9) ?hd (cs := #[.int .i64 0, .string ⟨#[]⟩, .bool false, .string ⟨#[]⟩, .string ⟨#[]⟩, .slice none 0 0]) (t := 26) ?hr ?_; (case hd => rfl); (case hg => rfl); (case hr => first | (go_simp; done) | (go_simp; rfl)); intro gb176 hg w38 hbox hb; replace HO174 := Aside0.mk (Kd.R_below (sR HO174.out) hb); have BK176 := Aside0.mk (hbox); have GW176 := Aside0.mk ((by rw [hg]; exact (below_size (sB HB.out)) : w.heap.size ≤ gb176)); have GE176 := Aside0.mk ((by rw [hg]; exact (below_size (sB HB.out)) : w.heap.size ≤ gb176)); replace HB := Aside0.mk (below_step (sB HB.out) hb); have NB158_176 := Aside0.mk ((by rw [hg]; exact Nat.ne_of_lt (blk_lt (g := gb158) (o := .cells #[.int .i64 x159000_1, .string x159001_1, .bool x159002_1, .string x159003_1, .string x159004_1, .slice none 0 0] 26 (0, 0)) (sK BK158.out)) : gb158 ≠ gb176)); have NB176_158 := Aside0.mk ((by rw [hg]; exact Nat.ne_of_gt (blk_lt (g := gb158) (o := .cells #[.int .i64 x159000_1, .string x159001_1, .bool x159002_1, .string x159003_1, .string x159004_1, .slice none 0 0] 26 (0, 0)) (sK BK158.out)) : gb176 ≠ gb158)); replace BK158 := Aside0.mk (blk_below (g := gb158) (o := .cells #[.int .i64 x159000_1, .string x159001_1, .bool x159002_1, .string x159003_1, .string x159004_1, .slice none 0 0] 26 (0, 0)) (sK BK158.out) hb); clear hb hbox hg; have hnb39 := NB176_158.out; have hnc39 := NB158_176.out; have hcz40_0 := sC BK176.out 0; have hcz40_1 := sC BK176.out 1; have hcz40_2 := sC BK176.out 2; have hcz40_3 := sC BK176.out 3; have hcz40_4 := sC BK176.out 4; have hcz40_5 := sC BK176.out 5; have hfz40_0 := blk_frozen BK176.out 0; have hfz40_1 := blk_frozen BK176.out 1; have hfz40_2 := blk_frozen BK176.out 2; have hfz40_3 := blk_frozen BK176.out 3; have hfz40_4 := blk_frozen BK176.out 4; have hfz40_5 := blk_frozen BK176.out 5; obtain ⟨Ao41, co41, eo41⟩ := Kd.R_slice HO174.out; subst eo41) | ((with_reducible refine gate_callee (f := 23) rfl ?_); refine goesL_ (some 59) rfl rfl Tryz.func23 (by kernel_rfl) rfl #[.string a0] rfl sM ?_; (with_reducible refine (verb_strange.calls kj16 a0 true _ A35.out).mono ?_); rintro e w42 ⟨rfl, hb⟩; refine ⟨_, rfl, ?_⟩; replace HO174 := Aside0.mk (Kd.R_below (by (with_reducible repeat (first | apply Kd.R_alloc | apply Kd.R_drewN | apply Kd.R_drew)); exact (Kd.R_mono (Kd.R_far (p := ⟨gb176, 5, none⟩) (Kd.R_far (p := ⟨gb176, 4, none⟩) (Kd.R_far (p := ⟨gb176, 3, none⟩) (Kd.R_far (p := ⟨gb176, 2, none⟩) (Kd.R_far (p := ⟨gb176, 1, none⟩) (Kd.R_far (p := ⟨gb176, 0, none⟩) (Kd.R_types HO174.out BK176.out (by decide)) (fun _ hk => hk.2) (.int .i64 t167)) (fun _ hk => hk.2) (.string t168)) (fun _ hk => hk.2) (.bool t169)) (fun _ hk => hk.2) (.string t170)) (fun _ hk => hk.2) (.string t171)) (fun _ hk => hk.2) (.slice Ao41 t172.length co41)) (fun _ h_ => h_.1))) hb); replace BK158 := Aside0.mk (blk_below (g := gb158) (o := .cells #[.int .i64 x159000_1, .string x159001_1, .bool x159002_1, .string x159003_1, .string x159004_1, .slice none 0 0] 26 (0, 0)) (by refine sK ?_; refine blk_far ?_ NB158_176.out _; refine sK ?_; refine blk_far ?_ NB158_176.out _; refine sK ?_; refine blk_far ?_ NB158_176.out _; refine sK ?_; refine blk_far ?_ NB158_176.out _; refine sK ?_; refine blk_far ?_ NB158_176.out _; refine sK ?_; refine blk_far ?_ NB158_176.out _; refine sK ?_; exact BK158.out) hb); replace BK176 := Aside0.mk (blk_below (g := gb176) (o := .cells #[.int .i64 t167, .string t168, .bool t169, .string t170, .string t171, .slice Ao41 t172.length co41] 26 (0, 0)) (by refine sK ?_; refine blk_put (cs := #[.int .i64 t167, .string t168, .bool t169, .string t170, .string t171, .slice none 0 0]) ?_ 5 _ rfl; refine sK ?_; refine blk_put (cs := #[.int .i64 t167, .string t168, .bool t169, .string t170, .string ⟨#[]⟩, .slice none 0 0]) ?_ 4 _ rfl; refine sK ?_; refine blk_put (cs := #[.int .i64 t167, .string t168, .bool t169, .string ⟨#[]⟩, .string ⟨#[]⟩, .slice none 0 0]) ?_ 3 _ rfl; refine sK ?_; refine blk_put (cs := #[.int .i64 t167, .string t168, .bool false, .string ⟨#[]⟩, .string ⟨#[]⟩, .slice none 0 0]) ?_ 2 _ rfl; refine sK ?_; refine blk_put (cs := #[.int .i64 t167, .string ⟨#[]⟩, .bool false, .string ⟨#[]⟩, .string ⟨#[]⟩, .slice none 0 0]) ?_ 1 _ rfl; refine sK ?_; refine blk_put (cs := #[.int .i64 0, .string ⟨#[]⟩, .bool false, .string ⟨#[]⟩, .string ⟨#[]⟩, .slice none 0 0]) ?_ 0 _ rfl; refine sK ?_; exact BK176.out) hb); replace HB := Aside0.mk (below_step (sB HB.out) hb); (try clear hb); (try clear hk); have hcz43_0 := sC BK158.out 0; have hcz43_1 := sC BK158.out 1; have hcz43_2 := sC BK158.out 2; have hcz43_3 := sC BK158.out 3; have hcz43_4 := sC BK158.out 4; have hcz43_5 := sC BK158.out 5; have hfz43_0 := blk_frozen BK158.out 0; have hfz43_1 := blk_frozen BK158.out 1; have hfz43_2 := blk_frozen BK158.out 2; have hfz43_3 := blk_frozen BK158.out 3; have hfz43_4 := blk_frozen BK158.out 4; have hfz43_5 := blk_frozen BK158.out 5))
          refine bodyPost_ret (results_ct rfl _ _ gb158 26 #[.int .i64 0, .string ⟨#[]⟩, .bool false, .string ⟨#[]⟩, .string ⟨#[]⟩, .slice none 0 0] (0, 0) _ rfl (by refine sK ?_; refine blk_put (cs := #[.int .i64 0, .string ⟨#[]⟩, .bool false, .string ⟨#[]⟩, .string ⟨#[]⟩, .slice none 0 0]) ?_ 5 _ rfl; refine sK ?_; refine blk_put (cs := #[.int .i64 0, .string ⟨#[]⟩, .bool false, .string ⟨#[]⟩, .string x159004_1, .slice none 0 0]) ?_ 4 _ rfl; refine sK ?_; refine blk_put (cs := #[.int .i64 0, .string ⟨#[]⟩, .bool false, .string x159003_1, .string x159004_1, .slice none 0 0]) ?_ 3 _ rfl; refine sK ?_; refine blk_put (cs := #[.int .i64 0, .string ⟨#[]⟩, .bool x159002_1, .string x159003_1, .string x159004_1, .slice none 0 0]) ?_ 2 _ rfl; refine sK ?_; refine blk_put (cs := #[.int .i64 0, .string x159001_1, .bool x159002_1, .string x159003_1, .string x159004_1, .slice none 0 0]) ?_ 1 _ rfl; refine sK ?_; refine blk_put (cs := #[.int .i64 x159000_1, .string x159001_1, .bool x159002_1, .string x159003_1, .string x159004_1, .slice none 0 0]) ?_ 0 _ rfl; refine sK ?_; exact BK158.out) Tryz.underlying26 rfl (by kernel_rfl)) rfl ?_
          exact ⟨_, by first | rfl | (simp [errW_none, errW_some] <;> rfl) | (simp [*, errW_none, errW_some] <;> rfl), by first | exact Kd.R_nil _ _ _ _ _ | exact Kd.N_nil _ _ _ _ _ | exact Kd.V_nil _ _ _ _ _ | exact Kd.Q_nil _ _ _ _ _ | exact Kd.S_nil _ _ _ _ _, sB HB.out⟩
         ·
          replace c36 := Bool.eq_false_iff.mpr c36
          subst c36
          rw [if_neg (show ¬ (false = true) by decide)] at H
          try dsimp -simprocs only at H
          simp only [Option.some.injEq, Prod.mk.injEq] at H
          obtain ⟨rfl, rfl, rfl, rfl, rfl, rfl, rfl⟩ := H
          go_wp2_with (first | ((with_reducible refine gate_callee (f := 22) rfl ?_); refine goesL_ (some 51) rfl rfl Tryz.func22 (by kernel_rfl) rfl #[.string a0] rfl sM ?_; (with_reducible refine (verb_read.calls a0 t167 t168 t169 t170 t171 t172 false _ ?side1 A27.out).mono ?_); (case side1 => exact Glob.below HG.out (sB HB.out)); rintro e w44 ⟨v173, rfl, ho0, hb⟩; refine ⟨_, rfl, ?_⟩; have HO174 := Aside0.mk (Kd.R_lower ho0 (below_size (sB HB.out))); replace BK158 := Aside0.mk (blk_below (g := gb158) (o := .cells #[.int .i64 x159000_1, .string x159001_1, .bool x159002_1, .string x159003_1, .string x159004_1, .slice none 0 0] 26 (0, 0)) (sK BK158.out) hb); replace HB := Aside0.mk (below_step (sB HB.out) hb); (try clear hb); (try clear ho0)) | ((with_reducible refine gate_dst (N := 9) rfl ?_); refine box_event ?hg (N := 9) ?hd (cs := #[.int .i64 0, .string ⟨#[]⟩, .bool false, .string ⟨#[]⟩, .string ⟨#[]⟩, .slice none 0 0]) (t := 26) ?hr ?_; (case hd => rfl); (case hg => rfl); (case hr => first | (go_simp; done) | (go_simp; rfl)); intro gb176 hg w45 hbox hb; replace HO174 := Aside0.mk (Kd.R_below (sR HO174.out) hb); have BK176 := Aside0.mk (hbox); have GW176 := Aside0.mk ((by rw [hg]; exact (below_size (sB HB.out)) : w.heap.size ≤ gb176)); have GE176 := Aside0.mk ((by rw [hg]; exact (below_size (sB HB.out)) : w.heap.size ≤ gb176)); replace HB := Aside0.mk (below_step (sB HB.out) hb); have NB158_176 := Aside0.mk ((by rw [hg]; exact Nat.ne_of_lt (blk_lt (g := gb158) (o := .cells #[.int .i64 x159000_1, .string x159001_1, .bool x159002_1, .string x159003_1, .string x159004_1, .slice none 0 0] 26 (0, 0)) (sK BK158.out)) : gb158 ≠ gb176)); have NB176_158 := Aside0.mk ((by rw [hg]; exact Nat.ne_of_gt (blk_lt (g := gb158) (o := .cells #[.int .i64 x159000_1, .string x159001_1, .bool x159002_1, .string x159003_1, .string x159004_1, .slice none 0 0] 26 (0, 0)) (sK BK158.out)) : gb176 ≠ gb158)); replace BK158 := Aside0.mk (blk_below (g := gb158) (o := .cells #[.int .i64 x159000_1, .string x159001_1, .bool x159002_1, .string x159003_1, .string x159004_1, .slice none 0 0] 26 (0, 0)) (sK BK158.out) hb); clear hb hbox hg; have hnb46 := NB176_158.out; have hnc46 := NB158_176.out; have hcz47_0 := sC BK176.out 0; have hcz47_1 := sC BK176.out 1; have hcz47_2 := sC BK176.out 2; have hcz47_3 := sC BK176.out 3; have hcz47_4 := sC BK176.out 4; have hcz47_5 := sC BK176.out 5; have hfz47_0 := blk_frozen BK176.out 0; have hfz47_1 := blk_frozen BK176.out 1; have hfz47_2 := blk_frozen BK176.out 2; have hfz47_3 := blk_frozen BK176.out 3; have hfz47_4 := blk_frozen BK176.out 4; have hfz47_5 := blk_frozen BK176.out 5; obtain ⟨Ao48, co48, eo48⟩ := Kd.R_slice HO174.out; subst eo48) | ((with_reducible refine gate_callee (f := 23) rfl ?_); refine goesL_ (some 59) rfl rfl Tryz.func23 (by kernel_rfl) rfl #[.string a0] rfl sM ?_; (with_reducible refine (verb_strange.calls kj16 a0 false _ A35.out).mono ?_); rintro e w49 ⟨rfl, hb⟩; refine ⟨_, rfl, ?_⟩; replace HO174 := Aside0.mk (Kd.R_below (by (with_reducible repeat (first | apply Kd.R_alloc | apply Kd.R_drewN | apply Kd.R_drew)); exact (Kd.R_mono (Kd.R_far (p := ⟨gb176, 5, none⟩) (Kd.R_far (p := ⟨gb176, 4, none⟩) (Kd.R_far (p := ⟨gb176, 3, none⟩) (Kd.R_far (p := ⟨gb176, 2, none⟩) (Kd.R_far (p := ⟨gb176, 1, none⟩) (Kd.R_far (p := ⟨gb176, 0, none⟩) (Kd.R_types HO174.out BK176.out (by decide)) (fun _ hk => hk.2) (.int .i64 t167)) (fun _ hk => hk.2) (.string t168)) (fun _ hk => hk.2) (.bool t169)) (fun _ hk => hk.2) (.string t170)) (fun _ hk => hk.2) (.string t171)) (fun _ hk => hk.2) (.slice Ao48 t172.length co48)) (fun _ h_ => h_.1))) hb); replace BK158 := Aside0.mk (blk_below (g := gb158) (o := .cells #[.int .i64 x159000_1, .string x159001_1, .bool x159002_1, .string x159003_1, .string x159004_1, .slice none 0 0] 26 (0, 0)) (by refine sK ?_; refine blk_far ?_ NB158_176.out _; refine sK ?_; refine blk_far ?_ NB158_176.out _; refine sK ?_; refine blk_far ?_ NB158_176.out _; refine sK ?_; refine blk_far ?_ NB158_176.out _; refine sK ?_; refine blk_far ?_ NB158_176.out _; refine sK ?_; refine blk_far ?_ NB158_176.out _; refine sK ?_; exact BK158.out) hb); replace BK176 := Aside0.mk (blk_below (g := gb176) (o := .cells #[.int .i64 t167, .string t168, .bool t169, .string t170, .string t171, .slice Ao48 t172.length co48] 26 (0, 0)) (by refine sK ?_; refine blk_put (cs := #[.int .i64 t167, .string t168, .bool t169, .string t170, .string t171, .slice none 0 0]) ?_ 5 _ rfl; refine sK ?_; refine blk_put (cs := #[.int .i64 t167, .string t168, .bool t169, .string t170, .string ⟨#[]⟩, .slice none 0 0]) ?_ 4 _ rfl; refine sK ?_; refine blk_put (cs := #[.int .i64 t167, .string t168, .bool t169, .string ⟨#[]⟩, .string ⟨#[]⟩, .slice none 0 0]) ?_ 3 _ rfl; refine sK ?_; refine blk_put (cs := #[.int .i64 t167, .string t168, .bool false, .string ⟨#[]⟩, .string ⟨#[]⟩, .slice none 0 0]) ?_ 2 _ rfl; refine sK ?_; refine blk_put (cs := #[.int .i64 t167, .string ⟨#[]⟩, .bool false, .string ⟨#[]⟩, .string ⟨#[]⟩, .slice none 0 0]) ?_ 1 _ rfl; refine sK ?_; refine blk_put (cs := #[.int .i64 0, .string ⟨#[]⟩, .bool false, .string ⟨#[]⟩, .string ⟨#[]⟩, .slice none 0 0]) ?_ 0 _ rfl; refine sK ?_; exact BK176.out) hb); replace HB := Aside0.mk (below_step (sB HB.out) hb); (try clear hb); (try clear hk); have hcz50_0 := sC BK158.out 0; have hcz50_1 := sC BK158.out 1; have hcz50_2 := sC BK158.out 2; have hcz50_3 := sC BK158.out 3; have hcz50_4 := sC BK158.out 4; have hcz50_5 := sC BK158.out 5; have hfz50_0 := blk_frozen BK158.out 0; have hfz50_1 := blk_frozen BK158.out 1; have hfz50_2 := blk_frozen BK158.out 2; have hfz50_3 := blk_frozen BK158.out 3; have hfz50_4 := blk_frozen BK158.out 4; have hfz50_5 := blk_frozen BK158.out 5))
          refine bodyPost_ret (results_ct rfl _ _ gb158 26 #[.int .i64 0, .string ⟨#[]⟩, .bool false, .string ⟨#[]⟩, .string ⟨#[]⟩, .slice none 0 0] (0, 0) _ rfl (by refine sK ?_; refine blk_put (cs := #[.int .i64 0, .string ⟨#[]⟩, .bool false, .string ⟨#[]⟩, .string ⟨#[]⟩, .slice none 0 0]) ?_ 5 _ rfl; refine sK ?_; refine blk_put (cs := #[.int .i64 0, .string ⟨#[]⟩, .bool false, .string ⟨#[]⟩, .string x159004_1, .slice none 0 0]) ?_ 4 _ rfl; refine sK ?_; refine blk_put (cs := #[.int .i64 0, .string ⟨#[]⟩, .bool false, .string x159003_1, .string x159004_1, .slice none 0 0]) ?_ 3 _ rfl; refine sK ?_; refine blk_put (cs := #[.int .i64 0, .string ⟨#[]⟩, .bool x159002_1, .string x159003_1, .string x159004_1, .slice none 0 0]) ?_ 2 _ rfl; refine sK ?_; refine blk_put (cs := #[.int .i64 0, .string x159001_1, .bool x159002_1, .string x159003_1, .string x159004_1, .slice none 0 0]) ?_ 1 _ rfl; refine sK ?_; refine blk_put (cs := #[.int .i64 x159000_1, .string x159001_1, .bool x159002_1, .string x159003_1, .string x159004_1, .slice none 0 0]) ?_ 0 _ rfl; refine sK ?_; exact BK158.out) Tryz.underlying26 rfl (by kernel_rfl)) rfl ?_
          exact ⟨_, by first | rfl | (simp [errW_none, errW_some] <;> rfl) | (simp [*, errW_none, errW_some] <;> rfl), by first | exact Kd.R_nil _ _ _ _ _ | exact Kd.N_nil _ _ _ _ _ | exact Kd.V_nil _ _ _ _ _ | exact Kd.Q_nil _ _ _ _ _ | exact Kd.S_nil _ _ _ _ _, sB HB.out⟩
def wherryref11_Fold.l0 : Nat → ByteArray → List Int → Int → Option (ByteArray)
 | 0, _, _, _ => none
 | k + 1, x0, x3, x4 => if x4 < (x0.size : Int) then (if 0 ≤ x4 then (if (bt x0 x4) ≥ 65 then (if (bt x0 x4) ≤ 90 then (if x3.length < 140737488355328 then (wherryref11_Fold.l0 k x0 (x3 ++ [((bt x0 x4) + 32) % 256]) (wrap64 (x4 + 1))) else (none)) else (if x3.length < 140737488355328 then (wherryref11_Fold.l0 k x0 (x3 ++ [bt x0 x4]) (wrap64 (x4 + 1))) else (none))) else (if x3.length < 140737488355328 then (wherryref11_Fold.l0 k x0 (x3 ++ [bt x0 x4]) (wrap64 (x4 + 1))) else (none))) else (none)) else (some (strOfNums x3))
def wherryref11_Fold.f (k : Nat) (a0 : ByteArray) : Option (ByteArray) := wherryref11_Fold.l0 k a0 ([] : List Int) 0
def wherryref11_first.l0 : Nat → ByteArray → Int → Option (ByteArray)
 | 0, _, _ => none
 | k + 1, x0, x3 => if x3 < (x0.size : Int) then (if 0 ≤ x3 then (if (bt x0 x3) = 32 then (if x3 ≤ (x0.size : Int) then ((wherryref11_Fold.f k (x0.extract 0 (x3 : Int).toNat)).bind fun t187 => (some t187)) else (none)) else (wherryref11_first.l0 k x0 (wrap64 (x3 + 1)))) else (none)) else ((wherryref11_Fold.f k x0).bind fun t188 => (some t188))
def wherryref11_first.f (k : Nat) (a0 : ByteArray) : Option (ByteArray) := wherryref11_first.l0 k a0 0
def wherryref11_among.l0 : Nat → ByteArray → List ByteArray → Int → Option (Bool)
 | 0, _, _, _ => none
 | k + 1, x0, x1, x5 => if x5 < (x1.length : Int) then (if 0 ≤ x5 then (if (rdOf ByteArray.empty x1 x5).toList = x0.toList then (some true) else (wherryref11_among.l0 k x0 x1 (wrap64 (x5 + 1)))) else (none)) else (some false)
def wherryref11_among.f (k : Nat) (a0 : ByteArray) (l1 : List ByteArray) : Option (Bool) := wherryref11_among.l0 k a0 l1 0
def wherryref11_in.f (a0 : Int) (a1 : Int) (a2 : Int) : Option (Bool) := if a0 ≥ a1 then (some (decide (a0 ≤ a2))) else (some false)
set_option maxHeartbeats 8000000 in
set_option maxRecDepth 100000 in
theorem wherryref11_in.calls (a0 : Int) (a1 : Int) (a2 : Int) (r : Bool) (w : World) (h : wherryref11_in.f a0 a1 a2 = some r) :
  Calls Tryz.prog 44 #[.int .i64 a0, .int .i64 a1, .int .i64 a2] w fun e w' => e = .returned (.bool r) ∧ Drawn0 w w' := by
 have H : (if a0 ≥ a1 then (some (decide (a0 ≤ a2))) else (some false)) = some r := h
 clear h
 by_cases c4 : a0 ≥ a1
 ·
  rw [if_pos c4] at H
  have c4b0 : decide (a1 ≤ a0) = true := decide_eq_true c4
  clear c4
  obtain rfl := Option.some.inj H
  go_enter Tryz.func44, Tryz.ntmps44
  go_wp2
  go_ret
  exact ⟨by first | rfl | (simp; done) | (simp [*]; done), by repeat (first | exact Drawn0.refl _ | apply Drawn0.step)⟩
 ·
  rw [if_neg c4] at H
  have c4b0 : decide (a1 ≤ a0) = false := decide_eq_false c4
  clear c4
  obtain rfl := Option.some.inj H
  go_enter Tryz.func44, Tryz.ntmps44
  go_wp2
  go_ret
  exact ⟨by first | rfl | (simp; done) | (simp [*]; done), by repeat (first | exact Drawn0.refl _ | apply Drawn0.step)⟩
end Go.Proofs.YthcdjgekmfnmnaaGreatDoor.PVerb
end
section
namespace Go.Proofs.YthcdjgekmfnmnaaGreatDoor.PVerb
open Go.RowKit Go.Proofs.YthcdjgekmfnmnaaGreatDoorW.PrintWords Go.Proofs.YthcdjgekmfnmnaaGreatDoorW.PrintLast Go.Proofs.YthcdjgekmfnmnaaGreatDoorW.PrintMore
attribute [local go_sem] max2_int min2_int max_two min_two max_three min_three max_four min_four
set_option linter.unusedVariables false
set_option linter.unusedSimpArgs false
theorem eqA23 (d : Nat) (w : World) (x0 y0 : Bool) (x1 y1 : ByteArray) (x2 y2 : ByteArray) :
  (Op.equalIn (d + 2) 23 (.agg #[.bool x0, .string x1, .string x2]) (.agg #[.bool y0, .string y1, .string y2])).run Tryz.prog w = .ok (x0 == y0 && (x1.toList == y1.toList && (x2.toList == y2.toList))) w := by
 refine eqA_of Tryz.underlying23 (by kernel_rfl) ?_
 refine eqf_cons (by rfl) (by go_simp; rfl) (by go_simp; rfl) (by go_simp) ?_
 refine eqf_cons (by rfl) (by go_simp; rfl) (by go_simp; rfl) (by go_simp) ?_
 exact eqf_last (by rfl) (by go_simp; rfl) (by go_simp; rfl) (by go_simp)
end Go.Proofs.YthcdjgekmfnmnaaGreatDoor.PVerb
end
section
namespace Go.Proofs.YthcdjgekmfnmnaaGreatDoor.PVerb
open Go.RowKit Go.Proofs.YthcdjgekmfnmnaaGreatDoorW.PrintWords Go.Proofs.YthcdjgekmfnmnaaGreatDoorW.PrintLast Go.Proofs.YthcdjgekmfnmnaaGreatDoorW.PrintMore
attribute [local go_sem] max2_int min2_int max_two min_two max_three min_three max_four min_four
set_option linter.unusedVariables false
set_option linter.unusedSimpArgs false
theorem eqA47 (d : Nat) (w : World) (x0 y0 : ByteArray) (x1 y1 : ByteArray) :
  (Op.equalIn (d + 2) 47 (.agg #[.string x0, .string x1]) (.agg #[.string y0, .string y1])).run Tryz.prog w = .ok (x0.toList == y0.toList && (x1.toList == y1.toList)) w := by
 refine eqA_of Tryz.underlying47 (by kernel_rfl) ?_
 refine eqf_cons (by rfl) (by go_simp; rfl) (by go_simp; rfl) (by go_simp) ?_
 exact eqf_last (by rfl) (by go_simp; rfl) (by go_simp; rfl) (by go_simp)
end Go.Proofs.YthcdjgekmfnmnaaGreatDoor.PVerb
end
section
namespace Go.Proofs.YthcdjgekmfnmnaaGreatDoor.PVerb
open Go.RowKit Go.Proofs.YthcdjgekmfnmnaaGreatDoorW.PrintWords Go.Proofs.YthcdjgekmfnmnaaGreatDoorW.PrintLast Go.Proofs.YthcdjgekmfnmnaaGreatDoorW.PrintMore
attribute [local go_sem] max2_int min2_int max_two min_two max_three min_three max_four min_four
set_option linter.unusedVariables false
set_option linter.unusedSimpArgs false
def textL (null : Bool) (loc dom : List UInt8) : List UInt8 := if null then [60, 62] else 60 :: loc ++ 64 :: dom ++ [62]
theorem text_bytes (l d : ByteArray) : (((⟨#[60]⟩ ++ l) ++ ⟨#[64]⟩) ++ d) ++ ⟨#[62]⟩ = bs (textL false l.data.toList d.data.toList) := by
  rw [← bs_of (_ ++ _)]
  congr 1
  simp [textL, ByteArray.toList_data_append]
set_option maxHeartbeats 1000000 in
set_option maxRecDepth 100000 in
theorem text_walk (a0_0 : Bool) (a0_1 a0_2 : ByteArray) (w : World) (hG : Glob w) (h1 : a0_1.size < 2147483648) (h2 : a0_2.size < 2147483648) (b : Bool) (hb : checkL a0_0 a0_1.data.toList a0_2.data.toList = b) :
    Calls Tryz.prog 49 #[.agg #[.bool a0_0, .string a0_1, .string a0_2]] w fun e w' => e = .returned (.tuple #[.string (if b then bs (textL a0_0 a0_1.data.toList a0_2.data.toList) else bs []), .int .i64 (if b then 0 else 5)]) ∧ Below w.heap.size w w' := by
  have HC := Aside0.mk (fun W hg => path_Check.calls a0_0 a0_1 a0_2 (if b then 0 else 5) W hg (by rw [path_Check.f, if_pos ⟨h1, h2⟩, hb]))
  clear hb
  have HGA := Aside0.mk hG
  clear hG
  have hb0 : Below w.heap.size w (w.alloc (.cells #[.bool a0_0, .string a0_1, .string a0_2] 23)) := (Below.refl _ w).alloc (Nat.le_refl _) _
  cases b
  · go_enter Tryz.func49, Tryz.ntmps49
    go_wp2_with fail
    refine (HC.out _ (HGA.out.below hb0)).mono ?_
    rintro e w1 ⟨rfl, hb1⟩
    have hbb := Aside0.mk (below_step hb0 hb1)
    clear hb1
    go_wp2
    go_ret2
    exact ⟨rfl, hbb.out⟩
  · cases a0_0
    · have HT := Aside0.mk (text_bytes a0_1 a0_2)
      have e1 : (1 : Nat) + a0_1.size ≤ 9223372036854775807 := by omega
      have hlt : w.heap.size < (w.alloc (.cells #[.bool false, .string a0_1, .string a0_2] 23)).heap.size := by simp
      show Calls Tryz.prog 49 _ w fun e w' => e = .returned (.tuple #[.string (bs (textL false a0_1.data.toList a0_2.data.toList)), .int .i64 0]) ∧ Below w.heap.size w w'
      rw [← HT.out]
      go_enter Tryz.func49, Tryz.ntmps49
      go_wp2_with fail
      refine (HC.out _ (HGA.out.below hb0)).mono ?_
      rintro e w1 ⟨rfl, hb1⟩
      have hbb := Aside0.mk (below_step hb0 hb1)
      have c0 := (hb1.cell (p := ⟨w.heap.size, 0, none⟩) hlt).trans (show _ = some (.bool false) by simp)
      have c1 := (hb1.cell (p := ⟨w.heap.size, 1, none⟩) hlt).trans (show _ = some (.string a0_1) by simp)
      have c2 := (hb1.cell (p := ⟨w.heap.size, 2, none⟩) hlt).trans (show _ = some (.string a0_2) by simp)
      clear hb1
      go_wp2
      go_ret2
      exact ⟨rfl, hbb.out⟩
    · have hlt : w.heap.size < (w.alloc (.cells #[.bool true, .string a0_1, .string a0_2] 23)).heap.size := by simp
      go_enter Tryz.func49, Tryz.ntmps49
      go_wp2_with fail
      refine (HC.out _ (HGA.out.below hb0)).mono ?_
      rintro e w1 ⟨rfl, hb1⟩
      have hbb := Aside0.mk (below_step hb0 hb1)
      have c0 := (hb1.cell (p := ⟨w.heap.size, 0, none⟩) hlt).trans (show _ = some (.bool true) by simp)
      clear hb1
      go_wp2
      go_ret2
      exact ⟨rfl, hbb.out⟩
def path_Text.f (a0_0 : Bool) (a0_1 a0_2 : ByteArray) : Option (ByteArray × Int) :=
  if a0_1.size < 2147483648 ∧ a0_2.size < 2147483648 then some (if checkL a0_0 a0_1.data.toList a0_2.data.toList then (bs (textL a0_0 a0_1.data.toList a0_2.data.toList), 0) else (bs [], 5)) else none
theorem path_Text.calls (a0_0 : Bool) (a0_1 a0_2 : ByteArray) (r1 : ByteArray) (r2 : Int) (w : World) (hG : Glob w) (h : path_Text.f a0_0 a0_1 a0_2 = some (r1, r2)) :
    Calls Tryz.prog 49 #[.agg #[.bool a0_0, .string a0_1, .string a0_2]] w fun e w' => e = .returned (.tuple #[.string r1, .int .i64 r2]) ∧ Below w.heap.size w w' := by
  unfold path_Text.f at h
  split at h
  · rename_i hs
    have hw := text_walk a0_0 a0_1 a0_2 w hG hs.1 hs.2 _ rfl
    cases hb : checkL a0_0 a0_1.data.toList a0_2.data.toList
    · rw [hb] at h hw
      simp only [Option.some.injEq] at h
      obtain ⟨rfl, rfl⟩ := Prod.mk.inj h
      exact hw
    · rw [hb] at h hw
      simp only [Option.some.injEq] at h
      obtain ⟨rfl, rfl⟩ := Prod.mk.inj h
      exact hw
  · cases h
end Go.Proofs.YthcdjgekmfnmnaaGreatDoor.PVerb
end
section
namespace Go.Proofs.YthcdjgekmfnmnaaGreatDoor.PVerb
open Go.RowKit Go.Proofs.YthcdjgekmfnmnaaGreatDoorW.PrintWords Go.Proofs.YthcdjgekmfnmnaaGreatDoorW.PrintLast Go.Proofs.YthcdjgekmfnmnaaGreatDoorW.PrintMore
attribute [local go_sem] max2_int min2_int max_two min_two max_three min_three max_four min_four
set_option linter.unusedVariables false
set_option linter.unusedSimpArgs false
open Go.Maps (string_keyed int_keyed keyOf_int_mk)
open Go.WideMaps
def headL (kind : Int) (t b : List UInt8) : List UInt8 :=
  if kind = 1 then [69, 72, 76, 79, 32] ++ t
  else if kind = 2 then [77, 65, 73, 76, 32, 70, 82, 79, 77, 58] ++ b
  else if kind = 3 then [82, 67, 80, 84, 32, 84, 79, 58] ++ b
  else if kind = 4 then [68, 65, 84, 65]
  else if kind = 5 then [82, 83, 69, 84]
  else if kind = 6 then [86, 82, 70, 89, 32] ++ t
  else if kind = 7 then [78, 79, 79, 80]
  else if kind = 8 then [81, 85, 73, 84]
  else if kind = 9 then [69, 84, 82, 78, 32] ++ t
  else if kind = 10 then [65, 85, 84, 72, 32, 67, 82, 65, 77, 45, 77, 68, 53]
  else if kind = 11 then [65, 84, 82, 78]
  else []
def parL (p : S47) : List UInt8 := 32 :: p.f0.data.toList ++ 61 :: p.f1.data.toList
def lineL (kind : Int) (t b : List UInt8) (ps : List S47) : List UInt8 :=
  headL kind t b ++ (if kind = 11 ∧ t ≠ [] then 32 :: t else []) ++ ps.flatMap parL
def verb_line.f (a0_0 : Int) (a0_1 : ByteArray) (a0_2 : Bool) (a0_3 a0_4 : ByteArray) (l0_5 : List S47) : Option ByteArray :=
  if a0_1.size < 2147483648 ∧ l0_5.length < 100000 ∧ (∀ p ∈ l0_5, p.f0.size < 2147483648 ∧ p.f1.size < 2147483648) ∧ (Lit.int .i64 a0_0).wf = true then
    (path_Text.f a0_2 a0_3 a0_4).bind fun b => if b.1.size < 8589934592 then some (bs (lineL a0_0 a0_1.data.toList b.1.data.toList l0_5)) else none else none
def lineD (a0_1 tb : ByteArray) : DataW Unit := (DataW.put (DataW.put (DataW.put (DataW.put (DataW.put (DataW.put (DataW.put (DataW.put (DataW.put (DataW.put (DataW.put (.map [] : DataW Unit) (.int .i64 1) (.lit (.string ((⟨#[69, 72, 76, 79, 32]⟩ : ByteArray) ++ a0_1).data.toList))) (.int .i64 2) (.lit (.string ((⟨#[77, 65, 73, 76, 32, 70, 82, 79, 77, 58]⟩ : ByteArray) ++ tb).data.toList))) (.int .i64 3) (.lit (.string ((⟨#[82, 67, 80, 84, 32, 84, 79, 58]⟩ : ByteArray) ++ tb).data.toList))) (.int .i64 4) (.lit (.string ((⟨#[68, 65, 84, 65]⟩ : ByteArray)).data.toList))) (.int .i64 5) (.lit (.string ((⟨#[82, 83, 69, 84]⟩ : ByteArray)).data.toList))) (.int .i64 6) (.lit (.string ((⟨#[86, 82, 70, 89, 32]⟩ : ByteArray) ++ a0_1).data.toList))) (.int .i64 7) (.lit (.string ((⟨#[78, 79, 79, 80]⟩ : ByteArray)).data.toList))) (.int .i64 8) (.lit (.string ((⟨#[81, 85, 73, 84]⟩ : ByteArray)).data.toList))) (.int .i64 9) (.lit (.string ((⟨#[69, 84, 82, 78, 32]⟩ : ByteArray) ++ a0_1).data.toList))) (.int .i64 10) (.lit (.string ((⟨#[65, 85, 84, 72, 32, 67, 82, 65, 77, 45, 77, 68, 53]⟩ : ByteArray)).data.toList))) (.int .i64 11) (.lit (.string ((⟨#[65, 84, 82, 78]⟩ : ByteArray)).data.toList)))
theorem atputi {D : DataW Unit} {k : Int} {v : List UInt8} (hD : Maps.IsMap D) (l : Int) (z : DataW Unit) : (D.put (.int .i64 k) (.lit (.string v))).atKey (.int .i64 l) z = if l = k then .lit (.string v) else D.atKey (.int .i64 l) z := by
  by_cases h : l = k
  · subst h; rw [if_pos rfl]; exact Maps.atKey_put_same hD (show WideAt.IsKeyLit (.int .i64 l) from trivial) _ _
  · rw [if_neg h]; exact Maps.atKey_put_other (by simpa using h) _ _
theorem line_at (a0_1 tb : ByteArray) (kind : Int) : (lineD a0_1 tb).atKey (.int .i64 kind) (.lit (.string [])) = .lit (.string (headL kind a0_1.data.toList tb.data.toList)) := by
  have m0 : Maps.IsMap (.map [] : DataW Unit) := Maps.isMap_empty
  have m1 := m0.put (.int .i64 1) (.lit (.string ((⟨#[69, 72, 76, 79, 32]⟩ : ByteArray) ++ a0_1).data.toList))
  have m2 := m1.put (.int .i64 2) (.lit (.string ((⟨#[77, 65, 73, 76, 32, 70, 82, 79, 77, 58]⟩ : ByteArray) ++ tb).data.toList))
  have m3 := m2.put (.int .i64 3) (.lit (.string ((⟨#[82, 67, 80, 84, 32, 84, 79, 58]⟩ : ByteArray) ++ tb).data.toList))
  have m4 := m3.put (.int .i64 4) (.lit (.string ((⟨#[68, 65, 84, 65]⟩ : ByteArray)).data.toList))
  have m5 := m4.put (.int .i64 5) (.lit (.string ((⟨#[82, 83, 69, 84]⟩ : ByteArray)).data.toList))
  have m6 := m5.put (.int .i64 6) (.lit (.string ((⟨#[86, 82, 70, 89, 32]⟩ : ByteArray) ++ a0_1).data.toList))
  have m7 := m6.put (.int .i64 7) (.lit (.string ((⟨#[78, 79, 79, 80]⟩ : ByteArray)).data.toList))
  have m8 := m7.put (.int .i64 8) (.lit (.string ((⟨#[81, 85, 73, 84]⟩ : ByteArray)).data.toList))
  have m9 := m8.put (.int .i64 9) (.lit (.string ((⟨#[69, 84, 82, 78, 32]⟩ : ByteArray) ++ a0_1).data.toList))
  have m10 := m9.put (.int .i64 10) (.lit (.string ((⟨#[65, 85, 84, 72, 32, 67, 82, 65, 77, 45, 77, 68, 53]⟩ : ByteArray)).data.toList))
  unfold lineD headL
  rw [atputi m10, atputi m9, atputi m8, atputi m7, atputi m6, atputi m5, atputi m4, atputi m3, atputi m2, atputi m1, atputi m0]
  by_cases h0 : kind = 1
  · subst h0; simp [ByteArray.toList_data_append]
  by_cases h1 : kind = 2
  · subst h1; simp [ByteArray.toList_data_append]
  by_cases h2 : kind = 3
  · subst h2; simp [ByteArray.toList_data_append]
  by_cases h3 : kind = 4
  · subst h3; simp [ByteArray.toList_data_append]
  by_cases h4 : kind = 5
  · subst h4; simp [ByteArray.toList_data_append]
  by_cases h5 : kind = 6
  · subst h5; simp [ByteArray.toList_data_append]
  by_cases h6 : kind = 7
  · subst h6; simp [ByteArray.toList_data_append]
  by_cases h7 : kind = 8
  · subst h7; simp [ByteArray.toList_data_append]
  by_cases h8 : kind = 9
  · subst h8; simp [ByteArray.toList_data_append]
  by_cases h9 : kind = 10
  · subst h9; simp [ByteArray.toList_data_append]
  by_cases h10 : kind = 11
  · subst h10; simp [ByteArray.toList_data_append]
  simp only [h0, h1, h2, h3, h4, h5, h6, h7, h8, h9, h10, if_false]
  rfl
theorem sz2 {a b : ByteArray} (ha : a.size ≤ 100) (hb : b.size < 8589934592) : (a ++ b).size ≤ maxLen := by rw [ByteArray.size_append]; unfold maxLen; omega
theorem zero9 (w : World) : (zeroValue 9).run Tryz.prog w = .ok (.string ⟨#[]⟩) w := by kernel_rfl
theorem parL_length (p : S47) (h : p.f0.size < 2147483648 ∧ p.f1.size < 2147483648) : (parL p).length ≤ 8589934592 := by
  unfold parL
  simp only [List.length_append, List.length_cons, data_size]
  omega
theorem flat_length (l : List S47) (h : ∀ p ∈ l, p.f0.size < 2147483648 ∧ p.f1.size < 2147483648) : (l.flatMap parL).length ≤ l.length * 8589934592 := by
  induction l with
  | nil => simp
  | cons p l ih =>
    have h1 := parL_length p (h p (by simp))
    have h2 := ih (fun q hq => h q (by simp [hq]))
    rw [List.flatMap_cons, List.length_append, List.length_cons, Nat.succ_mul]
    omega
theorem headL_length (kind : Int) (t b : List UInt8) : (headL kind t b).length ≤ 20 + t.length + b.length := by
  unfold headL
  repeat' split
  all_goals simp
  all_goals omega
theorem bs_app (a b : List UInt8) : bs a ++ bs b = bs (a ++ b) := by
  rw [← bs_of (bs a ++ bs b), ByteArray.toList_data_append]; rfl
theorem par_bytes (s : List UInt8) (p : S47) : bs s ++ ((((⟨#[32]⟩ : ByteArray) ++ p.f0) ++ ⟨#[61]⟩) ++ p.f1) = bs (s ++ parL p) := by
  rw [← bs_app]
  congr 1
  rw [← bs_of (_ ++ _)]
  congr 1
  simp [parL, ByteArray.toList_data_append]
theorem take_flat (l : List S47) (k : Nat) (h : k < l.length) : (l.take (k + 1)).flatMap parL = (l.take k).flatMap parL ++ parL l[k] := by
  rw [List.take_succ_eq_append_getElem h, List.flatMap_append]; simp
theorem line_hd {D : DataW Unit} {k : Lit} {l : List UInt8} {hd : ByteArray} {ps : List MemPlace} (e1 : D.atKey k (.lit (.string [])) = .lit (.string l)) (h : ((D.atKey k (.lit (.string (⟨#[]⟩ : ByteArray).data.toList)), ps) : DataW Unit × List MemPlace) = (.lit (.string hd.data.toList), [])) : hd = bs l := by
  have e2 := (Prod.mk.inj h).1
  have e3 := e1.symm.trans e2
  injection e3 with e3
  injection e3 with e3
  rw [← bs_of hd, e3]
set_option maxHeartbeats 8000000 in
set_option maxRecDepth 100000 in
theorem line_walk (a0_0 : Int) (a0_1 : ByteArray) (a0_2 : Bool) (a0_3 a0_4 : ByteArray) (A0_5 : Option Addr) (c0_5 : Nat) (l0_5 : List S47) (tb : ByteArray) (te : Int) (w : World) (hG : Glob w) (hr0_5 : Kd.C k47 w A0_5 l0_5.length l0_5)
    (h1 : a0_1.size < 2147483648) (h2 : l0_5.length < 100000) (h3 : ∀ p ∈ l0_5, p.f0.size < 2147483648 ∧ p.f1.size < 2147483648) (h4 : (Lit.int .i64 a0_0).wf = true) (ht : path_Text.f a0_2 a0_3 a0_4 = some (tb, te)) (h5 : tb.size < 8589934592) :
    Calls Tryz.prog 31 #[.agg #[.int .i64 a0_0, .string a0_1, .bool a0_2, .string a0_3, .string a0_4, .slice A0_5 l0_5.length c0_5]] w fun e w' => e = .returned (.string (bs (lineL a0_0 a0_1.data.toList tb.data.toList l0_5))) ∧ Below w.heap.size w w' := by
  have hu := Tryz.underlying47
  have hu2 := Tryz.underlying26
  have hu3 := Tryz.underlying23
  have hmm := @run_makeMap Tryz.prog
  have K : Maps.Keyed Tryz.prog 3 := int_keyed Tryz.underlying3
  have HR := Aside0.mk hr0_5
  have HT := Aside0.mk (fun (W : World) (hg : Glob W) => path_Text.calls a0_2 a0_3 a0_4 tb te W hg ht)
  have HGG := Aside0.mk hG
  have H3 := Aside0.mk h3
  clear hr0_5 ht hG h3
  have HB0 := Aside0.mk ((Below.refl _ w).alloc (Nat.le_refl _) (.cells #[.int .i64 a0_0, .string a0_1, .bool a0_2, .string a0_3, .string a0_4, .slice A0_5 l0_5.length c0_5] 26))
  have HK0 := Aside0.mk (heap_alloc_new w (.cells #[.int .i64 a0_0, .string a0_1, .bool a0_2, .string a0_3, .string a0_4, .slice A0_5 l0_5.length c0_5] 26))
  go_enter Tryz.func31, Tryz.ntmps31
  go_wp2_with fail
  refine (HT.out _ (HGG.out.below HB0.out)).mono ?_
  rintro e w1 ⟨rfl, hb⟩
  have HB1 := Aside0.mk (below_step HB0.out hb)
  have hk1 := blk_grown HK0.out (grown_of_below hb none) (by simp)
  clear hb HB0 HK0 HT
  have hlt1 : w.heap.size < w1.heap.size := blk_lt hk1
  have hne : some w.heap.size ≠ some w1.heap.size := by simp; omega
  have o0 := World.ownsMap_made (H := Unit) w1 Tryz.prog 3 (plainElem Tryz.prog 9)
  have l0 := blk_alloc hk1 (.map #[] 0)
  have c0 := (blk_cell l0 1)
  obtain ⟨m1, r1, o1, g1⟩ := o0.update K Tryz.underlying75 (by decide) (key := .int .i64 1) (val := .string ((⟨#[69, 72, 76, 79, 32]⟩ : ByteArray) ++ a0_1)) (keyOf_int_mk Tryz.underlying3 (by decide)) (plainElem_string Tryz.underlying9 (sz2 (by decide) (by omega)))
  have l1 := blk_grown l0 g1 hne
  obtain ⟨m2, r2, o2, g2⟩ := o1.update K Tryz.underlying75 (by decide) (key := .int .i64 2) (val := .string ((⟨#[77, 65, 73, 76, 32, 70, 82, 79, 77, 58]⟩ : ByteArray) ++ tb)) (keyOf_int_mk Tryz.underlying3 (by decide)) (plainElem_string Tryz.underlying9 (sz2 (by decide) h5))
  have l2 := blk_grown l1 g2 hne
  obtain ⟨m3, r3, o3, g3⟩ := o2.update K Tryz.underlying75 (by decide) (key := .int .i64 3) (val := .string ((⟨#[82, 67, 80, 84, 32, 84, 79, 58]⟩ : ByteArray) ++ tb)) (keyOf_int_mk Tryz.underlying3 (by decide)) (plainElem_string Tryz.underlying9 (sz2 (by decide) h5))
  have l3 := blk_grown l2 g3 hne
  obtain ⟨m4, r4, o4, g4⟩ := o3.update K Tryz.underlying75 (by decide) (key := .int .i64 4) (val := .string ((⟨#[68, 65, 84, 65]⟩ : ByteArray))) (keyOf_int_mk Tryz.underlying3 (by decide)) (plainElem_string Tryz.underlying9 (by decide))
  have l4 := blk_grown l3 g4 hne
  obtain ⟨m5, r5, o5, g5⟩ := o4.update K Tryz.underlying75 (by decide) (key := .int .i64 5) (val := .string ((⟨#[82, 83, 69, 84]⟩ : ByteArray))) (keyOf_int_mk Tryz.underlying3 (by decide)) (plainElem_string Tryz.underlying9 (by decide))
  have l5 := blk_grown l4 g5 hne
  obtain ⟨m6, r6, o6, g6⟩ := o5.update K Tryz.underlying75 (by decide) (key := .int .i64 6) (val := .string ((⟨#[86, 82, 70, 89, 32]⟩ : ByteArray) ++ a0_1)) (keyOf_int_mk Tryz.underlying3 (by decide)) (plainElem_string Tryz.underlying9 (sz2 (by decide) (by omega)))
  have l6 := blk_grown l5 g6 hne
  obtain ⟨m7, r7, o7, g7⟩ := o6.update K Tryz.underlying75 (by decide) (key := .int .i64 7) (val := .string ((⟨#[78, 79, 79, 80]⟩ : ByteArray))) (keyOf_int_mk Tryz.underlying3 (by decide)) (plainElem_string Tryz.underlying9 (by decide))
  have l7 := blk_grown l6 g7 hne
  obtain ⟨m8, r8, o8, g8⟩ := o7.update K Tryz.underlying75 (by decide) (key := .int .i64 8) (val := .string ((⟨#[81, 85, 73, 84]⟩ : ByteArray))) (keyOf_int_mk Tryz.underlying3 (by decide)) (plainElem_string Tryz.underlying9 (by decide))
  have l8 := blk_grown l7 g8 hne
  obtain ⟨m9, r9, o9, g9⟩ := o8.update K Tryz.underlying75 (by decide) (key := .int .i64 9) (val := .string ((⟨#[69, 84, 82, 78, 32]⟩ : ByteArray) ++ a0_1)) (keyOf_int_mk Tryz.underlying3 (by decide)) (plainElem_string Tryz.underlying9 (sz2 (by decide) (by omega)))
  have l9 := blk_grown l8 g9 hne
  obtain ⟨m10, r10, o10, g10⟩ := o9.update K Tryz.underlying75 (by decide) (key := .int .i64 10) (val := .string ((⟨#[65, 85, 84, 72, 32, 67, 82, 65, 77, 45, 77, 68, 53]⟩ : ByteArray))) (keyOf_int_mk Tryz.underlying3 (by decide)) (plainElem_string Tryz.underlying9 (by decide))
  have l10 := blk_grown l9 g10 hne
  obtain ⟨m11, r11, o11, g11⟩ := o10.update K Tryz.underlying75 (by decide) (key := .int .i64 11) (val := .string ((⟨#[65, 84, 82, 78]⟩ : ByteArray))) (keyOf_int_mk Tryz.underlying3 (by decide)) (plainElem_string Tryz.underlying9 (by decide))
  have l11 := blk_grown l10 g11 hne
  have c5 := blk_cell l5 1
  have c8 := blk_cell l8 1
  have ck := blk_cell l11 0
  have ct := blk_cell l11 1
  have cs := blk_cell l11 5
  have oD : m11.ownsMap Tryz.prog 3 (plainElem Tryz.prog 9) w1.heap.size _ (lineD a0_1 tb) := o11
  obtain ⟨v, ps, hrun, hR⟩ := oD.lookup (z := .string ⟨#[]⟩) K Tryz.underlying75 (zero9 m11) (plainElem_string Tryz.underlying9 (by decide)) (key := .int .i64 a0_0) (keyOf_int_mk Tryz.underlying3 h4)
  obtain ⟨hd, rfl, hhd, _⟩ := plainElem_string_inv Tryz.underlying9 hR
  have hb : w.heap.size ≤ w1.heap.size := by omega
  have b0 : Below w.heap.size w (w1.alloc (.map #[] 0)) := HB1.out.alloc hb _
  have b1 := b0.grown g1 (by simp; omega) (by intro k hk; cases hk; exact hb)
  have b2 := b1.grown g2 b1.size (by intro k hk; cases hk; exact hb)
  have b3 := b2.grown g3 b2.size (by intro k hk; cases hk; exact hb)
  have b4 := b3.grown g4 b3.size (by intro k hk; cases hk; exact hb)
  have b5 := b4.grown g5 b4.size (by intro k hk; cases hk; exact hb)
  have b6 := b5.grown g6 b5.size (by intro k hk; cases hk; exact hb)
  have b7 := b6.grown g7 b6.size (by intro k hk; cases hk; exact hb)
  have b8 := b7.grown g8 b7.size (by intro k hk; cases hk; exact hb)
  have b9 := b8.grown g9 b8.size (by intro k hk; cases hk; exact hb)
  have b10 := b9.grown g10 b9.size (by intro k hk; cases hk; exact hb)
  have b11 := b10.grown g11 b10.size (by intro k hk; cases hk; exact hb)
  have HBM := Aside0.mk b11
  clear o0 o1 o2 o3 o4 o5 o6 o7 o8 o9 o10 o11 oD g1 g2 g3 g4 g5 g6 g7 g8 g9 g10 g11 l0 l1 l2 l3 l4 l5 l6 l7 l8 l9 l10 l11 b0 b1 b2 b3 b4 b5 b6 b7 b8 b9 b10 b11 hR hk1 HB1
  have HHD := Aside0.mk (line_hd (line_at a0_1 tb a0_0) hhd)
  clear hhd
  have e5 : 5 + a0_1.size ≤ 9223372036854775807 := by omega
  have e10 : 10 + tb.size ≤ 9223372036854775807 := by omega
  have e8 : 8 + tb.size ≤ 9223372036854775807 := by omega
  have hpl : hd.size ≤ 20000000000 := by
    rw [HHD.out, bs_size]
    have := headL_length a0_0 a0_1.data.toList tb.data.toList
    rw [data_size, data_size] at this
    omega
  have e11 : hd.size + (1 + a0_1.size) ≤ 9223372036854775807 := by omega
  have e1t : 1 + a0_1.size ≤ 9223372036854775807 := by omega
  clear K hb
  by_cases hk : a0_0 = 11 ∧ a0_1.data.toList ≠ []
  · obtain ⟨pre, hpre⟩ : ∃ pre, pre = headL a0_0 a0_1.data.toList tb.data.toList ++ (32 :: a0_1.data.toList) := ⟨_, rfl⟩
    have HPP := Aside0.mk (show pre ++ l0_5.flatMap parL = lineL a0_0 a0_1.data.toList tb.data.toList l0_5 by unfold lineL; rw [if_pos hk, hpre])
    have HS := Aside0.mk (show hd ++ ((⟨#[32]⟩ : ByteArray) ++ a0_1) = bs pre by rw [HHD.out, hpre, ← bs_app]; congr 1)
    have HPL := Aside0.mk (show pre.length ≤ 40000000000 by
      rw [hpre, List.length_append]
      have := headL_length a0_0 a0_1.data.toList tb.data.toList
      simp only [List.length_cons]
      rw [data_size, data_size] at *
      omega)
    have hk1 : (a0_0 == 11) = true := by simpa using hk.1
    have hne : a0_1.toList.isEmpty = false := by rw [toList_data]; simpa using hk.2
    clear hk hpre HHD
    go_wp2
    go_loopg [5, 48] l0_5.length (fun gg v5 v48 wr => ∃ k : Nat, k ≤ l0_5.length ∧ l0_5.length - k ≤ gg ∧ v48 = .int .i64 k ∧ v5 = .string (bs (pre ++ (l0_5.take k).flatMap parL)) ∧ Aside0 (Below w.heap.size w wr))
    case atStart => exact ⟨0, Nat.zero_le _, by omega, rfl, by rw [HS.out]; simp, HBM⟩
    case round =>
      obtain ⟨k, hk, hg, rfl, rfl, HB⟩ := hrel
      clear HBM
      by_cases hlt : k < l0_5.length
      · have hltz : (k : Int) < (l0_5.length : Int) := by omega
        obtain ⟨ad, ea, hx, hx2⟩ := at_T47 (Kd.C_below HR.out HB.out) (k : Int) (by omega) hltz
        cases ea
        rw [rdP_get hlt, Int.toNat_natCast] at hx hx2
        have hps := H3.out l0_5[k] (List.getElem_mem hlt)
        have hsz : (bs (pre ++ (l0_5.take k).flatMap parL)).size ≤ 1000000000000000 := by
          rw [bs_size, List.length_append]
          have := flat_length (l0_5.take k) (fun p hp => H3.out p (List.mem_of_mem_take hp))
          have hl2 : (l0_5.take k).length ≤ 100000 := by rw [List.length_take]; omega
          have hpre := HPL.out
          omega
        have HN := Aside0.mk (par_bytes (pre ++ (l0_5.take k).flatMap parL) l0_5[k])
        have HTK := Aside0.mk (take_flat l0_5 k hlt)
        generalize l0_5[k] = p at hx hx2 hps HN HTK
        generalize hS : bs (pre ++ (l0_5.take k).flatMap parL) = S at *
        have HSS := Aside0.mk hS
        clear hS
        obtain ⟨hp0, hp1⟩ := hps
        have n1 : 1 + p.f0.size ≤ 9223372036854775807 := by omega
        have n2 : 1 + p.f0.size + 1 ≤ 9223372036854775807 := by omega
        have n3 : 1 + p.f0.size + 1 + p.f1.size ≤ 9223372036854775807 := by omega
        have n4 : S.size + (1 + p.f0.size + 1 + p.f1.size) ≤ 9223372036854775807 := by omega
        go_wp2_with fail
        go_roundg (l0_5.length - (k + 1))
        case measure => omega
        case rel => exact ⟨k + 1, by omega, by omega, by go_num, by rw [HN.out, HTK.out, List.append_assoc], ⟨below_alloc HB.out _⟩⟩
      · have hltz : ¬ (k : Int) < (l0_5.length : Int) := by omega
        have HK := Aside0.mk (show l0_5.take k = l0_5 from List.take_of_length_le (by omega))
        rw [HK.out]
        go_wp2_with fail
        go_ret
        refine ⟨?_, HB.out⟩
        rw [← HPP.out]
        rfl
  · obtain ⟨pre, hpre⟩ : ∃ pre, pre = headL a0_0 a0_1.data.toList tb.data.toList := ⟨_, rfl⟩
    have HPP := Aside0.mk (show pre ++ l0_5.flatMap parL = lineL a0_0 a0_1.data.toList tb.data.toList l0_5 by unfold lineL; rw [if_neg hk, hpre, List.append_nil])
    have HS := Aside0.mk (show hd = bs pre by rw [HHD.out, hpre])
    have HPL := Aside0.mk (show pre.length ≤ 40000000000 by
      rw [hpre]
      have := headL_length a0_0 a0_1.data.toList tb.data.toList
      rw [data_size, data_size] at *
      omega)
    clear hpre HHD
    by_cases hk1 : a0_0 = 11
    · have hk2 : (a0_0 == 11) = true := by simpa using hk1
      have hne : a0_1.toList.isEmpty = true := by
        rw [toList_data]
        cases hu1 : a0_1.data.toList with
        | nil => rfl
        | cons _ _ => exact absurd ⟨hk1, by rw [hu1]; simp⟩ hk
      clear hk hk1
      go_wp2
      go_loopg [5, 48] l0_5.length (fun gg v5 v48 wr => ∃ k : Nat, k ≤ l0_5.length ∧ l0_5.length - k ≤ gg ∧ v48 = .int .i64 k ∧ v5 = .string (bs (pre ++ (l0_5.take k).flatMap parL)) ∧ Aside0 (Below w.heap.size w wr))
      case atStart => exact ⟨0, Nat.zero_le _, by omega, rfl, by rw [HS.out]; simp, HBM⟩
      case round =>
        obtain ⟨k, hk, hg, rfl, rfl, HB⟩ := hrel
        clear HBM
        by_cases hlt : k < l0_5.length
        · have hltz : (k : Int) < (l0_5.length : Int) := by omega
          obtain ⟨ad, ea, hx, hx2⟩ := at_T47 (Kd.C_below HR.out HB.out) (k : Int) (by omega) hltz
          cases ea
          rw [rdP_get hlt, Int.toNat_natCast] at hx hx2
          have hps := H3.out l0_5[k] (List.getElem_mem hlt)
          have hsz : (bs (pre ++ (l0_5.take k).flatMap parL)).size ≤ 1000000000000000 := by
            rw [bs_size, List.length_append]
            have := flat_length (l0_5.take k) (fun p hp => H3.out p (List.mem_of_mem_take hp))
            have hl2 : (l0_5.take k).length ≤ 100000 := by rw [List.length_take]; omega
            have hpre := HPL.out
            omega
          have HN := Aside0.mk (par_bytes (pre ++ (l0_5.take k).flatMap parL) l0_5[k])
          have HTK := Aside0.mk (take_flat l0_5 k hlt)
          generalize l0_5[k] = p at hx hx2 hps HN HTK
          generalize hS : bs (pre ++ (l0_5.take k).flatMap parL) = S at *
          have HSS := Aside0.mk hS
          clear hS
          obtain ⟨hp0, hp1⟩ := hps
          have n1 : 1 + p.f0.size ≤ 9223372036854775807 := by omega
          have n2 : 1 + p.f0.size + 1 ≤ 9223372036854775807 := by omega
          have n3 : 1 + p.f0.size + 1 + p.f1.size ≤ 9223372036854775807 := by omega
          have n4 : S.size + (1 + p.f0.size + 1 + p.f1.size) ≤ 9223372036854775807 := by omega
          go_wp2_with fail
          go_roundg (l0_5.length - (k + 1))
          case measure => omega
          case rel => exact ⟨k + 1, by omega, by omega, by go_num, by rw [HN.out, HTK.out, List.append_assoc], ⟨below_alloc HB.out _⟩⟩
        · have hltz : ¬ (k : Int) < (l0_5.length : Int) := by omega
          have HK := Aside0.mk (show l0_5.take k = l0_5 from List.take_of_length_le (by omega))
          rw [HK.out]
          go_wp2_with fail
          go_ret
          refine ⟨?_, HB.out⟩
          rw [← HPP.out]
          rfl
    · have hk2 : (a0_0 == 11) = false := by simpa using hk1
      clear hk hk1
      go_wp2
      go_loopg [5, 48] l0_5.length (fun gg v5 v48 wr => ∃ k : Nat, k ≤ l0_5.length ∧ l0_5.length - k ≤ gg ∧ v48 = .int .i64 k ∧ v5 = .string (bs (pre ++ (l0_5.take k).flatMap parL)) ∧ Aside0 (Below w.heap.size w wr))
      case atStart => exact ⟨0, Nat.zero_le _, by omega, rfl, by rw [HS.out]; simp, HBM⟩
      case round =>
        obtain ⟨k, hk, hg, rfl, rfl, HB⟩ := hrel
        clear HBM
        by_cases hlt : k < l0_5.length
        · have hltz : (k : Int) < (l0_5.length : Int) := by omega
          obtain ⟨ad, ea, hx, hx2⟩ := at_T47 (Kd.C_below HR.out HB.out) (k : Int) (by omega) hltz
          cases ea
          rw [rdP_get hlt, Int.toNat_natCast] at hx hx2
          have hps := H3.out l0_5[k] (List.getElem_mem hlt)
          have hsz : (bs (pre ++ (l0_5.take k).flatMap parL)).size ≤ 1000000000000000 := by
            rw [bs_size, List.length_append]
            have := flat_length (l0_5.take k) (fun p hp => H3.out p (List.mem_of_mem_take hp))
            have hl2 : (l0_5.take k).length ≤ 100000 := by rw [List.length_take]; omega
            have hpre := HPL.out
            omega
          have HN := Aside0.mk (par_bytes (pre ++ (l0_5.take k).flatMap parL) l0_5[k])
          have HTK := Aside0.mk (take_flat l0_5 k hlt)
          generalize l0_5[k] = p at hx hx2 hps HN HTK
          generalize hS : bs (pre ++ (l0_5.take k).flatMap parL) = S at *
          have HSS := Aside0.mk hS
          clear hS
          obtain ⟨hp0, hp1⟩ := hps
          have n1 : 1 + p.f0.size ≤ 9223372036854775807 := by omega
          have n2 : 1 + p.f0.size + 1 ≤ 9223372036854775807 := by omega
          have n3 : 1 + p.f0.size + 1 + p.f1.size ≤ 9223372036854775807 := by omega
          have n4 : S.size + (1 + p.f0.size + 1 + p.f1.size) ≤ 9223372036854775807 := by omega
          go_wp2_with fail
          go_roundg (l0_5.length - (k + 1))
          case measure => omega
          case rel => exact ⟨k + 1, by omega, by omega, by go_num, by rw [HN.out, HTK.out, List.append_assoc], ⟨below_alloc HB.out _⟩⟩
        · have hltz : ¬ (k : Int) < (l0_5.length : Int) := by omega
          have HK := Aside0.mk (show l0_5.take k = l0_5 from List.take_of_length_le (by omega))
          rw [HK.out]
          go_wp2_with fail
          go_ret
          refine ⟨?_, HB.out⟩
          rw [← HPP.out]
          rfl
theorem verb_line.calls (a0_0 : Int) (a0_1 : ByteArray) (a0_2 : Bool) (a0_3 a0_4 : ByteArray) (A0_5 : Option Addr) (c0_5 : Nat) (l0_5 : List S47) (r : ByteArray) (w : World) (hG : Glob w) (hr0_5 : Kd.C k47 w A0_5 l0_5.length l0_5) (hc0_5 : l0_5.length ≤ c0_5) (h : verb_line.f a0_0 a0_1 a0_2 a0_3 a0_4 l0_5 = some r) :
    Calls Tryz.prog 31 #[.agg #[.int .i64 a0_0, .string a0_1, .bool a0_2, .string a0_3, .string a0_4, .slice A0_5 l0_5.length c0_5]] w fun e w' => e = .returned (.string r) ∧ Below w.heap.size w w' := by
  unfold verb_line.f at h
  split at h
  · rename_i hs
    obtain ⟨⟨tb, te⟩, ht, h⟩ := Option.bind_eq_some_iff.mp h
    simp only at h
    split at h
    · rename_i h5
      simp only [Option.some.injEq] at h
      subst h
      exact line_walk a0_0 a0_1 a0_2 a0_3 a0_4 A0_5 c0_5 l0_5 tb te w hG hr0_5 hs.1 hs.2.1 hs.2.2.1 hs.2.2.2 ht h5
    · cases h
  · cases h
end Go.Proofs.YthcdjgekmfnmnaaGreatDoor.PVerb
end
section
namespace Go.Proofs.YthcdjgekmfnmnaaGreatDoor.PVerb
open Go.RowKit Go.Proofs.YthcdjgekmfnmnaaGreatDoorW.PrintWords Go.Proofs.YthcdjgekmfnmnaaGreatDoorW.PrintLast Go.Proofs.YthcdjgekmfnmnaaGreatDoorW.PrintMore
attribute [local go_sem] max2_int min2_int max_two min_two max_three min_three max_four min_four
set_option linter.unusedVariables false
set_option linter.unusedSimpArgs false
attribute [local go_sem high] eqA23 eqA47
def api_Param_50.l0 : Nat → List (S47) → List (S47) → Int → Int → Option (Bool)
 | 0, _, _, _, _ => none
 | k + 1, x0, x1, x12, x13 => if x13 < x12 then (if 0 ≤ x13 then (if x13 < (x0.length : Int) then (if x13 < (x1.length : Int) then (if (!((((rd_T47 x0 x13).f0).toList) == (((rd_T47 x1 x13).f0).toList)) || (!((((rd_T47 x0 x13).f1).toList) == (((rd_T47 x1 x13).f1).toList)))) = true then (some false) else (api_Param_50.l0 k x0 x1 x12 (wrap64 (x13 + 1)))) else (none)) else (none)) else (none)) else (some true)
def api_Param_50.f (k : Nat) (l0 : List (S47)) (l1 : List (S47)) : Option (Bool) := if (l0.length : Int) = (l1.length : Int) then (api_Param_50.l0 k l0 l1 (l0.length : Int) 0) else (some false)
theorem api_Param_50.mono_l : ∀ k, (∀ y0 y1 y2 y3, LeO (api_Param_50.l0 k y0 y1 y2 y3) (api_Param_50.l0 (k + 1) y0 y1 y2 y3))
 | 0 => fun _ _ _ _ r h => by simp [api_Param_50.l0] at h
 | k + 1 => by
  have ih0 := api_Param_50.mono_l k
  ·
   intro y0 y1 y2 y3
   unfold api_Param_50.l0
   repeat' first
   | (with_reducible exact ih0 _ _ _ _)
   | (with_reducible exact LeO.refl _)
   | (with_reducible exact LeO.none _)
   | (with_reducible refine LeO.ite ?_ ?_)
   | (with_reducible refine LeO.bind ?_ (fun _ => ?_))
   | exact ih0 _ _ _ _
   | exact LeO.none _
   | refine LeO.ite ?_ ?_
   | refine LeO.bind ?_ (fun _ => ?_)
theorem api_Param_50.mono : ∀ a0 a1 k, LeO (api_Param_50.f k a0 a1) (api_Param_50.f (k + 1) a0 a1) := by
 intro a0 a1 k
 have ih0 := api_Param_50.mono_l k
 unfold api_Param_50.f
 repeat' first
   | (with_reducible exact ih0 _ _ _ _)
   | (with_reducible exact LeO.refl _)
   | (with_reducible exact LeO.none _)
   | (with_reducible refine LeO.ite ?_ ?_)
   | (with_reducible refine LeO.bind ?_ (fun _ => ?_))
   | exact ih0 _ _ _ _
   | exact LeO.none _
   | refine LeO.ite ?_ ?_
   | refine LeO.bind ?_ (fun _ => ?_)
set_option maxHeartbeats 8000000 in
set_option maxRecDepth 100000 in
theorem api_Param_50.calls (k : Nat) (A0 : Option Addr) (c0 : Nat) (l0 : List (S47)) (A1 : Option Addr) (c1 : Nat) (l1 : List (S47)) (r : Bool) (w : World) (hr0 : Kd.C k47 w A0 l0.length l0) (hc0 : l0.length ≤ c0) (hr1 : Kd.C k47 w A1 l1.length l1) (hc1 : l1.length ≤ c1) (h : api_Param_50.f k l0 l1 = some r) :
  Calls Tryz.prog 50 #[.slice A0 l0.length c0, .slice A1 l1.length c1] w fun e w' => e = .returned (.bool r) ∧ Drawn0 w w' := by
 have hu47 := Tryz.underlying47
 have HR0 := Aside0.mk hr0
 have HC0 := Aside0.mk hc0
 clear hr0 hc0
 have HR1 := Aside0.mk hr1
 have HC1 := Aside0.mk hc1
 clear hr1 hc1
 have H : (if (l0.length : Int) = (l1.length : Int) then (api_Param_50.l0 k l0 l1 (l0.length : Int) 0) else (some false)) = some r := h
 clear h
 by_cases c3 : (l0.length : Int) = (l1.length : Int)
 ·
  rw [if_pos c3] at H
  have c3b0 : ((l0.length : Int) == (l1.length : Int)) = true := beq_iff_eq.mpr c3
  have c3b1 : ((l0.length : Int) != (l1.length : Int)) = false := bne_eq_false_iff_eq.mpr c3
  have c3b2 : (l0.length == l1.length) = true := by first | simpa using c3 | (simp at c3 ⊢; omega)
  clear c3
  have H' := Aside0.mk H
  clear H
  go_enter Tryz.func50, Tryz.ntmps50
  go_wp2
  repeat (go_quiet (fail); try go_wp2)
  go_loopg [13] k (fun kq v13 w' => ∃ (x13_1 : Int), v13 = .int .i64 x13_1 ∧ Aside0 (api_Param_50.l0 kq l0 l1 (l0.length : Int) x13_1 = some r) ∧ Aside0 (kq ≤ k) ∧ Drawn0 w w')
  case atStart => exact ⟨(0), (by first | rfl | (simp; done) | (simp [*]; done)), H', ⟨Nat.le_refl _⟩, by repeat (first | exact Drawn0.refl _ | apply Drawn0.step)⟩
  case round =>
   clear H'
   try clear c1; try clear p2; try clear c3; try clear c3b0; try clear c3b1; try clear c3b2
   obtain ⟨x13_1, rfl, HA, HK1, ⟨m1, rfl⟩⟩ := hrel
   cases gk with
   | zero => exact absurd HA.out (by simp [api_Param_50.l0])
   | succ k1 =>
    have H := HA.out
    clear HA
    simp only [api_Param_50.l0] at H
    by_cases c4 : x13_1 < (l0.length : Int)
    ·
     rw [if_pos c4] at H
     have c4b0 : decide (x13_1 < (l0.length : Int)) = true := decide_eq_true c4
     clear c4
     by_cases c5 : 0 ≤ x13_1
     ·
      rw [if_pos c5] at H
      have c5b0 : decide (0 ≤ x13_1) = true := decide_eq_true c5
      clear c5
      by_cases c6 : x13_1 < (l0.length : Int)
      ·
       rw [if_pos c6] at H
       have c6b0 : decide (x13_1 < (l0.length : Int)) = true := decide_eq_true c6
       clear c6
       by_cases c7 : x13_1 < (l1.length : Int)
       ·
        rw [if_pos c7] at H
        have c7b0 : decide (x13_1 < (l1.length : Int)) = true := decide_eq_true c7
        clear c7
        by_cases c8 : (!((((rd_T47 l0 x13_1).f0).toList) == (((rd_T47 l1 x13_1).f0).toList)) || (!((((rd_T47 l0 x13_1).f1).toList) == (((rd_T47 l1 x13_1).f1).toList)))) = true
        ·
         rw [if_pos c8] at H
         have c8b0 : (!((((rd_T47 l0 x13_1).f0).toList) == (((rd_T47 l1 x13_1).f0).toList)) || (!((((rd_T47 l0 x13_1).f1).toList) == (((rd_T47 l1 x13_1).f1).toList)))) = true := c8
         clear c8
         obtain rfl := Option.some.inj H
         have p282 : 0 ≤ (x13_1 : Int) := of_decide_eq_true sA
         have q282 : x13_1 < (l0.length : Int) := of_decide_eq_true sA
         obtain ⟨ad282, e282, hx282_0, hx282_1⟩ := at_T47 HR0.out x13_1 p282 q282
         cases e282
         replace p282 := eq_true p282
         replace q282 := eq_true q282
         have p283 : 0 ≤ (x13_1 : Int) := of_decide_eq_true sA
         have q283 : x13_1 < (l1.length : Int) := of_decide_eq_true sA
         obtain ⟨ad283, e283, hx283_0, hx283_1⟩ := at_T47 HR1.out x13_1 p283 q283
         cases e283
         replace p283 := eq_true p283
         replace q283 := eq_true q283
         go_wp2
         repeat (go_quiet (fail); try go_wp2)
         go_ret
         exact ⟨by first | rfl | (simp; done) | (simp [*]; done), by repeat (first | exact Drawn0.refl _ | apply Drawn0.step)⟩
        ·
         rw [if_neg c8] at H
         have c8b0 : (!((((rd_T47 l0 x13_1).f0).toList) == (((rd_T47 l1 x13_1).f0).toList)) || (!((((rd_T47 l0 x13_1).f1).toList) == (((rd_T47 l1 x13_1).f1).toList)))) = false := by simpa using c8
         clear c8
         have H' := Aside0.mk H
         clear H
         have p282 : 0 ≤ (x13_1 : Int) := of_decide_eq_true sA
         have q282 : x13_1 < (l0.length : Int) := of_decide_eq_true sA
         obtain ⟨ad282, e282, hx282_0, hx282_1⟩ := at_T47 HR0.out x13_1 p282 q282
         cases e282
         replace p282 := eq_true p282
         replace q282 := eq_true q282
         have p283 : 0 ≤ (x13_1 : Int) := of_decide_eq_true sA
         have q283 : x13_1 < (l1.length : Int) := of_decide_eq_true sA
         obtain ⟨ad283, e283, hx283_0, hx283_1⟩ := at_T47 HR1.out x13_1 p283 q283
         cases e283
         replace p283 := eq_true p283
         replace q283 := eq_true q283
         go_wp2
         repeat (go_quiet (fail); try go_wp2)
         go_roundg k1
         case measure => have := HK1.out; omega
         case rel => exact ⟨(wrap64 (x13_1 + 1)), (by first | rfl | (simp; done) | (simp [*]; done)), H', ⟨by have := HK1.out; omega⟩, by repeat (first | exact Drawn0.refl _ | apply Drawn0.step)⟩
       ·
        rw [if_neg c7] at H
        exact absurd H (by simp)
      ·
       rw [if_neg c6] at H
       exact absurd H (by simp)
     ·
      rw [if_neg c5] at H
      exact absurd H (by simp)
    ·
     rw [if_neg c4] at H
     have c4b0 : decide (x13_1 < (l0.length : Int)) = false := decide_eq_false c4
     clear c4
     obtain rfl := Option.some.inj H
     go_wp2
     repeat (go_quiet (fail); try go_wp2)
     go_ret
     exact ⟨by first | rfl | (simp; done) | (simp [*]; done), by repeat (first | exact Drawn0.refl _ | apply Drawn0.step)⟩
 ·
  rw [if_neg c3] at H
  have c3b0 : ((l0.length : Int) == (l1.length : Int)) = false := beq_eq_false_iff_ne.mpr c3
  have c3b1 : ((l0.length : Int) != (l1.length : Int)) = true := bne_iff_ne.mpr c3
  have c3b2 : (l0.length == l1.length) = false := by first | simpa using c3 | (simp at c3 ⊢; omega)
  obtain rfl := Option.some.inj H
  go_enter Tryz.func50, Tryz.ntmps50
  go_wp2
  repeat (go_quiet (fail); try go_wp2)
  go_ret
  exact ⟨by first | rfl | (simp; done) | (simp [*]; done), by repeat (first | exact Drawn0.refl _ | apply Drawn0.step)⟩
def verb_same.f (k : Nat) (a0_0 : Int) (a0_1 : ByteArray) (a0_2 : Bool) (a0_3 : ByteArray) (a0_4 : ByteArray) (l0_5 : List (S47)) (a1_0 : Int) (a1_1 : ByteArray) (a1_2 : Bool) (a1_3 : ByteArray) (a1_4 : ByteArray) (l1_5 : List (S47)) : Option (Bool) := if a0_0 = a1_0 then (if a0_1.toList = a1_1.toList then (if (a0_2 == a1_2 && (a0_3.toList == a1_3.toList && (a0_4.toList == a1_4.toList))) = true then ((api_Param_50.f k l0_5 l1_5).bind fun t286 => (some t286)) else (some false)) else (some false)) else (some false)
theorem verb_same.mono : ∀ a0 a1 a2 a3 a4 a5 a6 a7 a8 a9 a10 a11 k, LeO (verb_same.f k a0 a1 a2 a3 a4 a5 a6 a7 a8 a9 a10 a11) (verb_same.f (k + 1) a0 a1 a2 a3 a4 a5 a6 a7 a8 a9 a10 a11) := by
 intro a0 a1 a2 a3 a4 a5 a6 a7 a8 a9 a10 a11 k
 unfold verb_same.f
 repeat' first
   | (with_reducible exact api_Param_50.mono _ _ _)
   | (with_reducible exact LeO.refl _)
   | (with_reducible exact LeO.none _)
   | (with_reducible refine LeO.ite ?_ ?_)
   | (with_reducible refine LeO.bind ?_ (fun _ => ?_))
   | exact api_Param_50.mono _ _ _
   | exact LeO.none _
   | refine LeO.ite ?_ ?_
   | refine LeO.bind ?_ (fun _ => ?_)
set_option maxHeartbeats 8000000 in
set_option maxRecDepth 100000 in
theorem verb_same.calls (k : Nat) (a0_0 : Int) (a0_1 : ByteArray) (a0_2 : Bool) (a0_3 : ByteArray) (a0_4 : ByteArray) (A0_5 : Option Addr) (c0_5 : Nat) (l0_5 : List (S47)) (a1_0 : Int) (a1_1 : ByteArray) (a1_2 : Bool) (a1_3 : ByteArray) (a1_4 : ByteArray) (A1_5 : Option Addr) (c1_5 : Nat) (l1_5 : List (S47)) (r : Bool) (w : World) (hr0_5 : Kd.C k47 w A0_5 l0_5.length l0_5) (hc0_5 : l0_5.length ≤ c0_5) (hr1_5 : Kd.C k47 w A1_5 l1_5.length l1_5) (hc1_5 : l1_5.length ≤ c1_5) (h : verb_same.f k a0_0 a0_1 a0_2 a0_3 a0_4 l0_5 a1_0 a1_1 a1_2 a1_3 a1_4 l1_5 = some r) :
  Calls Tryz.prog 32 #[.agg #[.int .i64 a0_0, .string a0_1, .bool a0_2, .string a0_3, .string a0_4, .slice A0_5 l0_5.length c0_5], .agg #[.int .i64 a1_0, .string a1_1, .bool a1_2, .string a1_3, .string a1_4, .slice A1_5 l1_5.length c1_5]] w fun e w' => e = .returned (.bool r) ∧ Below w.heap.size w w' := by
 have hu26 := Tryz.underlying26
 have hu23 := Tryz.underlying23
 have HR0_5 := Aside0.mk hr0_5
 have HC0_5 := Aside0.mk hc0_5
 clear hr0_5 hc0_5
 have HR1_5 := Aside0.mk hr1_5
 have HC1_5 := Aside0.mk hc1_5
 clear hr1_5 hc1_5
 have HB := Aside0.mk (Below.refl w.heap.size w)
 have H : (if a0_0 = a1_0 then (if a0_1.toList = a1_1.toList then (if (a0_2 == a1_2 && (a0_3.toList == a1_3.toList && (a0_4.toList == a1_4.toList))) = true then ((api_Param_50.f k l0_5 l1_5).bind fun t286 => (some t286)) else (some false)) else (some false)) else (some false)) = some r := h
 clear h
 by_cases c3 : a0_0 = a1_0
 ·
  rw [if_pos c3] at H
  have c3b0 : (a0_0 == a1_0) = true := beq_iff_eq.mpr c3
  have c3b1 : (a0_0 != a1_0) = false := bne_eq_false_iff_eq.mpr c3
  clear c3
  by_cases c4 : a0_1.toList = a1_1.toList
  ·
   rw [if_pos c4] at H
   have c4b0 : (a0_1.toList == a1_1.toList) = true := beq_iff_eq.mpr c4
   have c4b1 : (a0_1.toList != a1_1.toList) = false := bne_eq_false_iff_eq.mpr c4
   clear c4
   by_cases c5 : (a0_2 == a1_2 && (a0_3.toList == a1_3.toList && (a0_4.toList == a1_4.toList))) = true
   ·
    rw [if_pos c5] at H
    have c5b0 : (a0_2 == a1_2 && (a0_3.toList == a1_3.toList && (a0_4.toList == a1_4.toList))) = true := c5
    (try (have c5b1 : decide (a0_2 = a1_2 && (a0_3.toList == a1_3.toList && (a0_4.toList == a1_4.toList))) = true := by simpa using c5))
    (try (have c5b2 : (a0_2 == a1_2 && (a0_3.toList == a1_3.toList && (a0_4.toList == a1_4.toList))) = true := by simpa using c5))
    clear c5
    replace H := Option.bind_eq_some_iff.mp H
    obtain ⟨t286, A60, H⟩ := H
    try dsimp -simprocs only at H
    have A6 := Aside0.mk A60
    clear A60
    obtain rfl := Option.some.inj H
    go_enter Tryz.func32, Tryz.ntmps32
    go_wp2_with (first | ((with_reducible refine gate_dst (N := 2) rfl ?_); refine box_event ?hg (N := 2) ?hd (cs := #[.int .i64 a0_0, .string a0_1, .bool a0_2, .string a0_3, .string a0_4, .slice A0_5 l0_5.length c0_5]) (t := 26) ?hr ?_; (case hd => rfl); (case hg => rfl); (case hr => first | (go_simp; done) | (go_simp; rfl)); intro gb284 hg w7 hbox hb; have BK284 := Aside0.mk (hbox); have GW284 := Aside0.mk ((by rw [hg]; exact (below_size (sB HB.out)) : w.heap.size ≤ gb284)); have GE284 := Aside0.mk ((by rw [hg]; exact (below_size (sB HB.out)) : w.heap.size ≤ gb284)); replace HB := Aside0.mk (below_step (sB HB.out) hb); clear hb hbox hg) | ((with_reducible refine gate_dst (N := 3) rfl ?_); refine box_event ?hg (N := 3) ?hd (cs := #[.int .i64 a1_0, .string a1_1, .bool a1_2, .string a1_3, .string a1_4, .slice A1_5 l1_5.length c1_5]) (t := 26) ?hr ?_; (case hd => rfl); (case hg => rfl); (case hr => first | (go_simp; done) | (go_simp; rfl)); intro gb285 hg w8 hbox hb; have BK285 := Aside0.mk (hbox); have GW285 := Aside0.mk ((by rw [hg]; exact (below_size (sB HB.out)) : w.heap.size ≤ gb285)); have GE285 := Aside0.mk ((by rw [hg]; exact (below_size (sB HB.out)) : w.heap.size ≤ gb285)); replace HB := Aside0.mk (below_step (sB HB.out) hb); have NB284_285 := Aside0.mk ((by rw [hg]; exact Nat.ne_of_lt (blk_lt (g := gb284) (o := .cells #[.int .i64 a0_0, .string a0_1, .bool a0_2, .string a0_3, .string a0_4, .slice A0_5 l0_5.length c0_5] 26 (0, 0)) (sK BK284.out)) : gb284 ≠ gb285)); have NB285_284 := Aside0.mk ((by rw [hg]; exact Nat.ne_of_gt (blk_lt (g := gb284) (o := .cells #[.int .i64 a0_0, .string a0_1, .bool a0_2, .string a0_3, .string a0_4, .slice A0_5 l0_5.length c0_5] 26 (0, 0)) (sK BK284.out)) : gb285 ≠ gb284)); replace BK284 := Aside0.mk (blk_below (g := gb284) (o := .cells #[.int .i64 a0_0, .string a0_1, .bool a0_2, .string a0_3, .string a0_4, .slice A0_5 l0_5.length c0_5] 26 (0, 0)) (sK BK284.out) hb); clear hb hbox hg; have hnb9 := NB284_285.out; have hnc9 := NB285_284.out; have hcz10_0 := sC BK284.out 0; have hcz10_1 := sC BK284.out 1; have hcz10_2 := sC BK284.out 2; have hcz10_3 := sC BK284.out 3; have hcz10_4 := sC BK284.out 4; have hcz10_5 := sC BK284.out 5; have hfz10_0 := blk_frozen BK284.out 0; have hfz10_1 := blk_frozen BK284.out 1; have hfz10_2 := blk_frozen BK284.out 2; have hfz10_3 := blk_frozen BK284.out 3; have hfz10_4 := blk_frozen BK284.out 4; have hfz10_5 := blk_frozen BK284.out 5; have hcz11_0 := sC BK285.out 0; have hcz11_1 := sC BK285.out 1; have hcz11_2 := sC BK285.out 2; have hcz11_3 := sC BK285.out 3; have hcz11_4 := sC BK285.out 4; have hcz11_5 := sC BK285.out 5; have hfz11_0 := blk_frozen BK285.out 0; have hfz11_1 := blk_frozen BK285.out 1; have hfz11_2 := blk_frozen BK285.out 2; have hfz11_3 := blk_frozen BK285.out 3; have hfz11_4 := blk_frozen BK285.out 4; have hfz11_5 := blk_frozen BK285.out 5) | (go_at_call 50; (with_reducible refine (api_Param_50.calls k _ _ l0_5 _ _ l1_5 t286 _ ?side1 ?side2 ?side3 ?side4 A6.out).mono ?_); (case side1 => repeat (first | exact (Kd.C_below HR0_5.out HB.out) | (with_reducible refine Kd.C_alloc ?_ _) | (with_reducible refine Kd.C_drewN ?_ _) | (with_reducible refine Kd.C_drew ?_))); (case side2 => exact HC0_5.out); (case side3 => repeat (first | exact (Kd.C_below HR1_5.out HB.out) | (with_reducible refine Kd.C_alloc ?_ _) | (with_reducible refine Kd.C_drewN ?_ _) | (with_reducible refine Kd.C_drew ?_))); (case side4 => exact HC1_5.out); rintro e w' ⟨rfl, ⟨nd, rfl⟩⟩))
    go_ret
    exact ⟨by first | rfl | (simp [errW_none, errW_some] <;> rfl) | (simp [*, errW_none, errW_some] <;> rfl), sB HB.out⟩
   ·
    rw [if_neg c5] at H
    have c5b0 : (a0_2 == a1_2 && (a0_3.toList == a1_3.toList && (a0_4.toList == a1_4.toList))) = false := by simpa using c5
    (try (have c5b1 : decide (a0_2 = a1_2 && (a0_3.toList == a1_3.toList && (a0_4.toList == a1_4.toList))) = false := by simpa using c5))
    (try (have c5b2 : (a0_2 == a1_2 && (a0_3.toList == a1_3.toList && (a0_4.toList == a1_4.toList))) = false := by simpa using c5))
    (try (have c5b3 : ¬ (a0_2 = a1_2 && (a0_3.toList == a1_3.toList && (a0_4.toList == a1_4.toList))) := by simpa using c5))
    clear c5
    obtain rfl := Option.some.inj H
    go_enter Tryz.func32, Tryz.ntmps32
    go_wp2_with (first | ((with_reducible refine gate_dst (N := 2) rfl ?_); refine box_event ?hg (N := 2) ?hd (cs := #[.int .i64 a0_0, .string a0_1, .bool a0_2, .string a0_3, .string a0_4, .slice A0_5 l0_5.length c0_5]) (t := 26) ?hr ?_; (case hd => rfl); (case hg => rfl); (case hr => first | (go_simp; done) | (go_simp; rfl)); intro gb284 hg w12 hbox hb; have BK284 := Aside0.mk (hbox); have GW284 := Aside0.mk ((by rw [hg]; exact (below_size (sB HB.out)) : w.heap.size ≤ gb284)); have GE284 := Aside0.mk ((by rw [hg]; exact (below_size (sB HB.out)) : w.heap.size ≤ gb284)); replace HB := Aside0.mk (below_step (sB HB.out) hb); clear hb hbox hg) | ((with_reducible refine gate_dst (N := 3) rfl ?_); refine box_event ?hg (N := 3) ?hd (cs := #[.int .i64 a1_0, .string a1_1, .bool a1_2, .string a1_3, .string a1_4, .slice A1_5 l1_5.length c1_5]) (t := 26) ?hr ?_; (case hd => rfl); (case hg => rfl); (case hr => first | (go_simp; done) | (go_simp; rfl)); intro gb285 hg w13 hbox hb; have BK285 := Aside0.mk (hbox); have GW285 := Aside0.mk ((by rw [hg]; exact (below_size (sB HB.out)) : w.heap.size ≤ gb285)); have GE285 := Aside0.mk ((by rw [hg]; exact (below_size (sB HB.out)) : w.heap.size ≤ gb285)); replace HB := Aside0.mk (below_step (sB HB.out) hb); have NB284_285 := Aside0.mk ((by rw [hg]; exact Nat.ne_of_lt (blk_lt (g := gb284) (o := .cells #[.int .i64 a0_0, .string a0_1, .bool a0_2, .string a0_3, .string a0_4, .slice A0_5 l0_5.length c0_5] 26 (0, 0)) (sK BK284.out)) : gb284 ≠ gb285)); have NB285_284 := Aside0.mk ((by rw [hg]; exact Nat.ne_of_gt (blk_lt (g := gb284) (o := .cells #[.int .i64 a0_0, .string a0_1, .bool a0_2, .string a0_3, .string a0_4, .slice A0_5 l0_5.length c0_5] 26 (0, 0)) (sK BK284.out)) : gb285 ≠ gb284)); replace BK284 := Aside0.mk (blk_below (g := gb284) (o := .cells #[.int .i64 a0_0, .string a0_1, .bool a0_2, .string a0_3, .string a0_4, .slice A0_5 l0_5.length c0_5] 26 (0, 0)) (sK BK284.out) hb); clear hb hbox hg; have hnb14 := NB284_285.out; have hnc14 := NB285_284.out; have hcz15_0 := sC BK284.out 0; have hcz15_1 := sC BK284.out 1; have hcz15_2 := sC BK284.out 2; have hcz15_3 := sC BK284.out 3; have hcz15_4 := sC BK284.out 4; have hcz15_5 := sC BK284.out 5; have hfz15_0 := blk_frozen BK284.out 0; have hfz15_1 := blk_frozen BK284.out 1; have hfz15_2 := blk_frozen BK284.out 2; have hfz15_3 := blk_frozen BK284.out 3; have hfz15_4 := blk_frozen BK284.out 4; have hfz15_5 := blk_frozen BK284.out 5; have hcz16_0 := sC BK285.out 0; have hcz16_1 := sC BK285.out 1; have hcz16_2 := sC BK285.out 2; have hcz16_3 := sC BK285.out 3; have hcz16_4 := sC BK285.out 4; have hcz16_5 := sC BK285.out 5; have hfz16_0 := blk_frozen BK285.out 0; have hfz16_1 := blk_frozen BK285.out 1; have hfz16_2 := blk_frozen BK285.out 2; have hfz16_3 := blk_frozen BK285.out 3; have hfz16_4 := blk_frozen BK285.out 4; have hfz16_5 := blk_frozen BK285.out 5))
    go_ret
    exact ⟨by first | rfl | (simp [errW_none, errW_some] <;> rfl) | (simp [*, errW_none, errW_some] <;> rfl), sB HB.out⟩
  ·
   rw [if_neg c4] at H
   have c4b0 : (a0_1.toList == a1_1.toList) = false := beq_eq_false_iff_ne.mpr c4
   have c4b1 : (a0_1.toList != a1_1.toList) = true := bne_iff_ne.mpr c4
   obtain rfl := Option.some.inj H
   go_enter Tryz.func32, Tryz.ntmps32
   go_wp2_with (first | ((with_reducible refine gate_dst (N := 2) rfl ?_); refine box_event ?hg (N := 2) ?hd (cs := #[.int .i64 a0_0, .string a0_1, .bool a0_2, .string a0_3, .string a0_4, .slice A0_5 l0_5.length c0_5]) (t := 26) ?hr ?_; (case hd => rfl); (case hg => rfl); (case hr => first | (go_simp; done) | (go_simp; rfl)); intro gb284 hg w17 hbox hb; have BK284 := Aside0.mk (hbox); have GW284 := Aside0.mk ((by rw [hg]; exact (below_size (sB HB.out)) : w.heap.size ≤ gb284)); have GE284 := Aside0.mk ((by rw [hg]; exact (below_size (sB HB.out)) : w.heap.size ≤ gb284)); replace HB := Aside0.mk (below_step (sB HB.out) hb); clear hb hbox hg) | ((with_reducible refine gate_dst (N := 3) rfl ?_); refine box_event ?hg (N := 3) ?hd (cs := #[.int .i64 a1_0, .string a1_1, .bool a1_2, .string a1_3, .string a1_4, .slice A1_5 l1_5.length c1_5]) (t := 26) ?hr ?_; (case hd => rfl); (case hg => rfl); (case hr => first | (go_simp; done) | (go_simp; rfl)); intro gb285 hg w18 hbox hb; have BK285 := Aside0.mk (hbox); have GW285 := Aside0.mk ((by rw [hg]; exact (below_size (sB HB.out)) : w.heap.size ≤ gb285)); have GE285 := Aside0.mk ((by rw [hg]; exact (below_size (sB HB.out)) : w.heap.size ≤ gb285)); replace HB := Aside0.mk (below_step (sB HB.out) hb); have NB284_285 := Aside0.mk ((by rw [hg]; exact Nat.ne_of_lt (blk_lt (g := gb284) (o := .cells #[.int .i64 a0_0, .string a0_1, .bool a0_2, .string a0_3, .string a0_4, .slice A0_5 l0_5.length c0_5] 26 (0, 0)) (sK BK284.out)) : gb284 ≠ gb285)); have NB285_284 := Aside0.mk ((by rw [hg]; exact Nat.ne_of_gt (blk_lt (g := gb284) (o := .cells #[.int .i64 a0_0, .string a0_1, .bool a0_2, .string a0_3, .string a0_4, .slice A0_5 l0_5.length c0_5] 26 (0, 0)) (sK BK284.out)) : gb285 ≠ gb284)); replace BK284 := Aside0.mk (blk_below (g := gb284) (o := .cells #[.int .i64 a0_0, .string a0_1, .bool a0_2, .string a0_3, .string a0_4, .slice A0_5 l0_5.length c0_5] 26 (0, 0)) (sK BK284.out) hb); clear hb hbox hg; have hnb19 := NB284_285.out; have hnc19 := NB285_284.out; have hcz20_0 := sC BK284.out 0; have hcz20_1 := sC BK284.out 1; have hcz20_2 := sC BK284.out 2; have hcz20_3 := sC BK284.out 3; have hcz20_4 := sC BK284.out 4; have hcz20_5 := sC BK284.out 5; have hfz20_0 := blk_frozen BK284.out 0; have hfz20_1 := blk_frozen BK284.out 1; have hfz20_2 := blk_frozen BK284.out 2; have hfz20_3 := blk_frozen BK284.out 3; have hfz20_4 := blk_frozen BK284.out 4; have hfz20_5 := blk_frozen BK284.out 5; have hcz21_0 := sC BK285.out 0; have hcz21_1 := sC BK285.out 1; have hcz21_2 := sC BK285.out 2; have hcz21_3 := sC BK285.out 3; have hcz21_4 := sC BK285.out 4; have hcz21_5 := sC BK285.out 5; have hfz21_0 := blk_frozen BK285.out 0; have hfz21_1 := blk_frozen BK285.out 1; have hfz21_2 := blk_frozen BK285.out 2; have hfz21_3 := blk_frozen BK285.out 3; have hfz21_4 := blk_frozen BK285.out 4; have hfz21_5 := blk_frozen BK285.out 5))
   go_ret
   exact ⟨by first | rfl | (simp [errW_none, errW_some] <;> rfl) | (simp [*, errW_none, errW_some] <;> rfl), sB HB.out⟩
 ·
  rw [if_neg c3] at H
  have c3b0 : (a0_0 == a1_0) = false := beq_eq_false_iff_ne.mpr c3
  have c3b1 : (a0_0 != a1_0) = true := bne_iff_ne.mpr c3
  obtain rfl := Option.some.inj H
  go_enter Tryz.func32, Tryz.ntmps32
  go_wp2_with (first | ((with_reducible refine gate_dst (N := 2) rfl ?_); refine box_event ?hg (N := 2) ?hd (cs := #[.int .i64 a0_0, .string a0_1, .bool a0_2, .string a0_3, .string a0_4, .slice A0_5 l0_5.length c0_5]) (t := 26) ?hr ?_; (case hd => rfl); (case hg => rfl); (case hr => first | (go_simp; done) | (go_simp; rfl)); intro gb284 hg w22 hbox hb; have BK284 := Aside0.mk (hbox); have GW284 := Aside0.mk ((by rw [hg]; exact (below_size (sB HB.out)) : w.heap.size ≤ gb284)); have GE284 := Aside0.mk ((by rw [hg]; exact (below_size (sB HB.out)) : w.heap.size ≤ gb284)); replace HB := Aside0.mk (below_step (sB HB.out) hb); clear hb hbox hg) | ((with_reducible refine gate_dst (N := 3) rfl ?_); refine box_event ?hg (N := 3) ?hd (cs := #[.int .i64 a1_0, .string a1_1, .bool a1_2, .string a1_3, .string a1_4, .slice A1_5 l1_5.length c1_5]) (t := 26) ?hr ?_; (case hd => rfl); (case hg => rfl); (case hr => first | (go_simp; done) | (go_simp; rfl)); intro gb285 hg w23 hbox hb; have BK285 := Aside0.mk (hbox); have GW285 := Aside0.mk ((by rw [hg]; exact (below_size (sB HB.out)) : w.heap.size ≤ gb285)); have GE285 := Aside0.mk ((by rw [hg]; exact (below_size (sB HB.out)) : w.heap.size ≤ gb285)); replace HB := Aside0.mk (below_step (sB HB.out) hb); have NB284_285 := Aside0.mk ((by rw [hg]; exact Nat.ne_of_lt (blk_lt (g := gb284) (o := .cells #[.int .i64 a0_0, .string a0_1, .bool a0_2, .string a0_3, .string a0_4, .slice A0_5 l0_5.length c0_5] 26 (0, 0)) (sK BK284.out)) : gb284 ≠ gb285)); have NB285_284 := Aside0.mk ((by rw [hg]; exact Nat.ne_of_gt (blk_lt (g := gb284) (o := .cells #[.int .i64 a0_0, .string a0_1, .bool a0_2, .string a0_3, .string a0_4, .slice A0_5 l0_5.length c0_5] 26 (0, 0)) (sK BK284.out)) : gb285 ≠ gb284)); replace BK284 := Aside0.mk (blk_below (g := gb284) (o := .cells #[.int .i64 a0_0, .string a0_1, .bool a0_2, .string a0_3, .string a0_4, .slice A0_5 l0_5.length c0_5] 26 (0, 0)) (sK BK284.out) hb); clear hb hbox hg; have hnb24 := NB284_285.out; have hnc24 := NB285_284.out; have hcz25_0 := sC BK284.out 0; have hcz25_1 := sC BK284.out 1; have hcz25_2 := sC BK284.out 2; have hcz25_3 := sC BK284.out 3; have hcz25_4 := sC BK284.out 4; have hcz25_5 := sC BK284.out 5; have hfz25_0 := blk_frozen BK284.out 0; have hfz25_1 := blk_frozen BK284.out 1; have hfz25_2 := blk_frozen BK284.out 2; have hfz25_3 := blk_frozen BK284.out 3; have hfz25_4 := blk_frozen BK284.out 4; have hfz25_5 := blk_frozen BK284.out 5; have hcz26_0 := sC BK285.out 0; have hcz26_1 := sC BK285.out 1; have hcz26_2 := sC BK285.out 2; have hcz26_3 := sC BK285.out 3; have hcz26_4 := sC BK285.out 4; have hcz26_5 := sC BK285.out 5; have hfz26_0 := blk_frozen BK285.out 0; have hfz26_1 := blk_frozen BK285.out 1; have hfz26_2 := blk_frozen BK285.out 2; have hfz26_3 := blk_frozen BK285.out 3; have hfz26_4 := blk_frozen BK285.out 4; have hfz26_5 := blk_frozen BK285.out 5))
  go_ret
  exact ⟨by first | rfl | (simp [errW_none, errW_some] <;> rfl) | (simp [*, errW_none, errW_some] <;> rfl), sB HB.out⟩
def verb_Text.f (k : Nat) (a0_0 : Int) (a0_1 : ByteArray) (a0_2 : Bool) (a0_3 : ByteArray) (a0_4 : ByteArray) (l0_5 : List (S47)) : Option (ByteArray × Int) := (verb_line.f a0_0 a0_1 a0_2 a0_3 a0_4 l0_5).bind fun t288 => ((verb_Parse.f k t288).bind fun bt289 => (if bt289.2.2.2.2.2.2 = 0 then ((verb_same.f k bt289.1 bt289.2.1 bt289.2.2.1 bt289.2.2.2.1 bt289.2.2.2.2.1 bt289.2.2.2.2.2.1 a0_0 a0_1 a0_2 a0_3 a0_4 l0_5).bind fun t299 => (if t299 = true then (some (t288, 0)) else (some ((⟨#[]⟩ : ByteArray), 5)))) else (some ((⟨#[]⟩ : ByteArray), 5))))
theorem verb_Text.mono : ∀ a0 a1 a2 a3 a4 a5 k, LeO (verb_Text.f k a0 a1 a2 a3 a4 a5) (verb_Text.f (k + 1) a0 a1 a2 a3 a4 a5) := by
 intro a0 a1 a2 a3 a4 a5 k
 unfold verb_Text.f
 repeat' first
   | (with_reducible exact verb_Parse.mono _ _)
   | (with_reducible exact verb_same.mono _ _ _ _ _ _ _ _ _ _ _ _ _)
   | (with_reducible exact LeO.refl _)
   | (with_reducible exact LeO.none _)
   | (with_reducible refine LeO.ite ?_ ?_)
   | (with_reducible refine LeO.bind ?_ (fun _ => ?_))
   | exact verb_Parse.mono _ _
   | exact verb_same.mono _ _ _ _ _ _ _ _ _ _ _ _ _
   | exact LeO.none _
   | refine LeO.ite ?_ ?_
   | refine LeO.bind ?_ (fun _ => ?_)
set_option maxHeartbeats 8000000 in
set_option maxRecDepth 100000 in
theorem verb_Text.calls (k : Nat) (a0_0 : Int) (a0_1 : ByteArray) (a0_2 : Bool) (a0_3 : ByteArray) (a0_4 : ByteArray) (A0_5 : Option Addr) (c0_5 : Nat) (l0_5 : List (S47)) (r1 : ByteArray) (r2 : Int) (w : World) (hG : Glob w) (hr0_5 : Kd.C k47 w A0_5 l0_5.length l0_5) (hc0_5 : l0_5.length ≤ c0_5) (h : verb_Text.f k a0_0 a0_1 a0_2 a0_3 a0_4 l0_5 = some (r1, r2)) :
  Calls Tryz.prog 8 #[.agg #[.int .i64 a0_0, .string a0_1, .bool a0_2, .string a0_3, .string a0_4, .slice A0_5 l0_5.length c0_5]] w fun e w' => e = .returned (.tuple #[.string r1, .int .i64 r2]) ∧ Below w.heap.size w w' := by
 have hu26 := Tryz.underlying26
 have HR0_5 := Aside0.mk hr0_5
 have HC0_5 := Aside0.mk hc0_5
 clear hr0_5 hc0_5
 have HB := Aside0.mk (Below.refl w.heap.size w)
 have HG := Aside0.mk hG
 clear hG
 have H : ((verb_line.f a0_0 a0_1 a0_2 a0_3 a0_4 l0_5).bind fun t288 => ((verb_Parse.f k t288).bind fun bt289 => (if bt289.2.2.2.2.2.2 = 0 then ((verb_same.f k bt289.1 bt289.2.1 bt289.2.2.1 bt289.2.2.2.1 bt289.2.2.2.2.1 bt289.2.2.2.2.2.1 a0_0 a0_1 a0_2 a0_3 a0_4 l0_5).bind fun t299 => (if t299 = true then (some (t288, 0)) else (some ((⟨#[]⟩ : ByteArray), 5)))) else (some ((⟨#[]⟩ : ByteArray), 5))))) = some (r1, r2) := h
 clear h
 replace H := Option.bind_eq_some_iff.mp H
 obtain ⟨t288, A20, H⟩ := H
 try dsimp -simprocs only at H
 have A2 := Aside0.mk A20
 clear A20
 replace H := Option.bind_eq_some_iff.mp H
 obtain ⟨⟨t289, t290, t291, t292, t293, t294, t297⟩, A30, H⟩ := H
 try dsimp -simprocs only at H
 have A3 := Aside0.mk A30
 clear A30
 by_cases c4 : t297 = 0
 ·
  rw [if_pos c4] at H
  have c4b0 : (t297 == 0) = true := beq_iff_eq.mpr c4
  have c4b1 : (t297 != 0) = false := bne_eq_false_iff_eq.mpr c4
  clear c4
  replace H := Option.bind_eq_some_iff.mp H
  obtain ⟨t299, A50, H⟩ := H
  try dsimp -simprocs only at H
  have A5 := Aside0.mk A50
  clear A50
  by_cases c6 : t299 = true
  ·
   subst c6
   rw [if_pos rfl] at H
   try dsimp -simprocs only at H
   simp only [Option.some.injEq, Prod.mk.injEq] at H
   obtain ⟨rfl, rfl⟩ := H
   go_enter Tryz.func8, Tryz.ntmps8
   go_wp2_with (first | ((with_reducible refine gate_dst (N := 1) rfl ?_); refine box_event ?hg (N := 1) ?hd (cs := #[.int .i64 a0_0, .string a0_1, .bool a0_2, .string a0_3, .string a0_4, .slice A0_5 l0_5.length c0_5]) (t := 26) ?hr ?_; (case hd => rfl); (case hg => rfl); (case hr => first | (go_simp; done) | (go_simp; rfl)); intro gb287 hg w7 hbox hb; have BK287 := Aside0.mk (hbox); have GW287 := Aside0.mk ((by rw [hg]; exact (below_size (sB HB.out)) : w.heap.size ≤ gb287)); have GE287 := Aside0.mk ((by rw [hg]; exact (below_size (sB HB.out)) : w.heap.size ≤ gb287)); replace HB := Aside0.mk (below_step (sB HB.out) hb); clear hb hbox hg; have hcz8_0 := sC BK287.out 0; have hcz8_1 := sC BK287.out 1; have hcz8_2 := sC BK287.out 2; have hcz8_3 := sC BK287.out 3; have hcz8_4 := sC BK287.out 4; have hcz8_5 := sC BK287.out 5; have hfz8_0 := blk_frozen BK287.out 0; have hfz8_1 := blk_frozen BK287.out 1; have hfz8_2 := blk_frozen BK287.out 2; have hfz8_3 := blk_frozen BK287.out 3; have hfz8_4 := blk_frozen BK287.out 4; have hfz8_5 := blk_frozen BK287.out 5) | ((with_reducible refine gate_callee (f := 31) rfl ?_); refine goesL_ (some 8) rfl rfl Tryz.func31 (by kernel_rfl) rfl #[.agg #[.int .i64 a0_0, .string a0_1, .bool a0_2, .string a0_3, .string a0_4, .slice A0_5 l0_5.length c0_5]] rfl sM ?_; (with_reducible refine (verb_line.calls a0_0 a0_1 a0_2 a0_3 a0_4 _ _ l0_5 t288 _ ?side1 ?side2 ?side3 A2.out).mono ?_); (case side1 => exact Glob.below HG.out (sB HB.out)); (case side2 => repeat (first | exact (Kd.C_below HR0_5.out HB.out) | (with_reducible refine Kd.C_alloc ?_ _) | (with_reducible refine Kd.C_drewN ?_ _) | (with_reducible refine Kd.C_drew ?_))); (case side3 => exact HC0_5.out); rintro e w9 ⟨rfl, hb⟩; refine ⟨_, rfl, ?_⟩; replace BK287 := Aside0.mk (blk_below (g := gb287) (o := .cells #[.int .i64 a0_0, .string a0_1, .bool a0_2, .string a0_3, .string a0_4, .slice A0_5 l0_5.length c0_5] 26 (0, 0)) (sK BK287.out) hb); replace HB := Aside0.mk (below_step (sB HB.out) hb); (try clear hb)) | ((with_reducible refine gate_callee (f := 6) rfl ?_); refine goesL_ (some 11) rfl rfl Tryz.func6 (by kernel_rfl) rfl #[.string t288] rfl sM ?_; (with_reducible refine (verb_Parse.calls k t288 t289 t290 t291 t292 t293 t294 t297 _ ?side1 A3.out).mono ?_); (case side1 => exact Glob.below HG.out (sB HB.out)); rintro e w10 ⟨v295, rfl, ho0, hb⟩; refine ⟨_, rfl, ?_⟩; have HO296 := Aside0.mk (Kd.R_lower ho0 (below_size (sB HB.out))); replace BK287 := Aside0.mk (blk_below (g := gb287) (o := .cells #[.int .i64 a0_0, .string a0_1, .bool a0_2, .string a0_3, .string a0_4, .slice A0_5 l0_5.length c0_5] 26 (0, 0)) (sK BK287.out) hb); replace HB := Aside0.mk (below_step (sB HB.out) hb); (try clear hb); (try clear ho0)) | ((with_reducible refine gate_dst (N := 5) rfl ?_); refine box_event ?hg (N := 5) ?hd (cs := #[.int .i64 0, .string ⟨#[]⟩, .bool false, .string ⟨#[]⟩, .string ⟨#[]⟩, .slice none 0 0]) (t := 26) ?hr ?_; (case hd => rfl); (case hg => rfl); (case hr => first | (go_simp; done) | (go_simp; rfl)); intro gb298 hg w11 hbox hb; replace HO296 := Aside0.mk (Kd.R_below (sR HO296.out) hb); have BK298 := Aside0.mk (hbox); have GW298 := Aside0.mk ((by rw [hg]; exact (below_size (sB HB.out)) : w.heap.size ≤ gb298)); have GE298 := Aside0.mk ((by rw [hg]; exact (below_size (sB HB.out)) : w.heap.size ≤ gb298)); replace HB := Aside0.mk (below_step (sB HB.out) hb); have NB287_298 := Aside0.mk ((by rw [hg]; exact Nat.ne_of_lt (blk_lt (g := gb287) (o := .cells #[.int .i64 a0_0, .string a0_1, .bool a0_2, .string a0_3, .string a0_4, .slice A0_5 l0_5.length c0_5] 26 (0, 0)) (sK BK287.out)) : gb287 ≠ gb298)); have NB298_287 := Aside0.mk ((by rw [hg]; exact Nat.ne_of_gt (blk_lt (g := gb287) (o := .cells #[.int .i64 a0_0, .string a0_1, .bool a0_2, .string a0_3, .string a0_4, .slice A0_5 l0_5.length c0_5] 26 (0, 0)) (sK BK287.out)) : gb298 ≠ gb287)); replace BK287 := Aside0.mk (blk_below (g := gb287) (o := .cells #[.int .i64 a0_0, .string a0_1, .bool a0_2, .string a0_3, .string a0_4, .slice A0_5 l0_5.length c0_5] 26 (0, 0)) (sK BK287.out) hb); clear hb hbox hg; have hnb12 := NB298_287.out; have hnc12 := NB287_298.out; have hcz13_0 := sC BK298.out 0; have hcz13_1 := sC BK298.out 1; have hcz13_2 := sC BK298.out 2; have hcz13_3 := sC BK298.out 3; have hcz13_4 := sC BK298.out 4; have hcz13_5 := sC BK298.out 5; have hfz13_0 := blk_frozen BK298.out 0; have hfz13_1 := blk_frozen BK298.out 1; have hfz13_2 := blk_frozen BK298.out 2; have hfz13_3 := blk_frozen BK298.out 3; have hfz13_4 := blk_frozen BK298.out 4; have hfz13_5 := blk_frozen BK298.out 5; obtain ⟨Ao14, co14, eo14⟩ := Kd.R_slice HO296.out; subst eo14; have hcz15_0 := sC BK287.out 0; have hcz15_1 := sC BK287.out 1; have hcz15_2 := sC BK287.out 2; have hcz15_3 := sC BK287.out 3; have hcz15_4 := sC BK287.out 4; have hcz15_5 := sC BK287.out 5; have hfz15_0 := blk_frozen BK287.out 0; have hfz15_1 := blk_frozen BK287.out 1; have hfz15_2 := blk_frozen BK287.out 2; have hfz15_3 := blk_frozen BK287.out 3; have hfz15_4 := blk_frozen BK287.out 4; have hfz15_5 := blk_frozen BK287.out 5) | (go_at_call 32; (with_reducible refine (verb_same.calls k t289 t290 t291 t292 t293 _ _ t294 a0_0 a0_1 a0_2 a0_3 a0_4 _ _ l0_5 true _ ?side1 ?side2 ?side3 ?side4 A5.out).mono ?_); (case side1 => refine (Kd.R_reads' (e := 47) (base := w.heap.size) (ok := fun k_ => True) (n := t294.length) (c := co14) ?_).2.2; exact (by (with_reducible repeat (first | apply Kd.R_alloc | apply Kd.R_drewN | apply Kd.R_drew)); exact (Kd.R_mono (Kd.R_far (p := ⟨gb298, 5, none⟩) (Kd.R_far (p := ⟨gb298, 4, none⟩) (Kd.R_far (p := ⟨gb298, 3, none⟩) (Kd.R_far (p := ⟨gb298, 2, none⟩) (Kd.R_far (p := ⟨gb298, 1, none⟩) (Kd.R_far (p := ⟨gb298, 0, none⟩) (Kd.R_types HO296.out BK298.out (by decide)) (fun _ hk => hk.2) (.int .i64 t289)) (fun _ hk => hk.2) (.string t290)) (fun _ hk => hk.2) (.bool t291)) (fun _ hk => hk.2) (.string t292)) (fun _ hk => hk.2) (.string t293)) (fun _ hk => hk.2) (.slice Ao14 t294.length co14)) (fun _ h_ => h_.1)))); (case side2 => exact (Kd.R_reads' HO296.out).2.1); (case side3 => exact Kd.C_below HR0_5.out (sB HB.out)); (case side4 => exact HC0_5.out); rintro e w16 ⟨rfl, hb⟩; replace HO296 := Aside0.mk (Kd.R_below (by (with_reducible repeat (first | apply Kd.R_alloc | apply Kd.R_drewN | apply Kd.R_drew)); exact (Kd.R_mono (Kd.R_far (p := ⟨gb298, 5, none⟩) (Kd.R_far (p := ⟨gb298, 4, none⟩) (Kd.R_far (p := ⟨gb298, 3, none⟩) (Kd.R_far (p := ⟨gb298, 2, none⟩) (Kd.R_far (p := ⟨gb298, 1, none⟩) (Kd.R_far (p := ⟨gb298, 0, none⟩) (Kd.R_types HO296.out BK298.out (by decide)) (fun _ hk => hk.2) (.int .i64 t289)) (fun _ hk => hk.2) (.string t290)) (fun _ hk => hk.2) (.bool t291)) (fun _ hk => hk.2) (.string t292)) (fun _ hk => hk.2) (.string t293)) (fun _ hk => hk.2) (.slice Ao14 t294.length co14)) (fun _ h_ => h_.1))) hb); replace BK287 := Aside0.mk (blk_below (g := gb287) (o := .cells #[.int .i64 a0_0, .string a0_1, .bool a0_2, .string a0_3, .string a0_4, .slice A0_5 l0_5.length c0_5] 26 (0, 0)) (by refine sK ?_; refine blk_far ?_ NB287_298.out _; refine sK ?_; refine blk_far ?_ NB287_298.out _; refine sK ?_; refine blk_far ?_ NB287_298.out _; refine sK ?_; refine blk_far ?_ NB287_298.out _; refine sK ?_; refine blk_far ?_ NB287_298.out _; refine sK ?_; refine blk_far ?_ NB287_298.out _; refine sK ?_; exact BK287.out) hb); replace BK298 := Aside0.mk (blk_below (g := gb298) (o := .cells #[.int .i64 t289, .string t290, .bool t291, .string t292, .string t293, .slice Ao14 t294.length co14] 26 (0, 0)) (by refine sK ?_; refine blk_put (cs := #[.int .i64 t289, .string t290, .bool t291, .string t292, .string t293, .slice none 0 0]) ?_ 5 _ rfl; refine sK ?_; refine blk_put (cs := #[.int .i64 t289, .string t290, .bool t291, .string t292, .string ⟨#[]⟩, .slice none 0 0]) ?_ 4 _ rfl; refine sK ?_; refine blk_put (cs := #[.int .i64 t289, .string t290, .bool t291, .string ⟨#[]⟩, .string ⟨#[]⟩, .slice none 0 0]) ?_ 3 _ rfl; refine sK ?_; refine blk_put (cs := #[.int .i64 t289, .string t290, .bool false, .string ⟨#[]⟩, .string ⟨#[]⟩, .slice none 0 0]) ?_ 2 _ rfl; refine sK ?_; refine blk_put (cs := #[.int .i64 t289, .string ⟨#[]⟩, .bool false, .string ⟨#[]⟩, .string ⟨#[]⟩, .slice none 0 0]) ?_ 1 _ rfl; refine sK ?_; refine blk_put (cs := #[.int .i64 0, .string ⟨#[]⟩, .bool false, .string ⟨#[]⟩, .string ⟨#[]⟩, .slice none 0 0]) ?_ 0 _ rfl; refine sK ?_; exact BK298.out) hb); replace HB := Aside0.mk (below_step (sB HB.out) hb); (try clear hb); (try clear hk)))
   go_ret2
   exact ⟨by first | rfl | (simp [errW_none, errW_some] <;> rfl) | (simp [*, errW_none, errW_some] <;> rfl), sB HB.out⟩
  ·
   replace c6 := Bool.eq_false_iff.mpr c6
   subst c6
   rw [if_neg (show ¬ (false = true) by decide)] at H
   try dsimp -simprocs only at H
   simp only [Option.some.injEq, Prod.mk.injEq] at H
   obtain ⟨rfl, rfl⟩ := H
   go_enter Tryz.func8, Tryz.ntmps8
   go_wp2_with (first | ((with_reducible refine gate_dst (N := 1) rfl ?_); refine box_event ?hg (N := 1) ?hd (cs := #[.int .i64 a0_0, .string a0_1, .bool a0_2, .string a0_3, .string a0_4, .slice A0_5 l0_5.length c0_5]) (t := 26) ?hr ?_; (case hd => rfl); (case hg => rfl); (case hr => first | (go_simp; done) | (go_simp; rfl)); intro gb287 hg w17 hbox hb; have BK287 := Aside0.mk (hbox); have GW287 := Aside0.mk ((by rw [hg]; exact (below_size (sB HB.out)) : w.heap.size ≤ gb287)); have GE287 := Aside0.mk ((by rw [hg]; exact (below_size (sB HB.out)) : w.heap.size ≤ gb287)); replace HB := Aside0.mk (below_step (sB HB.out) hb); clear hb hbox hg; have hcz18_0 := sC BK287.out 0; have hcz18_1 := sC BK287.out 1; have hcz18_2 := sC BK287.out 2; have hcz18_3 := sC BK287.out 3; have hcz18_4 := sC BK287.out 4; have hcz18_5 := sC BK287.out 5; have hfz18_0 := blk_frozen BK287.out 0; have hfz18_1 := blk_frozen BK287.out 1; have hfz18_2 := blk_frozen BK287.out 2; have hfz18_3 := blk_frozen BK287.out 3; have hfz18_4 := blk_frozen BK287.out 4; have hfz18_5 := blk_frozen BK287.out 5) | ((with_reducible refine gate_callee (f := 31) rfl ?_); refine goesL_ (some 8) rfl rfl Tryz.func31 (by kernel_rfl) rfl #[.agg #[.int .i64 a0_0, .string a0_1, .bool a0_2, .string a0_3, .string a0_4, .slice A0_5 l0_5.length c0_5]] rfl sM ?_; (with_reducible refine (verb_line.calls a0_0 a0_1 a0_2 a0_3 a0_4 _ _ l0_5 t288 _ ?side1 ?side2 ?side3 A2.out).mono ?_); (case side1 => exact Glob.below HG.out (sB HB.out)); (case side2 => repeat (first | exact (Kd.C_below HR0_5.out HB.out) | (with_reducible refine Kd.C_alloc ?_ _) | (with_reducible refine Kd.C_drewN ?_ _) | (with_reducible refine Kd.C_drew ?_))); (case side3 => exact HC0_5.out); rintro e w19 ⟨rfl, hb⟩; refine ⟨_, rfl, ?_⟩; replace BK287 := Aside0.mk (blk_below (g := gb287) (o := .cells #[.int .i64 a0_0, .string a0_1, .bool a0_2, .string a0_3, .string a0_4, .slice A0_5 l0_5.length c0_5] 26 (0, 0)) (sK BK287.out) hb); replace HB := Aside0.mk (below_step (sB HB.out) hb); (try clear hb)) | ((with_reducible refine gate_callee (f := 6) rfl ?_); refine goesL_ (some 11) rfl rfl Tryz.func6 (by kernel_rfl) rfl #[.string t288] rfl sM ?_; (with_reducible refine (verb_Parse.calls k t288 t289 t290 t291 t292 t293 t294 t297 _ ?side1 A3.out).mono ?_); (case side1 => exact Glob.below HG.out (sB HB.out)); rintro e w20 ⟨v295, rfl, ho0, hb⟩; refine ⟨_, rfl, ?_⟩; have HO296 := Aside0.mk (Kd.R_lower ho0 (below_size (sB HB.out))); replace BK287 := Aside0.mk (blk_below (g := gb287) (o := .cells #[.int .i64 a0_0, .string a0_1, .bool a0_2, .string a0_3, .string a0_4, .slice A0_5 l0_5.length c0_5] 26 (0, 0)) (sK BK287.out) hb); replace HB := Aside0.mk (below_step (sB HB.out) hb); (try clear hb); (try clear ho0)) | ((with_reducible refine gate_dst (N := 5) rfl ?_); refine box_event ?hg (N := 5) ?hd (cs := #[.int .i64 0, .string ⟨#[]⟩, .bool false, .string ⟨#[]⟩, .string ⟨#[]⟩, .slice none 0 0]) (t := 26) ?hr ?_; (case hd => rfl); (case hg => rfl); (case hr => first | (go_simp; done) | (go_simp; rfl)); intro gb298 hg w21 hbox hb; replace HO296 := Aside0.mk (Kd.R_below (sR HO296.out) hb); have BK298 := Aside0.mk (hbox); have GW298 := Aside0.mk ((by rw [hg]; exact (below_size (sB HB.out)) : w.heap.size ≤ gb298)); have GE298 := Aside0.mk ((by rw [hg]; exact (below_size (sB HB.out)) : w.heap.size ≤ gb298)); replace HB := Aside0.mk (below_step (sB HB.out) hb); have NB287_298 := Aside0.mk ((by rw [hg]; exact Nat.ne_of_lt (blk_lt (g := gb287) (o := .cells #[.int .i64 a0_0, .string a0_1, .bool a0_2, .string a0_3, .string a0_4, .slice A0_5 l0_5.length c0_5] 26 (0, 0)) (sK BK287.out)) : gb287 ≠ gb298)); have NB298_287 := Aside0.mk ((by rw [hg]; exact Nat.ne_of_gt (blk_lt (g := gb287) (o := .cells #[.int .i64 a0_0, .string a0_1, .bool a0_2, .string a0_3, .string a0_4, .slice A0_5 l0_5.length c0_5] 26 (0, 0)) (sK BK287.out)) : gb298 ≠ gb287)); replace BK287 := Aside0.mk (blk_below (g := gb287) (o := .cells #[.int .i64 a0_0, .string a0_1, .bool a0_2, .string a0_3, .string a0_4, .slice A0_5 l0_5.length c0_5] 26 (0, 0)) (sK BK287.out) hb); clear hb hbox hg; have hnb22 := NB298_287.out; have hnc22 := NB287_298.out; have hcz23_0 := sC BK298.out 0; have hcz23_1 := sC BK298.out 1; have hcz23_2 := sC BK298.out 2; have hcz23_3 := sC BK298.out 3; have hcz23_4 := sC BK298.out 4; have hcz23_5 := sC BK298.out 5; have hfz23_0 := blk_frozen BK298.out 0; have hfz23_1 := blk_frozen BK298.out 1; have hfz23_2 := blk_frozen BK298.out 2; have hfz23_3 := blk_frozen BK298.out 3; have hfz23_4 := blk_frozen BK298.out 4; have hfz23_5 := blk_frozen BK298.out 5; obtain ⟨Ao24, co24, eo24⟩ := Kd.R_slice HO296.out; subst eo24; have hcz25_0 := sC BK287.out 0; have hcz25_1 := sC BK287.out 1; have hcz25_2 := sC BK287.out 2; have hcz25_3 := sC BK287.out 3; have hcz25_4 := sC BK287.out 4; have hcz25_5 := sC BK287.out 5; have hfz25_0 := blk_frozen BK287.out 0; have hfz25_1 := blk_frozen BK287.out 1; have hfz25_2 := blk_frozen BK287.out 2; have hfz25_3 := blk_frozen BK287.out 3; have hfz25_4 := blk_frozen BK287.out 4; have hfz25_5 := blk_frozen BK287.out 5) | (go_at_call 32; (with_reducible refine (verb_same.calls k t289 t290 t291 t292 t293 _ _ t294 a0_0 a0_1 a0_2 a0_3 a0_4 _ _ l0_5 false _ ?side1 ?side2 ?side3 ?side4 A5.out).mono ?_); (case side1 => refine (Kd.R_reads' (e := 47) (base := w.heap.size) (ok := fun k_ => True) (n := t294.length) (c := co24) ?_).2.2; exact (by (with_reducible repeat (first | apply Kd.R_alloc | apply Kd.R_drewN | apply Kd.R_drew)); exact (Kd.R_mono (Kd.R_far (p := ⟨gb298, 5, none⟩) (Kd.R_far (p := ⟨gb298, 4, none⟩) (Kd.R_far (p := ⟨gb298, 3, none⟩) (Kd.R_far (p := ⟨gb298, 2, none⟩) (Kd.R_far (p := ⟨gb298, 1, none⟩) (Kd.R_far (p := ⟨gb298, 0, none⟩) (Kd.R_types HO296.out BK298.out (by decide)) (fun _ hk => hk.2) (.int .i64 t289)) (fun _ hk => hk.2) (.string t290)) (fun _ hk => hk.2) (.bool t291)) (fun _ hk => hk.2) (.string t292)) (fun _ hk => hk.2) (.string t293)) (fun _ hk => hk.2) (.slice Ao24 t294.length co24)) (fun _ h_ => h_.1)))); (case side2 => exact (Kd.R_reads' HO296.out).2.1); (case side3 => exact Kd.C_below HR0_5.out (sB HB.out)); (case side4 => exact HC0_5.out); rintro e w26 ⟨rfl, hb⟩; replace HO296 := Aside0.mk (Kd.R_below (by (with_reducible repeat (first | apply Kd.R_alloc | apply Kd.R_drewN | apply Kd.R_drew)); exact (Kd.R_mono (Kd.R_far (p := ⟨gb298, 5, none⟩) (Kd.R_far (p := ⟨gb298, 4, none⟩) (Kd.R_far (p := ⟨gb298, 3, none⟩) (Kd.R_far (p := ⟨gb298, 2, none⟩) (Kd.R_far (p := ⟨gb298, 1, none⟩) (Kd.R_far (p := ⟨gb298, 0, none⟩) (Kd.R_types HO296.out BK298.out (by decide)) (fun _ hk => hk.2) (.int .i64 t289)) (fun _ hk => hk.2) (.string t290)) (fun _ hk => hk.2) (.bool t291)) (fun _ hk => hk.2) (.string t292)) (fun _ hk => hk.2) (.string t293)) (fun _ hk => hk.2) (.slice Ao24 t294.length co24)) (fun _ h_ => h_.1))) hb); replace BK287 := Aside0.mk (blk_below (g := gb287) (o := .cells #[.int .i64 a0_0, .string a0_1, .bool a0_2, .string a0_3, .string a0_4, .slice A0_5 l0_5.length c0_5] 26 (0, 0)) (by refine sK ?_; refine blk_far ?_ NB287_298.out _; refine sK ?_; refine blk_far ?_ NB287_298.out _; refine sK ?_; refine blk_far ?_ NB287_298.out _; refine sK ?_; refine blk_far ?_ NB287_298.out _; refine sK ?_; refine blk_far ?_ NB287_298.out _; refine sK ?_; refine blk_far ?_ NB287_298.out _; refine sK ?_; exact BK287.out) hb); replace BK298 := Aside0.mk (blk_below (g := gb298) (o := .cells #[.int .i64 t289, .string t290, .bool t291, .string t292, .string t293, .slice Ao24 t294.length co24] 26 (0, 0)) (by refine sK ?_; refine blk_put (cs := #[.int .i64 t289, .string t290, .bool t291, .string t292, .string t293, .slice none 0 0]) ?_ 5 _ rfl; refine sK ?_; refine blk_put (cs := #[.int .i64 t289, .string t290, .bool t291, .string t292, .string ⟨#[]⟩, .slice none 0 0]) ?_ 4 _ rfl; refine sK ?_; refine blk_put (cs := #[.int .i64 t289, .string t290, .bool t291, .string ⟨#[]⟩, .string ⟨#[]⟩, .slice none 0 0]) ?_ 3 _ rfl; refine sK ?_; refine blk_put (cs := #[.int .i64 t289, .string t290, .bool false, .string ⟨#[]⟩, .string ⟨#[]⟩, .slice none 0 0]) ?_ 2 _ rfl; refine sK ?_; refine blk_put (cs := #[.int .i64 t289, .string ⟨#[]⟩, .bool false, .string ⟨#[]⟩, .string ⟨#[]⟩, .slice none 0 0]) ?_ 1 _ rfl; refine sK ?_; refine blk_put (cs := #[.int .i64 0, .string ⟨#[]⟩, .bool false, .string ⟨#[]⟩, .string ⟨#[]⟩, .slice none 0 0]) ?_ 0 _ rfl; refine sK ?_; exact BK298.out) hb); replace HB := Aside0.mk (below_step (sB HB.out) hb); (try clear hb); (try clear hk)))
   go_ret2
   exact ⟨by first | rfl | (simp [errW_none, errW_some] <;> rfl) | (simp [*, errW_none, errW_some] <;> rfl), sB HB.out⟩
 ·
  rw [if_neg c4] at H
  have c4b0 : (t297 == 0) = false := beq_eq_false_iff_ne.mpr c4
  have c4b1 : (t297 != 0) = true := bne_iff_ne.mpr c4
  simp only [Option.some.injEq, Prod.mk.injEq] at H
  obtain ⟨rfl, rfl⟩ := H
  go_enter Tryz.func8, Tryz.ntmps8
  go_wp2_with (first | ((with_reducible refine gate_dst (N := 1) rfl ?_); refine box_event ?hg (N := 1) ?hd (cs := #[.int .i64 a0_0, .string a0_1, .bool a0_2, .string a0_3, .string a0_4, .slice A0_5 l0_5.length c0_5]) (t := 26) ?hr ?_; (case hd => rfl); (case hg => rfl); (case hr => first | (go_simp; done) | (go_simp; rfl)); intro gb287 hg w27 hbox hb; have BK287 := Aside0.mk (hbox); have GW287 := Aside0.mk ((by rw [hg]; exact (below_size (sB HB.out)) : w.heap.size ≤ gb287)); have GE287 := Aside0.mk ((by rw [hg]; exact (below_size (sB HB.out)) : w.heap.size ≤ gb287)); replace HB := Aside0.mk (below_step (sB HB.out) hb); clear hb hbox hg; have hcz28_0 := sC BK287.out 0; have hcz28_1 := sC BK287.out 1; have hcz28_2 := sC BK287.out 2; have hcz28_3 := sC BK287.out 3; have hcz28_4 := sC BK287.out 4; have hcz28_5 := sC BK287.out 5; have hfz28_0 := blk_frozen BK287.out 0; have hfz28_1 := blk_frozen BK287.out 1; have hfz28_2 := blk_frozen BK287.out 2; have hfz28_3 := blk_frozen BK287.out 3; have hfz28_4 := blk_frozen BK287.out 4; have hfz28_5 := blk_frozen BK287.out 5) | ((with_reducible refine gate_callee (f := 31) rfl ?_); refine goesL_ (some 8) rfl rfl Tryz.func31 (by kernel_rfl) rfl #[.agg #[.int .i64 a0_0, .string a0_1, .bool a0_2, .string a0_3, .string a0_4, .slice A0_5 l0_5.length c0_5]] rfl sM ?_; (with_reducible refine (verb_line.calls a0_0 a0_1 a0_2 a0_3 a0_4 _ _ l0_5 t288 _ ?side1 ?side2 ?side3 A2.out).mono ?_); (case side1 => exact Glob.below HG.out (sB HB.out)); (case side2 => repeat (first | exact (Kd.C_below HR0_5.out HB.out) | (with_reducible refine Kd.C_alloc ?_ _) | (with_reducible refine Kd.C_drewN ?_ _) | (with_reducible refine Kd.C_drew ?_))); (case side3 => exact HC0_5.out); rintro e w29 ⟨rfl, hb⟩; refine ⟨_, rfl, ?_⟩; replace BK287 := Aside0.mk (blk_below (g := gb287) (o := .cells #[.int .i64 a0_0, .string a0_1, .bool a0_2, .string a0_3, .string a0_4, .slice A0_5 l0_5.length c0_5] 26 (0, 0)) (sK BK287.out) hb); replace HB := Aside0.mk (below_step (sB HB.out) hb); (try clear hb)) | ((with_reducible refine gate_callee (f := 6) rfl ?_); refine goesL_ (some 11) rfl rfl Tryz.func6 (by kernel_rfl) rfl #[.string t288] rfl sM ?_; (with_reducible refine (verb_Parse.calls k t288 t289 t290 t291 t292 t293 t294 t297 _ ?side1 A3.out).mono ?_); (case side1 => exact Glob.below HG.out (sB HB.out)); rintro e w30 ⟨v295, rfl, ho0, hb⟩; refine ⟨_, rfl, ?_⟩; have HO296 := Aside0.mk (Kd.R_lower ho0 (below_size (sB HB.out))); replace BK287 := Aside0.mk (blk_below (g := gb287) (o := .cells #[.int .i64 a0_0, .string a0_1, .bool a0_2, .string a0_3, .string a0_4, .slice A0_5 l0_5.length c0_5] 26 (0, 0)) (sK BK287.out) hb); replace HB := Aside0.mk (below_step (sB HB.out) hb); (try clear hb); (try clear ho0)) | ((with_reducible refine gate_dst (N := 5) rfl ?_); refine box_event ?hg (N := 5) ?hd (cs := #[.int .i64 0, .string ⟨#[]⟩, .bool false, .string ⟨#[]⟩, .string ⟨#[]⟩, .slice none 0 0]) (t := 26) ?hr ?_; (case hd => rfl); (case hg => rfl); (case hr => first | (go_simp; done) | (go_simp; rfl)); intro gb298 hg w31 hbox hb; replace HO296 := Aside0.mk (Kd.R_below (sR HO296.out) hb); have BK298 := Aside0.mk (hbox); have GW298 := Aside0.mk ((by rw [hg]; exact (below_size (sB HB.out)) : w.heap.size ≤ gb298)); have GE298 := Aside0.mk ((by rw [hg]; exact (below_size (sB HB.out)) : w.heap.size ≤ gb298)); replace HB := Aside0.mk (below_step (sB HB.out) hb); have NB287_298 := Aside0.mk ((by rw [hg]; exact Nat.ne_of_lt (blk_lt (g := gb287) (o := .cells #[.int .i64 a0_0, .string a0_1, .bool a0_2, .string a0_3, .string a0_4, .slice A0_5 l0_5.length c0_5] 26 (0, 0)) (sK BK287.out)) : gb287 ≠ gb298)); have NB298_287 := Aside0.mk ((by rw [hg]; exact Nat.ne_of_gt (blk_lt (g := gb287) (o := .cells #[.int .i64 a0_0, .string a0_1, .bool a0_2, .string a0_3, .string a0_4, .slice A0_5 l0_5.length c0_5] 26 (0, 0)) (sK BK287.out)) : gb298 ≠ gb287)); replace BK287 := Aside0.mk (blk_below (g := gb287) (o := .cells #[.int .i64 a0_0, .string a0_1, .bool a0_2, .string a0_3, .string a0_4, .slice A0_5 l0_5.length c0_5] 26 (0, 0)) (sK BK287.out) hb); clear hb hbox hg; have hnb32 := NB298_287.out; have hnc32 := NB287_298.out; have hcz33_0 := sC BK298.out 0; have hcz33_1 := sC BK298.out 1; have hcz33_2 := sC BK298.out 2; have hcz33_3 := sC BK298.out 3; have hcz33_4 := sC BK298.out 4; have hcz33_5 := sC BK298.out 5; have hfz33_0 := blk_frozen BK298.out 0; have hfz33_1 := blk_frozen BK298.out 1; have hfz33_2 := blk_frozen BK298.out 2; have hfz33_3 := blk_frozen BK298.out 3; have hfz33_4 := blk_frozen BK298.out 4; have hfz33_5 := blk_frozen BK298.out 5; obtain ⟨Ao34, co34, eo34⟩ := Kd.R_slice HO296.out; subst eo34))
  go_ret2
  exact ⟨by first | rfl | (simp [errW_none, errW_some] <;> rfl) | (simp [*, errW_none, errW_some] <;> rfl), sB HB.out⟩
def wherrykeep_Path.f (a0_0 : Bool) (a0_1 : ByteArray) (a0_2 : ByteArray) (a1_0 : Bool) (a1_1 : ByteArray) (a1_2 : ByteArray) : Option (Bool) := if (a0_0 == a1_0) = true then (if a0_1.toList = a1_1.toList then (some (a0_2.toList == a1_2.toList)) else (some false)) else (some false)
set_option maxHeartbeats 8000000 in
set_option maxRecDepth 100000 in
theorem wherrykeep_Path.calls (a0_0 : Bool) (a0_1 : ByteArray) (a0_2 : ByteArray) (a1_0 : Bool) (a1_1 : ByteArray) (a1_2 : ByteArray) (r : Bool) (w : World) (h : wherrykeep_Path.f a0_0 a0_1 a0_2 a1_0 a1_1 a1_2 = some r) :
  Calls Tryz.prog 17 #[.agg #[.bool a0_0, .string a0_1, .string a0_2], .agg #[.bool a1_0, .string a1_1, .string a1_2]] w fun e w' => e = .returned (.bool r) ∧ Below w.heap.size w w' := by
 have hu23 := Tryz.underlying23
 have HB := Aside0.mk (Below.refl w.heap.size w)
 have H : (if (a0_0 == a1_0) = true then (if a0_1.toList = a1_1.toList then (some (a0_2.toList == a1_2.toList)) else (some false)) else (some false)) = some r := h
 clear h
 by_cases c3 : (a0_0 == a1_0) = true
 ·
  rw [if_pos c3] at H
  have c3b0 : (a0_0 == a1_0) = true := c3
  (try (have c3b1 : decide (a0_0 = a1_0) = true := by simpa using c3))
  (try (have c3b2 : (a0_0 == a1_0) = true := by simpa using c3))
  clear c3
  by_cases c4 : a0_1.toList = a1_1.toList
  ·
   rw [if_pos c4] at H
   have c4b0 : (a0_1.toList == a1_1.toList) = true := beq_iff_eq.mpr c4
   have c4b1 : (a0_1.toList != a1_1.toList) = false := bne_eq_false_iff_eq.mpr c4
   clear c4
   obtain rfl := Option.some.inj H
   go_enter Tryz.func17, Tryz.ntmps17
   go_wp2_with (first | ((with_reducible refine gate_dst (N := 2) rfl ?_); refine box_event ?hg (N := 2) ?hd (cs := #[.bool a0_0, .string a0_1, .string a0_2]) (t := 23) ?hr ?_; (case hd => rfl); (case hg => rfl); (case hr => first | (go_simp; done) | (go_simp; rfl)); intro gb300 hg w5 hbox hb; have BK300 := Aside0.mk (hbox); have GW300 := Aside0.mk ((by rw [hg]; exact (below_size (sB HB.out)) : w.heap.size ≤ gb300)); have GE300 := Aside0.mk ((by rw [hg]; exact (below_size (sB HB.out)) : w.heap.size ≤ gb300)); replace HB := Aside0.mk (below_step (sB HB.out) hb); clear hb hbox hg) | ((with_reducible refine gate_dst (N := 3) rfl ?_); refine box_event ?hg (N := 3) ?hd (cs := #[.bool a1_0, .string a1_1, .string a1_2]) (t := 23) ?hr ?_; (case hd => rfl); (case hg => rfl); (case hr => first | (go_simp; done) | (go_simp; rfl)); intro gb301 hg w6 hbox hb; have BK301 := Aside0.mk (hbox); have GW301 := Aside0.mk ((by rw [hg]; exact (below_size (sB HB.out)) : w.heap.size ≤ gb301)); have GE301 := Aside0.mk ((by rw [hg]; exact (below_size (sB HB.out)) : w.heap.size ≤ gb301)); replace HB := Aside0.mk (below_step (sB HB.out) hb); have NB300_301 := Aside0.mk ((by rw [hg]; exact Nat.ne_of_lt (blk_lt (g := gb300) (o := .cells #[.bool a0_0, .string a0_1, .string a0_2] 23 (0, 0)) (sK BK300.out)) : gb300 ≠ gb301)); have NB301_300 := Aside0.mk ((by rw [hg]; exact Nat.ne_of_gt (blk_lt (g := gb300) (o := .cells #[.bool a0_0, .string a0_1, .string a0_2] 23 (0, 0)) (sK BK300.out)) : gb301 ≠ gb300)); replace BK300 := Aside0.mk (blk_below (g := gb300) (o := .cells #[.bool a0_0, .string a0_1, .string a0_2] 23 (0, 0)) (sK BK300.out) hb); clear hb hbox hg; have hnb7 := NB300_301.out; have hnc7 := NB301_300.out; have hcz8_0 := sC BK300.out 0; have hcz8_1 := sC BK300.out 1; have hcz8_2 := sC BK300.out 2; have hfz8_0 := blk_frozen BK300.out 0; have hfz8_1 := blk_frozen BK300.out 1; have hfz8_2 := blk_frozen BK300.out 2; have hcz9_0 := sC BK301.out 0; have hcz9_1 := sC BK301.out 1; have hcz9_2 := sC BK301.out 2; have hfz9_0 := blk_frozen BK301.out 0; have hfz9_1 := blk_frozen BK301.out 1; have hfz9_2 := blk_frozen BK301.out 2))
   go_ret
   exact ⟨by first | rfl | (simp [errW_none, errW_some] <;> rfl) | (simp [*, errW_none, errW_some] <;> rfl), sB HB.out⟩
  ·
   rw [if_neg c4] at H
   have c4b0 : (a0_1.toList == a1_1.toList) = false := beq_eq_false_iff_ne.mpr c4
   have c4b1 : (a0_1.toList != a1_1.toList) = true := bne_iff_ne.mpr c4
   obtain rfl := Option.some.inj H
   go_enter Tryz.func17, Tryz.ntmps17
   go_wp2_with (first | ((with_reducible refine gate_dst (N := 2) rfl ?_); refine box_event ?hg (N := 2) ?hd (cs := #[.bool a0_0, .string a0_1, .string a0_2]) (t := 23) ?hr ?_; (case hd => rfl); (case hg => rfl); (case hr => first | (go_simp; done) | (go_simp; rfl)); intro gb300 hg w10 hbox hb; have BK300 := Aside0.mk (hbox); have GW300 := Aside0.mk ((by rw [hg]; exact (below_size (sB HB.out)) : w.heap.size ≤ gb300)); have GE300 := Aside0.mk ((by rw [hg]; exact (below_size (sB HB.out)) : w.heap.size ≤ gb300)); replace HB := Aside0.mk (below_step (sB HB.out) hb); clear hb hbox hg) | ((with_reducible refine gate_dst (N := 3) rfl ?_); refine box_event ?hg (N := 3) ?hd (cs := #[.bool a1_0, .string a1_1, .string a1_2]) (t := 23) ?hr ?_; (case hd => rfl); (case hg => rfl); (case hr => first | (go_simp; done) | (go_simp; rfl)); intro gb301 hg w11 hbox hb; have BK301 := Aside0.mk (hbox); have GW301 := Aside0.mk ((by rw [hg]; exact (below_size (sB HB.out)) : w.heap.size ≤ gb301)); have GE301 := Aside0.mk ((by rw [hg]; exact (below_size (sB HB.out)) : w.heap.size ≤ gb301)); replace HB := Aside0.mk (below_step (sB HB.out) hb); have NB300_301 := Aside0.mk ((by rw [hg]; exact Nat.ne_of_lt (blk_lt (g := gb300) (o := .cells #[.bool a0_0, .string a0_1, .string a0_2] 23 (0, 0)) (sK BK300.out)) : gb300 ≠ gb301)); have NB301_300 := Aside0.mk ((by rw [hg]; exact Nat.ne_of_gt (blk_lt (g := gb300) (o := .cells #[.bool a0_0, .string a0_1, .string a0_2] 23 (0, 0)) (sK BK300.out)) : gb301 ≠ gb300)); replace BK300 := Aside0.mk (blk_below (g := gb300) (o := .cells #[.bool a0_0, .string a0_1, .string a0_2] 23 (0, 0)) (sK BK300.out) hb); clear hb hbox hg; have hnb12 := NB300_301.out; have hnc12 := NB301_300.out; have hcz13_0 := sC BK300.out 0; have hcz13_1 := sC BK300.out 1; have hcz13_2 := sC BK300.out 2; have hfz13_0 := blk_frozen BK300.out 0; have hfz13_1 := blk_frozen BK300.out 1; have hfz13_2 := blk_frozen BK300.out 2; have hcz14_0 := sC BK301.out 0; have hcz14_1 := sC BK301.out 1; have hcz14_2 := sC BK301.out 2; have hfz14_0 := blk_frozen BK301.out 0; have hfz14_1 := blk_frozen BK301.out 1; have hfz14_2 := blk_frozen BK301.out 2))
   go_ret
   exact ⟨by first | rfl | (simp [errW_none, errW_some] <;> rfl) | (simp [*, errW_none, errW_some] <;> rfl), sB HB.out⟩
 ·
  rw [if_neg c3] at H
  have c3b0 : (a0_0 == a1_0) = false := by simpa using c3
  (try (have c3b1 : decide (a0_0 = a1_0) = false := by simpa using c3))
  (try (have c3b2 : (a0_0 == a1_0) = false := by simpa using c3))
  (try (have c3b3 : ¬ (a0_0 = a1_0) := by simpa using c3))
  clear c3
  obtain rfl := Option.some.inj H
  go_enter Tryz.func17, Tryz.ntmps17
  go_wp2_with (first | ((with_reducible refine gate_dst (N := 2) rfl ?_); refine box_event ?hg (N := 2) ?hd (cs := #[.bool a0_0, .string a0_1, .string a0_2]) (t := 23) ?hr ?_; (case hd => rfl); (case hg => rfl); (case hr => first | (go_simp; done) | (go_simp; rfl)); intro gb300 hg w15 hbox hb; have BK300 := Aside0.mk (hbox); have GW300 := Aside0.mk ((by rw [hg]; exact (below_size (sB HB.out)) : w.heap.size ≤ gb300)); have GE300 := Aside0.mk ((by rw [hg]; exact (below_size (sB HB.out)) : w.heap.size ≤ gb300)); replace HB := Aside0.mk (below_step (sB HB.out) hb); clear hb hbox hg) | ((with_reducible refine gate_dst (N := 3) rfl ?_); refine box_event ?hg (N := 3) ?hd (cs := #[.bool a1_0, .string a1_1, .string a1_2]) (t := 23) ?hr ?_; (case hd => rfl); (case hg => rfl); (case hr => first | (go_simp; done) | (go_simp; rfl)); intro gb301 hg w16 hbox hb; have BK301 := Aside0.mk (hbox); have GW301 := Aside0.mk ((by rw [hg]; exact (below_size (sB HB.out)) : w.heap.size ≤ gb301)); have GE301 := Aside0.mk ((by rw [hg]; exact (below_size (sB HB.out)) : w.heap.size ≤ gb301)); replace HB := Aside0.mk (below_step (sB HB.out) hb); have NB300_301 := Aside0.mk ((by rw [hg]; exact Nat.ne_of_lt (blk_lt (g := gb300) (o := .cells #[.bool a0_0, .string a0_1, .string a0_2] 23 (0, 0)) (sK BK300.out)) : gb300 ≠ gb301)); have NB301_300 := Aside0.mk ((by rw [hg]; exact Nat.ne_of_gt (blk_lt (g := gb300) (o := .cells #[.bool a0_0, .string a0_1, .string a0_2] 23 (0, 0)) (sK BK300.out)) : gb301 ≠ gb300)); replace BK300 := Aside0.mk (blk_below (g := gb300) (o := .cells #[.bool a0_0, .string a0_1, .string a0_2] 23 (0, 0)) (sK BK300.out) hb); clear hb hbox hg; have hnb17 := NB300_301.out; have hnc17 := NB301_300.out; have hcz18_0 := sC BK300.out 0; have hcz18_1 := sC BK300.out 1; have hcz18_2 := sC BK300.out 2; have hfz18_0 := blk_frozen BK300.out 0; have hfz18_1 := blk_frozen BK300.out 1; have hfz18_2 := blk_frozen BK300.out 2; have hcz19_0 := sC BK301.out 0; have hcz19_1 := sC BK301.out 1; have hcz19_2 := sC BK301.out 2; have hfz19_0 := blk_frozen BK301.out 0; have hfz19_1 := blk_frozen BK301.out 1; have hfz19_2 := blk_frozen BK301.out 2))
  go_ret
  exact ⟨by first | rfl | (simp [errW_none, errW_some] <;> rfl) | (simp [*, errW_none, errW_some] <;> rfl), sB HB.out⟩
end Go.Proofs.YthcdjgekmfnmnaaGreatDoor.PVerb
end
section
namespace Go.Proofs.YthcdjgekmfnmnaaGreatDoor.PVerb
open Go.RowKit Go.Proofs.YthcdjgekmfnmnaaGreatDoorW.PrintWords Go.Proofs.YthcdjgekmfnmnaaGreatDoorW.PrintLast Go.Proofs.YthcdjgekmfnmnaaGreatDoorW.PrintMore
attribute [local go_sem] max2_int min2_int max_two min_two max_three min_three max_four min_four
set_option linter.unusedVariables false
set_option linter.unusedSimpArgs false
mutual
def wherrykeep_Cmd.j0 : Nat → Bool → Int → ByteArray → Bool → ByteArray → ByteArray → List (S47) → Int → ByteArray → Bool → ByteArray → ByteArray → List (S47) → Option (Bool)
 | 0, _, _, _, _, _, _, _, _, _, _, _, _, _ => none
 | k + 1, x34, x303000, x303001, x303002, x303003, x303004, x303005, x304000, x304001, x304002, x304003, x304004, x304005 => if x34 = true then (some false) else (wherrykeep_Cmd.l0 k 0 x303000 x303001 x303002 x303003 x303004 x303005 x304000 x304001 x304002 x304003 x304004 x304005)
def wherrykeep_Cmd.l0 : Nat → Int → Int → ByteArray → Bool → ByteArray → ByteArray → List (S47) → Int → ByteArray → Bool → ByteArray → ByteArray → List (S47) → Option (Bool)
 | 0, _, _, _, _, _, _, _, _, _, _, _, _, _ => none
 | k + 1, x5, x303000, x303001, x303002, x303003, x303004, x303005, x304000, x304001, x304002, x304003, x304004, x304005 => if x5 < (x303005.length : Int) then (if 0 ≤ x5 then (if x5 < (x304005.length : Int) then (if ((rd_T47 x303005 x5).f0).toList = ((rd_T47 x304005 x5).f0).toList then (if ((rd_T47 x303005 x5).f1).toList = ((rd_T47 x304005 x5).f1).toList then (wherrykeep_Cmd.l0 k (wrap64 (x5 + 1)) x303000 x303001 x303002 x303003 x303004 x303005 x304000 x304001 x304002 x304003 x304004 x304005) else (some false)) else (some false)) else (none)) else (none)) else (some true)
end
end Go.Proofs.YthcdjgekmfnmnaaGreatDoor.PVerb
end
section
namespace Go.Proofs.YthcdjgekmfnmnaaGreatDoor.PVerb
open Go.RowKit Go.Proofs.YthcdjgekmfnmnaaGreatDoorW.PrintWords Go.Proofs.YthcdjgekmfnmnaaGreatDoorW.PrintLast Go.Proofs.YthcdjgekmfnmnaaGreatDoorW.PrintMore
attribute [local go_sem] max2_int min2_int max_two min_two max_three min_three max_four min_four
set_option linter.unusedVariables false
set_option linter.unusedSimpArgs false
set_option maxHeartbeats 1000000 in
theorem param1 (x : S47) (s : ByteArray) (B : Nat) (w : World) (hc : w.cell? ⟨B, 0, none⟩ = some (.string s)) (hB : B < w.heap.size) :
    Calls Tryz.prog 35 #[.agg #[.string x.f0, .string x.f1], .pointer (some ⟨B, 0, none⟩)] w fun e w' => e = .returned (.bool (keyIs s x)) ∧ Below w.heap.size w w' := by
  have hk : keyIs s x = (x.f0.toList == s.toList) := by rw [toList_data, toList_data]; rfl
  rw [hk]; clear hk
  have hne : B ≠ w.heap.size := by omega
  go_enter Tryz.func35, Tryz.ntmps35
  go_wp2
  go_ret
  exact ⟨rfl, (Below.refl _ w).alloc (Nat.le_refl _) _⟩
theorem findP_none {l : List S47} {s : ByteArray} (h : l.findIdx? (keyIs s) = none) : l.find? (keyIs s) = none := by
  rw [List.findIdx?_eq_none_iff] at h
  rw [List.find?_eq_none]
  intro x hx
  rw [h x hx]; decide
theorem findP_some {l : List S47} {s : ByteArray} {i : Nat} (h : l.findIdx? (keyIs s) = some i) : ∃ hi : i < l.length, l.find? (keyIs s) = some l[i] := by
  rw [List.findIdx?_eq_some_iff_getElem] at h
  obtain ⟨hi, hp, hb⟩ := h
  refine ⟨hi, ?_⟩
  rw [List.find?_eq_some_iff_getElem]
  exact ⟨hp, i, hi, rfl, fun j hj => by simpa using hb j hj⟩
set_option maxHeartbeats 2000000 in
set_option maxRecDepth 100000 in
theorem param_walk (a0_0 : Int) (a0_1 : ByteArray) (a0_2 : Bool) (a0_3 a0_4 : ByteArray) (A0_5 : Option Addr) (c0_5 : Nat) (l0_5 : List S47) (a1 : ByteArray) (w : World) (hr : Kd.C k47 w A0_5 l0_5.length l0_5) (hl : l0_5.length < 2147483648) :
    Calls Tryz.prog 10 #[.agg #[.int .i64 a0_0, .string a0_1, .bool a0_2, .string a0_3, .string a0_4, .slice A0_5 l0_5.length c0_5], .string a1] w fun e w' =>
      e = .returned (.tuple #[.string (((l0_5.find? (keyIs a1)).map (·.f1)).getD (bs [])), .bool (l0_5.find? (keyIs a1)).isSome]) ∧ Below w.heap.size w w' := by
  have hu := Tryz.underlying47
  have hu2 := Tryz.underlying26
  have eg : ∀ args w, (callFunc 35 args).run Tryz.prog w = .ok (.enter 35 args) w := enters_of Tryz.func35 (by kernel_rfl) rfl
  have hb0 : Below w.heap.size w ((w.alloc (.cells #[.int .i64 a0_0, .string a0_1, .bool a0_2, .string a0_3, .string a0_4, .slice A0_5 l0_5.length c0_5] 26)).alloc (.cells #[.string a1] 9)) := ((Below.refl _ w).alloc (Nat.le_refl _) _).alloc (by simp) _
  have hlt : w.heap.size + 1 < ((w.alloc (.cells #[.int .i64 a0_0, .string a0_1, .bool a0_2, .string a0_3, .string a0_4, .slice A0_5 l0_5.length c0_5] 26)).alloc (.cells #[.string a1] 9)).heap.size := by simp
  have hcon := indexFunc_params 35 #[.pointer (some ⟨w.heap.size + 1, 0, none⟩)] eg (keyIs a1) ((w.alloc (.cells #[.int .i64 a0_0, .string a0_1, .bool a0_2, .string a0_3, .string a0_4, .slice A0_5 l0_5.length c0_5] 26)).alloc (.cells #[.string a1] 9)) A0_5 c0_5 l0_5 (Kd.C_below hr hb0) (by omega)
    (fun W x hx hb => by
      refine (param1 x a1 (w.heap.size + 1) W ((hb.cell (p := ⟨w.heap.size + 1, 0, none⟩) hlt).trans (by simp)) (Nat.lt_of_lt_of_le hlt hb.size)).mono ?_
      rintro e w' ⟨he, hw⟩
      exact ⟨he, below_step hb hw⟩)
  have HR := Aside0.mk hr
  have HCON := Aside0.mk hcon
  have HB0 := Aside0.mk hb0
  clear hr hcon eg hb0
  cases hf : l0_5.findIdx? (keyIs a1) with
  | none =>
    have e1 : firstAt (keyIs a1) l0_5 = -1 := by simp [firstAt, hf]
    rw [findP_none hf]
    clear hf
    have hc2 := HCON.out
    rw [e1] at hc2
    clear HCON e1
    go_enter Tryz.func10, Tryz.ntmps10
    go_wp2_with (go_at_call 34; refine hc2.mono ?_; rintro e w1 ⟨rfl, hb⟩; have HBB := Aside0.mk (below_step HB0.out hb); clear hb)
    go_ret2
    exact ⟨rfl, HBB.out⟩
  | some i =>
    have e1 : firstAt (keyIs a1) l0_5 = (i : Int) := by simp [firstAt, hf]
    obtain ⟨hi, hfi⟩ := findP_some hf
    rw [hfi]
    clear hf hfi
    have hc2 := HCON.out
    rw [e1] at hc2
    clear HCON e1
    have hi0 : (0 : Int) ≤ (i : Int) := by omega
    have hi1 : (i : Int) < (l0_5.length : Int) := by omega
    obtain ⟨ad, ea, hx, hx2⟩ := at_T47 HR.out (i : Int) (by omega) hi1
    cases ea
    rw [rdP_get hi, Int.toNat_natCast] at hx hx2
    show Calls Tryz.prog 10 _ w fun e w' => e = .returned (.tuple #[.string l0_5[i].f1, .bool true]) ∧ Below w.heap.size w w'
    generalize l0_5[i] = y at hx hx2 ⊢
    go_enter Tryz.func10, Tryz.ntmps10
    go_wp2_with (go_at_call 34; refine hc2.mono ?_; rintro e w1 ⟨rfl, hb⟩; have HBB := Aside0.mk (below_step HB0.out hb); have hx3 := pw_cell_below HBB.out hx2; have hcc := (hb.cell (p := ⟨w.heap.size, 5, none⟩) (Nat.lt_of_succ_lt hlt)).trans (show _ = some (.slice (some ad) l0_5.length c0_5) by simp); clear hb)
    go_ret2
    exact ⟨rfl, HBB.out⟩
def verb_Param.f (a0_0 : Int) (a0_1 : ByteArray) (a0_2 : Bool) (a0_3 a0_4 : ByteArray) (l0_5 : List S47) (a1 : ByteArray) : Option (ByteArray × Bool) :=
  if l0_5.length < 2147483648 then some (((l0_5.find? (keyIs a1)).map (·.f1)).getD (bs []), (l0_5.find? (keyIs a1)).isSome) else none
theorem verb_Param.calls (a0_0 : Int) (a0_1 : ByteArray) (a0_2 : Bool) (a0_3 a0_4 : ByteArray) (A0_5 : Option Addr) (c0_5 : Nat) (l0_5 : List S47) (a1 : ByteArray) (r1 : ByteArray) (r2 : Bool) (w : World) (hr0_5 : Kd.C k47 w A0_5 l0_5.length l0_5) (hc0_5 : l0_5.length ≤ c0_5) (h : verb_Param.f a0_0 a0_1 a0_2 a0_3 a0_4 l0_5 a1 = some (r1, r2)) :
    Calls Tryz.prog 10 #[.agg #[.int .i64 a0_0, .string a0_1, .bool a0_2, .string a0_3, .string a0_4, .slice A0_5 l0_5.length c0_5], .string a1] w fun e w' => e = .returned (.tuple #[.string r1, .bool r2]) ∧ Below w.heap.size w w' := by
  unfold verb_Param.f at h
  split at h
  · rename_i hs
    simp only [Option.some.injEq, Prod.mk.injEq] at h
    obtain ⟨rfl, rfl⟩ := h
    exact param_walk a0_0 a0_1 a0_2 a0_3 a0_4 A0_5 c0_5 l0_5 a1 w hr0_5 hs
  · cases h
end Go.Proofs.YthcdjgekmfnmnaaGreatDoor.PVerb
end
section
namespace Go.Proofs.YthcdjgekmfnmnaaGreatDoor.PVerb
open Go.RowKit Go.Proofs.YthcdjgekmfnmnaaGreatDoorW.PrintWords Go.Proofs.YthcdjgekmfnmnaaGreatDoorW.PrintLast Go.Proofs.YthcdjgekmfnmnaaGreatDoorW.PrintMore
attribute [local go_sem] max2_int min2_int max_two min_two max_three min_three max_four min_four
set_option linter.unusedVariables false
set_option linter.unusedSimpArgs false
def wherrylaw12_heavy.l0 : Nat → Int → Int → Int → ByteArray → Bool → ByteArray → ByteArray → List (S47) → Option (Bool)
 | 0, _, _, _, _, _, _, _, _ => none
 | k + 1, x3, x4, x102000, x102001, x102002, x102003, x102004, x102005 => if x4 < (x102005.length : Int) then (if 0 ≤ x4 then (wherrylaw12_heavy.l0 k (wrap64 ((wrap64 (x3 + (((rd_T47 x102005 x4).f0).size : Int))) + (((rd_T47 x102005 x4).f1).size : Int))) (wrap64 (x4 + 1)) x102000 x102001 x102002 x102003 x102004 x102005) else (none)) else (if x3 > 3000 then (some true) else (some (decide ((x102005.length : Int) > 20))))
end Go.Proofs.YthcdjgekmfnmnaaGreatDoor.PVerb
end
section
namespace Go.Proofs.YthcdjgekmfnmnaaGreatDoor.PVerb
open Go.RowKit Go.Proofs.YthcdjgekmfnmnaaGreatDoorW.PrintWords Go.Proofs.YthcdjgekmfnmnaaGreatDoorW.PrintLast Go.Proofs.YthcdjgekmfnmnaaGreatDoorW.PrintMore
attribute [local go_sem] max2_int min2_int max_two min_two max_three min_three max_four min_four
set_option linter.unusedVariables false
set_option linter.unusedSimpArgs false
def wherryref11_letter.f (a0 : Int) : Option (Bool) := if a0 ≥ 97 then (if a0 ≤ 122 then (some true) else (if a0 ≥ 65 then (some (decide (a0 ≤ 90))) else (some false))) else (if a0 ≥ 65 then (some (decide (a0 ≤ 90))) else (some false))
set_option maxHeartbeats 8000000 in
set_option maxRecDepth 100000 in
theorem wherryref11_letter.calls (a0 : Int) (r : Bool) (w : World) (h : wherryref11_letter.f a0 = some r) :
  Calls Tryz.prog 45 #[.int .u8 a0] w fun e w' => e = .returned (.bool r) ∧ Drawn0 w w' := by
 have H : (if a0 ≥ 97 then (if a0 ≤ 122 then (some true) else (if a0 ≥ 65 then (some (decide (a0 ≤ 90))) else (some false))) else (if a0 ≥ 65 then (some (decide (a0 ≤ 90))) else (some false))) = some r := h
 clear h
 by_cases c2 : a0 ≥ 97
 ·
  rw [if_pos c2] at H
  have c2b0 : decide (97 ≤ a0) = true := decide_eq_true c2
  clear c2
  by_cases c3 : a0 ≤ 122
  ·
   rw [if_pos c3] at H
   have c3b0 : decide (a0 ≤ 122) = true := decide_eq_true c3
   clear c3
   obtain rfl := Option.some.inj H
   go_enter Tryz.func45, Tryz.ntmps45
   go_wp2
   go_ret
   exact ⟨by first | rfl | (simp; done) | (simp [*]; done), by repeat (first | exact Drawn0.refl _ | apply Drawn0.step)⟩
  ·
   rw [if_neg c3] at H
   have c3b0 : decide (a0 ≤ 122) = false := decide_eq_false c3
   clear c3
   by_cases c4 : a0 ≥ 65
   ·
    rw [if_pos c4] at H
    have c4b0 : decide (65 ≤ a0) = true := decide_eq_true c4
    clear c4
    obtain rfl := Option.some.inj H
    go_enter Tryz.func45, Tryz.ntmps45
    go_wp2
    go_ret
    exact ⟨by first | rfl | (simp; done) | (simp [*]; done), by repeat (first | exact Drawn0.refl _ | apply Drawn0.step)⟩
   ·
    rw [if_neg c4] at H
    have c4b0 : decide (65 ≤ a0) = false := decide_eq_false c4
    clear c4
    obtain rfl := Option.some.inj H
    go_enter Tryz.func45, Tryz.ntmps45
    go_wp2
    go_ret
    exact ⟨by first | rfl | (simp; done) | (simp [*]; done), by repeat (first | exact Drawn0.refl _ | apply Drawn0.step)⟩
 ·
  rw [if_neg c2] at H
  have c2b0 : decide (97 ≤ a0) = false := decide_eq_false c2
  clear c2
  by_cases c5 : a0 ≥ 65
  ·
   rw [if_pos c5] at H
   have c5b0 : decide (65 ≤ a0) = true := decide_eq_true c5
   clear c5
   obtain rfl := Option.some.inj H
   go_enter Tryz.func45, Tryz.ntmps45
   go_wp2
   go_ret
   exact ⟨by first | rfl | (simp; done) | (simp [*]; done), by repeat (first | exact Drawn0.refl _ | apply Drawn0.step)⟩
  ·
   rw [if_neg c5] at H
   have c5b0 : decide (65 ≤ a0) = false := decide_eq_false c5
   clear c5
   obtain rfl := Option.some.inj H
   go_enter Tryz.func45, Tryz.ntmps45
   go_wp2
   go_ret
   exact ⟨by first | rfl | (simp; done) | (simp [*]; done), by repeat (first | exact Drawn0.refl _ | apply Drawn0.step)⟩
def wherryref11_digit.f (a0 : Int) : Option (Bool) := if a0 ≥ 48 then (some (decide (a0 ≤ 57))) else (some false)
set_option maxHeartbeats 8000000 in
set_option maxRecDepth 100000 in
theorem wherryref11_digit.calls (a0 : Int) (r : Bool) (w : World) (h : wherryref11_digit.f a0 = some r) :
  Calls Tryz.prog 46 #[.int .u8 a0] w fun e w' => e = .returned (.bool r) ∧ Drawn0 w w' := by
 have H : (if a0 ≥ 48 then (some (decide (a0 ≤ 57))) else (some false)) = some r := h
 clear h
 by_cases c2 : a0 ≥ 48
 ·
  rw [if_pos c2] at H
  have c2b0 : decide (48 ≤ a0) = true := decide_eq_true c2
  clear c2
  obtain rfl := Option.some.inj H
  go_enter Tryz.func46, Tryz.ntmps46
  go_wp2
  go_ret
  exact ⟨by first | rfl | (simp; done) | (simp [*]; done), by repeat (first | exact Drawn0.refl _ | apply Drawn0.step)⟩
 ·
  rw [if_neg c2] at H
  have c2b0 : decide (48 ≤ a0) = false := decide_eq_false c2
  clear c2
  obtain rfl := Option.some.inj H
  go_enter Tryz.func46, Tryz.ntmps46
  go_wp2
  go_ret
  exact ⟨by first | rfl | (simp; done) | (simp [*]; done), by repeat (first | exact Drawn0.refl _ | apply Drawn0.step)⟩
mutual
def wherryref11_Domain.l0 : Nat → ByteArray → Int → Int → Option (Bool)
 | 0, _, _, _ => none
 | k + 1, x0, x3, x4 => if x4 ≤ (x0.size : Int) then (if x4 < (x0.size : Int) then (if 0 ≤ x4 then (wherryref11_Domain.j1 k x0 x3 x4 ((bt x0 x4) != 46)) else (none)) else (wherryref11_Domain.j1 k x0 x3 x4 false)) else (some true)
def wherryref11_Domain.j1 : Nat → ByteArray → Int → Int → Bool → Option (Bool)
 | 0, _, _, _, _ => none
 | k + 1, x0, x3, x4, x24 => if x24 = true then (if 0 ≤ x4 then (if x4 < (x0.size : Int) then ((wherryref11_letter.f (bt x0 x4)).bind fun t191 => (if t191 = true then (wherryref11_Domain.j2 k x0 x3 x4 false) else ((wherryref11_digit.f (bt x0 x4)).bind fun t192 => (if t192 = true then (wherryref11_Domain.j2 k x0 x3 x4 false) else (wherryref11_Domain.j2 k x0 x3 x4 ((bt x0 x4) != 45)))))) else (none)) else (none)) else ((wherryref11_in.f (wrap64 (x4 - x3)) 1 63).bind fun t193 => (if t193 = true then (if 0 ≤ x3 then (if x3 < (x0.size : Int) then (if (bt x0 x3) = 45 then (some false) else (if 0 ≤ (wrap64 (x4 - 1)) then (if (wrap64 (x4 - 1)) < (x0.size : Int) then (if (bt x0 (wrap64 (x4 - 1))) = 45 then (some false) else (wherryref11_Domain.l0 k x0 (wrap64 (x4 + 1)) (wrap64 (x4 + 1)))) else (none)) else (none))) else (none)) else (none)) else (some false)))
def wherryref11_Domain.j2 : Nat → ByteArray → Int → Int → Bool → Option (Bool)
 | 0, _, _, _, _ => none
 | k + 1, x0, x3, x4, x42 => if x42 = true then (some false) else (wherryref11_Domain.l0 k x0 x3 (wrap64 (x4 + 1)))
end
def wherryref11_Domain.f (k : Nat) (a0 : ByteArray) : Option (Bool) := (wherryref11_in.f (a0.size : Int) 1 255).bind fun t190 => (if t190 = true then (wherryref11_Domain.l0 k a0 0 0) else (some false))
set_option maxHeartbeats 8000000 in
set_option maxRecDepth 100000 in
theorem wherryref11_Domain.calls (k : Nat) (a0 : ByteArray) (r : Bool) (w : World) (h : wherryref11_Domain.f k a0 = some r) :
  Calls Tryz.prog 26 #[.string a0] w fun e w' => e = .returned (.bool r) ∧ Drawn0 w w' := by
 have H : ((wherryref11_in.f (a0.size : Int) 1 255).bind fun t190 => (if t190 = true then (wherryref11_Domain.l0 k a0 0 0) else (some false))) = some r := h
 clear h
 replace H := Option.bind_eq_some_iff.mp H
 obtain ⟨t190, A20, H⟩ := H
 try dsimp -simprocs only at H
 have A2 := Aside0.mk A20
 clear A20
 by_cases c3 : t190 = true
 ·
  subst c3
  rw [if_pos rfl] at H
  try dsimp -simprocs only at H
  have H' := Aside0.mk H
  clear H
  go_enter Tryz.func26, Tryz.ntmps26
  go_wp2_with (first | ((with_reducible refine gate_callee (f := 44) rfl ?_); refine goesL_ (some 7) rfl rfl Tryz.func44 (by kernel_rfl) rfl #[.int .i64 (a0.size : Int), .int .i64 1, .int .i64 255] rfl sM ?_; (with_reducible refine (wherryref11_in.calls (a0.size : Int) 1 255 true _ A2.out).mono ?_); rintro e w' ⟨rfl, ⟨nd, rfl⟩⟩; refine ⟨_, rfl, ?_⟩))
  go_loopg [3, 4] k (fun kq v3 v4 w' => ∃ (x3_1 : Int) (x4_1 : Int), v3 = .int .i64 x3_1 ∧ v4 = .int .i64 x4_1 ∧ Aside0 (wherryref11_Domain.l0 kq a0 x3_1 x4_1 = some r) ∧ Aside0 (kq ≤ k) ∧ Drawn0 w w')
  case atStart => exact ⟨(0), (0), (by first | rfl | (simp; done) | (simp [*]; done)), (by first | rfl | (simp; done) | (simp [*]; done)), H', ⟨Nat.le_refl _⟩, by repeat (first | exact Drawn0.refl _ | apply Drawn0.step)⟩
  case round =>
   clear H'
   try clear c2; try clear p2; try clear c3
   obtain ⟨x3_1, x4_1, rfl, rfl, HA, HK1, ⟨m1, rfl⟩⟩ := hrel
   cases gk with
   | zero => exact absurd HA.out (by simp [wherryref11_Domain.l0])
   | succ k1 =>
    have H := HA.out
    clear HA
    simp only [wherryref11_Domain.l0] at H
    by_cases c4 : x4_1 ≤ (a0.size : Int)
    ·
     rw [if_pos c4] at H
     have c4b0 : decide (x4_1 ≤ (a0.size : Int)) = true := decide_eq_true c4
     clear c4
     have HC5 := Aside0.mk H
     clear H
     go_upto_region 7 with (fail)
     go_cut [24] (fun v24 wc => ∃ (kq : Nat) (x24_4 : Bool), v24 = .bool x24_4 ∧ Aside0 (wherryref11_Domain.j1 kq a0 x3_1 x4_1 x24_4 = some r) ∧ Aside0 (kq ≤ k1) ∧ Drawn0 w wc)
     case first =>
      have H := HC5.out
      clear HC5
      by_cases c6 : x4_1 < (a0.size : Int)
      ·
       rw [if_pos c6] at H
       have c6b0 : decide (x4_1 < (a0.size : Int)) = true := decide_eq_true c6
       clear c6
       (first | rw [c6b0] | (simp only [i64_w, i32_w]; rw [c6b0]) | skip)
       by_cases c7 : 0 ≤ x4_1
       ·
        rw [if_pos c7] at H
        have c7b0 : decide (0 ≤ x4_1) = true := decide_eq_true c7
        clear c7
        have H' := Aside0.mk H
        clear H
        have p8 : 0 ≤ (x4_1 : Int) := of_decide_eq_true sA
        have q8 : x4_1 < (a0.size : Int) := of_decide_eq_true sA
        have hx8 := bt_at a0 x4_1
        replace p8 := eq_true p8
        replace q8 := eq_true q8
        go_wp2
        go_meet
        case rel => exact ⟨_, (((bt a0 x4_1) != 46)), (by first | rfl | (simp; done) | (simp [*]; done)), H', ⟨by have := HK1.out; first | omega | exact Nat.le_refl _⟩, by repeat (first | exact Drawn0.refl _ | apply Drawn0.step)⟩
       ·
        rw [if_neg c7] at H
        exact absurd H (by simp)
      ·
       rw [if_neg c6] at H
       have c6b0 : decide (x4_1 < (a0.size : Int)) = false := decide_eq_false c6
       clear c6
       (first | rw [c6b0] | (simp only [i64_w, i32_w]; rw [c6b0]) | skip)
       have H' := Aside0.mk H
       clear H
       go_wp2
       go_meet
       case rel => exact ⟨_, (false), (by first | rfl | (simp; done) | (simp [*]; done)), H', ⟨by have := HK1.out; first | omega | exact Nat.le_refl _⟩, by repeat (first | exact Drawn0.refl _ | apply Drawn0.step)⟩
     case rest =>
      clear HC5
      try clear c2; try clear p2; try clear c3; try clear c4; try clear c4b0; try clear c6; try clear c6b0; try clear c7; try clear c7b0; try clear p8; try clear q8; try clear hx8; try clear p2; try clear p8; try clear q8
      obtain ⟨kq, x24_4, rfl, HA, HJ4, ⟨mc4, rfl⟩⟩ := hcut
      cases kq with
      | zero => exact absurd HA.out (by simp [wherryref11_Domain.j1])
      | succ kj4 =>
       have H := HA.out
       clear HA
       simp only [wherryref11_Domain.j1] at H
       by_cases c9 : x24_4 = true
       ·
        subst c9
        rw [if_pos rfl] at H
        try dsimp -simprocs only at H
        have HC10 := Aside0.mk H
        clear H
        go_upto_region 8 with (fail)
        go_cut [42] (fun v42 wc => ∃ (kq : Nat) (x42_9 : Bool), v42 = .bool x42_9 ∧ Aside0 (wherryref11_Domain.j2 kq a0 x3_1 x4_1 x42_9 = some r) ∧ Aside0 (kq ≤ kj4) ∧ Drawn0 w wc)
        case first =>
         have H := HC10.out
         clear HC10
         by_cases c11 : 0 ≤ x4_1
         ·
          rw [if_pos c11] at H
          have c11b0 : decide (0 ≤ x4_1) = true := decide_eq_true c11
          clear c11
          (first | rw [c11b0] | (simp only [i64_w, i32_w]; rw [c11b0]) | skip)
          by_cases c12 : x4_1 < (a0.size : Int)
          ·
           rw [if_pos c12] at H
           have c12b0 : decide (x4_1 < (a0.size : Int)) = true := decide_eq_true c12
           clear c12
           replace H := Option.bind_eq_some_iff.mp H
           obtain ⟨t191, A140, H⟩ := H
           try dsimp -simprocs only at H
           have A14 := Aside0.mk A140
           clear A140
           by_cases c15 : t191 = true
           ·
            subst c15
            rw [if_pos rfl] at H
            try dsimp -simprocs only at H
            have H' := Aside0.mk H
            clear H
            have p13 : 0 ≤ (x4_1 : Int) := of_decide_eq_true sA
            have q13 : x4_1 < (a0.size : Int) := of_decide_eq_true sA
            have hx13 := bt_at a0 x4_1
            replace p13 := eq_true p13
            replace q13 := eq_true q13
            go_wp2_with (first | ((with_reducible refine gate_callee (f := 45) rfl ?_); refine goesL_ (some 28) rfl rfl Tryz.func45 (by kernel_rfl) rfl #[.int .u8 (bt a0 x4_1)] rfl sM ?_; (with_reducible refine (wherryref11_letter.calls (bt a0 x4_1) true _ A14.out).mono ?_); rintro e w' ⟨rfl, ⟨nd, rfl⟩⟩; refine ⟨_, rfl, ?_⟩))
            go_meet
            case rel => exact ⟨_, (false), (by first | rfl | (simp; done) | (simp [*]; done)), H', ⟨by have := HK1.out; have := HJ4.out; first | omega | exact Nat.le_refl _⟩, by repeat (first | exact Drawn0.refl _ | apply Drawn0.step)⟩
           ·
            replace c15 := Bool.eq_false_iff.mpr c15
            subst c15
            rw [if_neg (show ¬ (false = true) by decide)] at H
            try dsimp -simprocs only at H
            replace H := Option.bind_eq_some_iff.mp H
            obtain ⟨t192, A170, H⟩ := H
            try dsimp -simprocs only at H
            have A17 := Aside0.mk A170
            clear A170
            by_cases c18 : t192 = true
            ·
             subst c18
             rw [if_pos rfl] at H
             try dsimp -simprocs only at H
             have H' := Aside0.mk H
             clear H
             have p13 : 0 ≤ (x4_1 : Int) := of_decide_eq_true sA
             have q13 : x4_1 < (a0.size : Int) := of_decide_eq_true sA
             have hx13 := bt_at a0 x4_1
             replace p13 := eq_true p13
             replace q13 := eq_true q13
             go_wp2_with (first | ((with_reducible refine gate_callee (f := 45) rfl ?_); refine goesL_ (some 28) rfl rfl Tryz.func45 (by kernel_rfl) rfl #[.int .u8 (bt a0 x4_1)] rfl sM ?_; (with_reducible refine (wherryref11_letter.calls (bt a0 x4_1) false _ A14.out).mono ?_); rintro e w' ⟨rfl, ⟨nd, rfl⟩⟩; refine ⟨_, rfl, ?_⟩; have p16 : 0 ≤ (x4_1 : Int) := of_decide_eq_true sA; have q16 : x4_1 < (a0.size : Int) := of_decide_eq_true sA; have hx16 := bt_at a0 x4_1; replace p16 := eq_true p16; replace q16 := eq_true q16) | (go_at_call 46; (with_reducible refine (wherryref11_digit.calls (bt a0 x4_1) true _ A17.out).mono ?_); rintro e w' ⟨rfl, ⟨nd, rfl⟩⟩))
             go_meet
             case rel => exact ⟨_, (false), (by first | rfl | (simp; done) | (simp [*]; done)), H', ⟨by have := HK1.out; have := HJ4.out; first | omega | exact Nat.le_refl _⟩, by repeat (first | exact Drawn0.refl _ | apply Drawn0.step)⟩
            ·
             replace c18 := Bool.eq_false_iff.mpr c18
             subst c18
             rw [if_neg (show ¬ (false = true) by decide)] at H
             try dsimp -simprocs only at H
             have H' := Aside0.mk H
             clear H
             have p13 : 0 ≤ (x4_1 : Int) := of_decide_eq_true sA
             have q13 : x4_1 < (a0.size : Int) := of_decide_eq_true sA
             have hx13 := bt_at a0 x4_1
             replace p13 := eq_true p13
             replace q13 := eq_true q13
             go_wp2_with (first | ((with_reducible refine gate_callee (f := 45) rfl ?_); refine goesL_ (some 28) rfl rfl Tryz.func45 (by kernel_rfl) rfl #[.int .u8 (bt a0 x4_1)] rfl sM ?_; (with_reducible refine (wherryref11_letter.calls (bt a0 x4_1) false _ A14.out).mono ?_); rintro e w' ⟨rfl, ⟨nd, rfl⟩⟩; refine ⟨_, rfl, ?_⟩; have p16 : 0 ≤ (x4_1 : Int) := of_decide_eq_true sA; have q16 : x4_1 < (a0.size : Int) := of_decide_eq_true sA; have hx16 := bt_at a0 x4_1; replace p16 := eq_true p16; replace q16 := eq_true q16) | (go_at_call 46; (with_reducible refine (wherryref11_digit.calls (bt a0 x4_1) false _ A17.out).mono ?_); rintro e w' ⟨rfl, ⟨nd, rfl⟩⟩; have p19 : 0 ≤ (x4_1 : Int) := of_decide_eq_true sA; have q19 : x4_1 < (a0.size : Int) := of_decide_eq_true sA; have hx19 := bt_at a0 x4_1; replace p19 := eq_true p19; replace q19 := eq_true q19))
             go_meet
             case rel => exact ⟨_, (((bt a0 x4_1) != 45)), (by first | rfl | (simp; done) | (simp [*]; done)), H', ⟨by have := HK1.out; have := HJ4.out; first | omega | exact Nat.le_refl _⟩, by repeat (first | exact Drawn0.refl _ | apply Drawn0.step)⟩
          ·
           rw [if_neg c12] at H
           exact absurd H (by simp)
         ·
          rw [if_neg c11] at H
          exact absurd H (by simp)
        case rest =>
         clear HC10
         try clear c1; try clear p1; try clear q1; try clear hx1; try clear c2; try clear p2; try clear c3; try clear c4; try clear c4b0; try clear c6; try clear c6b0; try clear c7; try clear c7b0; try clear p8; try clear q8; try clear hx8; try clear c9; try clear c11; try clear c11b0; try clear c12; try clear c12b0; try clear p13; try clear q13; try clear hx13; try clear c15; try clear p16; try clear q16; try clear hx16; try clear c18; try clear p19; try clear q19; try clear hx19; try clear p13; try clear p16; try clear p19; try clear p2; try clear p8; try clear q13; try clear q16; try clear q19; try clear q8
         obtain ⟨kq, x42_9, rfl, HA, HJ9, ⟨mc9, rfl⟩⟩ := hcut
         cases kq with
         | zero => exact absurd HA.out (by simp [wherryref11_Domain.j2])
         | succ kj9 =>
          have H := HA.out
          clear HA
          simp only [wherryref11_Domain.j2] at H
          by_cases c20 : x42_9 = true
          ·
           subst c20
           rw [if_pos rfl] at H
           try dsimp -simprocs only at H
           obtain rfl := Option.some.inj H
           go_wp2
           go_ret
           exact ⟨by first | rfl | (simp; done) | (simp [*]; done), by repeat (first | exact Drawn0.refl _ | apply Drawn0.step)⟩
          ·
           replace c20 := Bool.eq_false_iff.mpr c20
           subst c20
           rw [if_neg (show ¬ (false = true) by decide)] at H
           try dsimp -simprocs only at H
           have H' := Aside0.mk H
           clear H
           go_wp2
           go_roundg kj9
           case measure => have := HK1.out; have := HJ4.out; have := HJ9.out; omega
           case rel => exact ⟨(x3_1), (wrap64 (x4_1 + 1)), (by first | rfl | (simp; done) | (simp [*]; done)), (by first | rfl | (simp; done) | (simp [*]; done)), H', ⟨by have := HK1.out; have := HJ4.out; have := HJ9.out; omega⟩, by repeat (first | exact Drawn0.refl _ | apply Drawn0.step)⟩
       ·
        replace c9 := Bool.eq_false_iff.mpr c9
        subst c9
        rw [if_neg (show ¬ (false = true) by decide)] at H
        try dsimp -simprocs only at H
        replace H := Option.bind_eq_some_iff.mp H
        obtain ⟨t193, A210, H⟩ := H
        try dsimp -simprocs only at H
        have A21 := Aside0.mk A210
        clear A210
        by_cases c22 : t193 = true
        ·
         subst c22
         rw [if_pos rfl] at H
         try dsimp -simprocs only at H
         by_cases c23 : 0 ≤ x3_1
         ·
          rw [if_pos c23] at H
          have c23b0 : decide (0 ≤ x3_1) = true := decide_eq_true c23
          clear c23
          by_cases c24 : x3_1 < (a0.size : Int)
          ·
           rw [if_pos c24] at H
           have c24b0 : decide (x3_1 < (a0.size : Int)) = true := decide_eq_true c24
           clear c24
           by_cases c26 : (bt a0 x3_1) = 45
           ·
            rw [if_pos c26] at H
            have c26b0 : ((bt a0 x3_1) == 45) = true := beq_iff_eq.mpr c26
            have c26b1 : ((bt a0 x3_1) != 45) = false := bne_eq_false_iff_eq.mpr c26
            clear c26
            obtain rfl := Option.some.inj H
            go_wp2_with (first | ((with_reducible refine gate_callee (f := 44) rfl ?_); refine goesL_ (some 46) rfl rfl Tryz.func44 (by kernel_rfl) rfl #[.int .i64 (wrap64 (x4_1 - x3_1)), .int .i64 1, .int .i64 63] rfl sM ?_; (with_reducible refine (wherryref11_in.calls (wrap64 (x4_1 - x3_1)) 1 63 true _ A21.out).mono ?_); rintro e w' ⟨rfl, ⟨nd, rfl⟩⟩; refine ⟨_, rfl, ?_⟩; have p25 : 0 ≤ (x3_1 : Int) := of_decide_eq_true sA; have q25 : x3_1 < (a0.size : Int) := of_decide_eq_true sA; have hx25 := bt_at a0 x3_1; replace p25 := eq_true p25; replace q25 := eq_true q25))
            go_ret
            exact ⟨by first | rfl | (simp; done) | (simp [*]; done), by repeat (first | exact Drawn0.refl _ | apply Drawn0.step)⟩
           ·
            rw [if_neg c26] at H
            have c26b0 : ((bt a0 x3_1) == 45) = false := beq_eq_false_iff_ne.mpr c26
            have c26b1 : ((bt a0 x3_1) != 45) = true := bne_iff_ne.mpr c26
            obtain ⟨ji27, hji27⟩ : ∃ j_ : Int, (wrap64 (x4_1 - 1)) = j_ := ⟨_, rfl⟩
            replace H : (if 0 ≤ (ji27) then (if (ji27) < (a0.size : Int) then (if (bt a0 (ji27)) = 45 then (some false) else (wherryref11_Domain.l0 kj4 a0 (wrap64 (x4_1 + 1)) (wrap64 (x4_1 + 1)))) else (none)) else (none)) = some r := by first | (rw [hji27] at H; exact H) | (simp only [hji27] at H ⊢; exact H)
            (try rw [hji27] at A21)
            have hji27w : (IntKind.i64.wrap (x4_1 - 1)) = ji27 := (i64_w _).trans hji27
            by_cases c28 : 0 ≤ (ji27)
            ·
             rw [if_pos c28] at H
             have c28b0 : decide (0 ≤ (ji27)) = true := decide_eq_true c28
             clear c28
             by_cases c29 : (ji27) < (a0.size : Int)
             ·
              rw [if_pos c29] at H
              have c29b0 : decide ((ji27) < (a0.size : Int)) = true := decide_eq_true c29
              clear c29
              by_cases c31 : (bt a0 (ji27)) = 45
              ·
               rw [if_pos c31] at H
               have c31b0 : ((bt a0 (ji27)) == 45) = true := beq_iff_eq.mpr c31
               have c31b1 : ((bt a0 (ji27)) != 45) = false := bne_eq_false_iff_eq.mpr c31
               clear c31
               obtain rfl := Option.some.inj H
               go_wp2_with (first | ((with_reducible refine gate_callee (f := 44) rfl ?_); refine goesL_ (some 46) rfl rfl Tryz.func44 (by kernel_rfl) rfl #[.int .i64 (wrap64 (x4_1 - x3_1)), .int .i64 1, .int .i64 63] rfl sM ?_; (with_reducible refine (wherryref11_in.calls (wrap64 (x4_1 - x3_1)) 1 63 true _ A21.out).mono ?_); rintro e w' ⟨rfl, ⟨nd, rfl⟩⟩; refine ⟨_, rfl, ?_⟩; have p25 : 0 ≤ (x3_1 : Int) := of_decide_eq_true sA; have q25 : x3_1 < (a0.size : Int) := of_decide_eq_true sA; have hx25 := bt_at a0 x3_1; replace p25 := eq_true p25; replace q25 := eq_true q25; have p30 : 0 ≤ ((ji27) : Int) := of_decide_eq_true sA; have q30 : (ji27) < (a0.size : Int) := of_decide_eq_true sA; have hx30 := bt_at a0 (ji27); replace p30 := eq_true p30; replace q30 := eq_true q30))
               go_ret
               exact ⟨by first | rfl | (simp; done) | (simp only [← hji27] <;> (first | rfl | simp)) | (simp [*]; done), by repeat (first | exact Drawn0.refl _ | apply Drawn0.step)⟩
              ·
               rw [if_neg c31] at H
               have c31b0 : ((bt a0 (ji27)) == 45) = false := beq_eq_false_iff_ne.mpr c31
               have c31b1 : ((bt a0 (ji27)) != 45) = true := bne_iff_ne.mpr c31
               have H' := Aside0.mk H
               clear H
               go_wp2_with (first | ((with_reducible refine gate_callee (f := 44) rfl ?_); refine goesL_ (some 46) rfl rfl Tryz.func44 (by kernel_rfl) rfl #[.int .i64 (wrap64 (x4_1 - x3_1)), .int .i64 1, .int .i64 63] rfl sM ?_; (with_reducible refine (wherryref11_in.calls (wrap64 (x4_1 - x3_1)) 1 63 true _ A21.out).mono ?_); rintro e w' ⟨rfl, ⟨nd, rfl⟩⟩; refine ⟨_, rfl, ?_⟩; have p25 : 0 ≤ (x3_1 : Int) := of_decide_eq_true sA; have q25 : x3_1 < (a0.size : Int) := of_decide_eq_true sA; have hx25 := bt_at a0 x3_1; replace p25 := eq_true p25; replace q25 := eq_true q25; have p30 : 0 ≤ ((ji27) : Int) := of_decide_eq_true sA; have q30 : (ji27) < (a0.size : Int) := of_decide_eq_true sA; have hx30 := bt_at a0 (ji27); replace p30 := eq_true p30; replace q30 := eq_true q30))
               go_roundg kj4
               case measure => have := HK1.out; have := HJ4.out; omega
               case rel => exact ⟨(wrap64 (x4_1 + 1)), (wrap64 (x4_1 + 1)), (by first | rfl | (simp; done) | (simp [*]; done)), (by first | rfl | (simp; done) | (simp [*]; done)), H', ⟨by have := HK1.out; have := HJ4.out; omega⟩, by repeat (first | exact Drawn0.refl _ | apply Drawn0.step)⟩
             ·
              rw [if_neg c29] at H
              exact absurd H (by simp)
            ·
             rw [if_neg c28] at H
             exact absurd H (by simp)
          ·
           rw [if_neg c24] at H
           exact absurd H (by simp)
         ·
          rw [if_neg c23] at H
          exact absurd H (by simp)
        ·
         replace c22 := Bool.eq_false_iff.mpr c22
         subst c22
         rw [if_neg (show ¬ (false = true) by decide)] at H
         try dsimp -simprocs only at H
         obtain rfl := Option.some.inj H
         go_wp2_with (first | ((with_reducible refine gate_callee (f := 44) rfl ?_); refine goesL_ (some 46) rfl rfl Tryz.func44 (by kernel_rfl) rfl #[.int .i64 (wrap64 (x4_1 - x3_1)), .int .i64 1, .int .i64 63] rfl sM ?_; (with_reducible refine (wherryref11_in.calls (wrap64 (x4_1 - x3_1)) 1 63 false _ A21.out).mono ?_); rintro e w' ⟨rfl, ⟨nd, rfl⟩⟩; refine ⟨_, rfl, ?_⟩))
         go_ret
         exact ⟨by first | rfl | (simp; done) | (simp [*]; done), by repeat (first | exact Drawn0.refl _ | apply Drawn0.step)⟩
    ·
     rw [if_neg c4] at H
     have c4b0 : decide (x4_1 ≤ (a0.size : Int)) = false := decide_eq_false c4
     clear c4
     obtain rfl := Option.some.inj H
     go_wp2
     go_ret
     exact ⟨by first | rfl | (simp; done) | (simp [*]; done), by repeat (first | exact Drawn0.refl _ | apply Drawn0.step)⟩
 ·
  replace c3 := Bool.eq_false_iff.mpr c3
  subst c3
  rw [if_neg (show ¬ (false = true) by decide)] at H
  try dsimp -simprocs only at H
  obtain rfl := Option.some.inj H
  go_enter Tryz.func26, Tryz.ntmps26
  go_wp2_with (first | ((with_reducible refine gate_callee (f := 44) rfl ?_); refine goesL_ (some 7) rfl rfl Tryz.func44 (by kernel_rfl) rfl #[.int .i64 (a0.size : Int), .int .i64 1, .int .i64 255] rfl sM ?_; (with_reducible refine (wherryref11_in.calls (a0.size : Int) 1 255 false _ A2.out).mono ?_); rintro e w' ⟨rfl, ⟨nd, rfl⟩⟩; refine ⟨_, rfl, ?_⟩))
  go_ret
  exact ⟨by first | rfl | (simp; done) | (simp [*]; done), by repeat (first | exact Drawn0.refl _ | apply Drawn0.step)⟩
def wherryref11_begins.f (k : Nat) (a0 : ByteArray) (a1 : ByteArray) : Option (ByteArray × Bool) := if (a0.size : Int) < (a1.size : Int) then (some ((⟨#[]⟩ : ByteArray), false)) else (if 0 ≤ (a1.size : Int) then (if (a1.size : Int) ≤ (a0.size : Int) then ((wherryref11_Fold.f k (a0.extract 0 a1.size)).bind fun t194 => (if t194.toList = a1.toList then (some (a0.extract a1.size a0.size, true)) else (some ((⟨#[]⟩ : ByteArray), false)))) else (none)) else (none))
mutual
def wherryref11_sign.j0 : Nat → Int → Bool → Option (Bool)
 | 0, _, _ => none
 | k + 1, x0, x10 => if x10 = true then (some true) else (wherryref11_sign.l0 k x0 (⟨#[33, 35, 36, 37, 38, 39, 42, 43, 45, 47, 61, 63, 94, 95, 123, 124, 125, 126]⟩ : ByteArray) 0)
def wherryref11_sign.l0 : Nat → Int → ByteArray → Int → Option (Bool)
 | 0, _, _, _ => none
 | k + 1, x0, x3, x4 => if x4 < (x3.size : Int) then (if 0 ≤ x4 then (if (bt x3 x4) = x0 then (some true) else (wherryref11_sign.l0 k x0 x3 (wrap64 (x4 + 1)))) else (none)) else (some (x0 == 96))
end
def wherryref11_sign.f (k : Nat) (a0 : Int) : Option (Bool) := (wherryref11_letter.f a0).bind fun t195 => (if t195 = true then (wherryref11_sign.j0 k a0 true) else ((wherryref11_digit.f a0).bind fun t196 => (wherryref11_sign.j0 k a0 t196)))
theorem wherryref11_sign.mono_l : ∀ k, (∀ y0 y1, LeO (wherryref11_sign.j0 k y0 y1) (wherryref11_sign.j0 (k + 1) y0 y1)) ∧ (∀ y0 y1 y2, LeO (wherryref11_sign.l0 k y0 y1 y2) (wherryref11_sign.l0 (k + 1) y0 y1 y2))
 | 0 => ⟨fun _ _ r h => by simp [wherryref11_sign.j0] at h, fun _ _ _ r h => by simp [wherryref11_sign.l0] at h⟩
 | k + 1 => by
  obtain ⟨ih0, ih1⟩ := wherryref11_sign.mono_l k
  refine ⟨?_, ?_⟩
  ·
   intro y0 y1
   unfold wherryref11_sign.j0
   repeat' first
   | (with_reducible exact ih0 _ _)
   | (with_reducible exact ih1 _ _ _)
   | (with_reducible exact LeO.refl _)
   | (with_reducible exact LeO.none _)
   | (with_reducible refine LeO.ite ?_ ?_)
   | (with_reducible refine LeO.bind ?_ (fun _ => ?_))
   | exact ih0 _ _
   | exact ih1 _ _ _
   | exact LeO.none _
   | refine LeO.ite ?_ ?_
   | refine LeO.bind ?_ (fun _ => ?_)
  ·
   intro y0 y1 y2
   unfold wherryref11_sign.l0
   repeat' first
   | (with_reducible exact ih0 _ _)
   | (with_reducible exact ih1 _ _ _)
   | (with_reducible exact LeO.refl _)
   | (with_reducible exact LeO.none _)
   | (with_reducible refine LeO.ite ?_ ?_)
   | (with_reducible refine LeO.bind ?_ (fun _ => ?_))
   | exact ih0 _ _
   | exact ih1 _ _ _
   | exact LeO.none _
   | refine LeO.ite ?_ ?_
   | refine LeO.bind ?_ (fun _ => ?_)
theorem wherryref11_sign.mono : ∀ a0 k, LeO (wherryref11_sign.f k a0) (wherryref11_sign.f (k + 1) a0) := by
 intro a0 k
 obtain ⟨ih0, ih1⟩ := wherryref11_sign.mono_l k
 unfold wherryref11_sign.f
 repeat' first
   | (with_reducible exact ih0 _ _)
   | (with_reducible exact ih1 _ _ _)
   | (with_reducible exact LeO.refl _)
   | (with_reducible exact LeO.none _)
   | (with_reducible refine LeO.ite ?_ ?_)
   | (with_reducible refine LeO.bind ?_ (fun _ => ?_))
   | exact ih0 _ _
   | exact ih1 _ _ _
   | exact LeO.none _
   | refine LeO.ite ?_ ?_
   | refine LeO.bind ?_ (fun _ => ?_)
set_option maxHeartbeats 8000000 in
set_option maxRecDepth 100000 in
theorem wherryref11_sign.calls (k : Nat) (a0 : Int) (r : Bool) (w : World) (h : wherryref11_sign.f k a0 = some r) :
  Calls Tryz.prog 51 #[.int .u8 a0] w fun e w' => e = .returned (.bool r) ∧ Drawn0 w w' := by
 have H : ((wherryref11_letter.f a0).bind fun t195 => (if t195 = true then (wherryref11_sign.j0 k a0 true) else ((wherryref11_digit.f a0).bind fun t196 => (wherryref11_sign.j0 k a0 t196)))) = some r := h
 clear h
 have HC2 := Aside0.mk H
 clear H
 go_enter Tryz.func51, Tryz.ntmps51
 go_upto_region 1 with (fail)
 go_cut [10] (fun v10 wc => ∃ (kq : Nat) (x10_1 : Bool), v10 = .bool x10_1 ∧ Aside0 (wherryref11_sign.j0 kq a0 x10_1 = some r) ∧ Aside0 (kq ≤ k) ∧ Drawn0 w wc)
 case first =>
  have H := HC2.out
  clear HC2
  replace H := Option.bind_eq_some_iff.mp H
  obtain ⟨t195, A30, H⟩ := H
  try dsimp -simprocs only at H
  have A3 := Aside0.mk A30
  clear A30
  by_cases c4 : t195 = true
  ·
   subst c4
   rw [if_pos rfl] at H
   try dsimp -simprocs only at H
   have H' := Aside0.mk H
   clear H
   go_wp2_with (first | ((with_reducible refine gate_callee (f := 45) rfl ?_); refine goesL_ (some 6) rfl rfl Tryz.func45 (by kernel_rfl) rfl #[.int .u8 a0] rfl sM ?_; (with_reducible refine (wherryref11_letter.calls a0 true _ A3.out).mono ?_); rintro e w' ⟨rfl, ⟨nd, rfl⟩⟩; refine ⟨_, rfl, ?_⟩))
   go_meet
   case rel => exact ⟨_, (true), (by first | rfl | (simp; done) | (simp [*]; done)), H', ⟨by first | omega | exact Nat.le_refl _⟩, by repeat (first | exact Drawn0.refl _ | apply Drawn0.step)⟩
  ·
   replace c4 := Bool.eq_false_iff.mpr c4
   subst c4
   rw [if_neg (show ¬ (false = true) by decide)] at H
   try dsimp -simprocs only at H
   replace H := Option.bind_eq_some_iff.mp H
   obtain ⟨t196, A50, H⟩ := H
   try dsimp -simprocs only at H
   have A5 := Aside0.mk A50
   clear A50
   have H' := Aside0.mk H
   clear H
   go_wp2_with (first | ((with_reducible refine gate_callee (f := 45) rfl ?_); refine goesL_ (some 6) rfl rfl Tryz.func45 (by kernel_rfl) rfl #[.int .u8 a0] rfl sM ?_; (with_reducible refine (wherryref11_letter.calls a0 false _ A3.out).mono ?_); rintro e w' ⟨rfl, ⟨nd, rfl⟩⟩; refine ⟨_, rfl, ?_⟩) | (go_at_call 46; (with_reducible refine (wherryref11_digit.calls a0 t196 _ A5.out).mono ?_); rintro e w' ⟨rfl, ⟨nd, rfl⟩⟩))
   go_meet
   case rel => exact ⟨_, (t196), (by first | rfl | (simp; done) | (simp [*]; done)), H', ⟨by first | omega | exact Nat.le_refl _⟩, by repeat (first | exact Drawn0.refl _ | apply Drawn0.step)⟩
 case rest =>
  clear HC2
  try clear p2; try clear c4; try clear c5
  obtain ⟨kq, x10_1, rfl, HA, HJ1, ⟨mc1, rfl⟩⟩ := hcut
  cases kq with
  | zero => exact absurd HA.out (by simp [wherryref11_sign.j0])
  | succ kj1 =>
   have H := HA.out
   clear HA
   simp only [wherryref11_sign.j0] at H
   by_cases c6 : x10_1 = true
   ·
    subst c6
    rw [if_pos rfl] at H
    try dsimp -simprocs only at H
    obtain rfl := Option.some.inj H
    go_wp2
    go_ret
    exact ⟨by first | rfl | (simp; done) | (simp [*]; done), by repeat (first | exact Drawn0.refl _ | apply Drawn0.step)⟩
   ·
    replace c6 := Bool.eq_false_iff.mpr c6
    subst c6
    rw [if_neg (show ¬ (false = true) by decide)] at H
    try dsimp -simprocs only at H
    have H' := Aside0.mk H
    clear H
    go_wp2
    go_loopg [4] kj1 (fun kq v4 w' => ∃ (x4_2 : Int), v4 = .int .i64 x4_2 ∧ Aside0 (wherryref11_sign.l0 kq a0 (⟨#[33, 35, 36, 37, 38, 39, 42, 43, 45, 47, 61, 63, 94, 95, 123, 124, 125, 126]⟩ : ByteArray) x4_2 = some r) ∧ Aside0 (kq ≤ kj1) ∧ Drawn0 w w')
    case atStart => exact ⟨(0), (by first | rfl | (simp; done) | (simp [*]; done)), H', ⟨Nat.le_refl _⟩, by repeat (first | exact Drawn0.refl _ | apply Drawn0.step)⟩
    case round =>
     clear H'
     try clear c1; try clear p2; try clear c4; try clear c5; try clear c6; try clear p2
     obtain ⟨x4_2, rfl, HA, HK2, ⟨m2, rfl⟩⟩ := hrel
     cases gk with
     | zero => exact absurd HA.out (by simp [wherryref11_sign.l0])
     | succ k2 =>
      have H := HA.out
      clear HA
      simp only [wherryref11_sign.l0] at H
      by_cases c7 : x4_2 < ((⟨#[33, 35, 36, 37, 38, 39, 42, 43, 45, 47, 61, 63, 94, 95, 123, 124, 125, 126]⟩ : ByteArray).size : Int)
      ·
       rw [if_pos c7] at H
       have c7b0 : decide (x4_2 < (18 : Int)) = true := decide_eq_true c7
       clear c7
       by_cases c8 : 0 ≤ x4_2
       ·
        rw [if_pos c8] at H
        have c8b0 : decide (0 ≤ x4_2) = true := decide_eq_true c8
        clear c8
        by_cases c10 : (bt (⟨#[33, 35, 36, 37, 38, 39, 42, 43, 45, 47, 61, 63, 94, 95, 123, 124, 125, 126]⟩ : ByteArray) x4_2) = a0
        ·
         rw [if_pos c10] at H
         have c10b0 : ((bt (⟨#[33, 35, 36, 37, 38, 39, 42, 43, 45, 47, 61, 63, 94, 95, 123, 124, 125, 126]⟩ : ByteArray) x4_2) == a0) = true := beq_iff_eq.mpr c10
         have c10b1 : ((bt (⟨#[33, 35, 36, 37, 38, 39, 42, 43, 45, 47, 61, 63, 94, 95, 123, 124, 125, 126]⟩ : ByteArray) x4_2) != a0) = false := bne_eq_false_iff_eq.mpr c10
         clear c10
         obtain rfl := Option.some.inj H
         have p9 : 0 ≤ (x4_2 : Int) := of_decide_eq_true sA
         have q9 : x4_2 < (18 : Int) := of_decide_eq_true sA
         have hx9 := bt_at (⟨#[33, 35, 36, 37, 38, 39, 42, 43, 45, 47, 61, 63, 94, 95, 123, 124, 125, 126]⟩ : ByteArray) x4_2
         replace p9 := eq_true p9
         replace q9 := eq_true q9
         go_wp2
         go_ret
         exact ⟨by first | rfl | (simp; done) | (simp [*]; done), by repeat (first | exact Drawn0.refl _ | apply Drawn0.step)⟩
        ·
         rw [if_neg c10] at H
         have c10b0 : ((bt (⟨#[33, 35, 36, 37, 38, 39, 42, 43, 45, 47, 61, 63, 94, 95, 123, 124, 125, 126]⟩ : ByteArray) x4_2) == a0) = false := beq_eq_false_iff_ne.mpr c10
         have c10b1 : ((bt (⟨#[33, 35, 36, 37, 38, 39, 42, 43, 45, 47, 61, 63, 94, 95, 123, 124, 125, 126]⟩ : ByteArray) x4_2) != a0) = true := bne_iff_ne.mpr c10
         have H' := Aside0.mk H
         clear H
         have p9 : 0 ≤ (x4_2 : Int) := of_decide_eq_true sA
         have q9 : x4_2 < (18 : Int) := of_decide_eq_true sA
         have hx9 := bt_at (⟨#[33, 35, 36, 37, 38, 39, 42, 43, 45, 47, 61, 63, 94, 95, 123, 124, 125, 126]⟩ : ByteArray) x4_2
         replace p9 := eq_true p9
         replace q9 := eq_true q9
         go_wp2
         go_roundg k2
         case measure => have := HJ1.out; have := HK2.out; omega
         case rel => exact ⟨(wrap64 (x4_2 + 1)), (by first | rfl | (simp; done) | (simp [*]; done)), H', ⟨by have := HJ1.out; have := HK2.out; omega⟩, by repeat (first | exact Drawn0.refl _ | apply Drawn0.step)⟩
       ·
        rw [if_neg c8] at H
        exact absurd H (by simp)
      ·
       rw [if_neg c7] at H
       have c7b0 : decide (x4_2 < (18 : Int)) = false := decide_eq_false c7
       clear c7
       obtain rfl := Option.some.inj H
       go_wp2
       go_ret
       exact ⟨by first | rfl | (simp; done) | (simp [*]; done), by repeat (first | exact Drawn0.refl _ | apply Drawn0.step)⟩
end Go.Proofs.YthcdjgekmfnmnaaGreatDoor.PVerb
end
section
namespace Go.Proofs.YthcdjgekmfnmnaaGreatDoor.PVerb
open Go.RowKit Go.Proofs.YthcdjgekmfnmnaaGreatDoorW.PrintWords Go.Proofs.YthcdjgekmfnmnaaGreatDoorW.PrintLast Go.Proofs.YthcdjgekmfnmnaaGreatDoorW.PrintMore
attribute [local go_sem] max2_int min2_int max_two min_two max_three min_three max_four min_four
set_option linter.unusedVariables false
set_option linter.unusedSimpArgs false
mutual
def wherryref11_Local.j0 : Nat → ByteArray → Bool → Option (Bool)
 | 0, _, _ => none
 | k + 1, x0, x20 => if x20 = true then (some false) else (wherryref11_Local.l0 k x0 0)
def wherryref11_Local.l0 : Nat → ByteArray → Int → Option (Bool)
 | 0, _, _ => none
 | k + 1, x0, x3 => if x3 < (x0.size : Int) then (if 0 ≤ x3 then (if (bt x0 x3) = 46 then (if 0 ≤ (wrap64 (x3 - 1)) then (if (wrap64 (x3 - 1)) < (x0.size : Int) then (if (bt x0 (wrap64 (x3 - 1))) = 46 then (some false) else (wherryref11_Local.l0 k x0 (wrap64 (x3 + 1)))) else (none)) else (none)) else ((wherryref11_sign.f k (bt x0 x3)).bind fun t198 => (if t198 = true then (wherryref11_Local.l0 k x0 (wrap64 (x3 + 1))) else (some false)))) else (none)) else (some true)
end
def wherryref11_Local.f (k : Nat) (a0 : ByteArray) : Option (Bool) := (wherryref11_in.f (a0.size : Int) 1 64).bind fun t197 => (if t197 = true then (if 0 < (a0.size : Int) then (if (bt a0 0) = 46 then (wherryref11_Local.j0 k a0 true) else (if 0 ≤ (wrap64 ((a0.size : Int) - 1)) then (if (wrap64 ((a0.size : Int) - 1)) < (a0.size : Int) then (wherryref11_Local.j0 k a0 ((bt a0 (wrap64 ((a0.size : Int) - 1))) == 46)) else (none)) else (none))) else (none)) else (wherryref11_Local.j0 k a0 true))
set_option maxHeartbeats 8000000 in
set_option maxRecDepth 100000 in
theorem wherryref11_Local.calls (k : Nat) (a0 : ByteArray) (r : Bool) (w : World) (h : wherryref11_Local.f k a0 = some r) :
  Calls Tryz.prog 36 #[.string a0] w fun e w' => e = .returned (.bool r) ∧ Drawn0 w w' := by
 have H : ((wherryref11_in.f (a0.size : Int) 1 64).bind fun t197 => (if t197 = true then (if 0 < (a0.size : Int) then (if (bt a0 0) = 46 then (wherryref11_Local.j0 k a0 true) else (if 0 ≤ (wrap64 ((a0.size : Int) - 1)) then (if (wrap64 ((a0.size : Int) - 1)) < (a0.size : Int) then (wherryref11_Local.j0 k a0 ((bt a0 (wrap64 ((a0.size : Int) - 1))) == 46)) else (none)) else (none))) else (none)) else (wherryref11_Local.j0 k a0 true))) = some r := h
 clear h
 have HC2 := Aside0.mk H
 clear H
 go_enter Tryz.func36, Tryz.ntmps36
 go_upto_region 1 with (fail)
 go_cut [20] (fun v20 wc => ∃ (kq : Nat) (x20_1 : Bool), v20 = .bool x20_1 ∧ Aside0 (wherryref11_Local.j0 kq a0 x20_1 = some r) ∧ Aside0 (kq ≤ k) ∧ Drawn0 w wc)
 case first =>
  have H := HC2.out
  clear HC2
  replace H := Option.bind_eq_some_iff.mp H
  obtain ⟨t197, A30, H⟩ := H
  try dsimp -simprocs only at H
  have A3 := Aside0.mk A30
  clear A30
  by_cases c4 : t197 = true
  ·
   subst c4
   rw [if_pos rfl] at H
   try dsimp -simprocs only at H
   by_cases c5 : 0 < (a0.size : Int)
   ·
    rw [if_pos c5] at H
    have c5b0 : decide (0 < (a0.size : Int)) = true := decide_eq_true c5
    have c5b1 : decide (0 < a0.size) = true := decide_eq_true (by omega)
    clear c5
    (first | rw [c5b0] | (simp only [i64_w, i32_w]; rw [c5b0]) | skip)
    by_cases c7 : (bt a0 0) = 46
    ·
     rw [if_pos c7] at H
     have c7b0 : ((bt a0 0) == 46) = true := beq_iff_eq.mpr c7
     have c7b1 : ((bt a0 0) != 46) = false := bne_eq_false_iff_eq.mpr c7
     clear c7
     have H' := Aside0.mk H
     clear H
     go_wp2_with (first | ((with_reducible refine gate_callee (f := 44) rfl ?_); refine goesL_ (some 6) rfl rfl Tryz.func44 (by kernel_rfl) rfl #[.int .i64 (a0.size : Int), .int .i64 1, .int .i64 64] rfl sM ?_; (with_reducible refine (wherryref11_in.calls (a0.size : Int) 1 64 true _ A3.out).mono ?_); rintro e w' ⟨rfl, ⟨nd, rfl⟩⟩; refine ⟨_, rfl, ?_⟩; have p6 : 0 ≤ (0 : Int) := (by omega); have q6 : 0 < a0.size := (by have : (0 : Int) < (a0.size : Int) := of_decide_eq_true sA; omega); have hx6 : ∀ h : 0 < a0.size, ((a0[0]'h).toNat : Int) = bt a0 0 := bt_at a0 0; clear p6; have qi6 : (0 < (a0.size : Int)) = True := eq_true (of_decide_eq_true sA); replace q6 := eq_true q6))
     go_meet
     case rel => exact ⟨_, (true), (by first | rfl | (simp; done) | (simp [*]; done)), H', ⟨by first | omega | exact Nat.le_refl _⟩, by repeat (first | exact Drawn0.refl _ | apply Drawn0.step)⟩
    ·
     rw [if_neg c7] at H
     have c7b0 : ((bt a0 0) == 46) = false := beq_eq_false_iff_ne.mpr c7
     have c7b1 : ((bt a0 0) != 46) = true := bne_iff_ne.mpr c7
     obtain ⟨ji8, hji8⟩ : ∃ j_ : Int, (wrap64 ((a0.size : Int) - 1)) = j_ := ⟨_, rfl⟩
     replace H : (if 0 ≤ (ji8) then (if (ji8) < (a0.size : Int) then (wherryref11_Local.j0 k a0 ((bt a0 (ji8)) == 46)) else (none)) else (none)) = some r := by first | (rw [hji8] at H; exact H) | (simp only [hji8] at H ⊢; exact H)
     (try rw [hji8] at A3)
     have hji8w : (IntKind.i64.wrap ((a0.size : Int) - 1)) = ji8 := (i64_w _).trans hji8
     by_cases c9 : 0 ≤ (ji8)
     ·
      rw [if_pos c9] at H
      have c9b0 : decide (0 ≤ (ji8)) = true := decide_eq_true c9
      clear c9
      by_cases c10 : (ji8) < (a0.size : Int)
      ·
       rw [if_pos c10] at H
       have c10b0 : decide ((ji8) < (a0.size : Int)) = true := decide_eq_true c10
       clear c10
       have H' := Aside0.mk H
       clear H
       go_wp2_with (first | ((with_reducible refine gate_callee (f := 44) rfl ?_); refine goesL_ (some 6) rfl rfl Tryz.func44 (by kernel_rfl) rfl #[.int .i64 (a0.size : Int), .int .i64 1, .int .i64 64] rfl sM ?_; (with_reducible refine (wherryref11_in.calls (a0.size : Int) 1 64 true _ A3.out).mono ?_); rintro e w' ⟨rfl, ⟨nd, rfl⟩⟩; refine ⟨_, rfl, ?_⟩; have p6 : 0 ≤ (0 : Int) := (by omega); have q6 : 0 < a0.size := (by have : (0 : Int) < (a0.size : Int) := of_decide_eq_true sA; omega); have hx6 : ∀ h : 0 < a0.size, ((a0[0]'h).toNat : Int) = bt a0 0 := bt_at a0 0; clear p6; have qi6 : (0 < (a0.size : Int)) = True := eq_true (of_decide_eq_true sA); replace q6 := eq_true q6; have p11 : 0 ≤ ((ji8) : Int) := of_decide_eq_true sA; have q11 : (ji8) < (a0.size : Int) := of_decide_eq_true sA; have hx11 := bt_at a0 (ji8); replace p11 := eq_true p11; replace q11 := eq_true q11))
       go_meet
       case rel => exact ⟨_, (((bt a0 (ji8)) == 46)), (by first | rfl | (simp; done) | (simp only [← hji8] <;> (first | rfl | simp)) | (simp [*]; done)), H', ⟨by first | omega | exact Nat.le_refl _⟩, by repeat (first | exact Drawn0.refl _ | apply Drawn0.step)⟩
      ·
       rw [if_neg c10] at H
       exact absurd H (by simp)
     ·
      rw [if_neg c9] at H
      exact absurd H (by simp)
   ·
    rw [if_neg c5] at H
    exact absurd H (by simp)
  ·
   replace c4 := Bool.eq_false_iff.mpr c4
   subst c4
   rw [if_neg (show ¬ (false = true) by decide)] at H
   try dsimp -simprocs only at H
   have H' := Aside0.mk H
   clear H
   go_wp2_with (first | ((with_reducible refine gate_callee (f := 44) rfl ?_); refine goesL_ (some 6) rfl rfl Tryz.func44 (by kernel_rfl) rfl #[.int .i64 (a0.size : Int), .int .i64 1, .int .i64 64] rfl sM ?_; (with_reducible refine (wherryref11_in.calls (a0.size : Int) 1 64 false _ A3.out).mono ?_); rintro e w' ⟨rfl, ⟨nd, rfl⟩⟩; refine ⟨_, rfl, ?_⟩))
   go_meet
   case rel => exact ⟨_, (true), (by first | rfl | (simp; done) | (simp [*]; done)), H', ⟨by first | omega | exact Nat.le_refl _⟩, by repeat (first | exact Drawn0.refl _ | apply Drawn0.step)⟩
 case rest =>
  clear HC2
  try clear c1; try clear p1; try clear q1; try clear hx1; try clear p2; try clear c3; try clear c4; try clear c5; try clear c5b0; try clear c5b1; try clear p6; try clear q6; try clear hx6; try clear qi6; try clear c7; try clear c7b0; try clear c7b1; try clear c9; try clear c9b0; try clear c10; try clear c10b0; try clear p11; try clear q11; try clear hx11; try clear p11; try clear p6; try clear q11; try clear q6
  obtain ⟨kq, x20_1, rfl, HA, HJ1, ⟨mc1, rfl⟩⟩ := hcut
  cases kq with
  | zero => exact absurd HA.out (by simp [wherryref11_Local.j0])
  | succ kj1 =>
   have H := HA.out
   clear HA
   simp only [wherryref11_Local.j0] at H
   by_cases c12 : x20_1 = true
   ·
    subst c12
    rw [if_pos rfl] at H
    try dsimp -simprocs only at H
    obtain rfl := Option.some.inj H
    go_wp2
    go_ret
    exact ⟨by first | rfl | (simp; done) | (simp [*]; done), by repeat (first | exact Drawn0.refl _ | apply Drawn0.step)⟩
   ·
    replace c12 := Bool.eq_false_iff.mpr c12
    subst c12
    rw [if_neg (show ¬ (false = true) by decide)] at H
    try dsimp -simprocs only at H
    have H' := Aside0.mk H
    clear H
    go_wp2
    go_loopg [3] kj1 (fun kq v3 w' => ∃ (x3_2 : Int), v3 = .int .i64 x3_2 ∧ Aside0 (wherryref11_Local.l0 kq a0 x3_2 = some r) ∧ Aside0 (kq ≤ kj1) ∧ Drawn0 w w')
    case atStart => exact ⟨(0), (by first | rfl | (simp; done) | (simp [*]; done)), H', ⟨Nat.le_refl _⟩, by repeat (first | exact Drawn0.refl _ | apply Drawn0.step)⟩
    case round =>
     clear H'
     try clear c1; try clear p1; try clear q1; try clear hx1; try clear p2; try clear c3; try clear c4; try clear c5; try clear c5b0; try clear c5b1; try clear p6; try clear q6; try clear hx6; try clear qi6; try clear c7; try clear c7b0; try clear c7b1; try clear c9; try clear c9b0; try clear c10; try clear c10b0; try clear p11; try clear q11; try clear hx11; try clear c12; try clear p1; try clear p11; try clear p2; try clear p6; try clear q1; try clear q11; try clear q6
     obtain ⟨x3_2, rfl, HA, HK2, ⟨m2, rfl⟩⟩ := hrel
     cases gk with
     | zero => exact absurd HA.out (by simp [wherryref11_Local.l0])
     | succ k2 =>
      have H := HA.out
      clear HA
      simp only [wherryref11_Local.l0] at H
      by_cases c13 : x3_2 < (a0.size : Int)
      ·
       rw [if_pos c13] at H
       have c13b0 : decide (x3_2 < (a0.size : Int)) = true := decide_eq_true c13
       clear c13
       by_cases c14 : 0 ≤ x3_2
       ·
        rw [if_pos c14] at H
        have c14b0 : decide (0 ≤ x3_2) = true := decide_eq_true c14
        clear c14
        by_cases c16 : (bt a0 x3_2) = 46
        ·
         rw [if_pos c16] at H
         have c16b0 : ((bt a0 x3_2) == 46) = true := beq_iff_eq.mpr c16
         have c16b1 : ((bt a0 x3_2) != 46) = false := bne_eq_false_iff_eq.mpr c16
         clear c16
         obtain ⟨ji17, hji17⟩ : ∃ j_ : Int, (wrap64 (x3_2 - 1)) = j_ := ⟨_, rfl⟩
         replace H : (if 0 ≤ (ji17) then (if (ji17) < (a0.size : Int) then (if (bt a0 (ji17)) = 46 then (some false) else (wherryref11_Local.l0 k2 a0 (wrap64 (x3_2 + 1)))) else (none)) else (none)) = some r := by first | (rw [hji17] at H; exact H) | (simp only [hji17] at H ⊢; exact H)
         have hji17w : (IntKind.i64.wrap (x3_2 - 1)) = ji17 := (i64_w _).trans hji17
         by_cases c18 : 0 ≤ (ji17)
         ·
          rw [if_pos c18] at H
          have c18b0 : decide (0 ≤ (ji17)) = true := decide_eq_true c18
          clear c18
          by_cases c19 : (ji17) < (a0.size : Int)
          ·
           rw [if_pos c19] at H
           have c19b0 : decide ((ji17) < (a0.size : Int)) = true := decide_eq_true c19
           clear c19
           by_cases c21 : (bt a0 (ji17)) = 46
           ·
            rw [if_pos c21] at H
            have c21b0 : ((bt a0 (ji17)) == 46) = true := beq_iff_eq.mpr c21
            have c21b1 : ((bt a0 (ji17)) != 46) = false := bne_eq_false_iff_eq.mpr c21
            clear c21
            obtain rfl := Option.some.inj H
            have p15 : 0 ≤ (x3_2 : Int) := of_decide_eq_true sA
            have q15 : x3_2 < (a0.size : Int) := of_decide_eq_true sA
            have hx15 := bt_at a0 x3_2
            replace p15 := eq_true p15
            replace q15 := eq_true q15
            have p20 : 0 ≤ ((ji17) : Int) := of_decide_eq_true sA
            have q20 : (ji17) < (a0.size : Int) := of_decide_eq_true sA
            have hx20 := bt_at a0 (ji17)
            replace p20 := eq_true p20
            replace q20 := eq_true q20
            go_wp2
            go_ret
            exact ⟨by first | rfl | (simp; done) | (simp only [← hji17] <;> (first | rfl | simp)) | (simp [*]; done), by repeat (first | exact Drawn0.refl _ | apply Drawn0.step)⟩
           ·
            rw [if_neg c21] at H
            have c21b0 : ((bt a0 (ji17)) == 46) = false := beq_eq_false_iff_ne.mpr c21
            have c21b1 : ((bt a0 (ji17)) != 46) = true := bne_iff_ne.mpr c21
            have H' := Aside0.mk H
            clear H
            have p15 : 0 ≤ (x3_2 : Int) := of_decide_eq_true sA
            have q15 : x3_2 < (a0.size : Int) := of_decide_eq_true sA
            have hx15 := bt_at a0 x3_2
            replace p15 := eq_true p15
            replace q15 := eq_true q15
            have p20 : 0 ≤ ((ji17) : Int) := of_decide_eq_true sA
            have q20 : (ji17) < (a0.size : Int) := of_decide_eq_true sA
            have hx20 := bt_at a0 (ji17)
            replace p20 := eq_true p20
            replace q20 := eq_true q20
            have p22 : 0 ≤ (x3_2 : Int) := of_decide_eq_true sA
            have q22 : x3_2 < (a0.size : Int) := of_decide_eq_true sA
            have hx22 := bt_at a0 x3_2
            replace p22 := eq_true p22
            replace q22 := eq_true q22
            go_wp2
            go_roundg k2
            case measure => have := HJ1.out; have := HK2.out; omega
            case rel => exact ⟨(wrap64 (x3_2 + 1)), (by first | rfl | (simp; done) | (simp [*]; done)), H', ⟨by have := HJ1.out; have := HK2.out; omega⟩, by repeat (first | exact Drawn0.refl _ | apply Drawn0.step)⟩
          ·
           rw [if_neg c19] at H
           exact absurd H (by simp)
         ·
          rw [if_neg c18] at H
          exact absurd H (by simp)
        ·
         rw [if_neg c16] at H
         have c16b0 : ((bt a0 x3_2) == 46) = false := beq_eq_false_iff_ne.mpr c16
         have c16b1 : ((bt a0 x3_2) != 46) = true := bne_iff_ne.mpr c16
         replace H := Option.bind_eq_some_iff.mp H
         obtain ⟨t198, A250, H⟩ := H
         try dsimp -simprocs only at H
         have A25 := Aside0.mk A250
         clear A250
         by_cases c26 : t198 = true
         ·
          subst c26
          rw [if_pos rfl] at H
          try dsimp -simprocs only at H
          have H' := Aside0.mk H
          clear H
          have p15 : 0 ≤ (x3_2 : Int) := of_decide_eq_true sA
          have q15 : x3_2 < (a0.size : Int) := of_decide_eq_true sA
          have hx15 := bt_at a0 x3_2
          replace p15 := eq_true p15
          replace q15 := eq_true q15
          have p23 : 0 ≤ (x3_2 : Int) := of_decide_eq_true sA
          have q23 : x3_2 < (a0.size : Int) := of_decide_eq_true sA
          have hx23 := bt_at a0 x3_2
          replace p23 := eq_true p23
          replace q23 := eq_true q23
          have p24 : 0 ≤ (x3_2 : Int) := of_decide_eq_true sA
          have q24 : x3_2 < (a0.size : Int) := of_decide_eq_true sA
          have hx24 := bt_at a0 x3_2
          replace p24 := eq_true p24
          replace q24 := eq_true q24
          go_wp2_with (first | (go_at_call 51; (with_reducible refine (wherryref11_sign.calls k2 (bt a0 x3_2) true _ A25.out).mono ?_); rintro e w' ⟨rfl, ⟨nd, rfl⟩⟩))
          go_roundg k2
          case measure => have := HJ1.out; have := HK2.out; omega
          case rel => exact ⟨(wrap64 (x3_2 + 1)), (by first | rfl | (simp; done) | (simp [*]; done)), H', ⟨by have := HJ1.out; have := HK2.out; omega⟩, by repeat (first | exact Drawn0.refl _ | apply Drawn0.step)⟩
         ·
          replace c26 := Bool.eq_false_iff.mpr c26
          subst c26
          rw [if_neg (show ¬ (false = true) by decide)] at H
          try dsimp -simprocs only at H
          obtain rfl := Option.some.inj H
          have p15 : 0 ≤ (x3_2 : Int) := of_decide_eq_true sA
          have q15 : x3_2 < (a0.size : Int) := of_decide_eq_true sA
          have hx15 := bt_at a0 x3_2
          replace p15 := eq_true p15
          replace q15 := eq_true q15
          have p23 : 0 ≤ (x3_2 : Int) := of_decide_eq_true sA
          have q23 : x3_2 < (a0.size : Int) := of_decide_eq_true sA
          have hx23 := bt_at a0 x3_2
          replace p23 := eq_true p23
          replace q23 := eq_true q23
          have p24 : 0 ≤ (x3_2 : Int) := of_decide_eq_true sA
          have q24 : x3_2 < (a0.size : Int) := of_decide_eq_true sA
          have hx24 := bt_at a0 x3_2
          replace p24 := eq_true p24
          replace q24 := eq_true q24
          go_wp2_with (first | (go_at_call 51; (with_reducible refine (wherryref11_sign.calls k2 (bt a0 x3_2) false _ A25.out).mono ?_); rintro e w' ⟨rfl, ⟨nd, rfl⟩⟩))
          go_ret
          exact ⟨by first | rfl | (simp; done) | (simp [*]; done), by repeat (first | exact Drawn0.refl _ | apply Drawn0.step)⟩
       ·
        rw [if_neg c14] at H
        exact absurd H (by simp)
      ·
       rw [if_neg c13] at H
       have c13b0 : decide (x3_2 < (a0.size : Int)) = false := decide_eq_false c13
       clear c13
       obtain rfl := Option.some.inj H
       go_wp2
       go_ret
       exact ⟨by first | rfl | (simp; done) | (simp [*]; done), by repeat (first | exact Drawn0.refl _ | apply Drawn0.step)⟩
def wherryref11_Path.f (k : Nat) (a0_0 : Bool) (a0_1 : ByteArray) (a0_2 : ByteArray) : Option (Bool) := if a0_0 = true then (if a0_1.toList = ([] : List UInt8) then (some (a0_2.toList.isEmpty)) else (some false)) else ((wherryref11_Local.f k a0_1).bind fun t200 => (if t200 = true then ((wherryref11_Domain.f k a0_2).bind fun t201 => (some t201)) else (some false)))
set_option maxHeartbeats 8000000 in
set_option maxRecDepth 100000 in
theorem wherryref11_Path.calls (k : Nat) (a0_0 : Bool) (a0_1 : ByteArray) (a0_2 : ByteArray) (r : Bool) (w : World) (h : wherryref11_Path.f k a0_0 a0_1 a0_2 = some r) :
  Calls Tryz.prog 14 #[.agg #[.bool a0_0, .string a0_1, .string a0_2]] w fun e w' => e = .returned (.bool r) ∧ Below w.heap.size w w' := by
 have hu23 := Tryz.underlying23
 have HB := Aside0.mk (Below.refl w.heap.size w)
 have H : (if a0_0 = true then (if a0_1.toList = ([] : List UInt8) then (some (a0_2.toList.isEmpty)) else (some false)) else ((wherryref11_Local.f k a0_1).bind fun t200 => (if t200 = true then ((wherryref11_Domain.f k a0_2).bind fun t201 => (some t201)) else (some false)))) = some r := h
 clear h
 by_cases c2 : a0_0 = true
 ·
  subst c2
  rw [if_pos rfl] at H
  try dsimp -simprocs only at H
  by_cases c3 : a0_1.toList = ([] : List UInt8)
  ·
   rw [if_pos c3] at H
   have c3b0 : (a0_1.toList == ([] : List UInt8)) = true := beq_iff_eq.mpr c3
   have c3b1 : (a0_1.toList != ([] : List UInt8)) = false := bne_eq_false_iff_eq.mpr c3
   clear c3
   obtain rfl := Option.some.inj H
   go_enter Tryz.func14, Tryz.ntmps14
   go_wp2_with (first | ((with_reducible refine gate_dst (N := 1) rfl ?_); refine box_event ?hg (N := 1) ?hd (cs := #[.bool true, .string a0_1, .string a0_2]) (t := 23) ?hr ?_; (case hd => rfl); (case hg => rfl); (case hr => first | (go_simp; done) | (go_simp; rfl)); intro gb199 hg w4 hbox hb; have BK199 := Aside0.mk (hbox); have GW199 := Aside0.mk ((by rw [hg]; exact (below_size (sB HB.out)) : w.heap.size ≤ gb199)); have GE199 := Aside0.mk ((by rw [hg]; exact (below_size (sB HB.out)) : w.heap.size ≤ gb199)); replace HB := Aside0.mk (below_step (sB HB.out) hb); clear hb hbox hg; have hcz5_0 := sC BK199.out 0; have hcz5_1 := sC BK199.out 1; have hcz5_2 := sC BK199.out 2; have hfz5_0 := blk_frozen BK199.out 0; have hfz5_1 := blk_frozen BK199.out 1; have hfz5_2 := blk_frozen BK199.out 2))
   go_ret
   exact ⟨by first | rfl | (simp [errW_none, errW_some] <;> rfl) | (simp [*, errW_none, errW_some] <;> rfl), sB HB.out⟩
  ·
   rw [if_neg c3] at H
   have c3b0 : (a0_1.toList == ([] : List UInt8)) = false := beq_eq_false_iff_ne.mpr c3
   have c3b1 : (a0_1.toList != ([] : List UInt8)) = true := bne_iff_ne.mpr c3
   obtain rfl := Option.some.inj H
   go_enter Tryz.func14, Tryz.ntmps14
   go_wp2_with (first | ((with_reducible refine gate_dst (N := 1) rfl ?_); refine box_event ?hg (N := 1) ?hd (cs := #[.bool true, .string a0_1, .string a0_2]) (t := 23) ?hr ?_; (case hd => rfl); (case hg => rfl); (case hr => first | (go_simp; done) | (go_simp; rfl)); intro gb199 hg w6 hbox hb; have BK199 := Aside0.mk (hbox); have GW199 := Aside0.mk ((by rw [hg]; exact (below_size (sB HB.out)) : w.heap.size ≤ gb199)); have GE199 := Aside0.mk ((by rw [hg]; exact (below_size (sB HB.out)) : w.heap.size ≤ gb199)); replace HB := Aside0.mk (below_step (sB HB.out) hb); clear hb hbox hg; have hcz7_0 := sC BK199.out 0; have hcz7_1 := sC BK199.out 1; have hcz7_2 := sC BK199.out 2; have hfz7_0 := blk_frozen BK199.out 0; have hfz7_1 := blk_frozen BK199.out 1; have hfz7_2 := blk_frozen BK199.out 2))
   go_ret
   exact ⟨by first | rfl | (simp [errW_none, errW_some] <;> rfl) | (simp [*, errW_none, errW_some] <;> rfl), sB HB.out⟩
 ·
  replace c2 := Bool.eq_false_iff.mpr c2
  subst c2
  rw [if_neg (show ¬ (false = true) by decide)] at H
  try dsimp -simprocs only at H
  replace H := Option.bind_eq_some_iff.mp H
  obtain ⟨t200, A80, H⟩ := H
  try dsimp -simprocs only at H
  have A8 := Aside0.mk A80
  clear A80
  by_cases c9 : t200 = true
  ·
   subst c9
   rw [if_pos rfl] at H
   try dsimp -simprocs only at H
   replace H := Option.bind_eq_some_iff.mp H
   obtain ⟨t201, A100, H⟩ := H
   try dsimp -simprocs only at H
   have A10 := Aside0.mk A100
   clear A100
   obtain rfl := Option.some.inj H
   go_enter Tryz.func14, Tryz.ntmps14
   go_wp2_with (first | ((with_reducible refine gate_dst (N := 1) rfl ?_); refine box_event ?hg (N := 1) ?hd (cs := #[.bool false, .string a0_1, .string a0_2]) (t := 23) ?hr ?_; (case hd => rfl); (case hg => rfl); (case hr => first | (go_simp; done) | (go_simp; rfl)); intro gb199 hg w11 hbox hb; have BK199 := Aside0.mk (hbox); have GW199 := Aside0.mk ((by rw [hg]; exact (below_size (sB HB.out)) : w.heap.size ≤ gb199)); have GE199 := Aside0.mk ((by rw [hg]; exact (below_size (sB HB.out)) : w.heap.size ≤ gb199)); replace HB := Aside0.mk (below_step (sB HB.out) hb); clear hb hbox hg; have hcz12_0 := sC BK199.out 0; have hcz12_1 := sC BK199.out 1; have hcz12_2 := sC BK199.out 2; have hfz12_0 := blk_frozen BK199.out 0; have hfz12_1 := blk_frozen BK199.out 1; have hfz12_2 := blk_frozen BK199.out 2) | ((with_reducible refine gate_callee (f := 36) rfl ?_); refine goesL_ (some 15) rfl rfl Tryz.func36 (by kernel_rfl) rfl #[.string a0_1] rfl sM ?_; (with_reducible refine (wherryref11_Local.calls k a0_1 true _ A8.out).mono ?_); rintro e w' ⟨rfl, ⟨nd, rfl⟩⟩; refine ⟨_, rfl, ?_⟩) | (go_at_call 26; (with_reducible refine (wherryref11_Domain.calls k a0_2 t201 _ A10.out).mono ?_); rintro e w' ⟨rfl, ⟨nd, rfl⟩⟩))
   go_ret
   exact ⟨by first | rfl | (simp [errW_none, errW_some] <;> rfl) | (simp [*, errW_none, errW_some] <;> rfl), sB HB.out⟩
  ·
   replace c9 := Bool.eq_false_iff.mpr c9
   subst c9
   rw [if_neg (show ¬ (false = true) by decide)] at H
   try dsimp -simprocs only at H
   obtain rfl := Option.some.inj H
   go_enter Tryz.func14, Tryz.ntmps14
   go_wp2_with (first | ((with_reducible refine gate_dst (N := 1) rfl ?_); refine box_event ?hg (N := 1) ?hd (cs := #[.bool false, .string a0_1, .string a0_2]) (t := 23) ?hr ?_; (case hd => rfl); (case hg => rfl); (case hr => first | (go_simp; done) | (go_simp; rfl)); intro gb199 hg w13 hbox hb; have BK199 := Aside0.mk (hbox); have GW199 := Aside0.mk ((by rw [hg]; exact (below_size (sB HB.out)) : w.heap.size ≤ gb199)); have GE199 := Aside0.mk ((by rw [hg]; exact (below_size (sB HB.out)) : w.heap.size ≤ gb199)); replace HB := Aside0.mk (below_step (sB HB.out) hb); clear hb hbox hg; have hcz14_0 := sC BK199.out 0; have hcz14_1 := sC BK199.out 1; have hcz14_2 := sC BK199.out 2; have hfz14_0 := blk_frozen BK199.out 0; have hfz14_1 := blk_frozen BK199.out 1; have hfz14_2 := blk_frozen BK199.out 2) | ((with_reducible refine gate_callee (f := 36) rfl ?_); refine goesL_ (some 15) rfl rfl Tryz.func36 (by kernel_rfl) rfl #[.string a0_1] rfl sM ?_; (with_reducible refine (wherryref11_Local.calls k a0_1 false _ A8.out).mono ?_); rintro e w' ⟨rfl, ⟨nd, rfl⟩⟩; refine ⟨_, rfl, ?_⟩))
   go_ret
   exact ⟨by first | rfl | (simp [errW_none, errW_some] <;> rfl) | (simp [*, errW_none, errW_some] <;> rfl), sB HB.out⟩
def wherryref11_keep.f (a0_0 : Bool) (a0_1 : ByteArray) (a0_2 : ByteArray) (a1 : Bool) : Option (Bool × ByteArray × ByteArray × Bool) := if a1 = true then (some (a0_0, a0_1, a0_2, true)) else (some (false, (⟨#[]⟩ : ByteArray), (⟨#[]⟩ : ByteArray), false))
end Go.Proofs.YthcdjgekmfnmnaaGreatDoor.PVerb
end
section
namespace Go.Proofs.YthcdjgekmfnmnaaGreatDoor.PVerb
open Go.RowKit Go.Proofs.YthcdjgekmfnmnaaGreatDoorW.PrintWords Go.Proofs.YthcdjgekmfnmnaaGreatDoorW.PrintLast Go.Proofs.YthcdjgekmfnmnaaGreatDoorW.PrintMore
attribute [local go_sem] max2_int min2_int max_two min_two max_three min_three max_four min_four
set_option linter.unusedVariables false
set_option linter.unusedSimpArgs false
mutual
def wherryref11_Parse.j0 : Nat → ByteArray → Bool → Option (Bool × ByteArray × ByteArray × Bool)
 | 0, _, _ => none
 | k + 1, x0, x24 => if x24 = true then (some (false, (⟨#[]⟩ : ByteArray), (⟨#[]⟩ : ByteArray), false)) else (if 1 ≤ (wrap64 ((x0.size : Int) - 1)) then (if (wrap64 ((x0.size : Int) - 1)) ≤ (x0.size : Int) then (wherryref11_Parse.l0 k (x0.extract 1 ((wrap64 ((x0.size : Int) - 1)) : Int).toNat) 0) else (none)) else (none))
def wherryref11_Parse.l0 : Nat → ByteArray → Int → Option (Bool × ByteArray × ByteArray × Bool)
 | 0, _, _ => none
 | k + 1, x0, x4 => if x4 < (x0.size : Int) then (if 0 ≤ x4 then (if (bt x0 x4) = 64 then (if x4 ≤ (x0.size : Int) then (if 0 ≤ (wrap64 (x4 + 1)) then (if (wrap64 (x4 + 1)) ≤ (x0.size : Int) then ((wherryref11_Path.f k false (x0.extract 0 (x4 : Int).toNat) (x0.extract ((wrap64 (x4 + 1)) : Int).toNat x0.size)).bind fun t206 => ((wherryref11_keep.f false (x0.extract 0 (x4 : Int).toNat) (x0.extract ((wrap64 (x4 + 1)) : Int).toNat x0.size) t206).bind fun bt207 => (some (bt207.1, bt207.2.1, bt207.2.2.1, bt207.2.2.2)))) else (none)) else (none)) else (none)) else (wherryref11_Parse.l0 k x0 (wrap64 (x4 + 1)))) else (none)) else (some (false, (⟨#[]⟩ : ByteArray), (⟨#[]⟩ : ByteArray), false))
end
def wherryref11_Parse.f (k : Nat) (a0 : ByteArray) : Option (Bool × ByteArray × ByteArray × Bool) := if a0.toList = ([60, 62] : List UInt8) then (some (true, (⟨#[]⟩ : ByteArray), (⟨#[]⟩ : ByteArray), true)) else (if (a0.size : Int) < 2 then (wherryref11_Parse.j0 k a0 true) else (if 0 < (a0.size : Int) then (if (bt a0 0) = 60 then (if 0 ≤ (wrap64 ((a0.size : Int) - 1)) then (if (wrap64 ((a0.size : Int) - 1)) < (a0.size : Int) then (wherryref11_Parse.j0 k a0 ((bt a0 (wrap64 ((a0.size : Int) - 1))) != 62)) else (none)) else (none)) else (wherryref11_Parse.j0 k a0 true)) else (none)))
end Go.Proofs.YthcdjgekmfnmnaaGreatDoor.PVerb
end
section
namespace Go.Proofs.YthcdjgekmfnmnaaGreatDoor.PVerb
open Go.RowKit Go.Proofs.YthcdjgekmfnmnaaGreatDoorW.PrintWords Go.Proofs.YthcdjgekmfnmnaaGreatDoorW.PrintLast Go.Proofs.YthcdjgekmfnmnaaGreatDoorW.PrintMore
attribute [local go_sem] max2_int min2_int max_two min_two max_three min_three max_four min_four
set_option linter.unusedVariables false
set_option linter.unusedSimpArgs false
mutual
def wherryref11_number.j0 : Nat → ByteArray → Bool → Option (Int)
 | 0, _, _ => none
 | k + 1, x0, x21 => if x21 = true then (some (-1)) else (wherryref11_number.l0 k x0 0 0)
def wherryref11_number.l0 : Nat → ByteArray → Int → Int → Option (Int)
 | 0, _, _, _ => none
 | k + 1, x0, x5, x6 => if x6 < (x0.size : Int) then (if 0 ≤ x6 then ((wherryref11_digit.f (bt x0 x6)).bind fun t212 => (if t212 = true then (wherryref11_number.l0 k x0 (wrap64 ((wrap64 (10 * x5)) + (((bt x0 x6) - 48) % 256))) (wrap64 (x6 + 1))) else (some (-1)))) else (none)) else (some x5)
end
def wherryref11_number.f (k : Nat) (a0 : ByteArray) (a1 : Int) : Option (Int) := (wherryref11_in.f (a0.size : Int) 1 a1).bind fun t211 => (if t211 = true then (if (a0.size : Int) > 1 then (if 0 < (a0.size : Int) then (wherryref11_number.j0 k a0 ((bt a0 0) == 48)) else (none)) else (wherryref11_number.j0 k a0 false)) else (wherryref11_number.j0 k a0 true))
mutual
def wherryref11_param.j0 : Nat → ByteArray → Int → ByteArray → Bool → Option (ByteArray × ByteArray × Bool)
 | 0, _, _, _, _ => none
 | k + 1, x0, x1, x6, x30 => if x30 = true then (some ((⟨#[83, 73, 90, 69]⟩ : ByteArray), x6, true)) else ((wherryref11_begins.f k x0 (⟨#[114, 101, 116, 61]⟩ : ByteArray)).bind fun bt217 => (if bt217.2 = true then (if x1 = 2 then ((wherryref11_Fold.f k bt217.1).bind fun t219 => (wherryref11_param.j1 k x0 x1 (t219.toList == ([102, 117, 108, 108] : List UInt8)))) else (wherryref11_param.j1 k x0 x1 false)) else (wherryref11_param.j1 k x0 x1 false)))
def wherryref11_param.j1 : Nat → ByteArray → Int → Bool → Option (ByteArray × ByteArray × Bool)
 | 0, _, _, _ => none
 | k + 1, x0, x1, x47 => if x47 = true then (some ((⟨#[82, 69, 84]⟩ : ByteArray), (⟨#[70, 85, 76, 76]⟩ : ByteArray), true)) else ((wherryref11_begins.f k x0 (⟨#[114, 101, 116, 61]⟩ : ByteArray)).bind fun bt220 => (if bt220.2 = true then (if x1 = 2 then ((wherryref11_Fold.f k bt220.1).bind fun t222 => (wherryref11_param.j2 k x0 x1 (t222.toList == ([104, 100, 114, 115] : List UInt8)))) else (wherryref11_param.j2 k x0 x1 false)) else (wherryref11_param.j2 k x0 x1 false)))
def wherryref11_param.j2 : Nat → ByteArray → Int → Bool → Option (ByteArray × ByteArray × Bool)
 | 0, _, _, _ => none
 | k + 1, x0, x1, x63 => if x63 = true then (some ((⟨#[82, 69, 84]⟩ : ByteArray), (⟨#[72, 68, 82, 83]⟩ : ByteArray), true)) else ((wherryref11_begins.f k x0 (⟨#[110, 111, 116, 105, 102, 121, 61]⟩ : ByteArray)).bind fun bt223 => (if bt223.2 = true then (if x1 = 3 then ((wherryref11_Fold.f k bt223.1).bind fun t225 => (wherryref11_param.j3 k x0 x1 (t225.toList == ([110, 101, 118, 101, 114] : List UInt8)))) else (wherryref11_param.j3 k x0 x1 false)) else (wherryref11_param.j3 k x0 x1 false)))
def wherryref11_param.j3 : Nat → ByteArray → Int → Bool → Option (ByteArray × ByteArray × Bool)
 | 0, _, _, _ => none
 | k + 1, x0, x1, x79 => if x79 = true then (some ((⟨#[78, 79, 84, 73, 70, 89]⟩ : ByteArray), (⟨#[78, 69, 86, 69, 82]⟩ : ByteArray), true)) else ((wherryref11_begins.f k x0 (⟨#[110, 111, 116, 105, 102, 121, 61]⟩ : ByteArray)).bind fun bt226 => (if bt226.2 = true then (if x1 = 3 then ((wherryref11_Fold.f k bt226.1).bind fun t228 => (if t228.toList = ([102, 97, 105, 108, 117, 114, 101] : List UInt8) then (some ((⟨#[78, 79, 84, 73, 70, 89]⟩ : ByteArray), (⟨#[70, 65, 73, 76, 85, 82, 69]⟩ : ByteArray), true)) else (some ((⟨#[]⟩ : ByteArray), (⟨#[]⟩ : ByteArray), false)))) else (some ((⟨#[]⟩ : ByteArray), (⟨#[]⟩ : ByteArray), false))) else (some ((⟨#[]⟩ : ByteArray), (⟨#[]⟩ : ByteArray), false))))
end
def wherryref11_param.f (k : Nat) (a0 : ByteArray) (a1 : Int) : Option (ByteArray × ByteArray × Bool) := (wherryref11_begins.f k a0 (⟨#[115, 105, 122, 101, 61]⟩ : ByteArray)).bind fun bt214 => (if bt214.2 = true then (if a1 = 2 then ((wherryref11_number.f k bt214.1 9).bind fun t216 => (wherryref11_param.j0 k a0 a1 bt214.1 (decide (t216 ≥ 0)))) else (wherryref11_param.j0 k a0 a1 bt214.1 false)) else (wherryref11_param.j0 k a0 a1 bt214.1 false))
end Go.Proofs.YthcdjgekmfnmnaaGreatDoor.PVerb
end
section
namespace Go.Proofs.YthcdjgekmfnmnaaGreatDoor.PVerb
open Go.RowKit Go.Proofs.YthcdjgekmfnmnaaGreatDoorW.PrintWords Go.Proofs.YthcdjgekmfnmnaaGreatDoorW.PrintLast Go.Proofs.YthcdjgekmfnmnaaGreatDoorW.PrintMore
attribute [local go_sem] max2_int min2_int max_two min_two max_three min_three max_four min_four
set_option linter.unusedVariables false
set_option linter.unusedSimpArgs false
mutual
def wherryref11_params.l0 : Nat → ByteArray → Int → List (S47) → Option ((List (S47)) × Bool)
 | 0, _, _, _ => none
 | k + 1, x0, x1, x6 => if (x0.size : Int) > 0 then (if 0 < (x0.size : Int) then (if (bt x0 0) = 32 then (if 1 ≤ (x0.size : Int) then (wherryref11_params.l1 k (x0.extract 1 x0.size) x1 x6 0) else (none)) else (some (([] : List (S47)), false))) else (none)) else (some (x6, true))
def wherryref11_params.j2 : Nat → ByteArray → Int → List (S47) → Int → Option ((List (S47)) × Bool)
 | 0, _, _, _, _ => none
 | k + 1, x0, x1, x6, x7 => if 0 ≤ x7 then (if x7 ≤ (x0.size : Int) then ((wherryref11_param.f k (x0.extract 0 (x7 : Int).toNat) x1).bind fun bt229 => (if bt229.2.2 = true then (wherryref11_params.l2 k x0 x1 x6 x7 0 bt229.1 bt229.2.1) else (some (([] : List (S47)), false)))) else (none)) else (none)
def wherryref11_params.l2 : Nat → ByteArray → Int → List (S47) → Int → Int → ByteArray → ByteArray → Option ((List (S47)) × Bool)
 | 0, _, _, _, _, _, _, _ => none
 | k + 1, x0, x1, x6, x7, x10, x233000, x233001 => if x10 < (x6.length : Int) then (if 0 ≤ x10 then (if ((rd_T47 x6 x10).f0).toList = x233000.toList then (some (([] : List (S47)), false)) else (wherryref11_params.l2 k x0 x1 x6 x7 (wrap64 (x10 + 1)) x233000 x233001)) else (none)) else (if x6.length < 4398046511104 then (if 0 ≤ x7 then (if x7 ≤ (x0.size : Int) then (wherryref11_params.l0 k (x0.extract (x7 : Int).toNat x0.size) x1 (x6 ++ [(⟨x233000, x233001⟩ : S47)])) else (none)) else (none)) else (none))
def wherryref11_params.l1 : Nat → ByteArray → Int → List (S47) → Int → Option ((List (S47)) × Bool)
 | 0, _, _, _, _ => none
 | k + 1, x0, x1, x6, x7 => if x7 < (x0.size : Int) then (if 0 ≤ x7 then (if (bt x0 x7) = 32 then (wherryref11_params.j2 k x0 x1 x6 x7) else (wherryref11_params.l1 k x0 x1 x6 (wrap64 (x7 + 1)))) else (none)) else (wherryref11_params.j2 k x0 x1 x6 x7)
end
def wherryref11_params.f (k : Nat) (a0 : ByteArray) (a1 : Int) : Option ((List (S47)) × Bool) := wherryref11_params.l0 k a0 a1 ([] : List (S47))
mutual
def wherryref11_pathed.j1 : Nat → ByteArray → Int → Int → Option (Int × ByteArray × Bool × ByteArray × ByteArray × (List (S47)) × Int)
 | 0, _, _, _ => none
 | k + 1, x0, x1, x6 => if x6 = (x0.size : Int) then (some (0, (⟨#[]⟩ : ByteArray), false, (⟨#[]⟩ : ByteArray), (⟨#[]⟩ : ByteArray), ([] : List (S47)), 501)) else (if 0 ≤ (wrap64 (x6 + 1)) then (if (wrap64 (x6 + 1)) ≤ (x0.size : Int) then ((wherryref11_Parse.f k (x0.extract 0 ((wrap64 (x6 + 1)) : Int).toNat)).bind fun bt238 => ((wherryref11_params.f k (x0.extract ((wrap64 (x6 + 1)) : Int).toNat x0.size) x1).bind fun bt243 => (if bt238.2.2.2 = true then (if bt243.2 = true then (if x1 = 3 then (if bt238.1 = true then (some (0, (⟨#[]⟩ : ByteArray), false, (⟨#[]⟩ : ByteArray), (⟨#[]⟩ : ByteArray), ([] : List (S47)), 501)) else (some (x1, (⟨#[]⟩ : ByteArray), bt238.1, bt238.2.1, bt238.2.2.1, bt243.1, 0))) else (some (x1, (⟨#[]⟩ : ByteArray), bt238.1, bt238.2.1, bt238.2.2.1, bt243.1, 0))) else (some (0, (⟨#[]⟩ : ByteArray), false, (⟨#[]⟩ : ByteArray), (⟨#[]⟩ : ByteArray), ([] : List (S47)), 501))) else (some (0, (⟨#[]⟩ : ByteArray), false, (⟨#[]⟩ : ByteArray), (⟨#[]⟩ : ByteArray), ([] : List (S47)), 501))))) else (none)) else (none))
def wherryref11_pathed.l0 : Nat → ByteArray → Int → Int → Option (Int × ByteArray × Bool × ByteArray × ByteArray × (List (S47)) × Int)
 | 0, _, _, _ => none
 | k + 1, x0, x1, x6 => if x6 < (x0.size : Int) then (if 0 ≤ x6 then (if (bt x0 x6) = 62 then (wherryref11_pathed.j1 k x0 x1 x6) else (wherryref11_pathed.l0 k x0 x1 (wrap64 (x6 + 1)))) else (none)) else (wherryref11_pathed.j1 k x0 x1 x6)
end
def wherryref11_pathed.f (k : Nat) (a0 : ByteArray) (a1 : Int) : Option (Int × ByteArray × Bool × ByteArray × ByteArray × (List (S47)) × Int) := wherryref11_pathed.l0 k a0 a1 0
end Go.Proofs.YthcdjgekmfnmnaaGreatDoor.PVerb
end
section
namespace Go.Proofs.YthcdjgekmfnmnaaGreatDoor.PVerb
open Go.RowKit Go.Proofs.YthcdjgekmfnmnaaGreatDoorW.PrintWords Go.Proofs.YthcdjgekmfnmnaaGreatDoorW.PrintLast Go.Proofs.YthcdjgekmfnmnaaGreatDoorW.PrintMore
attribute [local go_sem] max2_int min2_int max_two min_two max_three min_three max_four min_four
set_option linter.unusedVariables false
set_option linter.unusedSimpArgs false
def wherryref11_mechanism.l0 : Nat → ByteArray → Int → Option (Bool)
 | 0, _, _ => none
 | k + 1, x0, x3 => if x3 < (x0.size : Int) then (if 0 ≤ x3 then ((wherryref11_letter.f (bt x0 x3)).bind fun t247 => (if t247 = true then (wherryref11_mechanism.l0 k x0 (wrap64 (x3 + 1))) else ((wherryref11_digit.f (bt x0 x3)).bind fun t248 => (if t248 = true then (wherryref11_mechanism.l0 k x0 (wrap64 (x3 + 1))) else (if (bt x0 x3) = 45 then (wherryref11_mechanism.l0 k x0 (wrap64 (x3 + 1))) else (some false)))))) else (none)) else (some (decide ((x0.size : Int) > 0)))
def wherryref11_mechanism.f (k : Nat) (a0 : ByteArray) : Option (Bool) := wherryref11_mechanism.l0 k a0 0
end Go.Proofs.YthcdjgekmfnmnaaGreatDoor.PVerb
end
section
namespace Go.Proofs.YthcdjgekmfnmnaaGreatDoor.PVerb
open Go.RowKit Go.Proofs.YthcdjgekmfnmnaaGreatDoorW.PrintWords Go.Proofs.YthcdjgekmfnmnaaGreatDoorW.PrintLast Go.Proofs.YthcdjgekmfnmnaaGreatDoorW.PrintMore
attribute [local go_sem] max2_int min2_int max_two min_two max_three min_three max_four min_four
set_option linter.unusedVariables false
set_option linter.unusedSimpArgs false
mutual
def wherryref11_Verb.l0 : Nat → ByteArray → Int → Option (Int × ByteArray × Bool × ByteArray × ByteArray × (List (S47)) × Int)
 | 0, _, _ => none
 | k + 1, x0, x4 => if x4 < (x0.size : Int) then (if 0 ≤ x4 then (if (bt x0 x4) < 32 then (some (0, (⟨#[]⟩ : ByteArray), false, (⟨#[]⟩ : ByteArray), (⟨#[]⟩ : ByteArray), ([] : List (S47)), 500)) else (if (bt x0 x4) > 126 then (some (0, (⟨#[]⟩ : ByteArray), false, (⟨#[]⟩ : ByteArray), (⟨#[]⟩ : ByteArray), ([] : List (S47)), 500)) else (wherryref11_Verb.l0 k x0 (wrap64 (x4 + 1))))) else (none)) else ((wherryref11_first.f k x0).bind fun t250 => ((wherryref11_among.f k t250 (([(⟨#[101, 104, 108, 111]⟩ : ByteArray), (⟨#[104, 101, 108, 111]⟩ : ByteArray), (⟨#[109, 97, 105, 108]⟩ : ByteArray), (⟨#[114, 99, 112, 116]⟩ : ByteArray), (⟨#[100, 97, 116, 97]⟩ : ByteArray), (⟨#[114, 115, 101, 116]⟩ : ByteArray), (⟨#[113, 117, 105, 116]⟩ : ByteArray), (⟨#[110, 111, 111, 112]⟩ : ByteArray), (⟨#[118, 114, 102, 121]⟩ : ByteArray), (⟨#[101, 116, 114, 110]⟩ : ByteArray), (⟨#[97, 117, 116, 104]⟩ : ByteArray), (⟨#[97, 116, 114, 110]⟩ : ByteArray)] : List ByteArray))).bind fun t254 => (if t254 = true then (if ((t250.size : Int) = (x0.size : Int)) then (wherryref11_Verb.j1 k t250 ((t250.size : Int) == (x0.size : Int)) (⟨#[]⟩ : ByteArray)) else (if 0 ≤ (wrap64 ((t250.size : Int) + 1)) then (if (wrap64 ((t250.size : Int) + 1)) ≤ (x0.size : Int) then (wherryref11_Verb.j1 k t250 ((t250.size : Int) == (x0.size : Int)) (x0.extract ((wrap64 ((t250.size : Int) + 1)) : Int).toNat x0.size)) else (none)) else (none))) else (some (0, (⟨#[]⟩ : ByteArray), false, (⟨#[]⟩ : ByteArray), (⟨#[]⟩ : ByteArray), ([] : List (S47)), 500)))))
def wherryref11_Verb.j1 : Nat → ByteArray → Bool → ByteArray → Option (Int × ByteArray × Bool × ByteArray × ByteArray × (List (S47)) × Int)
 | 0, _, _, _ => none
 | k + 1, x5, x6, x7 => if x5.toList = ([101, 104, 108, 111] : List UInt8) then (wherryref11_Verb.j2 k x5 x6 x7 x5 (x5.toList == ([101, 104, 108, 111] : List UInt8))) else (wherryref11_Verb.j2 k x5 x6 x7 x5 (x5.toList == ([104, 101, 108, 111] : List UInt8)))
def wherryref11_Verb.j2 : Nat → ByteArray → Bool → ByteArray → ByteArray → Bool → Option (Int × ByteArray × Bool × ByteArray × ByteArray × (List (S47)) × Int)
 | 0, _, _, _, _, _ => none
 | k + 1, x5, x6, x7, x53, x54 => if x54 = true then (if x6 = true then (some (0, (⟨#[]⟩ : ByteArray), false, (⟨#[]⟩ : ByteArray), (⟨#[]⟩ : ByteArray), ([] : List (S47)), 501)) else ((wherryref11_Domain.f k x7).bind fun t255 => (if t255 = true then (some (1, x7, false, (⟨#[]⟩ : ByteArray), (⟨#[]⟩ : ByteArray), ([] : List (S47)), 0)) else (some (0, (⟨#[]⟩ : ByteArray), false, (⟨#[]⟩ : ByteArray), (⟨#[]⟩ : ByteArray), ([] : List (S47)), 501))))) else (if x53.toList = ([109, 97, 105, 108] : List UInt8) then ((wherryref11_begins.f k x7 (⟨#[102, 114, 111, 109, 58]⟩ : ByteArray)).bind fun bt256 => (if x6 = true then (some (0, (⟨#[]⟩ : ByteArray), false, (⟨#[]⟩ : ByteArray), (⟨#[]⟩ : ByteArray), ([] : List (S47)), 501)) else (if bt256.2 = true then ((wherryref11_pathed.f k bt256.1 2).bind fun bt258 => (some (bt258.1, bt258.2.1, bt258.2.2.1, bt258.2.2.2.1, bt258.2.2.2.2.1, bt258.2.2.2.2.2.1, bt258.2.2.2.2.2.2))) else (some (0, (⟨#[]⟩ : ByteArray), false, (⟨#[]⟩ : ByteArray), (⟨#[]⟩ : ByteArray), ([] : List (S47)), 501))))) else (if x53.toList = ([114, 99, 112, 116] : List UInt8) then ((wherryref11_begins.f k x7 (⟨#[116, 111, 58]⟩ : ByteArray)).bind fun bt267 => (if x6 = true then (some (0, (⟨#[]⟩ : ByteArray), false, (⟨#[]⟩ : ByteArray), (⟨#[]⟩ : ByteArray), ([] : List (S47)), 501)) else (if bt267.2 = true then ((wherryref11_pathed.f k bt267.1 3).bind fun bt269 => (some (bt269.1, bt269.2.1, bt269.2.2.1, bt269.2.2.2.1, bt269.2.2.2.2.1, bt269.2.2.2.2.2.1, bt269.2.2.2.2.2.2))) else (some (0, (⟨#[]⟩ : ByteArray), false, (⟨#[]⟩ : ByteArray), (⟨#[]⟩ : ByteArray), ([] : List (S47)), 501))))) else (if x53.toList = ([100, 97, 116, 97] : List UInt8) then (wherryref11_Verb.j3 k x5 x6 x7 x53 (x53.toList == ([100, 97, 116, 97] : List UInt8))) else (if x53.toList = ([114, 115, 101, 116] : List UInt8) then (wherryref11_Verb.j3 k x5 x6 x7 x53 (x53.toList == ([114, 115, 101, 116] : List UInt8))) else (wherryref11_Verb.j3 k x5 x6 x7 x53 (x53.toList == ([113, 117, 105, 116] : List UInt8)))))))
def wherryref11_Verb.j3 : Nat → ByteArray → Bool → ByteArray → ByteArray → Bool → Option (Int × ByteArray × Bool × ByteArray × ByteArray × (List (S47)) × Int)
 | 0, _, _, _, _, _ => none
 | k + 1, x5, x6, x7, x53, x97 => if x97 = true then (if x6 = true then (if x5.toList = ([114, 115, 101, 116] : List UInt8) then (some (5, (⟨#[]⟩ : ByteArray), false, (⟨#[]⟩ : ByteArray), (⟨#[]⟩ : ByteArray), ([] : List (S47)), 0)) else (if x5.toList = ([113, 117, 105, 116] : List UInt8) then (some (8, (⟨#[]⟩ : ByteArray), false, (⟨#[]⟩ : ByteArray), (⟨#[]⟩ : ByteArray), ([] : List (S47)), 0)) else (some (4, (⟨#[]⟩ : ByteArray), false, (⟨#[]⟩ : ByteArray), (⟨#[]⟩ : ByteArray), ([] : List (S47)), 0)))) else (some (0, (⟨#[]⟩ : ByteArray), false, (⟨#[]⟩ : ByteArray), (⟨#[]⟩ : ByteArray), ([] : List (S47)), 501))) else (if x53.toList = ([110, 111, 111, 112] : List UInt8) then (some (7, (⟨#[]⟩ : ByteArray), false, (⟨#[]⟩ : ByteArray), (⟨#[]⟩ : ByteArray), ([] : List (S47)), 0)) else (if x53.toList = ([118, 114, 102, 121] : List UInt8) then (if x6 = true then (some (0, (⟨#[]⟩ : ByteArray), false, (⟨#[]⟩ : ByteArray), (⟨#[]⟩ : ByteArray), ([] : List (S47)), 501)) else (if x7.toList = ([] : List UInt8) then (some (0, (⟨#[]⟩ : ByteArray), false, (⟨#[]⟩ : ByteArray), (⟨#[]⟩ : ByteArray), ([] : List (S47)), 501)) else (some (6, x7, false, (⟨#[]⟩ : ByteArray), (⟨#[]⟩ : ByteArray), ([] : List (S47)), 0)))) else (if x53.toList = ([101, 116, 114, 110] : List UInt8) then (if x6 = true then (some (0, (⟨#[]⟩ : ByteArray), false, (⟨#[]⟩ : ByteArray), (⟨#[]⟩ : ByteArray), ([] : List (S47)), 501)) else ((wherryref11_Domain.f k x7).bind fun t278 => (if t278 = true then (some (9, x7, false, (⟨#[]⟩ : ByteArray), (⟨#[]⟩ : ByteArray), ([] : List (S47)), 0)) else (some (0, (⟨#[]⟩ : ByteArray), false, (⟨#[]⟩ : ByteArray), (⟨#[]⟩ : ByteArray), ([] : List (S47)), 501))))) else (if x53.toList = ([97, 117, 116, 104] : List UInt8) then ((wherryref11_Fold.f k x7).bind fun t279 => (if t279.toList = ([99, 114, 97, 109, 45, 109, 100, 53] : List UInt8) then (some (10, (⟨#[]⟩ : ByteArray), false, (⟨#[]⟩ : ByteArray), (⟨#[]⟩ : ByteArray), ([] : List (S47)), 0)) else ((wherryref11_mechanism.f k x7).bind fun t280 => (if t280 = true then (some (0, (⟨#[]⟩ : ByteArray), false, (⟨#[]⟩ : ByteArray), (⟨#[]⟩ : ByteArray), ([] : List (S47)), 504)) else (some (0, (⟨#[]⟩ : ByteArray), false, (⟨#[]⟩ : ByteArray), (⟨#[]⟩ : ByteArray), ([] : List (S47)), 501)))))) else (if x53.toList = ([97, 116, 114, 110] : List UInt8) then (if x6 = true then (some (11, (⟨#[]⟩ : ByteArray), false, (⟨#[]⟩ : ByteArray), (⟨#[]⟩ : ByteArray), ([] : List (S47)), 0)) else ((wherryref11_Domain.f k x7).bind fun t281 => (if t281 = true then (some (11, x7, false, (⟨#[]⟩ : ByteArray), (⟨#[]⟩ : ByteArray), ([] : List (S47)), 0)) else (some (0, (⟨#[]⟩ : ByteArray), false, (⟨#[]⟩ : ByteArray), (⟨#[]⟩ : ByteArray), ([] : List (S47)), 501))))) else (some (0, (⟨#[]⟩ : ByteArray), false, (⟨#[]⟩ : ByteArray), (⟨#[]⟩ : ByteArray), ([] : List (S47)), 501)))))))
end
end Go.Proofs.YthcdjgekmfnmnaaGreatDoor.PVerb
end
section
namespace Go.Proofs.YthcdjgekmfnmnaaGreatDoor.PVerb
open Go.RowKit Go.Proofs.YthcdjgekmfnmnaaGreatDoorW.PrintWords Go.Proofs.YthcdjgekmfnmnaaGreatDoorW.PrintLast Go.Proofs.YthcdjgekmfnmnaaGreatDoorW.PrintMore
attribute [local go_sem] max2_int min2_int max_two min_two max_three min_three max_four min_four
set_option linter.unusedVariables false
set_option linter.unusedSimpArgs false
def wherrylaw12_wakes.f (k : Nat)  : Option (Bool) := (verb_Parse.f k (⟨#[109, 97, 105, 108, 32, 102, 114, 111, 109, 58, 60, 62, 32, 115, 105, 122, 101, 61, 53]⟩ : ByteArray)).bind fun bt330 => ((verb_Text.f k bt330.1 bt330.2.1 bt330.2.2.1 bt330.2.2.2.1 bt330.2.2.2.2.1 bt330.2.2.2.2.2.1).bind fun bt340 => ((verb_Param.f bt330.1 bt330.2.1 bt330.2.2.1 bt330.2.2.2.1 bt330.2.2.2.2.1 bt330.2.2.2.2.2.1 (⟨#[83, 73, 90, 69]⟩ : ByteArray)).bind fun bt342 => ((verb_Parse.f k (⟨#[70, 82, 79, 66]⟩ : ByteArray)).bind fun bt344 => (if bt330.2.2.2.2.2.2 = 0 then (if bt340.2 = 0 then (if bt330.1 = 2 then (if bt330.2.2.1 = true then (if bt340.1.toList = ([77, 65, 73, 76, 32, 70, 82, 79, 77, 58, 60, 62, 32, 83, 73, 90, 69, 61, 53] : List UInt8) then (if bt342.2 = true then (if bt342.1.toList = ([53] : List UInt8) then (some (bt344.2.2.2.2.2.2 == 500)) else (some false)) else (some false)) else (some false)) else (some false)) else (some false)) else (some false)) else (some false)))))
theorem wherrylaw12_wakes.mono : ∀ k, LeO (wherrylaw12_wakes.f k ) (wherrylaw12_wakes.f (k + 1) ) := by
 intro  k
 unfold wherrylaw12_wakes.f
 repeat' first
   | (with_reducible exact verb_Parse.mono _ _)
   | (with_reducible exact verb_Text.mono _ _ _ _ _ _ _)
   | (with_reducible exact LeO.refl _)
   | (with_reducible exact LeO.none _)
   | (with_reducible refine LeO.ite ?_ ?_)
   | (with_reducible refine LeO.bind ?_ (fun _ => ?_))
   | exact verb_Parse.mono _ _
   | exact verb_Text.mono _ _ _ _ _ _ _
   | exact LeO.none _
   | refine LeO.ite ?_ ?_
   | refine LeO.bind ?_ (fun _ => ?_)
set_option maxHeartbeats 8000000 in
set_option maxRecDepth 100000 in
theorem wherrylaw12_wakes.calls (k : Nat)  (r : Bool) (w : World) (hG : Glob w) (hrt : r = true) (h : wherrylaw12_wakes.f k  = some r) :
  Calls Tryz.prog 13 #[] w fun e w' => e = .returned (.bool r) ∧ Below w.heap.size w w' := by
 have hu26 := Tryz.underlying26
 have HB := Aside0.mk (Below.refl w.heap.size w)
 have HG := Aside0.mk hG
 clear hG
 have HRT := Aside0.mk hrt
 clear hrt
 have H : ((verb_Parse.f k (⟨#[109, 97, 105, 108, 32, 102, 114, 111, 109, 58, 60, 62, 32, 115, 105, 122, 101, 61, 53]⟩ : ByteArray)).bind fun bt330 => ((verb_Text.f k bt330.1 bt330.2.1 bt330.2.2.1 bt330.2.2.2.1 bt330.2.2.2.2.1 bt330.2.2.2.2.2.1).bind fun bt340 => ((verb_Param.f bt330.1 bt330.2.1 bt330.2.2.1 bt330.2.2.2.1 bt330.2.2.2.2.1 bt330.2.2.2.2.2.1 (⟨#[83, 73, 90, 69]⟩ : ByteArray)).bind fun bt342 => ((verb_Parse.f k (⟨#[70, 82, 79, 66]⟩ : ByteArray)).bind fun bt344 => (if bt330.2.2.2.2.2.2 = 0 then (if bt340.2 = 0 then (if bt330.1 = 2 then (if bt330.2.2.1 = true then (if bt340.1.toList = ([77, 65, 73, 76, 32, 70, 82, 79, 77, 58, 60, 62, 32, 83, 73, 90, 69, 61, 53] : List UInt8) then (if bt342.2 = true then (if bt342.1.toList = ([53] : List UInt8) then (some (bt344.2.2.2.2.2.2 == 500)) else (some false)) else (some false)) else (some false)) else (some false)) else (some false)) else (some false)) else (some false)))))) = some r := h
 clear h
 replace H := Option.bind_eq_some_iff.mp H
 obtain ⟨⟨t330, t331, t332, t333, t334, t335, t338⟩, A10, H⟩ := H
 try dsimp -simprocs only at H
 have A1 := Aside0.mk A10
 clear A10
 replace H := Option.bind_eq_some_iff.mp H
 obtain ⟨⟨t340, t341⟩, A20, H⟩ := H
 try dsimp -simprocs only at H
 have A2 := Aside0.mk A20
 clear A20
 replace H := Option.bind_eq_some_iff.mp H
 obtain ⟨⟨t342, t343⟩, A30, H⟩ := H
 try dsimp -simprocs only at H
 have A3 := Aside0.mk A30
 clear A30
 replace H := Option.bind_eq_some_iff.mp H
 obtain ⟨⟨t344, t345, t346, t347, t348, t349, t352⟩, A40, H⟩ := H
 try dsimp -simprocs only at H
 have A4 := Aside0.mk A40
 clear A40
 by_cases c5 : t338 = 0
 ·
  rw [if_pos c5] at H
  have c5b0 : (t338 == 0) = true := beq_iff_eq.mpr c5
  have c5b1 : (t338 != 0) = false := bne_eq_false_iff_eq.mpr c5
  clear c5
  by_cases c6 : t341 = 0
  ·
   rw [if_pos c6] at H
   have c6b0 : (t341 == 0) = true := beq_iff_eq.mpr c6
   have c6b1 : (t341 != 0) = false := bne_eq_false_iff_eq.mpr c6
   clear c6
   by_cases c7 : t330 = 2
   ·
    rw [if_pos c7] at H
    have c7b0 : (t330 == 2) = true := beq_iff_eq.mpr c7
    have c7b1 : (t330 != 2) = false := bne_eq_false_iff_eq.mpr c7
    clear c7
    by_cases c8 : t332 = true
    ·
     subst c8
     rw [if_pos rfl] at H
     try dsimp -simprocs only at H
     by_cases c9 : t340.toList = ([77, 65, 73, 76, 32, 70, 82, 79, 77, 58, 60, 62, 32, 83, 73, 90, 69, 61, 53] : List UInt8)
     ·
      rw [if_pos c9] at H
      have c9b0 : (t340.toList == ([77, 65, 73, 76, 32, 70, 82, 79, 77, 58, 60, 62, 32, 83, 73, 90, 69, 61, 53] : List UInt8)) = true := beq_iff_eq.mpr c9
      have c9b1 : (t340.toList != ([77, 65, 73, 76, 32, 70, 82, 79, 77, 58, 60, 62, 32, 83, 73, 90, 69, 61, 53] : List UInt8)) = false := bne_eq_false_iff_eq.mpr c9
      clear c9
      by_cases c10 : t343 = true
      ·
       subst c10
       rw [if_pos rfl] at H
       try dsimp -simprocs only at H
       by_cases c11 : t342.toList = ([53] : List UInt8)
       ·
        rw [if_pos c11] at H
        have c11b0 : (t342.toList == ([53] : List UInt8)) = true := beq_iff_eq.mpr c11
        have c11b1 : (t342.toList != ([53] : List UInt8)) = false := bne_eq_false_iff_eq.mpr c11
        clear c11
        obtain rfl := Option.some.inj H
        go_enter Tryz.func13, Tryz.ntmps13
        go_wp2_with (first | ((with_reducible refine gate_callee (f := 6) rfl ?_); refine goesL_ (some 10) rfl rfl Tryz.func6 (by kernel_rfl) rfl #[.string ⟨#[109, 97, 105, 108, 32, 102, 114, 111, 109, 58, 60, 62, 32, 115, 105, 122, 101, 61, 53]⟩] rfl sM ?_; (with_reducible refine (verb_Parse.calls k (⟨#[109, 97, 105, 108, 32, 102, 114, 111, 109, 58, 60, 62, 32, 115, 105, 122, 101, 61, 53]⟩ : ByteArray) t330 t331 true t333 t334 t335 t338 _ ?side1 A1.out).mono ?_); (case side1 => exact Glob.below HG.out (sB HB.out)); rintro e w12 ⟨v336, rfl, ho0, hb⟩; refine ⟨_, rfl, ?_⟩; have HO337 := Aside0.mk (Kd.R_lower ho0 (below_size (sB HB.out))); replace HB := Aside0.mk (below_step (sB HB.out) hb); (try clear hb); (try clear ho0)) | ((with_reducible refine gate_dst (N := 1) rfl ?_); refine box_event ?hg (N := 1) ?hd (cs := #[.int .i64 0, .string ⟨#[]⟩, .bool false, .string ⟨#[]⟩, .string ⟨#[]⟩, .slice none 0 0]) (t := 26) ?hr ?_; (case hd => rfl); (case hg => rfl); (case hr => first | (go_simp; done) | (go_simp; rfl)); intro gb339 hg w13 hbox hb; replace HO337 := Aside0.mk (Kd.R_below (sR HO337.out) hb); have BK339 := Aside0.mk (hbox); have GW339 := Aside0.mk ((by rw [hg]; exact (below_size (sB HB.out)) : w.heap.size ≤ gb339)); have GE339 := Aside0.mk ((by rw [hg]; exact (below_size (sB HB.out)) : w.heap.size ≤ gb339)); replace HB := Aside0.mk (below_step (sB HB.out) hb); clear hb hbox hg; have hcz14_0 := sC BK339.out 0; have hcz14_1 := sC BK339.out 1; have hcz14_2 := sC BK339.out 2; have hcz14_3 := sC BK339.out 3; have hcz14_4 := sC BK339.out 4; have hcz14_5 := sC BK339.out 5; have hfz14_0 := blk_frozen BK339.out 0; have hfz14_1 := blk_frozen BK339.out 1; have hfz14_2 := blk_frozen BK339.out 2; have hfz14_3 := blk_frozen BK339.out 3; have hfz14_4 := blk_frozen BK339.out 4; have hfz14_5 := blk_frozen BK339.out 5; obtain ⟨Ao15, co15, eo15⟩ := Kd.R_slice HO337.out; subst eo15) | ((with_reducible refine gate_callee (f := 8) rfl ?_); refine goesL_ (some 15) rfl rfl Tryz.func8 (by kernel_rfl) rfl #[.agg #[.int .i64 t330, .string t331, .bool true, .string t333, .string t334, .slice Ao15 t335.length co15]] rfl sM ?_; (with_reducible refine (verb_Text.calls k t330 t331 true t333 t334 _ _ t335 t340 t341 _ ?side1 ?side2 ?side3 A2.out).mono ?_); (case side1 => exact Glob.below HG.out (sB HB.out)); (case side2 => refine (Kd.R_reads' (e := 47) (base := w.heap.size) (ok := fun k_ => True) (n := t335.length) (c := co15) ?_).2.2; exact (by (with_reducible repeat (first | apply Kd.R_alloc | apply Kd.R_drewN | apply Kd.R_drew)); exact (Kd.R_mono (Kd.R_far (p := ⟨gb339, 5, none⟩) (Kd.R_far (p := ⟨gb339, 4, none⟩) (Kd.R_far (p := ⟨gb339, 3, none⟩) (Kd.R_far (p := ⟨gb339, 2, none⟩) (Kd.R_far (p := ⟨gb339, 1, none⟩) (Kd.R_far (p := ⟨gb339, 0, none⟩) (Kd.R_types HO337.out BK339.out (by decide)) (fun _ hk => hk.2) (.int .i64 t330)) (fun _ hk => hk.2) (.string t331)) (fun _ hk => hk.2) (.bool true)) (fun _ hk => hk.2) (.string t333)) (fun _ hk => hk.2) (.string t334)) (fun _ hk => hk.2) (.slice Ao15 t335.length co15)) (fun _ h_ => h_.1)))); (case side3 => exact (Kd.R_reads' HO337.out).2.1); rintro e w16 ⟨rfl, hb⟩; refine ⟨_, rfl, ?_⟩; replace HO337 := Aside0.mk (Kd.R_below (by (with_reducible repeat (first | apply Kd.R_alloc | apply Kd.R_drewN | apply Kd.R_drew)); exact (Kd.R_mono (Kd.R_far (p := ⟨gb339, 5, none⟩) (Kd.R_far (p := ⟨gb339, 4, none⟩) (Kd.R_far (p := ⟨gb339, 3, none⟩) (Kd.R_far (p := ⟨gb339, 2, none⟩) (Kd.R_far (p := ⟨gb339, 1, none⟩) (Kd.R_far (p := ⟨gb339, 0, none⟩) (Kd.R_types HO337.out BK339.out (by decide)) (fun _ hk => hk.2) (.int .i64 t330)) (fun _ hk => hk.2) (.string t331)) (fun _ hk => hk.2) (.bool true)) (fun _ hk => hk.2) (.string t333)) (fun _ hk => hk.2) (.string t334)) (fun _ hk => hk.2) (.slice Ao15 t335.length co15)) (fun _ h_ => h_.1))) hb); replace BK339 := Aside0.mk (blk_below (g := gb339) (o := .cells #[.int .i64 t330, .string t331, .bool true, .string t333, .string t334, .slice Ao15 t335.length co15] 26 (0, 0)) (by refine sK ?_; refine blk_put (cs := #[.int .i64 t330, .string t331, .bool true, .string t333, .string t334, .slice none 0 0]) ?_ 5 _ rfl; refine sK ?_; refine blk_put (cs := #[.int .i64 t330, .string t331, .bool true, .string t333, .string ⟨#[]⟩, .slice none 0 0]) ?_ 4 _ rfl; refine sK ?_; refine blk_put (cs := #[.int .i64 t330, .string t331, .bool true, .string ⟨#[]⟩, .string ⟨#[]⟩, .slice none 0 0]) ?_ 3 _ rfl; refine sK ?_; refine blk_put (cs := #[.int .i64 t330, .string t331, .bool false, .string ⟨#[]⟩, .string ⟨#[]⟩, .slice none 0 0]) ?_ 2 _ rfl; refine sK ?_; refine blk_put (cs := #[.int .i64 t330, .string ⟨#[]⟩, .bool false, .string ⟨#[]⟩, .string ⟨#[]⟩, .slice none 0 0]) ?_ 1 _ rfl; refine sK ?_; refine blk_put (cs := #[.int .i64 0, .string ⟨#[]⟩, .bool false, .string ⟨#[]⟩, .string ⟨#[]⟩, .slice none 0 0]) ?_ 0 _ rfl; refine sK ?_; exact BK339.out) hb); replace HB := Aside0.mk (below_step (sB HB.out) hb); (try clear hb); (try clear hk); have hcz17_0 := sC BK339.out 0; have hcz17_1 := sC BK339.out 1; have hcz17_2 := sC BK339.out 2; have hcz17_3 := sC BK339.out 3; have hcz17_4 := sC BK339.out 4; have hcz17_5 := sC BK339.out 5; have hfz17_0 := blk_frozen BK339.out 0; have hfz17_1 := blk_frozen BK339.out 1; have hfz17_2 := blk_frozen BK339.out 2; have hfz17_3 := blk_frozen BK339.out 3; have hfz17_4 := blk_frozen BK339.out 4; have hfz17_5 := blk_frozen BK339.out 5) | ((with_reducible refine gate_callee (f := 10) rfl ?_); refine goesL_ (some 20) rfl rfl Tryz.func10 (by kernel_rfl) rfl #[.agg #[.int .i64 t330, .string t331, .bool true, .string t333, .string t334, .slice Ao15 t335.length co15], .string ⟨#[83, 73, 90, 69]⟩] rfl sM ?_; (with_reducible refine (verb_Param.calls t330 t331 true t333 t334 _ _ t335 (⟨#[83, 73, 90, 69]⟩ : ByteArray) t342 true _ ?side1 ?side2 A3.out).mono ?_); (case side1 => repeat (first | exact (Kd.R_reads' HO337.out).2.2 | (with_reducible refine Kd.C_alloc ?_ _) | (with_reducible refine Kd.C_drewN ?_ _) | (with_reducible refine Kd.C_drew ?_))); (case side2 => exact (Kd.R_reads' HO337.out).2.1); rintro e w18 ⟨rfl, hb⟩; refine ⟨_, rfl, ?_⟩; replace HO337 := Aside0.mk (Kd.R_below (sR HO337.out) hb); replace BK339 := Aside0.mk (blk_below (g := gb339) (o := .cells #[.int .i64 t330, .string t331, .bool true, .string t333, .string t334, .slice Ao15 t335.length co15] 26 (0, 0)) (sK BK339.out) hb); replace HB := Aside0.mk (below_step (sB HB.out) hb); (try clear hb)) | ((with_reducible refine gate_callee (f := 6) rfl ?_); refine goesL_ (some 24) rfl rfl Tryz.func6 (by kernel_rfl) rfl #[.string ⟨#[70, 82, 79, 66]⟩] rfl sM ?_; (with_reducible refine (verb_Parse.calls k (⟨#[70, 82, 79, 66]⟩ : ByteArray) t344 t345 t346 t347 t348 t349 t352 _ ?side1 A4.out).mono ?_); (case side1 => exact Glob.below HG.out (sB HB.out)); rintro e w19 ⟨v350, rfl, ho0, hb⟩; refine ⟨_, rfl, ?_⟩; have HO351 := Aside0.mk (Kd.R_lower (Kd.R_new' ho0 (Kd.R_lt (sR HO337.out))) (below_size (sB HB.out))); replace HO337 := Aside0.mk (Kd.R_elder' (sR HO337.out) (Kd.R_base ho0) hb); replace BK339 := Aside0.mk (blk_below (g := gb339) (o := .cells #[.int .i64 t330, .string t331, .bool true, .string t333, .string t334, .slice Ao15 t335.length co15] 26 (0, 0)) (sK BK339.out) hb); replace HB := Aside0.mk (below_step (sB HB.out) hb); (try clear hb); (try clear ho0)) | ((with_reducible refine gate_dst (N := 7) rfl ?_); refine box_event ?hg (N := 7) ?hd (cs := #[.int .i64 0, .string ⟨#[]⟩, .bool false, .string ⟨#[]⟩, .string ⟨#[]⟩, .slice none 0 0]) (t := 26) ?hr ?_; (case hd => rfl); (case hg => rfl); (case hr => first | (go_simp; done) | (go_simp; rfl)); intro gb353 hg w20 hbox hb; replace HO337 := Aside0.mk (Kd.R_below (sR HO337.out) hb); replace HO351 := Aside0.mk (Kd.R_below (sR HO351.out) hb); have BK353 := Aside0.mk (hbox); have GW353 := Aside0.mk ((by rw [hg]; exact (below_size (sB HB.out)) : w.heap.size ≤ gb353)); have GE353 := Aside0.mk ((by rw [hg]; exact (below_size (sB HB.out)) : w.heap.size ≤ gb353)); replace HB := Aside0.mk (below_step (sB HB.out) hb); have NB339_353 := Aside0.mk ((by rw [hg]; exact Nat.ne_of_lt (blk_lt (g := gb339) (o := .cells #[.int .i64 t330, .string t331, .bool true, .string t333, .string t334, .slice Ao15 t335.length co15] 26 (0, 0)) (sK BK339.out)) : gb339 ≠ gb353)); have NB353_339 := Aside0.mk ((by rw [hg]; exact Nat.ne_of_gt (blk_lt (g := gb339) (o := .cells #[.int .i64 t330, .string t331, .bool true, .string t333, .string t334, .slice Ao15 t335.length co15] 26 (0, 0)) (sK BK339.out)) : gb353 ≠ gb339)); replace BK339 := Aside0.mk (blk_below (g := gb339) (o := .cells #[.int .i64 t330, .string t331, .bool true, .string t333, .string t334, .slice Ao15 t335.length co15] 26 (0, 0)) (sK BK339.out) hb); clear hb hbox hg; have hnb21 := NB353_339.out; have hnc21 := NB339_353.out; have hcz22_0 := sC BK353.out 0; have hcz22_1 := sC BK353.out 1; have hcz22_2 := sC BK353.out 2; have hcz22_3 := sC BK353.out 3; have hcz22_4 := sC BK353.out 4; have hcz22_5 := sC BK353.out 5; have hfz22_0 := blk_frozen BK353.out 0; have hfz22_1 := blk_frozen BK353.out 1; have hfz22_2 := blk_frozen BK353.out 2; have hfz22_3 := blk_frozen BK353.out 3; have hfz22_4 := blk_frozen BK353.out 4; have hfz22_5 := blk_frozen BK353.out 5; obtain ⟨Ao23, co23, eo23⟩ := Kd.R_slice HO351.out; subst eo23; have hcz24_0 := sC BK339.out 0; have hcz24_1 := sC BK339.out 1; have hcz24_2 := sC BK339.out 2; have hcz24_3 := sC BK339.out 3; have hcz24_4 := sC BK339.out 4; have hcz24_5 := sC BK339.out 5; have hfz24_0 := blk_frozen BK339.out 0; have hfz24_1 := blk_frozen BK339.out 1; have hfz24_2 := blk_frozen BK339.out 2; have hfz24_3 := blk_frozen BK339.out 3; have hfz24_4 := blk_frozen BK339.out 4; have hfz24_5 := blk_frozen BK339.out 5))
        go_ret
        exact ⟨by first | rfl | (simp [errW_none, errW_some] <;> rfl) | (simp [*, errW_none, errW_some] <;> rfl), sB HB.out⟩
       ·
        rw [if_neg c11] at H
        have c11b0 : (t342.toList == ([53] : List UInt8)) = false := beq_eq_false_iff_ne.mpr c11
        have c11b1 : (t342.toList != ([53] : List UInt8)) = true := bne_iff_ne.mpr c11
        rw [HRT.out] at H
        exact absurd H (by decide)
      ·
       replace c10 := Bool.eq_false_iff.mpr c10
       subst c10
       rw [if_neg (show ¬ (false = true) by decide)] at H
       try dsimp -simprocs only at H
       rw [HRT.out] at H
       exact absurd H (by decide)
     ·
      rw [if_neg c9] at H
      have c9b0 : (t340.toList == ([77, 65, 73, 76, 32, 70, 82, 79, 77, 58, 60, 62, 32, 83, 73, 90, 69, 61, 53] : List UInt8)) = false := beq_eq_false_iff_ne.mpr c9
      have c9b1 : (t340.toList != ([77, 65, 73, 76, 32, 70, 82, 79, 77, 58, 60, 62, 32, 83, 73, 90, 69, 61, 53] : List UInt8)) = true := bne_iff_ne.mpr c9
      rw [HRT.out] at H
      exact absurd H (by decide)
    ·
     replace c8 := Bool.eq_false_iff.mpr c8
     subst c8
     rw [if_neg (show ¬ (false = true) by decide)] at H
     try dsimp -simprocs only at H
     rw [HRT.out] at H
     exact absurd H (by decide)
   ·
    rw [if_neg c7] at H
    have c7b0 : (t330 == 2) = false := beq_eq_false_iff_ne.mpr c7
    have c7b1 : (t330 != 2) = true := bne_iff_ne.mpr c7
    rw [HRT.out] at H
    exact absurd H (by decide)
  ·
   rw [if_neg c6] at H
   have c6b0 : (t341 == 0) = false := beq_eq_false_iff_ne.mpr c6
   have c6b1 : (t341 != 0) = true := bne_iff_ne.mpr c6
   rw [HRT.out] at H
   exact absurd H (by decide)
 ·
  rw [if_neg c5] at H
  have c5b0 : (t338 == 0) = false := beq_eq_false_iff_ne.mpr c5
  have c5b1 : (t338 != 0) = true := bne_iff_ne.mpr c5
  rw [HRT.out] at H
  exact absurd H (by decide)
end Go.Proofs.YthcdjgekmfnmnaaGreatDoor.PVerb
end
section
namespace Go.Proofs.YthcdjgekmfnmnaaGreatDoor.PVerb
open Go.RowKit Go.Proofs.YthcdjgekmfnmnaaGreatDoorW.PrintWords Go.Proofs.YthcdjgekmfnmnaaGreatDoorW.PrintLast Go.Proofs.YthcdjgekmfnmnaaGreatDoorW.PrintMore
attribute [local go_sem] max2_int min2_int max_two min_two max_three min_three max_four min_four
set_option linter.unusedVariables false
set_option linter.unusedSimpArgs false
theorem reft_bytes (l d : ByteArray) : (((⟨#[60]⟩ ++ l) ++ ⟨#[64]⟩) ++ d) ++ ⟨#[62]⟩ = bs (60 :: l.data.toList ++ 64 :: d.data.toList ++ [62]) := by
  rw [← bs_of (_ ++ _)]
  congr 1
  simp [ByteArray.toList_data_append]
def wherryref11_Text.f (a0_0 : Bool) (a0_1 a0_2 : ByteArray) : Option ByteArray :=
  if a0_1.size < 2147483648 ∧ a0_2.size < 2147483648 then some (if a0_0 then bs [60, 62] else bs (60 :: a0_1.data.toList ++ 64 :: a0_2.data.toList ++ [62])) else none
set_option maxHeartbeats 1000000 in
set_option maxRecDepth 100000 in
theorem wherryref11_Text.calls (a0_0 : Bool) (a0_1 a0_2 : ByteArray) (r : ByteArray) (w : World) (h : wherryref11_Text.f a0_0 a0_1 a0_2 = some r) :
    Calls Tryz.prog 15 #[.agg #[.bool a0_0, .string a0_1, .string a0_2]] w fun e w' => e = .returned (.string r) ∧ Below w.heap.size w w' := by
  unfold wherryref11_Text.f at h
  split at h
  · rename_i hs
    have h1 := hs.1
    have h2 := hs.2
    have hbb := Aside0.mk ((Below.refl _ w).alloc (Nat.le_refl _) (.cells #[.bool a0_0, .string a0_1, .string a0_2] 23))
    obtain rfl := Option.some.inj h
    clear h hs
    cases a0_0
    · have HT := Aside0.mk (reft_bytes a0_1 a0_2)
      have e1 : (1 : Nat) + a0_1.size ≤ 9223372036854775807 := by omega
      show Calls Tryz.prog 15 _ w fun e w' => e = .returned (.string (bs (60 :: a0_1.data.toList ++ 64 :: a0_2.data.toList ++ [62]))) ∧ Below w.heap.size w w'
      rw [← HT.out]
      go_enter Tryz.func15, Tryz.ntmps15
      go_wp2
      go_ret
      exact ⟨rfl, hbb.out⟩
    · go_enter Tryz.func15, Tryz.ntmps15
      go_wp2
      go_ret
      exact ⟨rfl, hbb.out⟩
  · cases h
end Go.Proofs.YthcdjgekmfnmnaaGreatDoor.PVerb
end
