/- Parts of the proof, put together by program. -/
import Derived.Test.YthcdjgekmfnmnaaGreatDoorK3
section
namespace Go.Proofs.YthcdjgekmfnmnaaGreatDoor.PVerb
open Go.RowKit Go.Proofs.YthcdjgekmfnmnaaGreatDoorW.PrintWords Go.Proofs.YthcdjgekmfnmnaaGreatDoorW.PrintLast Go.Proofs.YthcdjgekmfnmnaaGreatDoorW.PrintMore
attribute [local go_sem] max2_int min2_int max_two min_two max_three min_three max_four min_four
set_option linter.unusedVariables false
set_option linter.unusedSimpArgs false
def wherryref11_Digits.l0 : Nat → Int → ByteArray → Option (ByteArray)
 | 0, _, _ => none
 | k + 1, x0, x3 => if x0 > 9 then (if 0 ≤ (Int.tmod x0 10) then (if (Int.tmod x0 10) ≤ (wrap64 ((Int.tmod x0 10) + 1)) then (if (wrap64 ((Int.tmod x0 10) + 1)) ≤ 10 then (if ((⟨#[48, 49, 50, 51, 52, 53, 54, 55, 56, 57]⟩ : ByteArray).extract ((Int.tmod x0 10) : Int).toNat ((wrap64 ((Int.tmod x0 10) + 1)) : Int).toNat).size + x3.size ≤ 9223372036854775807 then (wherryref11_Digits.l0 k (wrap64 (Int.tdiv x0 10)) (((⟨#[48, 49, 50, 51, 52, 53, 54, 55, 56, 57]⟩ : ByteArray).extract ((Int.tmod x0 10) : Int).toNat ((wrap64 ((Int.tmod x0 10) + 1)) : Int).toNat) ++ x3)) else (none)) else (none)) else (none)) else (none)) else (if 0 ≤ x0 then (if x0 ≤ (wrap64 (x0 + 1)) then (if (wrap64 (x0 + 1)) ≤ 10 then (if ((⟨#[48, 49, 50, 51, 52, 53, 54, 55, 56, 57]⟩ : ByteArray).extract (x0 : Int).toNat ((wrap64 (x0 + 1)) : Int).toNat).size + x3.size ≤ 9223372036854775807 then (some (((⟨#[48, 49, 50, 51, 52, 53, 54, 55, 56, 57]⟩ : ByteArray).extract (x0 : Int).toNat ((wrap64 (x0 + 1)) : Int).toNat) ++ x3)) else (none)) else (none)) else (none)) else (none))
def wherryref11_Digits.f (k : Nat) (a0 : Int) : Option (ByteArray) := wherryref11_Digits.l0 k a0 (⟨#[]⟩ : ByteArray)
set_option maxHeartbeats 8000000 in
set_option maxRecDepth 100000 in
theorem wherryref11_Digits.calls (k : Nat) (a0 : Int) (r : ByteArray) (w : World) (h : wherryref11_Digits.f k a0 = some r) :
  Calls Tryz.prog 16 #[.int .i64 a0] w fun e w' => e = .returned (.string r) ∧ Drawn0 w w' := by
 have H : (wherryref11_Digits.l0 k a0 (⟨#[]⟩ : ByteArray)) = some r := h
 clear h
 have H' := Aside0.mk H
 clear H
 go_enter Tryz.func16, Tryz.ntmps16
 go_wp2
 go_loopg [0, 3] k (fun kq v0 v3 w' => ∃ (x0_1 : Int) (x3_1 : ByteArray), v0 = .int .i64 x0_1 ∧ v3 = .string x3_1 ∧ Aside0 (wherryref11_Digits.l0 kq x0_1 x3_1 = some r) ∧ Aside0 (kq ≤ k) ∧ Drawn0 w w')
 case atStart => exact ⟨(a0), ((⟨#[]⟩ : ByteArray)), (by first | rfl | (simp; done) | (simp [*]; done)), (by first | rfl | (simp; done) | (simp [*]; done)), H', ⟨Nat.le_refl _⟩, by repeat (first | exact Drawn0.refl _ | apply Drawn0.step)⟩
 case round =>
  clear H'
  try clear c1
  obtain ⟨x0_1, x3_1, rfl, rfl, HA, HK1, ⟨m1, rfl⟩⟩ := hrel
  cases gk with
  | zero => exact absurd HA.out (by simp [wherryref11_Digits.l0])
  | succ k1 =>
   have H := HA.out
   clear HA
   simp only [wherryref11_Digits.l0] at H
   by_cases c2 : x0_1 > 9
   ·
    rw [if_pos c2] at H
    have c2b0 : decide (9 < x0_1) = true := decide_eq_true c2
    clear c2
    obtain ⟨ji3, hji3⟩ : ∃ j_ : Int, (Int.tmod x0_1 10) = j_ := ⟨_, rfl⟩
    replace H : (if 0 ≤ (ji3) then (if (ji3) ≤ (wrap64 ((ji3) + 1)) then (if (wrap64 ((ji3) + 1)) ≤ 10 then (if ((⟨#[48, 49, 50, 51, 52, 53, 54, 55, 56, 57]⟩ : ByteArray).extract ((ji3) : Int).toNat ((wrap64 ((ji3) + 1)) : Int).toNat).size + x3_1.size ≤ 9223372036854775807 then (wherryref11_Digits.l0 k1 (wrap64 (Int.tdiv x0_1 10)) (((⟨#[48, 49, 50, 51, 52, 53, 54, 55, 56, 57]⟩ : ByteArray).extract ((ji3) : Int).toNat ((wrap64 ((ji3) + 1)) : Int).toNat) ++ x3_1)) else (none)) else (none)) else (none)) else (none)) = some r := by first | (rw [hji3] at H; exact H) | (simp only [hji3] at H ⊢; exact H)
    by_cases c4 : 0 ≤ (ji3)
    ·
     rw [if_pos c4] at H
     have c4b0 := eq_true c4
     have c4b1 : decide (0 ≤ (ji3)) = true := decide_eq_true c4
     clear c4
     by_cases c5 : (ji3) ≤ (wrap64 ((ji3) + 1))
     ·
      rw [if_pos c5] at H
      have c5b0 := eq_true c5
      have c5b1 : decide ((ji3) ≤ (wrap64 ((ji3) + 1))) = true := decide_eq_true c5
      by_cases c6 : (wrap64 ((ji3) + 1)) ≤ 10
      ·
       rw [if_pos c6] at H
       have c6b0 := eq_true c6
       have c6b1 : decide ((wrap64 ((ji3) + 1)) ≤ 10) = true := decide_eq_true c6
       by_cases c7 : ((⟨#[48, 49, 50, 51, 52, 53, 54, 55, 56, 57]⟩ : ByteArray).extract ((ji3) : Int).toNat ((wrap64 ((ji3) + 1)) : Int).toNat).size + x3_1.size ≤ 9223372036854775807
       ·
        rw [if_pos c7] at H
        have c7b0 := eq_true c7
        have c7b1 : decide (((⟨#[48, 49, 50, 51, 52, 53, 54, 55, 56, 57]⟩ : ByteArray).extract ((ji3) : Int).toNat ((wrap64 ((ji3) + 1)) : Int).toNat).size + x3_1.size ≤ 9223372036854775807) = true := decide_eq_true c7
        try have c7b2 : (9223372036854775807 < ((⟨#[48, 49, 50, 51, 52, 53, 54, 55, 56, 57]⟩ : ByteArray).extract ((ji3) : Int).toNat ((wrap64 ((ji3) + 1)) : Int).toNat).size + x3_1.size) = False := eq_false (Nat.not_lt.2 c7)
        have H' := Aside0.mk H
        clear H
        go_wp2
        go_roundg k1
        case measure => have := HK1.out; omega
        case rel => exact ⟨(wrap64 (Int.tdiv x0_1 10)), (((⟨#[48, 49, 50, 51, 52, 53, 54, 55, 56, 57]⟩ : ByteArray).extract ((ji3) : Int).toNat ((wrap64 ((ji3) + 1)) : Int).toNat) ++ x3_1), (by first | rfl | (simp; done) | (simp [*]; done)), (by first | rfl | (simp; done) | (simp only [← hji3] <;> (first | rfl | simp)) | (simp [*]; done)), H', ⟨by have := HK1.out; omega⟩, by repeat (first | exact Drawn0.refl _ | apply Drawn0.step)⟩
       ·
        rw [if_neg c7] at H
        exact absurd H (by simp)
      ·
       rw [if_neg c6] at H
       exact absurd H (by simp)
     ·
      rw [if_neg c5] at H
      exact absurd H (by simp)
    ·
     rw [if_neg c4] at H
     exact absurd H (by simp)
   ·
    rw [if_neg c2] at H
    have c2b0 : decide (9 < x0_1) = false := decide_eq_false c2
    clear c2
    by_cases c8 : 0 ≤ x0_1
    ·
     rw [if_pos c8] at H
     have c8b0 := eq_true c8
     have c8b1 : decide (0 ≤ x0_1) = true := decide_eq_true c8
     clear c8
     by_cases c9 : x0_1 ≤ (wrap64 (x0_1 + 1))
     ·
      rw [if_pos c9] at H
      have c9b0 := eq_true c9
      have c9b1 : decide (x0_1 ≤ (wrap64 (x0_1 + 1))) = true := decide_eq_true c9
      by_cases c10 : (wrap64 (x0_1 + 1)) ≤ 10
      ·
       rw [if_pos c10] at H
       have c10b0 := eq_true c10
       have c10b1 : decide ((wrap64 (x0_1 + 1)) ≤ 10) = true := decide_eq_true c10
       by_cases c11 : ((⟨#[48, 49, 50, 51, 52, 53, 54, 55, 56, 57]⟩ : ByteArray).extract (x0_1 : Int).toNat ((wrap64 (x0_1 + 1)) : Int).toNat).size + x3_1.size ≤ 9223372036854775807
       ·
        rw [if_pos c11] at H
        have c11b0 := eq_true c11
        have c11b1 : decide (((⟨#[48, 49, 50, 51, 52, 53, 54, 55, 56, 57]⟩ : ByteArray).extract (x0_1 : Int).toNat ((wrap64 (x0_1 + 1)) : Int).toNat).size + x3_1.size ≤ 9223372036854775807) = true := decide_eq_true c11
        try have c11b2 : (9223372036854775807 < ((⟨#[48, 49, 50, 51, 52, 53, 54, 55, 56, 57]⟩ : ByteArray).extract (x0_1 : Int).toNat ((wrap64 (x0_1 + 1)) : Int).toNat).size + x3_1.size) = False := eq_false (Nat.not_lt.2 c11)
        obtain rfl := Option.some.inj H
        go_wp2
        go_ret
        exact ⟨by first | rfl | (simp; done) | (simp [*]; done), by repeat (first | exact Drawn0.refl _ | apply Drawn0.step)⟩
       ·
        rw [if_neg c11] at H
        exact absurd H (by simp)
      ·
       rw [if_neg c10] at H
       exact absurd H (by simp)
     ·
      rw [if_neg c9] at H
      exact absurd H (by simp)
    ·
     rw [if_neg c8] at H
     exact absurd H (by simp)
end Go.Proofs.YthcdjgekmfnmnaaGreatDoor.PVerb
end
section
namespace Go.Proofs.YthcdjgekmfnmnaaGreatDoor.PVerb
open Go.RowKit Go.Proofs.YthcdjgekmfnmnaaGreatDoorW.PrintWords Go.Proofs.YthcdjgekmfnmnaaGreatDoorW.PrintLast Go.Proofs.YthcdjgekmfnmnaaGreatDoorW.PrintMore
attribute [local go_sem] max2_int min2_int max_two min_two max_three min_three max_four min_four
set_option linter.unusedVariables false
set_option linter.unusedSimpArgs false
def wherrylaw12_VerbParams.j0 : Nat → Int → Int → Bool → Bool → ByteArray → ByteArray → Option (Bool)
 | 0, _, _, _, _, _, _ => none
 | k + 1, x1, x2, x36, x388000, x388001, x388002 => if x36 = true then (some true) else ((wherryref11_Text.f x388000 x388001 x388002).bind fun t389 => ((wherryref11_Digits.f k (wrap64 (Int.tmod (IntKind.u64.wrap (x1)) 1000000000))).bind fun t390 => (if 10 + t389.size ≤ 9223372036854775807 then (if ((⟨#[77, 65, 73, 76, 32, 70, 82, 79, 77, 58]⟩ : ByteArray) ++ t389).size + 6 ≤ 9223372036854775807 then (if (((⟨#[77, 65, 73, 76, 32, 70, 82, 79, 77, 58]⟩ : ByteArray) ++ t389) ++ (⟨#[32, 83, 73, 90, 69, 61]⟩ : ByteArray)).size + t390.size ≤ 9223372036854775807 then (if ((((⟨#[77, 65, 73, 76, 32, 70, 82, 79, 77, 58]⟩ : ByteArray) ++ t389) ++ (⟨#[32, 83, 73, 90, 69, 61]⟩ : ByteArray)) ++ t390).size + 6 ≤ 9223372036854775807 then (if (((((⟨#[77, 65, 73, 76, 32, 70, 82, 79, 77, 58]⟩ : ByteArray) ++ t389) ++ (⟨#[32, 83, 73, 90, 69, 61]⟩ : ByteArray)) ++ t390) ++ (⟨#[32, 83, 73, 90, 69, 61]⟩ : ByteArray)).size + t390.size ≤ 9223372036854775807 then (if ((⟨#[77, 65, 73, 76, 32, 70, 82, 79, 77, 58]⟩ : ByteArray) ++ t389).size + 13 ≤ 9223372036854775807 then (if 8 + t389.size ≤ 9223372036854775807 then (if ((⟨#[82, 67, 80, 84, 32, 84, 79, 58]⟩ : ByteArray) ++ t389).size + 6 ≤ 9223372036854775807 then (if (((⟨#[82, 67, 80, 84, 32, 84, 79, 58]⟩ : ByteArray) ++ t389) ++ (⟨#[32, 83, 73, 90, 69, 61]⟩ : ByteArray)).size + t390.size ≤ 9223372036854775807 then (if ((⟨#[77, 65, 73, 76, 32, 70, 82, 79, 77, 58]⟩ : ByteArray) ++ t389).size + 7 ≤ 9223372036854775807 then (if (((⟨#[77, 65, 73, 76, 32, 70, 82, 79, 77, 58]⟩ : ByteArray) ++ t389) ++ (⟨#[32, 83, 73, 90, 69, 61, 48]⟩ : ByteArray)).size + t390.size ≤ 9223372036854775807 then (if (((⟨#[77, 65, 73, 76, 32, 70, 82, 79, 77, 58]⟩ : ByteArray) ++ t389) ++ (⟨#[32, 32, 83, 73, 90, 69, 61]⟩ : ByteArray)).size + t390.size ≤ 9223372036854775807 then (if 11 + t389.size ≤ 9223372036854775807 then (if ((⟨#[82, 67, 80, 84, 32, 84, 79, 58]⟩ : ByteArray) ++ t389).size + 14 ≤ 9223372036854775807 then ((some (([(((((⟨#[77, 65, 73, 76, 32, 70, 82, 79, 77, 58]⟩ : ByteArray) ++ t389) ++ (⟨#[32, 83, 73, 90, 69, 61]⟩ : ByteArray)) ++ t390) ++ (⟨#[32, 83, 73, 90, 69, 61]⟩ : ByteArray)) ++ t390, ((⟨#[77, 65, 73, 76, 32, 70, 82, 79, 77, 58]⟩ : ByteArray) ++ t389) ++ (⟨#[32, 78, 79, 84, 73, 70, 89, 61, 78, 69, 86, 69, 82]⟩ : ByteArray), (((⟨#[82, 67, 80, 84, 32, 84, 79, 58]⟩ : ByteArray) ++ t389) ++ (⟨#[32, 83, 73, 90, 69, 61]⟩ : ByteArray)) ++ t390, (⟨#[82, 67, 80, 84, 32, 84, 79, 58, 60, 62]⟩ : ByteArray), (((⟨#[77, 65, 73, 76, 32, 70, 82, 79, 77, 58]⟩ : ByteArray) ++ t389) ++ (⟨#[32, 83, 73, 90, 69, 61, 48]⟩ : ByteArray)) ++ t390, (((⟨#[77, 65, 73, 76, 32, 70, 82, 79, 77, 58]⟩ : ByteArray) ++ t389) ++ (⟨#[32, 32, 83, 73, 90, 69, 61]⟩ : ByteArray)) ++ t390, (⟨#[77, 65, 73, 76, 32, 70, 82, 79, 77, 58, 32]⟩ : ByteArray) ++ t389, ((⟨#[82, 67, 80, 84, 32, 84, 79, 58]⟩ : ByteArray) ++ t389) ++ (⟨#[32, 78, 79, 84, 73, 70, 89, 61, 65, 76, 87, 65, 89, 83]⟩ : ByteArray)] : List ByteArray) : List ByteArray)).bind fun y391 => (if 0 ≤ (wrap64 (Int.tmod (IntKind.u64.wrap (x2)) 8)) then (if (wrap64 (Int.tmod (IntKind.u64.wrap (x2)) 8)) < (y391.length : Int) then ((verb_Parse.f k (rdOf ByteArray.empty y391 (wrap64 (Int.tmod (IntKind.u64.wrap (x2)) 8)))).bind fun bt395 => (if ((((⟨#[77, 65, 73, 76, 32, 70, 82, 79, 77, 58]⟩ : ByteArray) ++ t389) ++ (⟨#[32, 83, 73, 90, 69, 61]⟩ : ByteArray)) ++ t390).size + 9 ≤ 9223372036854775807 then ((verb_Parse.f k (((((⟨#[77, 65, 73, 76, 32, 70, 82, 79, 77, 58]⟩ : ByteArray) ++ t389) ++ (⟨#[32, 83, 73, 90, 69, 61]⟩ : ByteArray)) ++ t390) ++ (⟨#[32, 82, 69, 84, 61, 104, 100, 114, 115]⟩ : ByteArray))).bind fun bt405 => (if ((((((⟨#[77, 65, 73, 76, 32, 70, 82, 79, 77, 58]⟩ : ByteArray) ++ t389) ++ (⟨#[32, 83, 73, 90, 69, 61]⟩ : ByteArray)) ++ t390) ++ (⟨#[32, 82, 69, 84, 61, 104, 100, 114, 115]⟩ : ByteArray)).size : Int) > 510 then (some true) else ((verb_Param.f bt405.1 bt405.2.1 bt405.2.2.1 bt405.2.2.2.1 bt405.2.2.2.2.1 bt405.2.2.2.2.2.1 (⟨#[83, 73, 90, 69]⟩ : ByteArray)).bind fun bt415 => ((verb_Param.f bt405.1 bt405.2.1 bt405.2.2.1 bt405.2.2.2.1 bt405.2.2.2.2.1 bt405.2.2.2.2.2.1 (⟨#[82, 69, 84]⟩ : ByteArray)).bind fun bt417 => ((verb_Param.f bt405.1 bt405.2.1 bt405.2.2.1 bt405.2.2.2.1 bt405.2.2.2.2.1 bt405.2.2.2.2.2.1 (⟨#[78, 79, 84, 73, 70, 89]⟩ : ByteArray)).bind fun bt419 => (if bt395.2.2.2.2.2.2 = 501 then (if bt405.2.2.2.2.2.2 = 0 then (if bt415.2 = true then (if bt415.1.toList = t390.toList then (if bt417.2 = true then (if bt417.1.toList = ([72, 68, 82, 83] : List UInt8) then (if bt419.2 = true then (some false) else ((wherrykeep_Path.f bt405.2.2.1 bt405.2.2.2.1 bt405.2.2.2.2.1 x388000 x388001 x388002).bind fun t421 => (if t421 = true then ((wherrylaw12_wakes.f k).bind fun t422 => (some t422)) else (some false)))) else (some false)) else (some false)) else (some false)) else (some false)) else (some false)) else (some false))))))) else (none))) else (none)) else (none))) else (none)) else (none)) else (none)) else (none)) else (none)) else (none)) else (none)) else (none)) else (none)) else (none)) else (none)) else (none)) else (none)) else (none))))
def wherrylaw12_VerbParams.f (k : Nat) (a0_0 : Bool) (a0_1 : ByteArray) (a0_2 : ByteArray) (a1 : Int) (a2 : Int) : Option (Bool) := if (wrap64 ((a0_1.size : Int) + (a0_2.size : Int))) > 200 then (wherrylaw12_VerbParams.j0 k a1 a2 true a0_0 a0_1 a0_2) else ((wherryref11_Path.f k a0_0 a0_1 a0_2).bind fun t388 => (if t388 = true then (wherrylaw12_VerbParams.j0 k a1 a2 a0_0 a0_0 a0_1 a0_2) else (wherrylaw12_VerbParams.j0 k a1 a2 true a0_0 a0_1 a0_2)))
set_option maxHeartbeats 8000000 in
set_option maxRecDepth 100000 in
theorem wherrylaw12_VerbParams.calls (k : Nat) (a0_0 : Bool) (a0_1 : ByteArray) (a0_2 : ByteArray) (a1 : Int) (a2 : Int) (r : Bool) (w : World) (hG : Glob w) (hrt : r = true) (h : wherrylaw12_VerbParams.f k a0_0 a0_1 a0_2 a1 a2 = some r) :
  Calls Tryz.prog 4 #[.agg #[.bool a0_0, .string a0_1, .string a0_2], .int .i64 a1, .int .i64 a2] w fun e w' => e = .returned (.bool r) ∧ Below w.heap.size w w' := by
 have hu23 := Tryz.underlying23
 have hu26 := Tryz.underlying26
 have HB := Aside0.mk (Below.refl w.heap.size w)
 have HG := Aside0.mk hG
 clear hG
 have HRT := Aside0.mk hrt
 clear hrt
 have H : (if (wrap64 ((a0_1.size : Int) + (a0_2.size : Int))) > 200 then (wherrylaw12_VerbParams.j0 k a1 a2 true a0_0 a0_1 a0_2) else ((wherryref11_Path.f k a0_0 a0_1 a0_2).bind fun t388 => (if t388 = true then (wherrylaw12_VerbParams.j0 k a1 a2 a0_0 a0_0 a0_1 a0_2) else (wherrylaw12_VerbParams.j0 k a1 a2 true a0_0 a0_1 a0_2)))) = some r := h
 clear h
 have HC4 := Aside0.mk H
 clear H
 go_enter Tryz.func4, Tryz.ntmps4
 go_upto_region 1 with (first | ((with_reducible refine gate_dst (N := 3) rfl ?_); refine box_event ?hg (N := 3) ?hd (cs := #[.bool a0_0, .string a0_1, .string a0_2]) (t := 23) ?hr ?_; (case hd => rfl); (case hg => rfl); (case hr => first | (go_simp; done) | (go_simp; rfl)); intro gb387 hg w5 hbox hb; have BK387 := Aside0.mk (hbox); have GW387 := Aside0.mk ((by rw [hg]; exact (below_size (sB HB.out)) : w.heap.size ≤ gb387)); have GE387 := Aside0.mk ((by rw [hg]; exact (below_size (sB HB.out)) : w.heap.size ≤ gb387)); replace HB := Aside0.mk (below_step (sB HB.out) hb); clear hb hbox hg))
 (try simp only [Act.put, List.setIfInBounds_toArray, List.set_cons_zero, List.set_cons_succ])
 go_cut [36] (fun v36 wc => ∃ (kq : Nat) (x36_3 : Bool), v36 = .bool x36_3 ∧ Aside0 (wherrylaw12_VerbParams.j0 kq a1 a2 x36_3 a0_0 a0_1 a0_2 = some r) ∧ Aside0 (kq ≤ k) ∧ Aside0 (wc.heap[gb387]? = some (.cells #[.bool a0_0, .string a0_1, .string a0_2] 23 (0, 0))) ∧ Aside0 (Below w.heap.size w wc))
 case first =>
  have H := HC4.out
  clear HC4
  by_cases c6 : (wrap64 ((a0_1.size : Int) + (a0_2.size : Int))) > 200
  ·
   rw [if_pos c6] at H
   have c6b0 : decide (200 < (wrap64 ((a0_1.size : Int) + (a0_2.size : Int)))) = true := decide_eq_true c6
   clear c6
   (first | rw [c6b0] | (simp only [i64_w, i32_w]; rw [c6b0]) | skip)
   have H' := Aside0.mk H
   clear H
   have hcz7_0 := sC BK387.out 0
   have hcz7_1 := sC BK387.out 1
   have hcz7_2 := sC BK387.out 2
   have hfz7_0 := blk_frozen BK387.out 0
   have hfz7_1 := blk_frozen BK387.out 1
   have hfz7_2 := blk_frozen BK387.out 2
   go_wp2
   go_meet
   case rel => exact ⟨_, (true), (by first | rfl | (simp; done) | (simp [*]; done)), H', ⟨by first | omega | exact Nat.le_refl _⟩, ⟨by refine sK ?_; exact BK387.out⟩, ⟨sB HB.out⟩⟩
  ·
   rw [if_neg c6] at H
   have c6b0 : decide (200 < (wrap64 ((a0_1.size : Int) + (a0_2.size : Int)))) = false := decide_eq_false c6
   clear c6
   (first | rw [c6b0] | (simp only [i64_w, i32_w]; rw [c6b0]) | skip)
   replace H := Option.bind_eq_some_iff.mp H
   obtain ⟨t388, A80, H⟩ := H
   try dsimp -simprocs only at H
   have A8 := Aside0.mk A80
   clear A80
   by_cases c9 : t388 = true
   ·
    subst c9
    rw [if_pos rfl] at H
    try dsimp -simprocs only at H
    have H' := Aside0.mk H
    clear H
    have hcz10_0 := sC BK387.out 0
    have hcz10_1 := sC BK387.out 1
    have hcz10_2 := sC BK387.out 2
    have hfz10_0 := blk_frozen BK387.out 0
    have hfz10_1 := blk_frozen BK387.out 1
    have hfz10_2 := blk_frozen BK387.out 2
    go_wp2_with (first | (go_at_call 14; (with_reducible refine (wherryref11_Path.calls k a0_0 a0_1 a0_2 true _ A8.out).mono ?_); rintro e w11 ⟨rfl, hb⟩; replace BK387 := Aside0.mk (blk_below (g := gb387) (o := .cells #[.bool a0_0, .string a0_1, .string a0_2] 23 (0, 0)) (sK BK387.out) hb); replace HB := Aside0.mk (below_step (sB HB.out) hb); (try clear hb); have hcz12_0 := sC BK387.out 0; have hcz12_1 := sC BK387.out 1; have hcz12_2 := sC BK387.out 2; have hfz12_0 := blk_frozen BK387.out 0; have hfz12_1 := blk_frozen BK387.out 1; have hfz12_2 := blk_frozen BK387.out 2))
    go_meet
    case rel => exact ⟨_, (a0_0), (by first | rfl | (simp; done) | (simp [*]; done)), H', ⟨by first | omega | exact Nat.le_refl _⟩, ⟨by refine sK ?_; exact BK387.out⟩, ⟨sB HB.out⟩⟩
   ·
    replace c9 := Bool.eq_false_iff.mpr c9
    subst c9
    rw [if_neg (show ¬ (false = true) by decide)] at H
    try dsimp -simprocs only at H
    have H' := Aside0.mk H
    clear H
    have hcz13_0 := sC BK387.out 0
    have hcz13_1 := sC BK387.out 1
    have hcz13_2 := sC BK387.out 2
    have hfz13_0 := blk_frozen BK387.out 0
    have hfz13_1 := blk_frozen BK387.out 1
    have hfz13_2 := blk_frozen BK387.out 2
    go_wp2_with (first | (go_at_call 14; (with_reducible refine (wherryref11_Path.calls k a0_0 a0_1 a0_2 false _ A8.out).mono ?_); rintro e w14 ⟨rfl, hb⟩; replace BK387 := Aside0.mk (blk_below (g := gb387) (o := .cells #[.bool a0_0, .string a0_1, .string a0_2] 23 (0, 0)) (sK BK387.out) hb); replace HB := Aside0.mk (below_step (sB HB.out) hb); (try clear hb)))
    go_meet
    case rel => exact ⟨_, (true), (by first | rfl | (simp; done) | (simp [*]; done)), H', ⟨by first | omega | exact Nat.le_refl _⟩, ⟨by refine sK ?_; exact BK387.out⟩, ⟨sB HB.out⟩⟩
 case rest =>
  clear HC4
  try clear p2; try clear c4; try clear c6; try clear c6b0; try clear p6; try clear c9; try clear hcz10_0; try clear hcz10_1; try clear hcz10_2; try clear hcz12_0; try clear hcz12_1; try clear hcz12_2; try clear hcz13_0; try clear hcz13_1; try clear hcz13_2; try clear hcz7_0; try clear hcz7_1; try clear hcz7_2; try clear hfz10_0; try clear hfz10_1; try clear hfz10_2; try clear hfz12_0; try clear hfz12_1; try clear hfz12_2; try clear hfz13_0; try clear hfz13_1; try clear hfz13_2; try clear hfz7_0; try clear hfz7_1; try clear hfz7_2
  obtain ⟨kq, x36_3, rfl, HA, HJ3, BK387, HB⟩ := hcut
  cases kq with
  | zero => exact absurd HA.out (by simp [wherrylaw12_VerbParams.j0])
  | succ kj3 =>
   have H := HA.out
   clear HA
   simp only [wherrylaw12_VerbParams.j0] at H
   by_cases c15 : x36_3 = true
   ·
    subst c15
    rw [if_pos rfl] at H
    try dsimp -simprocs only at H
    obtain rfl := Option.some.inj H
    go_wp2
    go_ret
    exact ⟨by first | rfl | (simp [errW_none, errW_some] <;> rfl) | (simp [*, errW_none, errW_some] <;> rfl), sB HB.out⟩
   ·
    replace c15 := Bool.eq_false_iff.mpr c15
    subst c15
    rw [if_neg (show ¬ (false = true) by decide)] at H
    try dsimp -simprocs only at H
    replace H := Option.bind_eq_some_iff.mp H
    obtain ⟨t389, A160, H⟩ := H
    try dsimp -simprocs only at H
    have A16 := Aside0.mk A160
    clear A160
    replace H := Option.bind_eq_some_iff.mp H
    obtain ⟨t390, A170, H⟩ := H
    try dsimp -simprocs only at H
    have A17 := Aside0.mk A170
    clear A170
    by_cases c18 : 10 + t389.size ≤ 9223372036854775807
    ·
     rw [if_pos c18] at H
     have c18b0 := eq_true c18
     have c18b1 : decide (10 + t389.size ≤ 9223372036854775807) = true := decide_eq_true c18
     try have c18b2 : (9223372036854775807 < 10 + t389.size) = False := eq_false (Nat.not_lt.2 c18)
     by_cases c19 : ((⟨#[77, 65, 73, 76, 32, 70, 82, 79, 77, 58]⟩ : ByteArray) ++ t389).size + 6 ≤ 9223372036854775807
     ·
      rw [if_pos c19] at H
      have c19b0 := eq_true c19
      have c19s := c19
      simp only [ByteArray.size_append, show (⟨#[77, 65, 73, 76, 32, 70, 82, 79, 77, 58]⟩ : ByteArray).size = 10 from rfl] at c19s
      have c19b1 : decide (((⟨#[77, 65, 73, 76, 32, 70, 82, 79, 77, 58]⟩ : ByteArray) ++ t389).size + 6 ≤ 9223372036854775807) = true := decide_eq_true c19
      try have c19b2 : (9223372036854775807 < ((⟨#[77, 65, 73, 76, 32, 70, 82, 79, 77, 58]⟩ : ByteArray) ++ t389).size + 6) = False := eq_false (Nat.not_lt.2 c19)
      by_cases c20 : (((⟨#[77, 65, 73, 76, 32, 70, 82, 79, 77, 58]⟩ : ByteArray) ++ t389) ++ (⟨#[32, 83, 73, 90, 69, 61]⟩ : ByteArray)).size + t390.size ≤ 9223372036854775807
      ·
       rw [if_pos c20] at H
       have c20b0 := eq_true c20
       have c20s := c20
       simp only [ByteArray.size_append, show (⟨#[32, 83, 73, 90, 69, 61]⟩ : ByteArray).size = 6 from rfl, show (⟨#[77, 65, 73, 76, 32, 70, 82, 79, 77, 58]⟩ : ByteArray).size = 10 from rfl] at c20s
       have c20b1 : decide ((((⟨#[77, 65, 73, 76, 32, 70, 82, 79, 77, 58]⟩ : ByteArray) ++ t389) ++ (⟨#[32, 83, 73, 90, 69, 61]⟩ : ByteArray)).size + t390.size ≤ 9223372036854775807) = true := decide_eq_true c20
       try have c20b2 : (9223372036854775807 < (((⟨#[77, 65, 73, 76, 32, 70, 82, 79, 77, 58]⟩ : ByteArray) ++ t389) ++ (⟨#[32, 83, 73, 90, 69, 61]⟩ : ByteArray)).size + t390.size) = False := eq_false (Nat.not_lt.2 c20)
       by_cases c21 : ((((⟨#[77, 65, 73, 76, 32, 70, 82, 79, 77, 58]⟩ : ByteArray) ++ t389) ++ (⟨#[32, 83, 73, 90, 69, 61]⟩ : ByteArray)) ++ t390).size + 6 ≤ 9223372036854775807
       ·
        rw [if_pos c21] at H
        have c21b0 := eq_true c21
        have c21s := c21
        simp only [ByteArray.size_append, show (⟨#[32, 83, 73, 90, 69, 61]⟩ : ByteArray).size = 6 from rfl, show (⟨#[77, 65, 73, 76, 32, 70, 82, 79, 77, 58]⟩ : ByteArray).size = 10 from rfl] at c21s
        have c21b1 : decide (((((⟨#[77, 65, 73, 76, 32, 70, 82, 79, 77, 58]⟩ : ByteArray) ++ t389) ++ (⟨#[32, 83, 73, 90, 69, 61]⟩ : ByteArray)) ++ t390).size + 6 ≤ 9223372036854775807) = true := decide_eq_true c21
        try have c21b2 : (9223372036854775807 < ((((⟨#[77, 65, 73, 76, 32, 70, 82, 79, 77, 58]⟩ : ByteArray) ++ t389) ++ (⟨#[32, 83, 73, 90, 69, 61]⟩ : ByteArray)) ++ t390).size + 6) = False := eq_false (Nat.not_lt.2 c21)
        by_cases c22 : (((((⟨#[77, 65, 73, 76, 32, 70, 82, 79, 77, 58]⟩ : ByteArray) ++ t389) ++ (⟨#[32, 83, 73, 90, 69, 61]⟩ : ByteArray)) ++ t390) ++ (⟨#[32, 83, 73, 90, 69, 61]⟩ : ByteArray)).size + t390.size ≤ 9223372036854775807
        ·
         rw [if_pos c22] at H
         have c22b0 := eq_true c22
         have c22s := c22
         simp only [ByteArray.size_append, show (⟨#[32, 83, 73, 90, 69, 61]⟩ : ByteArray).size = 6 from rfl, show (⟨#[77, 65, 73, 76, 32, 70, 82, 79, 77, 58]⟩ : ByteArray).size = 10 from rfl] at c22s
         have c22b1 : decide ((((((⟨#[77, 65, 73, 76, 32, 70, 82, 79, 77, 58]⟩ : ByteArray) ++ t389) ++ (⟨#[32, 83, 73, 90, 69, 61]⟩ : ByteArray)) ++ t390) ++ (⟨#[32, 83, 73, 90, 69, 61]⟩ : ByteArray)).size + t390.size ≤ 9223372036854775807) = true := decide_eq_true c22
         try have c22b2 : (9223372036854775807 < (((((⟨#[77, 65, 73, 76, 32, 70, 82, 79, 77, 58]⟩ : ByteArray) ++ t389) ++ (⟨#[32, 83, 73, 90, 69, 61]⟩ : ByteArray)) ++ t390) ++ (⟨#[32, 83, 73, 90, 69, 61]⟩ : ByteArray)).size + t390.size) = False := eq_false (Nat.not_lt.2 c22)
         by_cases c23 : ((⟨#[77, 65, 73, 76, 32, 70, 82, 79, 77, 58]⟩ : ByteArray) ++ t389).size + 13 ≤ 9223372036854775807
         ·
          rw [if_pos c23] at H
          have c23b0 := eq_true c23
          have c23s := c23
          simp only [ByteArray.size_append, show (⟨#[77, 65, 73, 76, 32, 70, 82, 79, 77, 58]⟩ : ByteArray).size = 10 from rfl] at c23s
          have c23b1 : decide (((⟨#[77, 65, 73, 76, 32, 70, 82, 79, 77, 58]⟩ : ByteArray) ++ t389).size + 13 ≤ 9223372036854775807) = true := decide_eq_true c23
          try have c23b2 : (9223372036854775807 < ((⟨#[77, 65, 73, 76, 32, 70, 82, 79, 77, 58]⟩ : ByteArray) ++ t389).size + 13) = False := eq_false (Nat.not_lt.2 c23)
          by_cases c24 : 8 + t389.size ≤ 9223372036854775807
          ·
           rw [if_pos c24] at H
           have c24b0 := eq_true c24
           have c24b1 : decide (8 + t389.size ≤ 9223372036854775807) = true := decide_eq_true c24
           try have c24b2 : (9223372036854775807 < 8 + t389.size) = False := eq_false (Nat.not_lt.2 c24)
           by_cases c25 : ((⟨#[82, 67, 80, 84, 32, 84, 79, 58]⟩ : ByteArray) ++ t389).size + 6 ≤ 9223372036854775807
           ·
            rw [if_pos c25] at H
            have c25b0 := eq_true c25
            have c25s := c25
            simp only [ByteArray.size_append, show (⟨#[82, 67, 80, 84, 32, 84, 79, 58]⟩ : ByteArray).size = 8 from rfl] at c25s
            have c25b1 : decide (((⟨#[82, 67, 80, 84, 32, 84, 79, 58]⟩ : ByteArray) ++ t389).size + 6 ≤ 9223372036854775807) = true := decide_eq_true c25
            try have c25b2 : (9223372036854775807 < ((⟨#[82, 67, 80, 84, 32, 84, 79, 58]⟩ : ByteArray) ++ t389).size + 6) = False := eq_false (Nat.not_lt.2 c25)
            by_cases c26 : (((⟨#[82, 67, 80, 84, 32, 84, 79, 58]⟩ : ByteArray) ++ t389) ++ (⟨#[32, 83, 73, 90, 69, 61]⟩ : ByteArray)).size + t390.size ≤ 9223372036854775807
            ·
             rw [if_pos c26] at H
             have c26b0 := eq_true c26
             have c26s := c26
             simp only [ByteArray.size_append, show (⟨#[32, 83, 73, 90, 69, 61]⟩ : ByteArray).size = 6 from rfl, show (⟨#[82, 67, 80, 84, 32, 84, 79, 58]⟩ : ByteArray).size = 8 from rfl] at c26s
             have c26b1 : decide ((((⟨#[82, 67, 80, 84, 32, 84, 79, 58]⟩ : ByteArray) ++ t389) ++ (⟨#[32, 83, 73, 90, 69, 61]⟩ : ByteArray)).size + t390.size ≤ 9223372036854775807) = true := decide_eq_true c26
             try have c26b2 : (9223372036854775807 < (((⟨#[82, 67, 80, 84, 32, 84, 79, 58]⟩ : ByteArray) ++ t389) ++ (⟨#[32, 83, 73, 90, 69, 61]⟩ : ByteArray)).size + t390.size) = False := eq_false (Nat.not_lt.2 c26)
             by_cases c27 : ((⟨#[77, 65, 73, 76, 32, 70, 82, 79, 77, 58]⟩ : ByteArray) ++ t389).size + 7 ≤ 9223372036854775807
             ·
              rw [if_pos c27] at H
              have c27b0 := eq_true c27
              have c27s := c27
              simp only [ByteArray.size_append, show (⟨#[77, 65, 73, 76, 32, 70, 82, 79, 77, 58]⟩ : ByteArray).size = 10 from rfl] at c27s
              have c27b1 : decide (((⟨#[77, 65, 73, 76, 32, 70, 82, 79, 77, 58]⟩ : ByteArray) ++ t389).size + 7 ≤ 9223372036854775807) = true := decide_eq_true c27
              try have c27b2 : (9223372036854775807 < ((⟨#[77, 65, 73, 76, 32, 70, 82, 79, 77, 58]⟩ : ByteArray) ++ t389).size + 7) = False := eq_false (Nat.not_lt.2 c27)
              by_cases c28 : (((⟨#[77, 65, 73, 76, 32, 70, 82, 79, 77, 58]⟩ : ByteArray) ++ t389) ++ (⟨#[32, 83, 73, 90, 69, 61, 48]⟩ : ByteArray)).size + t390.size ≤ 9223372036854775807
              ·
               rw [if_pos c28] at H
               have c28b0 := eq_true c28
               have c28s := c28
               simp only [ByteArray.size_append, show (⟨#[32, 83, 73, 90, 69, 61, 48]⟩ : ByteArray).size = 7 from rfl, show (⟨#[77, 65, 73, 76, 32, 70, 82, 79, 77, 58]⟩ : ByteArray).size = 10 from rfl] at c28s
               have c28b1 : decide ((((⟨#[77, 65, 73, 76, 32, 70, 82, 79, 77, 58]⟩ : ByteArray) ++ t389) ++ (⟨#[32, 83, 73, 90, 69, 61, 48]⟩ : ByteArray)).size + t390.size ≤ 9223372036854775807) = true := decide_eq_true c28
               try have c28b2 : (9223372036854775807 < (((⟨#[77, 65, 73, 76, 32, 70, 82, 79, 77, 58]⟩ : ByteArray) ++ t389) ++ (⟨#[32, 83, 73, 90, 69, 61, 48]⟩ : ByteArray)).size + t390.size) = False := eq_false (Nat.not_lt.2 c28)
               by_cases c29 : (((⟨#[77, 65, 73, 76, 32, 70, 82, 79, 77, 58]⟩ : ByteArray) ++ t389) ++ (⟨#[32, 32, 83, 73, 90, 69, 61]⟩ : ByteArray)).size + t390.size ≤ 9223372036854775807
               ·
                rw [if_pos c29] at H
                have c29b0 := eq_true c29
                have c29s := c29
                simp only [ByteArray.size_append, show (⟨#[32, 32, 83, 73, 90, 69, 61]⟩ : ByteArray).size = 7 from rfl, show (⟨#[77, 65, 73, 76, 32, 70, 82, 79, 77, 58]⟩ : ByteArray).size = 10 from rfl] at c29s
                have c29b1 : decide ((((⟨#[77, 65, 73, 76, 32, 70, 82, 79, 77, 58]⟩ : ByteArray) ++ t389) ++ (⟨#[32, 32, 83, 73, 90, 69, 61]⟩ : ByteArray)).size + t390.size ≤ 9223372036854775807) = true := decide_eq_true c29
                try have c29b2 : (9223372036854775807 < (((⟨#[77, 65, 73, 76, 32, 70, 82, 79, 77, 58]⟩ : ByteArray) ++ t389) ++ (⟨#[32, 32, 83, 73, 90, 69, 61]⟩ : ByteArray)).size + t390.size) = False := eq_false (Nat.not_lt.2 c29)
                by_cases c30 : 11 + t389.size ≤ 9223372036854775807
                ·
                 rw [if_pos c30] at H
                 have c30b0 := eq_true c30
                 have c30b1 : decide (11 + t389.size ≤ 9223372036854775807) = true := decide_eq_true c30
                 try have c30b2 : (9223372036854775807 < 11 + t389.size) = False := eq_false (Nat.not_lt.2 c30)
                 by_cases c31 : ((⟨#[82, 67, 80, 84, 32, 84, 79, 58]⟩ : ByteArray) ++ t389).size + 14 ≤ 9223372036854775807
                 ·
                  rw [if_pos c31] at H
                  have c31b0 := eq_true c31
                  have c31s := c31
                  simp only [ByteArray.size_append, show (⟨#[82, 67, 80, 84, 32, 84, 79, 58]⟩ : ByteArray).size = 8 from rfl] at c31s
                  have c31b1 : decide (((⟨#[82, 67, 80, 84, 32, 84, 79, 58]⟩ : ByteArray) ++ t389).size + 14 ≤ 9223372036854775807) = true := decide_eq_true c31
                  try have c31b2 : (9223372036854775807 < ((⟨#[82, 67, 80, 84, 32, 84, 79, 58]⟩ : ByteArray) ++ t389).size + 14) = False := eq_false (Nat.not_lt.2 c31)
                  obtain ⟨y391, hy391⟩ : ∃ y_ : List ByteArray, y_ = (([(((((⟨#[77, 65, 73, 76, 32, 70, 82, 79, 77, 58]⟩ : ByteArray) ++ t389) ++ (⟨#[32, 83, 73, 90, 69, 61]⟩ : ByteArray)) ++ t390) ++ (⟨#[32, 83, 73, 90, 69, 61]⟩ : ByteArray)) ++ t390, ((⟨#[77, 65, 73, 76, 32, 70, 82, 79, 77, 58]⟩ : ByteArray) ++ t389) ++ (⟨#[32, 78, 79, 84, 73, 70, 89, 61, 78, 69, 86, 69, 82]⟩ : ByteArray), (((⟨#[82, 67, 80, 84, 32, 84, 79, 58]⟩ : ByteArray) ++ t389) ++ (⟨#[32, 83, 73, 90, 69, 61]⟩ : ByteArray)) ++ t390, (⟨#[82, 67, 80, 84, 32, 84, 79, 58, 60, 62]⟩ : ByteArray), (((⟨#[77, 65, 73, 76, 32, 70, 82, 79, 77, 58]⟩ : ByteArray) ++ t389) ++ (⟨#[32, 83, 73, 90, 69, 61, 48]⟩ : ByteArray)) ++ t390, (((⟨#[77, 65, 73, 76, 32, 70, 82, 79, 77, 58]⟩ : ByteArray) ++ t389) ++ (⟨#[32, 32, 83, 73, 90, 69, 61]⟩ : ByteArray)) ++ t390, (⟨#[77, 65, 73, 76, 32, 70, 82, 79, 77, 58, 32]⟩ : ByteArray) ++ t389, ((⟨#[82, 67, 80, 84, 32, 84, 79, 58]⟩ : ByteArray) ++ t389) ++ (⟨#[32, 78, 79, 84, 73, 70, 89, 61, 65, 76, 87, 65, 89, 83]⟩ : ByteArray)] : List ByteArray)) := ⟨_, rfl⟩
                  replace H : (if 0 ≤ (wrap64 (Int.tmod (IntKind.u64.wrap (a2)) 8)) then (if (wrap64 (Int.tmod (IntKind.u64.wrap (a2)) 8)) < (y391.length : Int) then ((verb_Parse.f kj3 (rdOf ByteArray.empty y391 (wrap64 (Int.tmod (IntKind.u64.wrap (a2)) 8)))).bind fun bt395 => (if ((((⟨#[77, 65, 73, 76, 32, 70, 82, 79, 77, 58]⟩ : ByteArray) ++ t389) ++ (⟨#[32, 83, 73, 90, 69, 61]⟩ : ByteArray)) ++ t390).size + 9 ≤ 9223372036854775807 then ((verb_Parse.f kj3 (((((⟨#[77, 65, 73, 76, 32, 70, 82, 79, 77, 58]⟩ : ByteArray) ++ t389) ++ (⟨#[32, 83, 73, 90, 69, 61]⟩ : ByteArray)) ++ t390) ++ (⟨#[32, 82, 69, 84, 61, 104, 100, 114, 115]⟩ : ByteArray))).bind fun bt405 => (if ((((((⟨#[77, 65, 73, 76, 32, 70, 82, 79, 77, 58]⟩ : ByteArray) ++ t389) ++ (⟨#[32, 83, 73, 90, 69, 61]⟩ : ByteArray)) ++ t390) ++ (⟨#[32, 82, 69, 84, 61, 104, 100, 114, 115]⟩ : ByteArray)).size : Int) > 510 then (some true) else ((verb_Param.f bt405.1 bt405.2.1 bt405.2.2.1 bt405.2.2.2.1 bt405.2.2.2.2.1 bt405.2.2.2.2.2.1 (⟨#[83, 73, 90, 69]⟩ : ByteArray)).bind fun bt415 => ((verb_Param.f bt405.1 bt405.2.1 bt405.2.2.1 bt405.2.2.2.1 bt405.2.2.2.2.1 bt405.2.2.2.2.2.1 (⟨#[82, 69, 84]⟩ : ByteArray)).bind fun bt417 => ((verb_Param.f bt405.1 bt405.2.1 bt405.2.2.1 bt405.2.2.2.1 bt405.2.2.2.2.1 bt405.2.2.2.2.2.1 (⟨#[78, 79, 84, 73, 70, 89]⟩ : ByteArray)).bind fun bt419 => (if bt395.2.2.2.2.2.2 = 501 then (if bt405.2.2.2.2.2.2 = 0 then (if bt415.2 = true then (if bt415.1.toList = t390.toList then (if bt417.2 = true then (if bt417.1.toList = ([72, 68, 82, 83] : List UInt8) then (if bt419.2 = true then (some false) else ((wherrykeep_Path.f bt405.2.2.1 bt405.2.2.2.1 bt405.2.2.2.2.1 a0_0 a0_1 a0_2).bind fun t421 => (if t421 = true then ((wherrylaw12_wakes.f kj3).bind fun t422 => (some t422)) else (some false)))) else (some false)) else (some false)) else (some false)) else (some false)) else (some false)) else (some false))))))) else (none))) else (none)) else (none)) = some r := by first | (rw [hy391]; with_reducible exact H) | (have H2_ := (Option.bind_some _ _).symm.trans H; rw [hy391]; with_reducible exact H2_) | (have H2_ := (Option.bind_some _ _).symm.trans H; with_reducible exact H2_) | with_reducible exact H | (rw [hy391]; exact H) | exact H
                  have Ny391 := Aside0.mk hy391
                  clear hy391
                  obtain ⟨ji32, hji32⟩ : ∃ j_ : Int, (wrap64 (Int.tmod (IntKind.u64.wrap (a2)) 8)) = j_ := ⟨_, rfl⟩
                  replace H : (if 0 ≤ (ji32) then (if (ji32) < (y391.length : Int) then ((verb_Parse.f kj3 (rdOf ByteArray.empty y391 (ji32))).bind fun bt395 => (if ((((⟨#[77, 65, 73, 76, 32, 70, 82, 79, 77, 58]⟩ : ByteArray) ++ t389) ++ (⟨#[32, 83, 73, 90, 69, 61]⟩ : ByteArray)) ++ t390).size + 9 ≤ 9223372036854775807 then ((verb_Parse.f kj3 (((((⟨#[77, 65, 73, 76, 32, 70, 82, 79, 77, 58]⟩ : ByteArray) ++ t389) ++ (⟨#[32, 83, 73, 90, 69, 61]⟩ : ByteArray)) ++ t390) ++ (⟨#[32, 82, 69, 84, 61, 104, 100, 114, 115]⟩ : ByteArray))).bind fun bt405 => (if ((((((⟨#[77, 65, 73, 76, 32, 70, 82, 79, 77, 58]⟩ : ByteArray) ++ t389) ++ (⟨#[32, 83, 73, 90, 69, 61]⟩ : ByteArray)) ++ t390) ++ (⟨#[32, 82, 69, 84, 61, 104, 100, 114, 115]⟩ : ByteArray)).size : Int) > 510 then (some true) else ((verb_Param.f bt405.1 bt405.2.1 bt405.2.2.1 bt405.2.2.2.1 bt405.2.2.2.2.1 bt405.2.2.2.2.2.1 (⟨#[83, 73, 90, 69]⟩ : ByteArray)).bind fun bt415 => ((verb_Param.f bt405.1 bt405.2.1 bt405.2.2.1 bt405.2.2.2.1 bt405.2.2.2.2.1 bt405.2.2.2.2.2.1 (⟨#[82, 69, 84]⟩ : ByteArray)).bind fun bt417 => ((verb_Param.f bt405.1 bt405.2.1 bt405.2.2.1 bt405.2.2.2.1 bt405.2.2.2.2.1 bt405.2.2.2.2.2.1 (⟨#[78, 79, 84, 73, 70, 89]⟩ : ByteArray)).bind fun bt419 => (if bt395.2.2.2.2.2.2 = 501 then (if bt405.2.2.2.2.2.2 = 0 then (if bt415.2 = true then (if bt415.1.toList = t390.toList then (if bt417.2 = true then (if bt417.1.toList = ([72, 68, 82, 83] : List UInt8) then (if bt419.2 = true then (some false) else ((wherrykeep_Path.f bt405.2.2.1 bt405.2.2.2.1 bt405.2.2.2.2.1 a0_0 a0_1 a0_2).bind fun t421 => (if t421 = true then ((wherrylaw12_wakes.f kj3).bind fun t422 => (some t422)) else (some false)))) else (some false)) else (some false)) else (some false)) else (some false)) else (some false)) else (some false))))))) else (none))) else (none)) else (none)) = some r := by first | (rw [hji32] at H; exact H) | (simp only [hji32] at H ⊢; exact H)
                  (try rw [hji32] at A16)
                  (try rw [hji32] at A17)
                  have hji32w : (IntKind.i64.wrap (Int.tmod (IntKind.u64.wrap (a2)) 8)) = ji32 := (i64_w _).trans hji32
                  by_cases c33 : 0 ≤ (ji32)
                  ·
                   rw [if_pos c33] at H
                   have c33b0 : decide (0 ≤ (ji32)) = true := decide_eq_true c33
                   clear c33
                   by_cases c34 : (ji32) < (y391.length : Int)
                   ·
                    rw [if_pos c34] at H
                    have c34b0 : decide ((ji32) < (y391.length : Int)) = true := decide_eq_true c34
                    clear c34
                    replace H := Option.bind_eq_some_iff.mp H
                    obtain ⟨⟨t395, t396, t397, t398, t399, t400, t403⟩, A350, H⟩ := H
                    try dsimp -simprocs only at H
                    have A35 := Aside0.mk A350
                    clear A350
                    by_cases c36 : ((((⟨#[77, 65, 73, 76, 32, 70, 82, 79, 77, 58]⟩ : ByteArray) ++ t389) ++ (⟨#[32, 83, 73, 90, 69, 61]⟩ : ByteArray)) ++ t390).size + 9 ≤ 9223372036854775807
                    ·
                     rw [if_pos c36] at H
                     have c36b0 := eq_true c36
                     have c36s := c36
                     simp only [ByteArray.size_append, show (⟨#[32, 83, 73, 90, 69, 61]⟩ : ByteArray).size = 6 from rfl, show (⟨#[77, 65, 73, 76, 32, 70, 82, 79, 77, 58]⟩ : ByteArray).size = 10 from rfl] at c36s
                     have c36b1 : decide (((((⟨#[77, 65, 73, 76, 32, 70, 82, 79, 77, 58]⟩ : ByteArray) ++ t389) ++ (⟨#[32, 83, 73, 90, 69, 61]⟩ : ByteArray)) ++ t390).size + 9 ≤ 9223372036854775807) = true := decide_eq_true c36
                     try have c36b2 : (9223372036854775807 < ((((⟨#[77, 65, 73, 76, 32, 70, 82, 79, 77, 58]⟩ : ByteArray) ++ t389) ++ (⟨#[32, 83, 73, 90, 69, 61]⟩ : ByteArray)) ++ t390).size + 9) = False := eq_false (Nat.not_lt.2 c36)
                     replace H := Option.bind_eq_some_iff.mp H
                     obtain ⟨⟨t405, t406, t407, t408, t409, t410, t413⟩, A370, H⟩ := H
                     try dsimp -simprocs only at H
                     have A37 := Aside0.mk A370
                     clear A370
                     by_cases c38 : ((((((⟨#[77, 65, 73, 76, 32, 70, 82, 79, 77, 58]⟩ : ByteArray) ++ t389) ++ (⟨#[32, 83, 73, 90, 69, 61]⟩ : ByteArray)) ++ t390) ++ (⟨#[32, 82, 69, 84, 61, 104, 100, 114, 115]⟩ : ByteArray)).size : Int) > 510
                     ·
                      rw [if_pos c38] at H
                      have c38b0 : decide (510 < ((((((⟨#[77, 65, 73, 76, 32, 70, 82, 79, 77, 58]⟩ : ByteArray) ++ t389) ++ (⟨#[32, 83, 73, 90, 69, 61]⟩ : ByteArray)) ++ t390) ++ (⟨#[32, 82, 69, 84, 61, 104, 100, 114, 115]⟩ : ByteArray)).size : Int)) = true := decide_eq_true c38
                      have c38d : decide (510 < (10 + (t389.size : Int) + 6 + (t390.size : Int) + 9)) = true := decide_eq_true (by have h_ := c38; simp only [ByteArray.size_append, show (⟨#[32, 82, 69, 84, 61, 104, 100, 114, 115]⟩ : ByteArray).size = 9 from rfl, show (⟨#[32, 83, 73, 90, 69, 61]⟩ : ByteArray).size = 6 from rfl, show (⟨#[77, 65, 73, 76, 32, 70, 82, 79, 77, 58]⟩ : ByteArray).size = 10 from rfl] at h_; omega)
                      have c38b1 : decide (510 < (((((⟨#[77, 65, 73, 76, 32, 70, 82, 79, 77, 58]⟩ : ByteArray) ++ t389) ++ (⟨#[32, 83, 73, 90, 69, 61]⟩ : ByteArray)) ++ t390) ++ (⟨#[32, 82, 69, 84, 61, 104, 100, 114, 115]⟩ : ByteArray)).size) = true := decide_eq_true (by omega)
                      clear c38
                      obtain rfl := Option.some.inj H
                      have hcz39_0 := sC BK387.out 0
                      have hcz39_1 := sC BK387.out 1
                      have hcz39_2 := sC BK387.out 2
                      have hfz39_0 := blk_frozen BK387.out 0
                      have hfz39_1 := blk_frozen BK387.out 1
                      have hfz39_2 := blk_frozen BK387.out 2
                      go_wp2_with (first | ((with_reducible refine gate_callee (f := 15) rfl ?_); refine goesL_ (some 38) rfl rfl Tryz.func15 (by kernel_rfl) rfl #[.agg #[.bool a0_0, .string a0_1, .string a0_2]] rfl sM ?_; (with_reducible refine (wherryref11_Text.calls a0_0 a0_1 a0_2 t389 _ A16.out).mono ?_); rintro e w40 ⟨rfl, hb⟩; refine ⟨_, rfl, ?_⟩; replace BK387 := Aside0.mk (blk_below (g := gb387) (o := .cells #[.bool a0_0, .string a0_1, .string a0_2] 23 (0, 0)) (sK BK387.out) hb); replace HB := Aside0.mk (below_step (sB HB.out) hb); (try clear hb)) | ((with_reducible refine gate_callee (f := 16) rfl ?_); refine goesL_ (some 43) rfl rfl Tryz.func16 (by kernel_rfl) rfl #[.int .i64 (wrap64 (Int.tmod (IntKind.u64.wrap (a1)) 1000000000))] rfl sM ?_; (with_reducible refine (wherryref11_Digits.calls kj3 (wrap64 (Int.tmod (IntKind.u64.wrap (a1)) 1000000000)) t390 _ A17.out).mono ?_); rintro e w' ⟨rfl, ⟨nd, rfl⟩⟩; refine ⟨_, rfl, ?_⟩; (try (rw [drewN_self w40]; generalize hq_ : World.drewN w40 _ = w40; have n0_ : Aside0 (w40.heap[gb387]? = some (.cells #[.bool a0_0, .string a0_1, .string a0_2] 23 (0, 0))) := ⟨by rw [← hq_]; exact (sK BK387.out)⟩; have n1_ : Aside0 (Below w.heap.size w w40) := ⟨by rw [← hq_]; exact (sB HB.out)⟩; clear BK387 HB hq_; have BK387 := n0_; have HB := n1_; clear n0_ n1_))) | ((with_reducible refine gate_dst (N := 75) rfl ?_); refine Kd.R_lit Kd.string _ 9 ?hg (N := 75) ?hd (xs := ([(((((⟨#[77, 65, 73, 76, 32, 70, 82, 79, 77, 58]⟩ : ByteArray) ++ t389) ++ (⟨#[32, 83, 73, 90, 69, 61]⟩ : ByteArray)) ++ t390) ++ (⟨#[32, 83, 73, 90, 69, 61]⟩ : ByteArray)) ++ t390, ((⟨#[77, 65, 73, 76, 32, 70, 82, 79, 77, 58]⟩ : ByteArray) ++ t389) ++ (⟨#[32, 78, 79, 84, 73, 70, 89, 61, 78, 69, 86, 69, 82]⟩ : ByteArray), (((⟨#[82, 67, 80, 84, 32, 84, 79, 58]⟩ : ByteArray) ++ t389) ++ (⟨#[32, 83, 73, 90, 69, 61]⟩ : ByteArray)) ++ t390, (⟨#[82, 67, 80, 84, 32, 84, 79, 58, 60, 62]⟩ : ByteArray), (((⟨#[77, 65, 73, 76, 32, 70, 82, 79, 77, 58]⟩ : ByteArray) ++ t389) ++ (⟨#[32, 83, 73, 90, 69, 61, 48]⟩ : ByteArray)) ++ t390, (((⟨#[77, 65, 73, 76, 32, 70, 82, 79, 77, 58]⟩ : ByteArray) ++ t389) ++ (⟨#[32, 32, 83, 73, 90, 69, 61]⟩ : ByteArray)) ++ t390, (⟨#[77, 65, 73, 76, 32, 70, 82, 79, 77, 58, 32]⟩ : ByteArray) ++ t389, ((⟨#[82, 67, 80, 84, 32, 84, 79, 58]⟩ : ByteArray) ++ t389) ++ (⟨#[32, 78, 79, 84, 73, 70, 89, 61, 65, 76, 87, 65, 89, 83]⟩ : ByteArray)] : List ByteArray)) (inner := [.string ((((((⟨#[77, 65, 73, 76, 32, 70, 82, 79, 77, 58]⟩ : ByteArray) ++ t389) ++ (⟨#[32, 83, 73, 90, 69, 61]⟩ : ByteArray)) ++ t390) ++ (⟨#[32, 83, 73, 90, 69, 61]⟩ : ByteArray)) ++ t390), .string (((⟨#[77, 65, 73, 76, 32, 70, 82, 79, 77, 58]⟩ : ByteArray) ++ t389) ++ (⟨#[32, 78, 79, 84, 73, 70, 89, 61, 78, 69, 86, 69, 82]⟩ : ByteArray)), .string ((((⟨#[82, 67, 80, 84, 32, 84, 79, 58]⟩ : ByteArray) ++ t389) ++ (⟨#[32, 83, 73, 90, 69, 61]⟩ : ByteArray)) ++ t390), .string ⟨#[82, 67, 80, 84, 32, 84, 79, 58, 60, 62]⟩, .string ((((⟨#[77, 65, 73, 76, 32, 70, 82, 79, 77, 58]⟩ : ByteArray) ++ t389) ++ (⟨#[32, 83, 73, 90, 69, 61, 48]⟩ : ByteArray)) ++ t390), .string ((((⟨#[77, 65, 73, 76, 32, 70, 82, 79, 77, 58]⟩ : ByteArray) ++ t389) ++ (⟨#[32, 32, 83, 73, 90, 69, 61]⟩ : ByteArray)) ++ t390), .string ((⟨#[77, 65, 73, 76, 32, 70, 82, 79, 77, 58, 32]⟩ : ByteArray) ++ t389), .string (((⟨#[82, 67, 80, 84, 32, 84, 79, 58]⟩ : ByteArray) ++ t389) ++ (⟨#[32, 78, 79, 84, 73, 70, 89, 61, 65, 76, 87, 65, 89, 83]⟩ : ByteArray))]) (ok := fun _ => True) (okp := fun _ => True) ?hr ?hp (fun _ hk => hk) trivial (Below.refl _ _) (Nat.le_refl _) (by simp) ?_; (case hd => rfl); (case hg => rfl); (case hr => first | (go_simp; done) | (go_simp; rfl)); (case hp => exact (Reps.one (show Kd.M Kd.string _ _ _ ((((((⟨#[77, 65, 73, 76, 32, 70, 82, 79, 77, 58]⟩ : ByteArray) ++ t389) ++ (⟨#[32, 83, 73, 90, 69, 61]⟩ : ByteArray)) ++ t390) ++ (⟨#[32, 83, 73, 90, 69, 61]⟩ : ByteArray)) ++ t390) [.string ((((((⟨#[77, 65, 73, 76, 32, 70, 82, 79, 77, 58]⟩ : ByteArray) ++ t389) ++ (⟨#[32, 83, 73, 90, 69, 61]⟩ : ByteArray)) ++ t390) ++ (⟨#[32, 83, 73, 90, 69, 61]⟩ : ByteArray)) ++ t390)] from rfl) (Reps.one (show Kd.M Kd.string _ _ _ (((⟨#[77, 65, 73, 76, 32, 70, 82, 79, 77, 58]⟩ : ByteArray) ++ t389) ++ (⟨#[32, 78, 79, 84, 73, 70, 89, 61, 78, 69, 86, 69, 82]⟩ : ByteArray)) [.string (((⟨#[77, 65, 73, 76, 32, 70, 82, 79, 77, 58]⟩ : ByteArray) ++ t389) ++ (⟨#[32, 78, 79, 84, 73, 70, 89, 61, 78, 69, 86, 69, 82]⟩ : ByteArray))] from rfl) (Reps.one (show Kd.M Kd.string _ _ _ ((((⟨#[82, 67, 80, 84, 32, 84, 79, 58]⟩ : ByteArray) ++ t389) ++ (⟨#[32, 83, 73, 90, 69, 61]⟩ : ByteArray)) ++ t390) [.string ((((⟨#[82, 67, 80, 84, 32, 84, 79, 58]⟩ : ByteArray) ++ t389) ++ (⟨#[32, 83, 73, 90, 69, 61]⟩ : ByteArray)) ++ t390)] from rfl) (Reps.one (show Kd.M Kd.string _ _ _ (⟨#[82, 67, 80, 84, 32, 84, 79, 58, 60, 62]⟩ : ByteArray) [.string ⟨#[82, 67, 80, 84, 32, 84, 79, 58, 60, 62]⟩] from rfl) (Reps.one (show Kd.M Kd.string _ _ _ ((((⟨#[77, 65, 73, 76, 32, 70, 82, 79, 77, 58]⟩ : ByteArray) ++ t389) ++ (⟨#[32, 83, 73, 90, 69, 61, 48]⟩ : ByteArray)) ++ t390) [.string ((((⟨#[77, 65, 73, 76, 32, 70, 82, 79, 77, 58]⟩ : ByteArray) ++ t389) ++ (⟨#[32, 83, 73, 90, 69, 61, 48]⟩ : ByteArray)) ++ t390)] from rfl) (Reps.one (show Kd.M Kd.string _ _ _ ((((⟨#[77, 65, 73, 76, 32, 70, 82, 79, 77, 58]⟩ : ByteArray) ++ t389) ++ (⟨#[32, 32, 83, 73, 90, 69, 61]⟩ : ByteArray)) ++ t390) [.string ((((⟨#[77, 65, 73, 76, 32, 70, 82, 79, 77, 58]⟩ : ByteArray) ++ t389) ++ (⟨#[32, 32, 83, 73, 90, 69, 61]⟩ : ByteArray)) ++ t390)] from rfl) (Reps.one (show Kd.M Kd.string _ _ _ ((⟨#[77, 65, 73, 76, 32, 70, 82, 79, 77, 58, 32]⟩ : ByteArray) ++ t389) [.string ((⟨#[77, 65, 73, 76, 32, 70, 82, 79, 77, 58, 32]⟩ : ByteArray) ++ t389)] from rfl) (Reps.one (show Kd.M Kd.string _ _ _ (((⟨#[82, 67, 80, 84, 32, 84, 79, 58]⟩ : ByteArray) ++ t389) ++ (⟨#[32, 78, 79, 84, 73, 70, 89, 61, 65, 76, 87, 65, 89, 83]⟩ : ByteArray)) [.string (((⟨#[82, 67, 80, 84, 32, 84, 79, 58]⟩ : ByteArray) ++ t389) ++ (⟨#[32, 78, 79, 84, 73, 70, 89, 61, 65, 76, 87, 65, 89, 83]⟩ : ByteArray))] from rfl) (Reps.none _ _)))))))))); intro v392 w41 ho42 hb hg_ hnew_; clear hg_ hnew_; (first | rw [← Ny391.out] at ho42 | (simp only [Int.reduceToNat] at ho42; rw [← Ny391.out] at ho42)); have HO393 := Aside0.mk (Kd.R_lower ho42 (below_size (sB HB.out))); replace BK387 := Aside0.mk (blk_below (g := gb387) (o := .cells #[.bool a0_0, .string a0_1, .string a0_2] 23 (0, 0)) (sK BK387.out) hb); replace HB := Aside0.mk (below_step (sB HB.out) hb); clear hb ho42; obtain ⟨Ao43, co43, eo43⟩ := Kd.R_slice HO393.out; subst eo43; have p394 : 0 ≤ ((ji32) : Int) := of_decide_eq_true sA; have q394 : (ji32) < (y391.length : Int) := of_decide_eq_true sA; obtain ⟨ad394, e394, hx394_0⟩ := Kd.at_string (Kd.R_reads' HO393.out).2.2 (ji32) p394 q394; cases e394; replace p394 := eq_true p394; replace q394 := eq_true q394) | ((with_reducible refine gate_callee (f := 6) rfl ?_); refine goesL_ (some 84) rfl rfl Tryz.func6 (by kernel_rfl) rfl #[.string (rdOf ByteArray.empty y391 (ji32))] rfl (by (try simp only [List.map_toArray, List.map_cons, List.map_nil]); first | done | (simp only [hji32]; rfl) | rfl | (simp only [List.length_drop, List.length_take]; rfl)) ?_; (with_reducible refine (verb_Parse.calls kj3 (rdOf ByteArray.empty y391 (ji32)) t395 t396 t397 t398 t399 t400 t403 _ ?side1 A35.out).mono ?_); (case side1 => exact Glob.below HG.out (sB HB.out)); rintro e w44 ⟨v401, rfl, ho0, hb⟩; refine ⟨_, rfl, ?_⟩; replace HO393 := Aside0.mk (Kd.R_below (sR HO393.out) hb); have HO402 := Aside0.mk (Kd.R_lower ho0 (below_size (sB HB.out))); replace BK387 := Aside0.mk (blk_below (g := gb387) (o := .cells #[.bool a0_0, .string a0_1, .string a0_2] 23 (0, 0)) (sK BK387.out) hb); replace HB := Aside0.mk (below_step (sB HB.out) hb); (try clear hb); (try clear ho0)) | ((with_reducible refine gate_dst (N := 10) rfl ?_); refine box_event ?hg (N := 10) ?hd (cs := #[.int .i64 0, .string ⟨#[]⟩, .bool false, .string ⟨#[]⟩, .string ⟨#[]⟩, .slice none 0 0]) (t := 26) ?hr ?_; (case hd => rfl); (case hg => rfl); (case hr => first | (go_simp; done) | (go_simp; rfl)); intro gb404 hg w45 hbox hb; replace HO393 := Aside0.mk (Kd.R_below (sR HO393.out) hb); replace HO402 := Aside0.mk (Kd.R_below (sR HO402.out) hb); have BK404 := Aside0.mk (hbox); have GW404 := Aside0.mk ((by rw [hg]; exact (below_size (sB HB.out)) : w.heap.size ≤ gb404)); have GE404 := Aside0.mk ((by rw [hg]; exact (below_size (sB HB.out)) : w.heap.size ≤ gb404)); replace HB := Aside0.mk (below_step (sB HB.out) hb); have NB387_404 := Aside0.mk ((by rw [hg]; exact Nat.ne_of_lt (blk_lt (g := gb387) (o := .cells #[.bool a0_0, .string a0_1, .string a0_2] 23 (0, 0)) (sK BK387.out)) : gb387 ≠ gb404)); have NB404_387 := Aside0.mk ((by rw [hg]; exact Nat.ne_of_gt (blk_lt (g := gb387) (o := .cells #[.bool a0_0, .string a0_1, .string a0_2] 23 (0, 0)) (sK BK387.out)) : gb404 ≠ gb387)); replace BK387 := Aside0.mk (blk_below (g := gb387) (o := .cells #[.bool a0_0, .string a0_1, .string a0_2] 23 (0, 0)) (sK BK387.out) hb); clear hb hbox hg; have hnb46 := NB404_387.out; have hnc46 := NB387_404.out; have hcz47_0 := sC BK404.out 0; have hcz47_1 := sC BK404.out 1; have hcz47_2 := sC BK404.out 2; have hcz47_3 := sC BK404.out 3; have hcz47_4 := sC BK404.out 4; have hcz47_5 := sC BK404.out 5; have hfz47_0 := blk_frozen BK404.out 0; have hfz47_1 := blk_frozen BK404.out 1; have hfz47_2 := blk_frozen BK404.out 2; have hfz47_3 := blk_frozen BK404.out 3; have hfz47_4 := blk_frozen BK404.out 4; have hfz47_5 := blk_frozen BK404.out 5; obtain ⟨Ao48, co48, eo48⟩ := Kd.R_slice HO402.out; subst eo48) | ((with_reducible refine gate_callee (f := 6) rfl ?_); refine goesL_ (some 94) rfl rfl Tryz.func6 (by kernel_rfl) rfl #[.string (((((⟨#[77, 65, 73, 76, 32, 70, 82, 79, 77, 58]⟩ : ByteArray) ++ t389) ++ (⟨#[32, 83, 73, 90, 69, 61]⟩ : ByteArray)) ++ t390) ++ (⟨#[32, 82, 69, 84, 61, 104, 100, 114, 115]⟩ : ByteArray))] rfl sM ?_; (with_reducible refine (verb_Parse.calls kj3 (((((⟨#[77, 65, 73, 76, 32, 70, 82, 79, 77, 58]⟩ : ByteArray) ++ t389) ++ (⟨#[32, 83, 73, 90, 69, 61]⟩ : ByteArray)) ++ t390) ++ (⟨#[32, 82, 69, 84, 61, 104, 100, 114, 115]⟩ : ByteArray)) t405 t406 t407 t408 t409 t410 t413 _ ?side1 A37.out).mono ?_); (case side1 => exact Glob.below HG.out (sB HB.out)); rintro e w49 ⟨v411, rfl, ho0, hb⟩; refine ⟨_, rfl, ?_⟩; replace HO393 := Aside0.mk (Kd.R_below (by (with_reducible repeat (first | apply Kd.R_alloc | apply Kd.R_drewN | apply Kd.R_drew)); exact (Kd.R_mono (Kd.R_far (p := ⟨gb404, 5, none⟩) (Kd.R_far (p := ⟨gb404, 4, none⟩) (Kd.R_far (p := ⟨gb404, 3, none⟩) (Kd.R_far (p := ⟨gb404, 2, none⟩) (Kd.R_far (p := ⟨gb404, 1, none⟩) (Kd.R_far (p := ⟨gb404, 0, none⟩) (Kd.R_types HO393.out BK404.out (by decide)) (fun _ hk => hk.2) (.int .i64 t395)) (fun _ hk => hk.2) (.string t396)) (fun _ hk => hk.2) (.bool t397)) (fun _ hk => hk.2) (.string t398)) (fun _ hk => hk.2) (.string t399)) (fun _ hk => hk.2) (.slice Ao48 t400.length co48)) (fun _ h_ => h_.1))) hb); have HO412 := Aside0.mk (Kd.R_lower (Kd.R_new' ho0 (Kd.R_lt (by (with_reducible repeat (first | apply Kd.R_alloc | apply Kd.R_drewN | apply Kd.R_drew)); exact (Kd.R_mono (Kd.R_far (p := ⟨gb404, 5, none⟩) (Kd.R_far (p := ⟨gb404, 4, none⟩) (Kd.R_far (p := ⟨gb404, 3, none⟩) (Kd.R_far (p := ⟨gb404, 2, none⟩) (Kd.R_far (p := ⟨gb404, 1, none⟩) (Kd.R_far (p := ⟨gb404, 0, none⟩) (Kd.R_types HO402.out BK404.out (by decide)) (fun _ hk => hk.2) (.int .i64 t395)) (fun _ hk => hk.2) (.string t396)) (fun _ hk => hk.2) (.bool t397)) (fun _ hk => hk.2) (.string t398)) (fun _ hk => hk.2) (.string t399)) (fun _ hk => hk.2) (.slice Ao48 t400.length co48)) (fun _ h_ => h_.1))))) (below_size (sB HB.out))); replace HO402 := Aside0.mk (Kd.R_elder' (by (with_reducible repeat (first | apply Kd.R_alloc | apply Kd.R_drewN | apply Kd.R_drew)); exact (Kd.R_mono (Kd.R_far (p := ⟨gb404, 5, none⟩) (Kd.R_far (p := ⟨gb404, 4, none⟩) (Kd.R_far (p := ⟨gb404, 3, none⟩) (Kd.R_far (p := ⟨gb404, 2, none⟩) (Kd.R_far (p := ⟨gb404, 1, none⟩) (Kd.R_far (p := ⟨gb404, 0, none⟩) (Kd.R_types HO402.out BK404.out (by decide)) (fun _ hk => hk.2) (.int .i64 t395)) (fun _ hk => hk.2) (.string t396)) (fun _ hk => hk.2) (.bool t397)) (fun _ hk => hk.2) (.string t398)) (fun _ hk => hk.2) (.string t399)) (fun _ hk => hk.2) (.slice Ao48 t400.length co48)) (fun _ h_ => h_.1))) (Kd.R_base ho0) hb); replace BK387 := Aside0.mk (blk_below (g := gb387) (o := .cells #[.bool a0_0, .string a0_1, .string a0_2] 23 (0, 0)) (by refine sK ?_; refine blk_far ?_ NB387_404.out _; refine sK ?_; refine blk_far ?_ NB387_404.out _; refine sK ?_; refine blk_far ?_ NB387_404.out _; refine sK ?_; refine blk_far ?_ NB387_404.out _; refine sK ?_; refine blk_far ?_ NB387_404.out _; refine sK ?_; refine blk_far ?_ NB387_404.out _; refine sK ?_; exact BK387.out) hb); replace BK404 := Aside0.mk (blk_below (g := gb404) (o := .cells #[.int .i64 t395, .string t396, .bool t397, .string t398, .string t399, .slice Ao48 t400.length co48] 26 (0, 0)) (by refine sK ?_; refine blk_put (cs := #[.int .i64 t395, .string t396, .bool t397, .string t398, .string t399, .slice none 0 0]) ?_ 5 _ rfl; refine sK ?_; refine blk_put (cs := #[.int .i64 t395, .string t396, .bool t397, .string t398, .string ⟨#[]⟩, .slice none 0 0]) ?_ 4 _ rfl; refine sK ?_; refine blk_put (cs := #[.int .i64 t395, .string t396, .bool t397, .string ⟨#[]⟩, .string ⟨#[]⟩, .slice none 0 0]) ?_ 3 _ rfl; refine sK ?_; refine blk_put (cs := #[.int .i64 t395, .string t396, .bool false, .string ⟨#[]⟩, .string ⟨#[]⟩, .slice none 0 0]) ?_ 2 _ rfl; refine sK ?_; refine blk_put (cs := #[.int .i64 t395, .string ⟨#[]⟩, .bool false, .string ⟨#[]⟩, .string ⟨#[]⟩, .slice none 0 0]) ?_ 1 _ rfl; refine sK ?_; refine blk_put (cs := #[.int .i64 0, .string ⟨#[]⟩, .bool false, .string ⟨#[]⟩, .string ⟨#[]⟩, .slice none 0 0]) ?_ 0 _ rfl; refine sK ?_; exact BK404.out) hb); replace HB := Aside0.mk (below_step (sB HB.out) hb); (try clear hb); (try clear hk); (try clear ho0)) | ((with_reducible refine gate_dst (N := 12) rfl ?_); refine box_event ?hg (N := 12) ?hd (cs := #[.int .i64 0, .string ⟨#[]⟩, .bool false, .string ⟨#[]⟩, .string ⟨#[]⟩, .slice none 0 0]) (t := 26) ?hr ?_; (case hd => rfl); (case hg => rfl); (case hr => first | (go_simp; done) | (go_simp; rfl)); intro gb414 hg w50 hbox hb; replace HO393 := Aside0.mk (Kd.R_below (sR HO393.out) hb); replace HO402 := Aside0.mk (Kd.R_below (sR HO402.out) hb); replace HO412 := Aside0.mk (Kd.R_below (sR HO412.out) hb); have BK414 := Aside0.mk (hbox); have GW414 := Aside0.mk ((by rw [hg]; exact (below_size (sB HB.out)) : w.heap.size ≤ gb414)); have GE414 := Aside0.mk ((by rw [hg]; exact (below_size (sB HB.out)) : w.heap.size ≤ gb414)); replace HB := Aside0.mk (below_step (sB HB.out) hb); have NB387_414 := Aside0.mk ((by rw [hg]; exact Nat.ne_of_lt (blk_lt (g := gb387) (o := .cells #[.bool a0_0, .string a0_1, .string a0_2] 23 (0, 0)) (sK BK387.out)) : gb387 ≠ gb414)); have NB414_387 := Aside0.mk ((by rw [hg]; exact Nat.ne_of_gt (blk_lt (g := gb387) (o := .cells #[.bool a0_0, .string a0_1, .string a0_2] 23 (0, 0)) (sK BK387.out)) : gb414 ≠ gb387)); replace BK387 := Aside0.mk (blk_below (g := gb387) (o := .cells #[.bool a0_0, .string a0_1, .string a0_2] 23 (0, 0)) (sK BK387.out) hb); have NB404_414 := Aside0.mk ((by rw [hg]; exact Nat.ne_of_lt (blk_lt (g := gb404) (o := .cells #[.int .i64 t395, .string t396, .bool t397, .string t398, .string t399, .slice Ao48 t400.length co48] 26 (0, 0)) (sK BK404.out)) : gb404 ≠ gb414)); have NB414_404 := Aside0.mk ((by rw [hg]; exact Nat.ne_of_gt (blk_lt (g := gb404) (o := .cells #[.int .i64 t395, .string t396, .bool t397, .string t398, .string t399, .slice Ao48 t400.length co48] 26 (0, 0)) (sK BK404.out)) : gb414 ≠ gb404)); replace BK404 := Aside0.mk (blk_below (g := gb404) (o := .cells #[.int .i64 t395, .string t396, .bool t397, .string t398, .string t399, .slice Ao48 t400.length co48] 26 (0, 0)) (sK BK404.out) hb); clear hb hbox hg; have hnb51 := NB414_387.out; have hnc51 := NB387_414.out; have hnb52 := NB414_404.out; have hnc52 := NB404_414.out; have hcz53_0 := sC BK414.out 0; have hcz53_1 := sC BK414.out 1; have hcz53_2 := sC BK414.out 2; have hcz53_3 := sC BK414.out 3; have hcz53_4 := sC BK414.out 4; have hcz53_5 := sC BK414.out 5; have hfz53_0 := blk_frozen BK414.out 0; have hfz53_1 := blk_frozen BK414.out 1; have hfz53_2 := blk_frozen BK414.out 2; have hfz53_3 := blk_frozen BK414.out 3; have hfz53_4 := blk_frozen BK414.out 4; have hfz53_5 := blk_frozen BK414.out 5; obtain ⟨Ao54, co54, eo54⟩ := Kd.R_slice HO412.out; subst eo54))
                      go_ret
                      exact ⟨by first | rfl | (simp [errW_none, errW_some] <;> rfl) | (simp only [← hji32]; first | rfl | (simp [errW_none, errW_some] <;> rfl)) | (simp [*, errW_none, errW_some] <;> rfl), sB HB.out⟩
                     ·
                      rw [if_neg c38] at H
                      have c38b0 : decide (510 < ((((((⟨#[77, 65, 73, 76, 32, 70, 82, 79, 77, 58]⟩ : ByteArray) ++ t389) ++ (⟨#[32, 83, 73, 90, 69, 61]⟩ : ByteArray)) ++ t390) ++ (⟨#[32, 82, 69, 84, 61, 104, 100, 114, 115]⟩ : ByteArray)).size : Int)) = false := decide_eq_false c38
                      have c38d : decide (510 < (10 + (t389.size : Int) + 6 + (t390.size : Int) + 9)) = false := decide_eq_false (by have h_ := c38; simp only [ByteArray.size_append, show (⟨#[32, 82, 69, 84, 61, 104, 100, 114, 115]⟩ : ByteArray).size = 9 from rfl, show (⟨#[32, 83, 73, 90, 69, 61]⟩ : ByteArray).size = 6 from rfl, show (⟨#[77, 65, 73, 76, 32, 70, 82, 79, 77, 58]⟩ : ByteArray).size = 10 from rfl] at h_; omega)
                      have c38b1 : decide (510 < (((((⟨#[77, 65, 73, 76, 32, 70, 82, 79, 77, 58]⟩ : ByteArray) ++ t389) ++ (⟨#[32, 83, 73, 90, 69, 61]⟩ : ByteArray)) ++ t390) ++ (⟨#[32, 82, 69, 84, 61, 104, 100, 114, 115]⟩ : ByteArray)).size) = false := decide_eq_false (by omega)
                      clear c38
                      replace H := Option.bind_eq_some_iff.mp H
                      obtain ⟨⟨t415, t416⟩, A550, H⟩ := H
                      try dsimp -simprocs only at H
                      have A55 := Aside0.mk A550
                      clear A550
                      replace H := Option.bind_eq_some_iff.mp H
                      obtain ⟨⟨t417, t418⟩, A560, H⟩ := H
                      try dsimp -simprocs only at H
                      have A56 := Aside0.mk A560
                      clear A560
                      replace H := Option.bind_eq_some_iff.mp H
                      obtain ⟨⟨t419, t420⟩, A570, H⟩ := H
                      try dsimp -simprocs only at H
                      have A57 := Aside0.mk A570
                      clear A570
                      by_cases c58 : t403 = 501
                      ·
                       rw [if_pos c58] at H
                       have c58b0 : (t403 == 501) = true := beq_iff_eq.mpr c58
                       have c58b1 : (t403 != 501) = false := bne_eq_false_iff_eq.mpr c58
                       clear c58
                       by_cases c59 : t413 = 0
                       ·
                        rw [if_pos c59] at H
                        have c59b0 : (t413 == 0) = true := beq_iff_eq.mpr c59
                        have c59b1 : (t413 != 0) = false := bne_eq_false_iff_eq.mpr c59
                        clear c59
                        by_cases c60 : t416 = true
                        ·
                         subst c60
                         rw [if_pos rfl] at H
                         try dsimp -simprocs only at H
                         by_cases c61 : t415.toList = t390.toList
                         ·
                          rw [if_pos c61] at H
                          have c61b0 : (t415.toList == t390.toList) = true := beq_iff_eq.mpr c61
                          have c61b1 : (t415.toList != t390.toList) = false := bne_eq_false_iff_eq.mpr c61
                          clear c61
                          by_cases c62 : t418 = true
                          ·
                           subst c62
                           rw [if_pos rfl] at H
                           try dsimp -simprocs only at H
                           by_cases c63 : t417.toList = ([72, 68, 82, 83] : List UInt8)
                           ·
                            rw [if_pos c63] at H
                            have c63b0 : (t417.toList == ([72, 68, 82, 83] : List UInt8)) = true := beq_iff_eq.mpr c63
                            have c63b1 : (t417.toList != ([72, 68, 82, 83] : List UInt8)) = false := bne_eq_false_iff_eq.mpr c63
                            clear c63
                            by_cases c64 : t420 = true
                            ·
                             subst c64
                             rw [if_pos rfl] at H
                             try dsimp -simprocs only at H
                             rw [HRT.out] at H
                             exact absurd H (by decide)
                            ·
                             replace c64 := Bool.eq_false_iff.mpr c64
                             subst c64
                             rw [if_neg (show ¬ (false = true) by decide)] at H
                             try dsimp -simprocs only at H
                             replace H := Option.bind_eq_some_iff.mp H
                             obtain ⟨t421, A650, H⟩ := H
                             try dsimp -simprocs only at H
                             have A65 := Aside0.mk A650
                             clear A650
                             by_cases c66 : t421 = true
                             ·
                              subst c66
                              rw [if_pos rfl] at H
                              try dsimp -simprocs only at H
                              replace H := Option.bind_eq_some_iff.mp H
                              obtain ⟨t422, A670, H⟩ := H
                              try dsimp -simprocs only at H
                              have A67 := Aside0.mk A670
                              clear A670
                              obtain rfl := Option.some.inj H
                              have hcz68_0 := sC BK387.out 0
                              have hcz68_1 := sC BK387.out 1
                              have hcz68_2 := sC BK387.out 2
                              have hfz68_0 := blk_frozen BK387.out 0
                              have hfz68_1 := blk_frozen BK387.out 1
                              have hfz68_2 := blk_frozen BK387.out 2
                              go_wp2_with (first | ((with_reducible refine gate_callee (f := 15) rfl ?_); refine goesL_ (some 38) rfl rfl Tryz.func15 (by kernel_rfl) rfl #[.agg #[.bool a0_0, .string a0_1, .string a0_2]] rfl sM ?_; (with_reducible refine (wherryref11_Text.calls a0_0 a0_1 a0_2 t389 _ A16.out).mono ?_); rintro e w69 ⟨rfl, hb⟩; refine ⟨_, rfl, ?_⟩; replace BK387 := Aside0.mk (blk_below (g := gb387) (o := .cells #[.bool a0_0, .string a0_1, .string a0_2] 23 (0, 0)) (sK BK387.out) hb); replace HB := Aside0.mk (below_step (sB HB.out) hb); (try clear hb)) | ((with_reducible refine gate_callee (f := 16) rfl ?_); refine goesL_ (some 43) rfl rfl Tryz.func16 (by kernel_rfl) rfl #[.int .i64 (wrap64 (Int.tmod (IntKind.u64.wrap (a1)) 1000000000))] rfl sM ?_; (with_reducible refine (wherryref11_Digits.calls kj3 (wrap64 (Int.tmod (IntKind.u64.wrap (a1)) 1000000000)) t390 _ A17.out).mono ?_); rintro e w' ⟨rfl, ⟨nd, rfl⟩⟩; refine ⟨_, rfl, ?_⟩; (try (rw [drewN_self w69]; generalize hq_ : World.drewN w69 _ = w69; have n0_ : Aside0 (w69.heap[gb387]? = some (.cells #[.bool a0_0, .string a0_1, .string a0_2] 23 (0, 0))) := ⟨by rw [← hq_]; exact (sK BK387.out)⟩; have n1_ : Aside0 (Below w.heap.size w w69) := ⟨by rw [← hq_]; exact (sB HB.out)⟩; clear BK387 HB hq_; have BK387 := n0_; have HB := n1_; clear n0_ n1_))) | ((with_reducible refine gate_dst (N := 75) rfl ?_); refine Kd.R_lit Kd.string _ 9 ?hg (N := 75) ?hd (xs := ([(((((⟨#[77, 65, 73, 76, 32, 70, 82, 79, 77, 58]⟩ : ByteArray) ++ t389) ++ (⟨#[32, 83, 73, 90, 69, 61]⟩ : ByteArray)) ++ t390) ++ (⟨#[32, 83, 73, 90, 69, 61]⟩ : ByteArray)) ++ t390, ((⟨#[77, 65, 73, 76, 32, 70, 82, 79, 77, 58]⟩ : ByteArray) ++ t389) ++ (⟨#[32, 78, 79, 84, 73, 70, 89, 61, 78, 69, 86, 69, 82]⟩ : ByteArray), (((⟨#[82, 67, 80, 84, 32, 84, 79, 58]⟩ : ByteArray) ++ t389) ++ (⟨#[32, 83, 73, 90, 69, 61]⟩ : ByteArray)) ++ t390, (⟨#[82, 67, 80, 84, 32, 84, 79, 58, 60, 62]⟩ : ByteArray), (((⟨#[77, 65, 73, 76, 32, 70, 82, 79, 77, 58]⟩ : ByteArray) ++ t389) ++ (⟨#[32, 83, 73, 90, 69, 61, 48]⟩ : ByteArray)) ++ t390, (((⟨#[77, 65, 73, 76, 32, 70, 82, 79, 77, 58]⟩ : ByteArray) ++ t389) ++ (⟨#[32, 32, 83, 73, 90, 69, 61]⟩ : ByteArray)) ++ t390, (⟨#[77, 65, 73, 76, 32, 70, 82, 79, 77, 58, 32]⟩ : ByteArray) ++ t389, ((⟨#[82, 67, 80, 84, 32, 84, 79, 58]⟩ : ByteArray) ++ t389) ++ (⟨#[32, 78, 79, 84, 73, 70, 89, 61, 65, 76, 87, 65, 89, 83]⟩ : ByteArray)] : List ByteArray)) (inner := [.string ((((((⟨#[77, 65, 73, 76, 32, 70, 82, 79, 77, 58]⟩ : ByteArray) ++ t389) ++ (⟨#[32, 83, 73, 90, 69, 61]⟩ : ByteArray)) ++ t390) ++ (⟨#[32, 83, 73, 90, 69, 61]⟩ : ByteArray)) ++ t390), .string (((⟨#[77, 65, 73, 76, 32, 70, 82, 79, 77, 58]⟩ : ByteArray) ++ t389) ++ (⟨#[32, 78, 79, 84, 73, 70, 89, 61, 78, 69, 86, 69, 82]⟩ : ByteArray)), .string ((((⟨#[82, 67, 80, 84, 32, 84, 79, 58]⟩ : ByteArray) ++ t389) ++ (⟨#[32, 83, 73, 90, 69, 61]⟩ : ByteArray)) ++ t390), .string ⟨#[82, 67, 80, 84, 32, 84, 79, 58, 60, 62]⟩, .string ((((⟨#[77, 65, 73, 76, 32, 70, 82, 79, 77, 58]⟩ : ByteArray) ++ t389) ++ (⟨#[32, 83, 73, 90, 69, 61, 48]⟩ : ByteArray)) ++ t390), .string ((((⟨#[77, 65, 73, 76, 32, 70, 82, 79, 77, 58]⟩ : ByteArray) ++ t389) ++ (⟨#[32, 32, 83, 73, 90, 69, 61]⟩ : ByteArray)) ++ t390), .string ((⟨#[77, 65, 73, 76, 32, 70, 82, 79, 77, 58, 32]⟩ : ByteArray) ++ t389), .string (((⟨#[82, 67, 80, 84, 32, 84, 79, 58]⟩ : ByteArray) ++ t389) ++ (⟨#[32, 78, 79, 84, 73, 70, 89, 61, 65, 76, 87, 65, 89, 83]⟩ : ByteArray))]) (ok := fun _ => True) (okp := fun _ => True) ?hr ?hp (fun _ hk => hk) trivial (Below.refl _ _) (Nat.le_refl _) (by simp) ?_; (case hd => rfl); (case hg => rfl); (case hr => first | (go_simp; done) | (go_simp; rfl)); (case hp => exact (Reps.one (show Kd.M Kd.string _ _ _ ((((((⟨#[77, 65, 73, 76, 32, 70, 82, 79, 77, 58]⟩ : ByteArray) ++ t389) ++ (⟨#[32, 83, 73, 90, 69, 61]⟩ : ByteArray)) ++ t390) ++ (⟨#[32, 83, 73, 90, 69, 61]⟩ : ByteArray)) ++ t390) [.string ((((((⟨#[77, 65, 73, 76, 32, 70, 82, 79, 77, 58]⟩ : ByteArray) ++ t389) ++ (⟨#[32, 83, 73, 90, 69, 61]⟩ : ByteArray)) ++ t390) ++ (⟨#[32, 83, 73, 90, 69, 61]⟩ : ByteArray)) ++ t390)] from rfl) (Reps.one (show Kd.M Kd.string _ _ _ (((⟨#[77, 65, 73, 76, 32, 70, 82, 79, 77, 58]⟩ : ByteArray) ++ t389) ++ (⟨#[32, 78, 79, 84, 73, 70, 89, 61, 78, 69, 86, 69, 82]⟩ : ByteArray)) [.string (((⟨#[77, 65, 73, 76, 32, 70, 82, 79, 77, 58]⟩ : ByteArray) ++ t389) ++ (⟨#[32, 78, 79, 84, 73, 70, 89, 61, 78, 69, 86, 69, 82]⟩ : ByteArray))] from rfl) (Reps.one (show Kd.M Kd.string _ _ _ ((((⟨#[82, 67, 80, 84, 32, 84, 79, 58]⟩ : ByteArray) ++ t389) ++ (⟨#[32, 83, 73, 90, 69, 61]⟩ : ByteArray)) ++ t390) [.string ((((⟨#[82, 67, 80, 84, 32, 84, 79, 58]⟩ : ByteArray) ++ t389) ++ (⟨#[32, 83, 73, 90, 69, 61]⟩ : ByteArray)) ++ t390)] from rfl) (Reps.one (show Kd.M Kd.string _ _ _ (⟨#[82, 67, 80, 84, 32, 84, 79, 58, 60, 62]⟩ : ByteArray) [.string ⟨#[82, 67, 80, 84, 32, 84, 79, 58, 60, 62]⟩] from rfl) (Reps.one (show Kd.M Kd.string _ _ _ ((((⟨#[77, 65, 73, 76, 32, 70, 82, 79, 77, 58]⟩ : ByteArray) ++ t389) ++ (⟨#[32, 83, 73, 90, 69, 61, 48]⟩ : ByteArray)) ++ t390) [.string ((((⟨#[77, 65, 73, 76, 32, 70, 82, 79, 77, 58]⟩ : ByteArray) ++ t389) ++ (⟨#[32, 83, 73, 90, 69, 61, 48]⟩ : ByteArray)) ++ t390)] from rfl) (Reps.one (show Kd.M Kd.string _ _ _ ((((⟨#[77, 65, 73, 76, 32, 70, 82, 79, 77, 58]⟩ : ByteArray) ++ t389) ++ (⟨#[32, 32, 83, 73, 90, 69, 61]⟩ : ByteArray)) ++ t390) [.string ((((⟨#[77, 65, 73, 76, 32, 70, 82, 79, 77, 58]⟩ : ByteArray) ++ t389) ++ (⟨#[32, 32, 83, 73, 90, 69, 61]⟩ : ByteArray)) ++ t390)] from rfl) (Reps.one (show Kd.M Kd.string _ _ _ ((⟨#[77, 65, 73, 76, 32, 70, 82, 79, 77, 58, 32]⟩ : ByteArray) ++ t389) [.string ((⟨#[77, 65, 73, 76, 32, 70, 82, 79, 77, 58, 32]⟩ : ByteArray) ++ t389)] from rfl) (Reps.one (show Kd.M Kd.string _ _ _ (((⟨#[82, 67, 80, 84, 32, 84, 79, 58]⟩ : ByteArray) ++ t389) ++ (⟨#[32, 78, 79, 84, 73, 70, 89, 61, 65, 76, 87, 65, 89, 83]⟩ : ByteArray)) [.string (((⟨#[82, 67, 80, 84, 32, 84, 79, 58]⟩ : ByteArray) ++ t389) ++ (⟨#[32, 78, 79, 84, 73, 70, 89, 61, 65, 76, 87, 65, 89, 83]⟩ : ByteArray))] from rfl) (Reps.none _ _)))))))))); intro v392 w70 ho71 hb hg_ hnew_; clear hg_ hnew_; (first | rw [← Ny391.out] at ho71 | (simp only [Int.reduceToNat] at ho71; rw [← Ny391.out] at ho71)); have HO393 := Aside0.mk (Kd.R_lower ho71 (below_size (sB HB.out))); replace BK387 := Aside0.mk (blk_below (g := gb387) (o := .cells #[.bool a0_0, .string a0_1, .string a0_2] 23 (0, 0)) (sK BK387.out) hb); replace HB := Aside0.mk (below_step (sB HB.out) hb); clear hb ho71; obtain ⟨Ao72, co72, eo72⟩ := Kd.R_slice HO393.out; subst eo72; have p394 : 0 ≤ ((ji32) : Int) := of_decide_eq_true sA; have q394 : (ji32) < (y391.length : Int) := of_decide_eq_true sA; obtain ⟨ad394, e394, hx394_0⟩ := Kd.at_string (Kd.R_reads' HO393.out).2.2 (ji32) p394 q394; cases e394; replace p394 := eq_true p394; replace q394 := eq_true q394) | ((with_reducible refine gate_callee (f := 6) rfl ?_); refine goesL_ (some 84) rfl rfl Tryz.func6 (by kernel_rfl) rfl #[.string (rdOf ByteArray.empty y391 (ji32))] rfl (by (try simp only [List.map_toArray, List.map_cons, List.map_nil]); first | done | (simp only [hji32]; rfl) | rfl | (simp only [List.length_drop, List.length_take]; rfl)) ?_; (with_reducible refine (verb_Parse.calls kj3 (rdOf ByteArray.empty y391 (ji32)) t395 t396 t397 t398 t399 t400 t403 _ ?side1 A35.out).mono ?_); (case side1 => exact Glob.below HG.out (sB HB.out)); rintro e w73 ⟨v401, rfl, ho0, hb⟩; refine ⟨_, rfl, ?_⟩; replace HO393 := Aside0.mk (Kd.R_below (sR HO393.out) hb); have HO402 := Aside0.mk (Kd.R_lower ho0 (below_size (sB HB.out))); replace BK387 := Aside0.mk (blk_below (g := gb387) (o := .cells #[.bool a0_0, .string a0_1, .string a0_2] 23 (0, 0)) (sK BK387.out) hb); replace HB := Aside0.mk (below_step (sB HB.out) hb); (try clear hb); (try clear ho0)) | ((with_reducible refine gate_dst (N := 10) rfl ?_); refine box_event ?hg (N := 10) ?hd (cs := #[.int .i64 0, .string ⟨#[]⟩, .bool false, .string ⟨#[]⟩, .string ⟨#[]⟩, .slice none 0 0]) (t := 26) ?hr ?_; (case hd => rfl); (case hg => rfl); (case hr => first | (go_simp; done) | (go_simp; rfl)); intro gb404 hg w74 hbox hb; replace HO393 := Aside0.mk (Kd.R_below (sR HO393.out) hb); replace HO402 := Aside0.mk (Kd.R_below (sR HO402.out) hb); have BK404 := Aside0.mk (hbox); have GW404 := Aside0.mk ((by rw [hg]; exact (below_size (sB HB.out)) : w.heap.size ≤ gb404)); have GE404 := Aside0.mk ((by rw [hg]; exact (below_size (sB HB.out)) : w.heap.size ≤ gb404)); replace HB := Aside0.mk (below_step (sB HB.out) hb); have NB387_404 := Aside0.mk ((by rw [hg]; exact Nat.ne_of_lt (blk_lt (g := gb387) (o := .cells #[.bool a0_0, .string a0_1, .string a0_2] 23 (0, 0)) (sK BK387.out)) : gb387 ≠ gb404)); have NB404_387 := Aside0.mk ((by rw [hg]; exact Nat.ne_of_gt (blk_lt (g := gb387) (o := .cells #[.bool a0_0, .string a0_1, .string a0_2] 23 (0, 0)) (sK BK387.out)) : gb404 ≠ gb387)); replace BK387 := Aside0.mk (blk_below (g := gb387) (o := .cells #[.bool a0_0, .string a0_1, .string a0_2] 23 (0, 0)) (sK BK387.out) hb); clear hb hbox hg; have hnb75 := NB404_387.out; have hnc75 := NB387_404.out; have hcz76_0 := sC BK404.out 0; have hcz76_1 := sC BK404.out 1; have hcz76_2 := sC BK404.out 2; have hcz76_3 := sC BK404.out 3; have hcz76_4 := sC BK404.out 4; have hcz76_5 := sC BK404.out 5; have hfz76_0 := blk_frozen BK404.out 0; have hfz76_1 := blk_frozen BK404.out 1; have hfz76_2 := blk_frozen BK404.out 2; have hfz76_3 := blk_frozen BK404.out 3; have hfz76_4 := blk_frozen BK404.out 4; have hfz76_5 := blk_frozen BK404.out 5; obtain ⟨Ao77, co77, eo77⟩ := Kd.R_slice HO402.out; subst eo77) | ((with_reducible refine gate_callee (f := 6) rfl ?_); refine goesL_ (some 94) rfl rfl Tryz.func6 (by kernel_rfl) rfl #[.string (((((⟨#[77, 65, 73, 76, 32, 70, 82, 79, 77, 58]⟩ : ByteArray) ++ t389) ++ (⟨#[32, 83, 73, 90, 69, 61]⟩ : ByteArray)) ++ t390) ++ (⟨#[32, 82, 69, 84, 61, 104, 100, 114, 115]⟩ : ByteArray))] rfl sM ?_; (with_reducible refine (verb_Parse.calls kj3 (((((⟨#[77, 65, 73, 76, 32, 70, 82, 79, 77, 58]⟩ : ByteArray) ++ t389) ++ (⟨#[32, 83, 73, 90, 69, 61]⟩ : ByteArray)) ++ t390) ++ (⟨#[32, 82, 69, 84, 61, 104, 100, 114, 115]⟩ : ByteArray)) t405 t406 t407 t408 t409 t410 t413 _ ?side1 A37.out).mono ?_); (case side1 => exact Glob.below HG.out (sB HB.out)); rintro e w78 ⟨v411, rfl, ho0, hb⟩; refine ⟨_, rfl, ?_⟩; replace HO393 := Aside0.mk (Kd.R_below (by (with_reducible repeat (first | apply Kd.R_alloc | apply Kd.R_drewN | apply Kd.R_drew)); exact (Kd.R_mono (Kd.R_far (p := ⟨gb404, 5, none⟩) (Kd.R_far (p := ⟨gb404, 4, none⟩) (Kd.R_far (p := ⟨gb404, 3, none⟩) (Kd.R_far (p := ⟨gb404, 2, none⟩) (Kd.R_far (p := ⟨gb404, 1, none⟩) (Kd.R_far (p := ⟨gb404, 0, none⟩) (Kd.R_types HO393.out BK404.out (by decide)) (fun _ hk => hk.2) (.int .i64 t395)) (fun _ hk => hk.2) (.string t396)) (fun _ hk => hk.2) (.bool t397)) (fun _ hk => hk.2) (.string t398)) (fun _ hk => hk.2) (.string t399)) (fun _ hk => hk.2) (.slice Ao77 t400.length co77)) (fun _ h_ => h_.1))) hb); have HO412 := Aside0.mk (Kd.R_lower (Kd.R_new' ho0 (Kd.R_lt (by (with_reducible repeat (first | apply Kd.R_alloc | apply Kd.R_drewN | apply Kd.R_drew)); exact (Kd.R_mono (Kd.R_far (p := ⟨gb404, 5, none⟩) (Kd.R_far (p := ⟨gb404, 4, none⟩) (Kd.R_far (p := ⟨gb404, 3, none⟩) (Kd.R_far (p := ⟨gb404, 2, none⟩) (Kd.R_far (p := ⟨gb404, 1, none⟩) (Kd.R_far (p := ⟨gb404, 0, none⟩) (Kd.R_types HO402.out BK404.out (by decide)) (fun _ hk => hk.2) (.int .i64 t395)) (fun _ hk => hk.2) (.string t396)) (fun _ hk => hk.2) (.bool t397)) (fun _ hk => hk.2) (.string t398)) (fun _ hk => hk.2) (.string t399)) (fun _ hk => hk.2) (.slice Ao77 t400.length co77)) (fun _ h_ => h_.1))))) (below_size (sB HB.out))); replace HO402 := Aside0.mk (Kd.R_elder' (by (with_reducible repeat (first | apply Kd.R_alloc | apply Kd.R_drewN | apply Kd.R_drew)); exact (Kd.R_mono (Kd.R_far (p := ⟨gb404, 5, none⟩) (Kd.R_far (p := ⟨gb404, 4, none⟩) (Kd.R_far (p := ⟨gb404, 3, none⟩) (Kd.R_far (p := ⟨gb404, 2, none⟩) (Kd.R_far (p := ⟨gb404, 1, none⟩) (Kd.R_far (p := ⟨gb404, 0, none⟩) (Kd.R_types HO402.out BK404.out (by decide)) (fun _ hk => hk.2) (.int .i64 t395)) (fun _ hk => hk.2) (.string t396)) (fun _ hk => hk.2) (.bool t397)) (fun _ hk => hk.2) (.string t398)) (fun _ hk => hk.2) (.string t399)) (fun _ hk => hk.2) (.slice Ao77 t400.length co77)) (fun _ h_ => h_.1))) (Kd.R_base ho0) hb); replace BK387 := Aside0.mk (blk_below (g := gb387) (o := .cells #[.bool a0_0, .string a0_1, .string a0_2] 23 (0, 0)) (by refine sK ?_; refine blk_far ?_ NB387_404.out _; refine sK ?_; refine blk_far ?_ NB387_404.out _; refine sK ?_; refine blk_far ?_ NB387_404.out _; refine sK ?_; refine blk_far ?_ NB387_404.out _; refine sK ?_; refine blk_far ?_ NB387_404.out _; refine sK ?_; refine blk_far ?_ NB387_404.out _; refine sK ?_; exact BK387.out) hb); replace BK404 := Aside0.mk (blk_below (g := gb404) (o := .cells #[.int .i64 t395, .string t396, .bool t397, .string t398, .string t399, .slice Ao77 t400.length co77] 26 (0, 0)) (by refine sK ?_; refine blk_put (cs := #[.int .i64 t395, .string t396, .bool t397, .string t398, .string t399, .slice none 0 0]) ?_ 5 _ rfl; refine sK ?_; refine blk_put (cs := #[.int .i64 t395, .string t396, .bool t397, .string t398, .string ⟨#[]⟩, .slice none 0 0]) ?_ 4 _ rfl; refine sK ?_; refine blk_put (cs := #[.int .i64 t395, .string t396, .bool t397, .string ⟨#[]⟩, .string ⟨#[]⟩, .slice none 0 0]) ?_ 3 _ rfl; refine sK ?_; refine blk_put (cs := #[.int .i64 t395, .string t396, .bool false, .string ⟨#[]⟩, .string ⟨#[]⟩, .slice none 0 0]) ?_ 2 _ rfl; refine sK ?_; refine blk_put (cs := #[.int .i64 t395, .string ⟨#[]⟩, .bool false, .string ⟨#[]⟩, .string ⟨#[]⟩, .slice none 0 0]) ?_ 1 _ rfl; refine sK ?_; refine blk_put (cs := #[.int .i64 0, .string ⟨#[]⟩, .bool false, .string ⟨#[]⟩, .string ⟨#[]⟩, .slice none 0 0]) ?_ 0 _ rfl; refine sK ?_; exact BK404.out) hb); replace HB := Aside0.mk (below_step (sB HB.out) hb); (try clear hb); (try clear hk); (try clear ho0)) | ((with_reducible refine gate_dst (N := 12) rfl ?_); refine box_event ?hg (N := 12) ?hd (cs := #[.int .i64 0, .string ⟨#[]⟩, .bool false, .string ⟨#[]⟩, .string ⟨#[]⟩, .slice none 0 0]) (t := 26) ?hr ?_; (case hd => rfl); (case hg => rfl); (case hr => first | (go_simp; done) | (go_simp; rfl)); intro gb414 hg w79 hbox hb; replace HO393 := Aside0.mk (Kd.R_below (sR HO393.out) hb); replace HO402 := Aside0.mk (Kd.R_below (sR HO402.out) hb); replace HO412 := Aside0.mk (Kd.R_below (sR HO412.out) hb); have BK414 := Aside0.mk (hbox); have GW414 := Aside0.mk ((by rw [hg]; exact (below_size (sB HB.out)) : w.heap.size ≤ gb414)); have GE414 := Aside0.mk ((by rw [hg]; exact (below_size (sB HB.out)) : w.heap.size ≤ gb414)); replace HB := Aside0.mk (below_step (sB HB.out) hb); have NB387_414 := Aside0.mk ((by rw [hg]; exact Nat.ne_of_lt (blk_lt (g := gb387) (o := .cells #[.bool a0_0, .string a0_1, .string a0_2] 23 (0, 0)) (sK BK387.out)) : gb387 ≠ gb414)); have NB414_387 := Aside0.mk ((by rw [hg]; exact Nat.ne_of_gt (blk_lt (g := gb387) (o := .cells #[.bool a0_0, .string a0_1, .string a0_2] 23 (0, 0)) (sK BK387.out)) : gb414 ≠ gb387)); replace BK387 := Aside0.mk (blk_below (g := gb387) (o := .cells #[.bool a0_0, .string a0_1, .string a0_2] 23 (0, 0)) (sK BK387.out) hb); have NB404_414 := Aside0.mk ((by rw [hg]; exact Nat.ne_of_lt (blk_lt (g := gb404) (o := .cells #[.int .i64 t395, .string t396, .bool t397, .string t398, .string t399, .slice Ao77 t400.length co77] 26 (0, 0)) (sK BK404.out)) : gb404 ≠ gb414)); have NB414_404 := Aside0.mk ((by rw [hg]; exact Nat.ne_of_gt (blk_lt (g := gb404) (o := .cells #[.int .i64 t395, .string t396, .bool t397, .string t398, .string t399, .slice Ao77 t400.length co77] 26 (0, 0)) (sK BK404.out)) : gb414 ≠ gb404)); replace BK404 := Aside0.mk (blk_below (g := gb404) (o := .cells #[.int .i64 t395, .string t396, .bool t397, .string t398, .string t399, .slice Ao77 t400.length co77] 26 (0, 0)) (sK BK404.out) hb); clear hb hbox hg; have hnb80 := NB414_387.out; have hnc80 := NB387_414.out; have hnb81 := NB414_404.out; have hnc81 := NB404_414.out; have hcz82_0 := sC BK414.out 0; have hcz82_1 := sC BK414.out 1; have hcz82_2 := sC BK414.out 2; have hcz82_3 := sC BK414.out 3; have hcz82_4 := sC BK414.out 4; have hcz82_5 := sC BK414.out 5; have hfz82_0 := blk_frozen BK414.out 0; have hfz82_1 := blk_frozen BK414.out 1; have hfz82_2 := blk_frozen BK414.out 2; have hfz82_3 := blk_frozen BK414.out 3; have hfz82_4 := blk_frozen BK414.out 4; have hfz82_5 := blk_frozen BK414.out 5; obtain ⟨Ao83, co83, eo83⟩ := Kd.R_slice HO412.out; subst eo83) | ((with_reducible refine gate_callee (f := 10) rfl ?_); refine goesL_ (some 107) rfl rfl Tryz.func10 (by kernel_rfl) rfl #[.agg #[.int .i64 t405, .string t406, .bool t407, .string t408, .string t409, .slice Ao83 t410.length co83], .string ⟨#[83, 73, 90, 69]⟩] rfl sM ?_; (with_reducible refine (verb_Param.calls t405 t406 t407 t408 t409 _ _ t410 (⟨#[83, 73, 90, 69]⟩ : ByteArray) t415 true _ ?side1 ?side2 A55.out).mono ?_); (case side1 => refine (Kd.R_reads' (e := 47) (base := w.heap.size) (ok := fun k_ => (True ∧ some k_ ≠ (.slice Ao77 t400.length co77 : Value).ownBlock)) (n := t410.length) (c := co83) ?_).2.2; exact (by (with_reducible repeat (first | apply Kd.R_alloc | apply Kd.R_drewN | apply Kd.R_drew)); exact (Kd.R_mono (Kd.R_far (p := ⟨gb414, 5, none⟩) (Kd.R_far (p := ⟨gb414, 4, none⟩) (Kd.R_far (p := ⟨gb414, 3, none⟩) (Kd.R_far (p := ⟨gb414, 2, none⟩) (Kd.R_far (p := ⟨gb414, 1, none⟩) (Kd.R_far (p := ⟨gb414, 0, none⟩) (Kd.R_types HO412.out BK414.out (by decide)) (fun _ hk => hk.2) (.int .i64 t405)) (fun _ hk => hk.2) (.string t406)) (fun _ hk => hk.2) (.bool t407)) (fun _ hk => hk.2) (.string t408)) (fun _ hk => hk.2) (.string t409)) (fun _ hk => hk.2) (.slice Ao83 t410.length co83)) (fun _ h_ => h_.1)))); (case side2 => exact (Kd.R_reads' HO412.out).2.1); rintro e w84 ⟨rfl, hb⟩; refine ⟨_, rfl, ?_⟩; replace HO393 := Aside0.mk (Kd.R_below (by (with_reducible repeat (first | apply Kd.R_alloc | apply Kd.R_drewN | apply Kd.R_drew)); exact (Kd.R_mono (Kd.R_far (p := ⟨gb414, 5, none⟩) (Kd.R_far (p := ⟨gb414, 4, none⟩) (Kd.R_far (p := ⟨gb414, 3, none⟩) (Kd.R_far (p := ⟨gb414, 2, none⟩) (Kd.R_far (p := ⟨gb414, 1, none⟩) (Kd.R_far (p := ⟨gb414, 0, none⟩) (Kd.R_types HO393.out BK414.out (by decide)) (fun _ hk => hk.2) (.int .i64 t405)) (fun _ hk => hk.2) (.string t406)) (fun _ hk => hk.2) (.bool t407)) (fun _ hk => hk.2) (.string t408)) (fun _ hk => hk.2) (.string t409)) (fun _ hk => hk.2) (.slice Ao83 t410.length co83)) (fun _ h_ => h_.1))) hb); replace HO402 := Aside0.mk (Kd.R_below (by (with_reducible repeat (first | apply Kd.R_alloc | apply Kd.R_drewN | apply Kd.R_drew)); exact (Kd.R_mono (Kd.R_far (p := ⟨gb414, 5, none⟩) (Kd.R_far (p := ⟨gb414, 4, none⟩) (Kd.R_far (p := ⟨gb414, 3, none⟩) (Kd.R_far (p := ⟨gb414, 2, none⟩) (Kd.R_far (p := ⟨gb414, 1, none⟩) (Kd.R_far (p := ⟨gb414, 0, none⟩) (Kd.R_types HO402.out BK414.out (by decide)) (fun _ hk => hk.2) (.int .i64 t405)) (fun _ hk => hk.2) (.string t406)) (fun _ hk => hk.2) (.bool t407)) (fun _ hk => hk.2) (.string t408)) (fun _ hk => hk.2) (.string t409)) (fun _ hk => hk.2) (.slice Ao83 t410.length co83)) (fun _ h_ => h_.1))) hb); replace HO412 := Aside0.mk (Kd.R_below (by (with_reducible repeat (first | apply Kd.R_alloc | apply Kd.R_drewN | apply Kd.R_drew)); exact (Kd.R_mono (Kd.R_far (p := ⟨gb414, 5, none⟩) (Kd.R_far (p := ⟨gb414, 4, none⟩) (Kd.R_far (p := ⟨gb414, 3, none⟩) (Kd.R_far (p := ⟨gb414, 2, none⟩) (Kd.R_far (p := ⟨gb414, 1, none⟩) (Kd.R_far (p := ⟨gb414, 0, none⟩) (Kd.R_types HO412.out BK414.out (by decide)) (fun _ hk => hk.2) (.int .i64 t405)) (fun _ hk => hk.2) (.string t406)) (fun _ hk => hk.2) (.bool t407)) (fun _ hk => hk.2) (.string t408)) (fun _ hk => hk.2) (.string t409)) (fun _ hk => hk.2) (.slice Ao83 t410.length co83)) (fun _ h_ => h_.1))) hb); replace BK387 := Aside0.mk (blk_below (g := gb387) (o := .cells #[.bool a0_0, .string a0_1, .string a0_2] 23 (0, 0)) (by refine sK ?_; refine blk_far ?_ NB387_414.out _; refine sK ?_; refine blk_far ?_ NB387_414.out _; refine sK ?_; refine blk_far ?_ NB387_414.out _; refine sK ?_; refine blk_far ?_ NB387_414.out _; refine sK ?_; refine blk_far ?_ NB387_414.out _; refine sK ?_; refine blk_far ?_ NB387_414.out _; refine sK ?_; exact BK387.out) hb); replace BK404 := Aside0.mk (blk_below (g := gb404) (o := .cells #[.int .i64 t395, .string t396, .bool t397, .string t398, .string t399, .slice Ao77 t400.length co77] 26 (0, 0)) (by refine sK ?_; refine blk_far ?_ NB404_414.out _; refine sK ?_; refine blk_far ?_ NB404_414.out _; refine sK ?_; refine blk_far ?_ NB404_414.out _; refine sK ?_; refine blk_far ?_ NB404_414.out _; refine sK ?_; refine blk_far ?_ NB404_414.out _; refine sK ?_; refine blk_far ?_ NB404_414.out _; refine sK ?_; exact BK404.out) hb); replace BK414 := Aside0.mk (blk_below (g := gb414) (o := .cells #[.int .i64 t405, .string t406, .bool t407, .string t408, .string t409, .slice Ao83 t410.length co83] 26 (0, 0)) (by refine sK ?_; refine blk_put (cs := #[.int .i64 t405, .string t406, .bool t407, .string t408, .string t409, .slice none 0 0]) ?_ 5 _ rfl; refine sK ?_; refine blk_put (cs := #[.int .i64 t405, .string t406, .bool t407, .string t408, .string ⟨#[]⟩, .slice none 0 0]) ?_ 4 _ rfl; refine sK ?_; refine blk_put (cs := #[.int .i64 t405, .string t406, .bool t407, .string ⟨#[]⟩, .string ⟨#[]⟩, .slice none 0 0]) ?_ 3 _ rfl; refine sK ?_; refine blk_put (cs := #[.int .i64 t405, .string t406, .bool false, .string ⟨#[]⟩, .string ⟨#[]⟩, .slice none 0 0]) ?_ 2 _ rfl; refine sK ?_; refine blk_put (cs := #[.int .i64 t405, .string ⟨#[]⟩, .bool false, .string ⟨#[]⟩, .string ⟨#[]⟩, .slice none 0 0]) ?_ 1 _ rfl; refine sK ?_; refine blk_put (cs := #[.int .i64 0, .string ⟨#[]⟩, .bool false, .string ⟨#[]⟩, .string ⟨#[]⟩, .slice none 0 0]) ?_ 0 _ rfl; refine sK ?_; exact BK414.out) hb); replace HB := Aside0.mk (below_step (sB HB.out) hb); (try clear hb); (try clear hk); have hcz85_0 := sC BK414.out 0; have hcz85_1 := sC BK414.out 1; have hcz85_2 := sC BK414.out 2; have hcz85_3 := sC BK414.out 3; have hcz85_4 := sC BK414.out 4; have hcz85_5 := sC BK414.out 5; have hfz85_0 := blk_frozen BK414.out 0; have hfz85_1 := blk_frozen BK414.out 1; have hfz85_2 := blk_frozen BK414.out 2; have hfz85_3 := blk_frozen BK414.out 3; have hfz85_4 := blk_frozen BK414.out 4; have hfz85_5 := blk_frozen BK414.out 5) | ((with_reducible refine gate_callee (f := 10) rfl ?_); refine goesL_ (some 112) rfl rfl Tryz.func10 (by kernel_rfl) rfl #[.agg #[.int .i64 t405, .string t406, .bool t407, .string t408, .string t409, .slice Ao83 t410.length co83], .string ⟨#[82, 69, 84]⟩] rfl sM ?_; (with_reducible refine (verb_Param.calls t405 t406 t407 t408 t409 _ _ t410 (⟨#[82, 69, 84]⟩ : ByteArray) t417 true _ ?side1 ?side2 A56.out).mono ?_); (case side1 => repeat (first | exact (Kd.R_reads' HO412.out).2.2 | (with_reducible refine Kd.C_alloc ?_ _) | (with_reducible refine Kd.C_drewN ?_ _) | (with_reducible refine Kd.C_drew ?_))); (case side2 => exact (Kd.R_reads' HO412.out).2.1); rintro e w86 ⟨rfl, hb⟩; refine ⟨_, rfl, ?_⟩; replace HO393 := Aside0.mk (Kd.R_below (sR HO393.out) hb); replace HO402 := Aside0.mk (Kd.R_below (sR HO402.out) hb); replace HO412 := Aside0.mk (Kd.R_below (sR HO412.out) hb); replace BK387 := Aside0.mk (blk_below (g := gb387) (o := .cells #[.bool a0_0, .string a0_1, .string a0_2] 23 (0, 0)) (sK BK387.out) hb); replace BK404 := Aside0.mk (blk_below (g := gb404) (o := .cells #[.int .i64 t395, .string t396, .bool t397, .string t398, .string t399, .slice Ao77 t400.length co77] 26 (0, 0)) (sK BK404.out) hb); replace BK414 := Aside0.mk (blk_below (g := gb414) (o := .cells #[.int .i64 t405, .string t406, .bool t407, .string t408, .string t409, .slice Ao83 t410.length co83] 26 (0, 0)) (sK BK414.out) hb); replace HB := Aside0.mk (below_step (sB HB.out) hb); (try clear hb); have hcz87_0 := sC BK414.out 0; have hcz87_1 := sC BK414.out 1; have hcz87_2 := sC BK414.out 2; have hcz87_3 := sC BK414.out 3; have hcz87_4 := sC BK414.out 4; have hcz87_5 := sC BK414.out 5; have hfz87_0 := blk_frozen BK414.out 0; have hfz87_1 := blk_frozen BK414.out 1; have hfz87_2 := blk_frozen BK414.out 2; have hfz87_3 := blk_frozen BK414.out 3; have hfz87_4 := blk_frozen BK414.out 4; have hfz87_5 := blk_frozen BK414.out 5) | ((with_reducible refine gate_callee (f := 10) rfl ?_); refine goesL_ (some 117) rfl rfl Tryz.func10 (by kernel_rfl) rfl #[.agg #[.int .i64 t405, .string t406, .bool t407, .string t408, .string t409, .slice Ao83 t410.length co83], .string ⟨#[78, 79, 84, 73, 70, 89]⟩] rfl sM ?_; (with_reducible refine (verb_Param.calls t405 t406 t407 t408 t409 _ _ t410 (⟨#[78, 79, 84, 73, 70, 89]⟩ : ByteArray) t419 false _ ?side1 ?side2 A57.out).mono ?_); (case side1 => repeat (first | exact (Kd.R_reads' HO412.out).2.2 | (with_reducible refine Kd.C_alloc ?_ _) | (with_reducible refine Kd.C_drewN ?_ _) | (with_reducible refine Kd.C_drew ?_))); (case side2 => exact (Kd.R_reads' HO412.out).2.1); rintro e w88 ⟨rfl, hb⟩; refine ⟨_, rfl, ?_⟩; replace HO393 := Aside0.mk (Kd.R_below (sR HO393.out) hb); replace HO402 := Aside0.mk (Kd.R_below (sR HO402.out) hb); replace HO412 := Aside0.mk (Kd.R_below (sR HO412.out) hb); replace BK387 := Aside0.mk (blk_below (g := gb387) (o := .cells #[.bool a0_0, .string a0_1, .string a0_2] 23 (0, 0)) (sK BK387.out) hb); replace BK404 := Aside0.mk (blk_below (g := gb404) (o := .cells #[.int .i64 t395, .string t396, .bool t397, .string t398, .string t399, .slice Ao77 t400.length co77] 26 (0, 0)) (sK BK404.out) hb); replace BK414 := Aside0.mk (blk_below (g := gb414) (o := .cells #[.int .i64 t405, .string t406, .bool t407, .string t408, .string t409, .slice Ao83 t410.length co83] 26 (0, 0)) (sK BK414.out) hb); replace HB := Aside0.mk (below_step (sB HB.out) hb); (try clear hb); have hcz89_0 := sC BK414.out 0; have hcz89_1 := sC BK414.out 1; have hcz89_2 := sC BK414.out 2; have hcz89_3 := sC BK414.out 3; have hcz89_4 := sC BK414.out 4; have hcz89_5 := sC BK414.out 5; have hfz89_0 := blk_frozen BK414.out 0; have hfz89_1 := blk_frozen BK414.out 1; have hfz89_2 := blk_frozen BK414.out 2; have hfz89_3 := blk_frozen BK414.out 3; have hfz89_4 := blk_frozen BK414.out 4; have hfz89_5 := blk_frozen BK414.out 5; have hcz90_0 := sC BK387.out 0; have hcz90_1 := sC BK387.out 1; have hcz90_2 := sC BK387.out 2; have hfz90_0 := blk_frozen BK387.out 0; have hfz90_1 := blk_frozen BK387.out 1; have hfz90_2 := blk_frozen BK387.out 2) | (go_at_call 17; (with_reducible refine (wherrykeep_Path.calls t407 t408 t409 a0_0 a0_1 a0_2 true _ A65.out).mono ?_); rintro e w91 ⟨rfl, hb⟩; replace HO393 := Aside0.mk (Kd.R_below (sR HO393.out) hb); replace HO402 := Aside0.mk (Kd.R_below (sR HO402.out) hb); replace HO412 := Aside0.mk (Kd.R_below (sR HO412.out) hb); replace BK387 := Aside0.mk (blk_below (g := gb387) (o := .cells #[.bool a0_0, .string a0_1, .string a0_2] 23 (0, 0)) (sK BK387.out) hb); replace BK404 := Aside0.mk (blk_below (g := gb404) (o := .cells #[.int .i64 t395, .string t396, .bool t397, .string t398, .string t399, .slice Ao77 t400.length co77] 26 (0, 0)) (sK BK404.out) hb); replace BK414 := Aside0.mk (blk_below (g := gb414) (o := .cells #[.int .i64 t405, .string t406, .bool t407, .string t408, .string t409, .slice Ao83 t410.length co83] 26 (0, 0)) (sK BK414.out) hb); replace HB := Aside0.mk (below_step (sB HB.out) hb); (try clear hb)) | (go_at_call 13; (with_reducible refine (wherrylaw12_wakes.calls kj3  t422 _ ?side1 ?side2 A67.out).mono ?_); (case side1 => exact Glob.below HG.out (sB HB.out)); (case side2 => exact HRT.out); rintro e w92 ⟨rfl, hb⟩; replace HO393 := Aside0.mk (Kd.R_below (sR HO393.out) hb); replace HO402 := Aside0.mk (Kd.R_below (sR HO402.out) hb); replace HO412 := Aside0.mk (Kd.R_below (sR HO412.out) hb); replace BK387 := Aside0.mk (blk_below (g := gb387) (o := .cells #[.bool a0_0, .string a0_1, .string a0_2] 23 (0, 0)) (sK BK387.out) hb); replace BK404 := Aside0.mk (blk_below (g := gb404) (o := .cells #[.int .i64 t395, .string t396, .bool t397, .string t398, .string t399, .slice Ao77 t400.length co77] 26 (0, 0)) (sK BK404.out) hb); replace BK414 := Aside0.mk (blk_below (g := gb414) (o := .cells #[.int .i64 t405, .string t406, .bool t407, .string t408, .string t409, .slice Ao83 t410.length co83] 26 (0, 0)) (sK BK414.out) hb); replace HB := Aside0.mk (below_step (sB HB.out) hb); (try clear hb)))
                              go_ret
                              exact ⟨by first | rfl | (simp [errW_none, errW_some] <;> rfl) | (simp only [← hji32]; first | rfl | (simp [errW_none, errW_some] <;> rfl)) | (simp [*, errW_none, errW_some] <;> rfl), sB HB.out⟩
                             ·
                              replace c66 := Bool.eq_false_iff.mpr c66
                              subst c66
                              rw [if_neg (show ¬ (false = true) by decide)] at H
                              try dsimp -simprocs only at H
                              rw [HRT.out] at H
                              exact absurd H (by decide)
                           ·
                            rw [if_neg c63] at H
                            have c63b0 : (t417.toList == ([72, 68, 82, 83] : List UInt8)) = false := beq_eq_false_iff_ne.mpr c63
                            have c63b1 : (t417.toList != ([72, 68, 82, 83] : List UInt8)) = true := bne_iff_ne.mpr c63
                            rw [HRT.out] at H
                            exact absurd H (by decide)
                          ·
                           replace c62 := Bool.eq_false_iff.mpr c62
                           subst c62
                           rw [if_neg (show ¬ (false = true) by decide)] at H
                           try dsimp -simprocs only at H
                           rw [HRT.out] at H
                           exact absurd H (by decide)
                         ·
                          rw [if_neg c61] at H
                          have c61b0 : (t415.toList == t390.toList) = false := beq_eq_false_iff_ne.mpr c61
                          have c61b1 : (t415.toList != t390.toList) = true := bne_iff_ne.mpr c61
                          rw [HRT.out] at H
                          exact absurd H (by decide)
                        ·
                         replace c60 := Bool.eq_false_iff.mpr c60
                         subst c60
                         rw [if_neg (show ¬ (false = true) by decide)] at H
                         try dsimp -simprocs only at H
                         rw [HRT.out] at H
                         exact absurd H (by decide)
                       ·
                        rw [if_neg c59] at H
                        have c59b0 : (t413 == 0) = false := beq_eq_false_iff_ne.mpr c59
                        have c59b1 : (t413 != 0) = true := bne_iff_ne.mpr c59
                        rw [HRT.out] at H
                        exact absurd H (by decide)
                      ·
                       rw [if_neg c58] at H
                       have c58b0 : (t403 == 501) = false := beq_eq_false_iff_ne.mpr c58
                       have c58b1 : (t403 != 501) = true := bne_iff_ne.mpr c58
                       rw [HRT.out] at H
                       exact absurd H (by decide)
                    ·
                     rw [if_neg c36] at H
                     exact absurd H (by simp)
                   ·
                    rw [if_neg c34] at H
                    exact absurd H (by simp)
                  ·
                   rw [if_neg c33] at H
                   exact absurd H (by simp)
                 ·
                  rw [if_neg c31] at H
                  exact absurd H (by simp)
                ·
                 rw [if_neg c30] at H
                 exact absurd H (by simp)
               ·
                rw [if_neg c29] at H
                exact absurd H (by simp)
              ·
               rw [if_neg c28] at H
               exact absurd H (by simp)
             ·
              rw [if_neg c27] at H
              exact absurd H (by simp)
            ·
             rw [if_neg c26] at H
             exact absurd H (by simp)
           ·
            rw [if_neg c25] at H
            exact absurd H (by simp)
          ·
           rw [if_neg c24] at H
           exact absurd H (by simp)
         ·
          rw [if_neg c23] at H
          exact absurd H (by simp)
        ·
         rw [if_neg c22] at H
         exact absurd H (by simp)
       ·
        rw [if_neg c21] at H
        exact absurd H (by simp)
      ·
       rw [if_neg c20] at H
       exact absurd H (by simp)
     ·
      rw [if_neg c19] at H
      exact absurd H (by simp)
    ·
     rw [if_neg c18] at H
     exact absurd H (by simp)
end Go.Proofs.YthcdjgekmfnmnaaGreatDoor.PVerb
end
