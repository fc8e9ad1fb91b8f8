/- Parts of the proof, put together by program. -/
import Derived.Test.YthcdjgekmfnmnaaGreatDoorK4
section
namespace Go.Proofs.YthcdjgekmfnmnaaGreatDoor.PVerb
open Go.RowKit Go.Proofs.YthcdjgekmfnmnaaGreatDoorW.PrintWords Go.Proofs.YthcdjgekmfnmnaaGreatDoorW.PrintLast Go.Proofs.YthcdjgekmfnmnaaGreatDoorW.PrintMore
attribute [local go_sem] max2_int min2_int max_two min_two max_three min_three max_four min_four
set_option linter.unusedVariables false
set_option linter.unusedSimpArgs false
mutual
def wherryref11_Verb.l0 : Nat → ByteArray → Int → Option (Int × ByteArray × Bool × ByteArray × ByteArray × (List (S47)) × Int)
 | 0, _, _ => none
 | k + 1, x0, x4 => if x4 < (x0.size : Int) then (if 0 ≤ x4 then (if (bt x0 x4) < 32 then (some (0, (⟨#[]⟩ : ByteArray), false, (⟨#[]⟩ : ByteArray), (⟨#[]⟩ : ByteArray), ([] : List (S47)), 500)) else (if (bt x0 x4) > 126 then (some (0, (⟨#[]⟩ : ByteArray), false, (⟨#[]⟩ : ByteArray), (⟨#[]⟩ : ByteArray), ([] : List (S47)), 500)) else (wherryref11_Verb.l0 k x0 (wrap64 (x4 + 1))))) else (none)) else ((wherryref11_first.f k x0).bind fun t250 => ((wherryref11_among.f k t250 (([(⟨#[101, 104, 108, 111]⟩ : ByteArray), (⟨#[104, 101, 108, 111]⟩ : ByteArray), (⟨#[109, 97, 105, 108]⟩ : ByteArray), (⟨#[114, 99, 112, 116]⟩ : ByteArray), (⟨#[100, 97, 116, 97]⟩ : ByteArray), (⟨#[114, 115, 101, 116]⟩ : ByteArray), (⟨#[113, 117, 105, 116]⟩ : ByteArray), (⟨#[110, 111, 111, 112]⟩ : ByteArray), (⟨#[118, 114, 102, 121]⟩ : ByteArray), (⟨#[101, 116, 114, 110]⟩ : ByteArray), (⟨#[97, 117, 116, 104]⟩ : ByteArray), (⟨#[97, 116, 114, 110]⟩ : ByteArray)] : List ByteArray))).bind fun t254 => (if t254 = true then (if ((t250.size : Int) = (x0.size : Int)) then (wherryref11_Verb.j1 k t250 ((t250.size : Int) == (x0.size : Int)) (⟨#[]⟩ : ByteArray)) else (if 0 ≤ (wrap64 ((t250.size : Int) + 1)) then (if (wrap64 ((t250.size : Int) + 1)) ≤ (x0.size : Int) then (wherryref11_Verb.j1 k t250 ((t250.size : Int) == (x0.size : Int)) (x0.extract ((wrap64 ((t250.size : Int) + 1)) : Int).toNat x0.size)) else (none)) else (none))) else (some (0, (⟨#[]⟩ : ByteArray), false, (⟨#[]⟩ : ByteArray), (⟨#[]⟩ : ByteArray), ([] : List (S47)), 500)))))
def wherryref11_Verb.j1 : Nat → ByteArray → Bool → ByteArray → Option (Int × ByteArray × Bool × ByteArray × ByteArray × (List (S47)) × Int)
 | 0, _, _, _ => none
 | k + 1, x5, x6, x7 => if x5.toList = ([101, 104, 108, 111] : List UInt8) then (wherryref11_Verb.j2 k x5 x6 x7 x5 (x5.toList == ([101, 104, 108, 111] : List UInt8))) else (wherryref11_Verb.j2 k x5 x6 x7 x5 (x5.toList == ([104, 101, 108, 111] : List UInt8)))
def wherryref11_Verb.j2 : Nat → ByteArray → Bool → ByteArray → ByteArray → Bool → Option (Int × ByteArray × Bool × ByteArray × ByteArray × (List (S47)) × Int)
 | 0, _, _, _, _, _ => none
 | k + 1, x5, x6, x7, x53, x54 => if x54 = true then (if x6 = true then (some (0, (⟨#[]⟩ : ByteArray), false, (⟨#[]⟩ : ByteArray), (⟨#[]⟩ : ByteArray), ([] : List (S47)), 501)) else ((wherryref11_Domain.f k x7).bind fun t255 => (if t255 = true then (some (1, x7, false, (⟨#[]⟩ : ByteArray), (⟨#[]⟩ : ByteArray), ([] : List (S47)), 0)) else (some (0, (⟨#[]⟩ : ByteArray), false, (⟨#[]⟩ : ByteArray), (⟨#[]⟩ : ByteArray), ([] : List (S47)), 501))))) else (if x53.toList = ([109, 97, 105, 108] : List UInt8) then ((wherryref11_begins.f k x7 (⟨#[102, 114, 111, 109, 58]⟩ : ByteArray)).bind fun bt256 => (if x6 = true then (some (0, (⟨#[]⟩ : ByteArray), false, (⟨#[]⟩ : ByteArray), (⟨#[]⟩ : ByteArray), ([] : List (S47)), 501)) else (if bt256.2 = true then ((wherryref11_pathed.f k bt256.1 2).bind fun bt258 => (some (bt258.1, bt258.2.1, bt258.2.2.1, bt258.2.2.2.1, bt258.2.2.2.2.1, bt258.2.2.2.2.2.1, bt258.2.2.2.2.2.2))) else (some (0, (⟨#[]⟩ : ByteArray), false, (⟨#[]⟩ : ByteArray), (⟨#[]⟩ : ByteArray), ([] : List (S47)), 501))))) else (if x53.toList = ([114, 99, 112, 116] : List UInt8) then ((wherryref11_begins.f k x7 (⟨#[116, 111, 58]⟩ : ByteArray)).bind fun bt267 => (if x6 = true then (some (0, (⟨#[]⟩ : ByteArray), false, (⟨#[]⟩ : ByteArray), (⟨#[]⟩ : ByteArray), ([] : List (S47)), 501)) else (if bt267.2 = true then ((wherryref11_pathed.f k bt267.1 3).bind fun bt269 => (some (bt269.1, bt269.2.1, bt269.2.2.1, bt269.2.2.2.1, bt269.2.2.2.2.1, bt269.2.2.2.2.2.1, bt269.2.2.2.2.2.2))) else (some (0, (⟨#[]⟩ : ByteArray), false, (⟨#[]⟩ : ByteArray), (⟨#[]⟩ : ByteArray), ([] : List (S47)), 501))))) else (if x53.toList = ([100, 97, 116, 97] : List UInt8) then (wherryref11_Verb.j3 k x5 x6 x7 x53 (x53.toList == ([100, 97, 116, 97] : List UInt8))) else (if x53.toList = ([114, 115, 101, 116] : List UInt8) then (wherryref11_Verb.j3 k x5 x6 x7 x53 (x53.toList == ([114, 115, 101, 116] : List UInt8))) else (wherryref11_Verb.j3 k x5 x6 x7 x53 (x53.toList == ([113, 117, 105, 116] : List UInt8)))))))
def wherryref11_Verb.j3 : Nat → ByteArray → Bool → ByteArray → ByteArray → Bool → Option (Int × ByteArray × Bool × ByteArray × ByteArray × (List (S47)) × Int)
 | 0, _, _, _, _, _ => none
 | k + 1, x5, x6, x7, x53, x97 => if x97 = true then (if x6 = true then (if x5.toList = ([114, 115, 101, 116] : List UInt8) then (some (5, (⟨#[]⟩ : ByteArray), false, (⟨#[]⟩ : ByteArray), (⟨#[]⟩ : ByteArray), ([] : List (S47)), 0)) else (if x5.toList = ([113, 117, 105, 116] : List UInt8) then (some (8, (⟨#[]⟩ : ByteArray), false, (⟨#[]⟩ : ByteArray), (⟨#[]⟩ : ByteArray), ([] : List (S47)), 0)) else (some (4, (⟨#[]⟩ : ByteArray), false, (⟨#[]⟩ : ByteArray), (⟨#[]⟩ : ByteArray), ([] : List (S47)), 0)))) else (some (0, (⟨#[]⟩ : ByteArray), false, (⟨#[]⟩ : ByteArray), (⟨#[]⟩ : ByteArray), ([] : List (S47)), 501))) else (if x53.toList = ([110, 111, 111, 112] : List UInt8) then (some (7, (⟨#[]⟩ : ByteArray), false, (⟨#[]⟩ : ByteArray), (⟨#[]⟩ : ByteArray), ([] : List (S47)), 0)) else (if x53.toList = ([118, 114, 102, 121] : List UInt8) then (if x6 = true then (some (0, (⟨#[]⟩ : ByteArray), false, (⟨#[]⟩ : ByteArray), (⟨#[]⟩ : ByteArray), ([] : List (S47)), 501)) else (if x7.toList = ([] : List UInt8) then (some (0, (⟨#[]⟩ : ByteArray), false, (⟨#[]⟩ : ByteArray), (⟨#[]⟩ : ByteArray), ([] : List (S47)), 501)) else (some (6, x7, false, (⟨#[]⟩ : ByteArray), (⟨#[]⟩ : ByteArray), ([] : List (S47)), 0)))) else (if x53.toList = ([101, 116, 114, 110] : List UInt8) then (if x6 = true then (some (0, (⟨#[]⟩ : ByteArray), false, (⟨#[]⟩ : ByteArray), (⟨#[]⟩ : ByteArray), ([] : List (S47)), 501)) else ((wherryref11_Domain.f k x7).bind fun t278 => (if t278 = true then (some (9, x7, false, (⟨#[]⟩ : ByteArray), (⟨#[]⟩ : ByteArray), ([] : List (S47)), 0)) else (some (0, (⟨#[]⟩ : ByteArray), false, (⟨#[]⟩ : ByteArray), (⟨#[]⟩ : ByteArray), ([] : List (S47)), 501))))) else (if x53.toList = ([97, 117, 116, 104] : List UInt8) then ((wherryref11_Fold.f k x7).bind fun t279 => (if t279.toList = ([99, 114, 97, 109, 45, 109, 100, 53] : List UInt8) then (some (10, (⟨#[]⟩ : ByteArray), false, (⟨#[]⟩ : ByteArray), (⟨#[]⟩ : ByteArray), ([] : List (S47)), 0)) else ((wherryref11_mechanism.f k x7).bind fun t280 => (if t280 = true then (some (0, (⟨#[]⟩ : ByteArray), false, (⟨#[]⟩ : ByteArray), (⟨#[]⟩ : ByteArray), ([] : List (S47)), 504)) else (some (0, (⟨#[]⟩ : ByteArray), false, (⟨#[]⟩ : ByteArray), (⟨#[]⟩ : ByteArray), ([] : List (S47)), 501)))))) else (if x53.toList = ([97, 116, 114, 110] : List UInt8) then (if x6 = true then (some (11, (⟨#[]⟩ : ByteArray), false, (⟨#[]⟩ : ByteArray), (⟨#[]⟩ : ByteArray), ([] : List (S47)), 0)) else ((wherryref11_Domain.f k x7).bind fun t281 => (if t281 = true then (some (11, x7, false, (⟨#[]⟩ : ByteArray), (⟨#[]⟩ : ByteArray), ([] : List (S47)), 0)) else (some (0, (⟨#[]⟩ : ByteArray), false, (⟨#[]⟩ : ByteArray), (⟨#[]⟩ : ByteArray), ([] : List (S47)), 501))))) else (some (0, (⟨#[]⟩ : ByteArray), false, (⟨#[]⟩ : ByteArray), (⟨#[]⟩ : ByteArray), ([] : List (S47)), 501)))))))
end
def wherryref11_Verb.f (k : Nat) (a0 : ByteArray) : Option (Int × ByteArray × Bool × ByteArray × ByteArray × (List (S47)) × Int) := if (a0.size : Int) > 510 then (some (0, (⟨#[]⟩ : ByteArray), false, (⟨#[]⟩ : ByteArray), (⟨#[]⟩ : ByteArray), ([] : List (S47)), 500)) else (wherryref11_Verb.l0 k a0 0)
set_option maxHeartbeats 8000000 in
set_option maxRecDepth 100000 in
theorem wherryref11_Verb.calls (k : Nat) (a0 : ByteArray) (r1 : Int) (r2 : ByteArray) (r3 : Bool) (r4 : ByteArray) (r5 : ByteArray) (r6 : List (S47)) (r7 : Int) (w : World) (h : wherryref11_Verb.f k a0 = some (r1, r2, r3, r4, r5, r6, r7)) :
  Calls Tryz.prog 7 #[.string a0] w fun e w' => ∃ v5_ : Value, e = .returned (.tuple #[.agg #[.int .i64 r1, .string r2, .bool r3, .string r4, .string r5, v5_], .int .i64 r7]) ∧ Kd.R k47 47 w' w.heap.size (fun _ => True) v5_ r6 ∧ Below w.heap.size w w' := by
 have hu26 := Tryz.underlying26
 have HB := Aside0.mk (Below.refl w.heap.size w)
 have H : (if (a0.size : Int) > 510 then (some (0, (⟨#[]⟩ : ByteArray), false, (⟨#[]⟩ : ByteArray), (⟨#[]⟩ : ByteArray), ([] : List (S47)), 500)) else (wherryref11_Verb.l0 k a0 0)) = some (r1, r2, r3, r4, r5, r6, r7) := h
 clear h
 by_cases c2 : (a0.size : Int) > 510
 ·
  rw [if_pos c2] at H
  have c2b0 : decide (510 < (a0.size : Int)) = true := decide_eq_true c2
  have c2b1 : decide (510 < a0.size) = true := decide_eq_true (by omega)
  clear c2
  simp only [Option.some.injEq, Prod.mk.injEq] at H
  obtain ⟨rfl, rfl, rfl, rfl, rfl, rfl, rfl⟩ := H
  go_enter Tryz.func7, Tryz.ntmps7
  go_wp2_with (first | ((with_reducible refine gate_dst (N := 2) rfl ?_); refine box_event ?hg (N := 2) ?hd (cs := #[.int .i64 0, .string ⟨#[]⟩, .bool false, .string ⟨#[]⟩, .string ⟨#[]⟩, .slice none 0 0]) (t := 26) ?hr ?_; (case hd => rfl); (case hg => rfl); (case hr => first | (go_simp; done) | (go_simp; rfl)); intro gb249 hg w3 hbox hb; have BK249 := Aside0.mk (hbox); have GW249 := Aside0.mk ((by rw [hg]; exact (below_size (sB HB.out)) : w.heap.size ≤ gb249)); have GE249 := Aside0.mk ((by rw [hg]; exact (below_size (sB HB.out)) : w.heap.size ≤ gb249)); replace HB := Aside0.mk (below_step (sB HB.out) hb); clear hb hbox hg; have hcz4_0 := sC BK249.out 0; have hcz4_1 := sC BK249.out 1; have hcz4_2 := sC BK249.out 2; have hcz4_3 := sC BK249.out 3; have hcz4_4 := sC BK249.out 4; have hcz4_5 := sC BK249.out 5; have hfz4_0 := blk_frozen BK249.out 0; have hfz4_1 := blk_frozen BK249.out 1; have hfz4_2 := blk_frozen BK249.out 2; have hfz4_3 := blk_frozen BK249.out 3; have hfz4_4 := blk_frozen BK249.out 4; have hfz4_5 := blk_frozen BK249.out 5))
  refine bodyPost_ret (results_ct rfl _ _ gb249 26 #[.int .i64 0, .string ⟨#[]⟩, .bool false, .string ⟨#[]⟩, .string ⟨#[]⟩, .slice none 0 0] (0, 0) _ rfl (by refine sK ?_; refine blk_put (cs := #[.int .i64 0, .string ⟨#[]⟩, .bool false, .string ⟨#[]⟩, .string ⟨#[]⟩, .slice none 0 0]) ?_ 5 _ rfl; refine sK ?_; refine blk_put (cs := #[.int .i64 0, .string ⟨#[]⟩, .bool false, .string ⟨#[]⟩, .string ⟨#[]⟩, .slice none 0 0]) ?_ 4 _ rfl; refine sK ?_; refine blk_put (cs := #[.int .i64 0, .string ⟨#[]⟩, .bool false, .string ⟨#[]⟩, .string ⟨#[]⟩, .slice none 0 0]) ?_ 3 _ rfl; refine sK ?_; refine blk_put (cs := #[.int .i64 0, .string ⟨#[]⟩, .bool false, .string ⟨#[]⟩, .string ⟨#[]⟩, .slice none 0 0]) ?_ 2 _ rfl; refine sK ?_; refine blk_put (cs := #[.int .i64 0, .string ⟨#[]⟩, .bool false, .string ⟨#[]⟩, .string ⟨#[]⟩, .slice none 0 0]) ?_ 1 _ rfl; refine sK ?_; refine blk_put (cs := #[.int .i64 0, .string ⟨#[]⟩, .bool false, .string ⟨#[]⟩, .string ⟨#[]⟩, .slice none 0 0]) ?_ 0 _ rfl; refine sK ?_; exact BK249.out) Tryz.underlying26 rfl (by kernel_rfl)) rfl ?_
  exact ⟨_, by first | rfl | (simp [errW_none, errW_some] <;> rfl) | (simp [*, errW_none, errW_some] <;> rfl), by first | exact Kd.R_nil _ _ _ _ _ | exact Kd.N_nil _ _ _ _ _ | exact Kd.V_nil _ _ _ _ _ | exact Kd.Q_nil _ _ _ _ _ | exact Kd.S_nil _ _ _ _ _, sB HB.out⟩
 ·
  rw [if_neg c2] at H
  have c2b0 : decide (510 < (a0.size : Int)) = false := decide_eq_false c2
  have c2b1 : decide (510 < a0.size) = false := decide_eq_false (by omega)
  clear c2
  have H' := Aside0.mk H
  clear H
  go_enter Tryz.func7, Tryz.ntmps7
  go_wp2_with (first | ((with_reducible refine gate_dst (N := 2) rfl ?_); refine box_event ?hg (N := 2) ?hd (cs := #[.int .i64 0, .string ⟨#[]⟩, .bool false, .string ⟨#[]⟩, .string ⟨#[]⟩, .slice none 0 0]) (t := 26) ?hr ?_; (case hd => rfl); (case hg => rfl); (case hr => first | (go_simp; done) | (go_simp; rfl)); intro gb249 hg w5 hbox hb; have BK249 := Aside0.mk (hbox); have GW249 := Aside0.mk ((by rw [hg]; exact (below_size (sB HB.out)) : w.heap.size ≤ gb249)); have GE249 := Aside0.mk ((by rw [hg]; exact (below_size (sB HB.out)) : w.heap.size ≤ gb249)); replace HB := Aside0.mk (below_step (sB HB.out) hb); clear hb hbox hg))
  go_loopg [4] k (fun kq v4 w' => ∃ (x4_1 : Int) (x250000_1 : Int) (x250001_1 : ByteArray) (x250002_1 : Bool) (x250003_1 : ByteArray) (x250004_1 : ByteArray), v4 = .int .i64 x4_1 ∧ Aside0 (wherryref11_Verb.l0 kq a0 x4_1 = some (r1, r2, r3, r4, r5, r6, r7)) ∧ Aside0 (kq ≤ k) ∧ Aside0 (w'.heap[gb249]? = some (.cells #[.int .i64 x250000_1, .string x250001_1, .bool x250002_1, .string x250003_1, .string x250004_1, (.slice none 0 0)] 26 (0, 0))) ∧ Aside0 (Below w.heap.size w w'))
  case atStart => exact ⟨(0), (0), ((⟨#[]⟩ : ByteArray)), (false), ((⟨#[]⟩ : ByteArray)), ((⟨#[]⟩ : ByteArray)), (by first | rfl | (simp; done) | (simp [*]; done)), H', ⟨Nat.le_refl _⟩, ⟨by refine sK ?_; exact BK249.out⟩, ⟨sB HB.out⟩⟩
  case round =>
   clear H'
   try clear c2; try clear c2b0; try clear c2b1; try clear p2; try clear hcz4_0; try clear hcz4_1; try clear hcz4_2; try clear hcz4_3; try clear hcz4_4; try clear hcz4_5; try clear hfz4_0; try clear hfz4_1; try clear hfz4_2; try clear hfz4_3; try clear hfz4_4; try clear hfz4_5
   obtain ⟨x4_1, x250000_1, x250001_1, x250002_1, x250003_1, x250004_1, rfl, HA, HK1, BK249, HB⟩ := hrel
   cases gk with
   | zero => exact absurd HA.out (by simp [wherryref11_Verb.l0])
   | succ k1 =>
    have H := HA.out
    clear HA
    simp only [wherryref11_Verb.l0] at H
    by_cases c6 : x4_1 < (a0.size : Int)
    ·
     rw [if_pos c6] at H
     have c6b0 : decide (x4_1 < (a0.size : Int)) = true := decide_eq_true c6
     clear c6
     by_cases c7 : 0 ≤ x4_1
     ·
      rw [if_pos c7] at H
      have c7b0 : decide (0 ≤ x4_1) = true := decide_eq_true c7
      clear c7
      by_cases c9 : (bt a0 x4_1) < 32
      ·
       rw [if_pos c9] at H
       have c9b0 : decide ((bt a0 x4_1) < 32) = true := decide_eq_true c9
       clear c9
       simp only [Option.some.injEq, Prod.mk.injEq] at H
       obtain ⟨rfl, rfl, rfl, rfl, rfl, rfl, rfl⟩ := H
       have p8 : 0 ≤ (x4_1 : Int) := of_decide_eq_true sA
       have q8 : x4_1 < (a0.size : Int) := of_decide_eq_true sA
       have hx8 := bt_at a0 x4_1
       replace p8 := eq_true p8
       replace q8 := eq_true q8
       have hcz10_0 := sC BK249.out 0
       have hcz10_1 := sC BK249.out 1
       have hcz10_2 := sC BK249.out 2
       have hcz10_3 := sC BK249.out 3
       have hcz10_4 := sC BK249.out 4
       have hcz10_5 := sC BK249.out 5
       have hfz10_0 := blk_frozen BK249.out 0
       have hfz10_1 := blk_frozen BK249.out 1
       have hfz10_2 := blk_frozen BK249.out 2
       have hfz10_3 := blk_frozen BK249.out 3
       have hfz10_4 := blk_frozen BK249.out 4
       have hfz10_5 := blk_frozen BK249.out 5
       go_wp2
       refine bodyPost_ret (results_ct rfl _ _ gb249 26 #[.int .i64 0, .string ⟨#[]⟩, .bool false, .string ⟨#[]⟩, .string ⟨#[]⟩, .slice none 0 0] (0, 0) _ rfl (by refine sK ?_; refine blk_put (cs := #[.int .i64 0, .string ⟨#[]⟩, .bool false, .string ⟨#[]⟩, .string ⟨#[]⟩, .slice none 0 0]) ?_ 5 _ rfl; refine sK ?_; refine blk_put (cs := #[.int .i64 0, .string ⟨#[]⟩, .bool false, .string ⟨#[]⟩, .string x250004_1, .slice none 0 0]) ?_ 4 _ rfl; refine sK ?_; refine blk_put (cs := #[.int .i64 0, .string ⟨#[]⟩, .bool false, .string x250003_1, .string x250004_1, .slice none 0 0]) ?_ 3 _ rfl; refine sK ?_; refine blk_put (cs := #[.int .i64 0, .string ⟨#[]⟩, .bool x250002_1, .string x250003_1, .string x250004_1, .slice none 0 0]) ?_ 2 _ rfl; refine sK ?_; refine blk_put (cs := #[.int .i64 0, .string x250001_1, .bool x250002_1, .string x250003_1, .string x250004_1, .slice none 0 0]) ?_ 1 _ rfl; refine sK ?_; refine blk_put (cs := #[.int .i64 x250000_1, .string x250001_1, .bool x250002_1, .string x250003_1, .string x250004_1, .slice none 0 0]) ?_ 0 _ rfl; refine sK ?_; exact BK249.out) Tryz.underlying26 rfl (by kernel_rfl)) rfl ?_
       exact ⟨_, by first | rfl | (simp [errW_none, errW_some] <;> rfl) | (simp [*, errW_none, errW_some] <;> rfl), by first | exact Kd.R_nil _ _ _ _ _ | exact Kd.N_nil _ _ _ _ _ | exact Kd.V_nil _ _ _ _ _ | exact Kd.Q_nil _ _ _ _ _ | exact Kd.S_nil _ _ _ _ _, sB HB.out⟩
      ·
       rw [if_neg c9] at H
       have c9b0 : decide ((bt a0 x4_1) < 32) = false := decide_eq_false c9
       clear c9
       by_cases c12 : (bt a0 x4_1) > 126
       ·
        rw [if_pos c12] at H
        have c12b0 : decide (126 < (bt a0 x4_1)) = true := decide_eq_true c12
        clear c12
        simp only [Option.some.injEq, Prod.mk.injEq] at H
        obtain ⟨rfl, rfl, rfl, rfl, rfl, rfl, rfl⟩ := H
        have p8 : 0 ≤ (x4_1 : Int) := of_decide_eq_true sA
        have q8 : x4_1 < (a0.size : Int) := of_decide_eq_true sA
        have hx8 := bt_at a0 x4_1
        replace p8 := eq_true p8
        replace q8 := eq_true q8
        have p11 : 0 ≤ (x4_1 : Int) := of_decide_eq_true sA
        have q11 : x4_1 < (a0.size : Int) := of_decide_eq_true sA
        have hx11 := bt_at a0 x4_1
        replace p11 := eq_true p11
        replace q11 := eq_true q11
        have hcz13_0 := sC BK249.out 0
        have hcz13_1 := sC BK249.out 1
        have hcz13_2 := sC BK249.out 2
        have hcz13_3 := sC BK249.out 3
        have hcz13_4 := sC BK249.out 4
        have hcz13_5 := sC BK249.out 5
        have hfz13_0 := blk_frozen BK249.out 0
        have hfz13_1 := blk_frozen BK249.out 1
        have hfz13_2 := blk_frozen BK249.out 2
        have hfz13_3 := blk_frozen BK249.out 3
        have hfz13_4 := blk_frozen BK249.out 4
        have hfz13_5 := blk_frozen BK249.out 5
        go_wp2
        refine bodyPost_ret (results_ct rfl _ _ gb249 26 #[.int .i64 0, .string ⟨#[]⟩, .bool false, .string ⟨#[]⟩, .string ⟨#[]⟩, .slice none 0 0] (0, 0) _ rfl (by refine sK ?_; refine blk_put (cs := #[.int .i64 0, .string ⟨#[]⟩, .bool false, .string ⟨#[]⟩, .string ⟨#[]⟩, .slice none 0 0]) ?_ 5 _ rfl; refine sK ?_; refine blk_put (cs := #[.int .i64 0, .string ⟨#[]⟩, .bool false, .string ⟨#[]⟩, .string x250004_1, .slice none 0 0]) ?_ 4 _ rfl; refine sK ?_; refine blk_put (cs := #[.int .i64 0, .string ⟨#[]⟩, .bool false, .string x250003_1, .string x250004_1, .slice none 0 0]) ?_ 3 _ rfl; refine sK ?_; refine blk_put (cs := #[.int .i64 0, .string ⟨#[]⟩, .bool x250002_1, .string x250003_1, .string x250004_1, .slice none 0 0]) ?_ 2 _ rfl; refine sK ?_; refine blk_put (cs := #[.int .i64 0, .string x250001_1, .bool x250002_1, .string x250003_1, .string x250004_1, .slice none 0 0]) ?_ 1 _ rfl; refine sK ?_; refine blk_put (cs := #[.int .i64 x250000_1, .string x250001_1, .bool x250002_1, .string x250003_1, .string x250004_1, .slice none 0 0]) ?_ 0 _ rfl; refine sK ?_; exact BK249.out) Tryz.underlying26 rfl (by kernel_rfl)) rfl ?_
        exact ⟨_, by first | rfl | (simp [errW_none, errW_some] <;> rfl) | (simp [*, errW_none, errW_some] <;> rfl), by first | exact Kd.R_nil _ _ _ _ _ | exact Kd.N_nil _ _ _ _ _ | exact Kd.V_nil _ _ _ _ _ | exact Kd.Q_nil _ _ _ _ _ | exact Kd.S_nil _ _ _ _ _, sB HB.out⟩
       ·
        rw [if_neg c12] at H
        have c12b0 : decide (126 < (bt a0 x4_1)) = false := decide_eq_false c12
        clear c12
        have H' := Aside0.mk H
        clear H
        have p8 : 0 ≤ (x4_1 : Int) := of_decide_eq_true sA
        have q8 : x4_1 < (a0.size : Int) := of_decide_eq_true sA
        have hx8 := bt_at a0 x4_1
        replace p8 := eq_true p8
        replace q8 := eq_true q8
        have p11 : 0 ≤ (x4_1 : Int) := of_decide_eq_true sA
        have q11 : x4_1 < (a0.size : Int) := of_decide_eq_true sA
        have hx11 := bt_at a0 x4_1
        replace p11 := eq_true p11
        replace q11 := eq_true q11
        go_wp2
        go_roundg k1
        case measure => have := HK1.out; omega
        case rel => exact ⟨(wrap64 (x4_1 + 1)), (x250000_1), (x250001_1), (x250002_1), (x250003_1), (x250004_1), (by first | rfl | (simp; done) | (simp [*]; done)), H', ⟨by have := HK1.out; omega⟩, ⟨by refine sK ?_; exact BK249.out⟩, ⟨sB HB.out⟩⟩
     ·
      rw [if_neg c7] at H
      exact absurd H (by simp)
    ·
     rw [if_neg c6] at H
     have c6b0 : decide (x4_1 < (a0.size : Int)) = false := decide_eq_false c6
     clear c6
     replace H := Option.bind_eq_some_iff.mp H
     obtain ⟨t250, A140, H⟩ := H
     try dsimp -simprocs only at H
     have A14 := Aside0.mk A140
     clear A140
     obtain ⟨y251, hy251⟩ : ∃ y_ : List ByteArray, y_ = (([(⟨#[101, 104, 108, 111]⟩ : ByteArray), (⟨#[104, 101, 108, 111]⟩ : ByteArray), (⟨#[109, 97, 105, 108]⟩ : ByteArray), (⟨#[114, 99, 112, 116]⟩ : ByteArray), (⟨#[100, 97, 116, 97]⟩ : ByteArray), (⟨#[114, 115, 101, 116]⟩ : ByteArray), (⟨#[113, 117, 105, 116]⟩ : ByteArray), (⟨#[110, 111, 111, 112]⟩ : ByteArray), (⟨#[118, 114, 102, 121]⟩ : ByteArray), (⟨#[101, 116, 114, 110]⟩ : ByteArray), (⟨#[97, 117, 116, 104]⟩ : ByteArray), (⟨#[97, 116, 114, 110]⟩ : ByteArray)] : List ByteArray)) := ⟨_, rfl⟩
     replace H : ((wherryref11_among.f k1 t250 y251).bind fun t254 => (if t254 = true then (if ((t250.size : Int) = (a0.size : Int)) then (wherryref11_Verb.j1 k1 t250 ((t250.size : Int) == (a0.size : Int)) (⟨#[]⟩ : ByteArray)) else (if 0 ≤ (wrap64 ((t250.size : Int) + 1)) then (if (wrap64 ((t250.size : Int) + 1)) ≤ (a0.size : Int) then (wherryref11_Verb.j1 k1 t250 ((t250.size : Int) == (a0.size : Int)) (a0.extract ((wrap64 ((t250.size : Int) + 1)) : Int).toNat a0.size)) else (none)) else (none))) else (some (0, (⟨#[]⟩ : ByteArray), false, (⟨#[]⟩ : ByteArray), (⟨#[]⟩ : ByteArray), ([] : List (S47)), 500)))) = some (r1, r2, r3, r4, r5, r6, r7) := by first | (rw [hy251]; with_reducible exact H) | (have H2_ := (Option.bind_some _ _).symm.trans H; rw [hy251]; with_reducible exact H2_) | (have H2_ := (Option.bind_some _ _).symm.trans H; with_reducible exact H2_) | with_reducible exact H | (rw [hy251]; exact H) | exact H
     have Ny251 := Aside0.mk hy251
     clear hy251
     replace H := Option.bind_eq_some_iff.mp H
     obtain ⟨t254, A150, H⟩ := H
     try dsimp -simprocs only at H
     have A15 := Aside0.mk A150
     clear A150
     by_cases c16 : t254 = true
     ·
      subst c16
      rw [if_pos rfl] at H
      try dsimp -simprocs only at H
      have HC17 := Aside0.mk H
      clear H
      go_upto_if 47 with (first | ((with_reducible refine gate_callee (f := 24) rfl ?_); refine goesL_ (some 35) rfl rfl Tryz.func24 (by kernel_rfl) rfl #[.string a0] rfl sM ?_; (with_reducible refine (wherryref11_first.calls k1 a0 t250 _ A14.out).mono ?_); rintro e w18 ⟨rfl, hb⟩; refine ⟨_, rfl, ?_⟩; replace BK249 := Aside0.mk (blk_below (g := gb249) (o := .cells #[.int .i64 x250000_1, .string x250001_1, .bool x250002_1, .string x250003_1, .string x250004_1, .slice none 0 0] 26 (0, 0)) (sK BK249.out) hb); replace HB := Aside0.mk (below_step (sB HB.out) hb); (try clear hb)) | ((with_reducible refine gate_dst (N := 37) rfl ?_); refine Kd.R_lit Kd.string _ 9 ?hg (N := 37) ?hd (xs := ([(⟨#[101, 104, 108, 111]⟩ : ByteArray), (⟨#[104, 101, 108, 111]⟩ : ByteArray), (⟨#[109, 97, 105, 108]⟩ : ByteArray), (⟨#[114, 99, 112, 116]⟩ : ByteArray), (⟨#[100, 97, 116, 97]⟩ : ByteArray), (⟨#[114, 115, 101, 116]⟩ : ByteArray), (⟨#[113, 117, 105, 116]⟩ : ByteArray), (⟨#[110, 111, 111, 112]⟩ : ByteArray), (⟨#[118, 114, 102, 121]⟩ : ByteArray), (⟨#[101, 116, 114, 110]⟩ : ByteArray), (⟨#[97, 117, 116, 104]⟩ : ByteArray), (⟨#[97, 116, 114, 110]⟩ : ByteArray)] : List ByteArray)) (inner := [.string ⟨#[101, 104, 108, 111]⟩, .string ⟨#[104, 101, 108, 111]⟩, .string ⟨#[109, 97, 105, 108]⟩, .string ⟨#[114, 99, 112, 116]⟩, .string ⟨#[100, 97, 116, 97]⟩, .string ⟨#[114, 115, 101, 116]⟩, .string ⟨#[113, 117, 105, 116]⟩, .string ⟨#[110, 111, 111, 112]⟩, .string ⟨#[118, 114, 102, 121]⟩, .string ⟨#[101, 116, 114, 110]⟩, .string ⟨#[97, 117, 116, 104]⟩, .string ⟨#[97, 116, 114, 110]⟩]) (ok := fun _ => True) (okp := fun _ => True) ?hr ?hp (fun _ hk => hk) trivial (Below.refl _ _) (Nat.le_refl _) (by simp) ?_; (case hd => rfl); (case hg => rfl); (case hr => first | (go_simp; done) | (go_simp; rfl)); (case hp => exact (Reps.one (show Kd.M Kd.string _ _ _ (⟨#[101, 104, 108, 111]⟩ : ByteArray) [.string ⟨#[101, 104, 108, 111]⟩] from rfl) (Reps.one (show Kd.M Kd.string _ _ _ (⟨#[104, 101, 108, 111]⟩ : ByteArray) [.string ⟨#[104, 101, 108, 111]⟩] from rfl) (Reps.one (show Kd.M Kd.string _ _ _ (⟨#[109, 97, 105, 108]⟩ : ByteArray) [.string ⟨#[109, 97, 105, 108]⟩] from rfl) (Reps.one (show Kd.M Kd.string _ _ _ (⟨#[114, 99, 112, 116]⟩ : ByteArray) [.string ⟨#[114, 99, 112, 116]⟩] from rfl) (Reps.one (show Kd.M Kd.string _ _ _ (⟨#[100, 97, 116, 97]⟩ : ByteArray) [.string ⟨#[100, 97, 116, 97]⟩] from rfl) (Reps.one (show Kd.M Kd.string _ _ _ (⟨#[114, 115, 101, 116]⟩ : ByteArray) [.string ⟨#[114, 115, 101, 116]⟩] from rfl) (Reps.one (show Kd.M Kd.string _ _ _ (⟨#[113, 117, 105, 116]⟩ : ByteArray) [.string ⟨#[113, 117, 105, 116]⟩] from rfl) (Reps.one (show Kd.M Kd.string _ _ _ (⟨#[110, 111, 111, 112]⟩ : ByteArray) [.string ⟨#[110, 111, 111, 112]⟩] from rfl) (Reps.one (show Kd.M Kd.string _ _ _ (⟨#[118, 114, 102, 121]⟩ : ByteArray) [.string ⟨#[118, 114, 102, 121]⟩] from rfl) (Reps.one (show Kd.M Kd.string _ _ _ (⟨#[101, 116, 114, 110]⟩ : ByteArray) [.string ⟨#[101, 116, 114, 110]⟩] from rfl) (Reps.one (show Kd.M Kd.string _ _ _ (⟨#[97, 117, 116, 104]⟩ : ByteArray) [.string ⟨#[97, 117, 116, 104]⟩] from rfl) (Reps.one (show Kd.M Kd.string _ _ _ (⟨#[97, 116, 114, 110]⟩ : ByteArray) [.string ⟨#[97, 116, 114, 110]⟩] from rfl) (Reps.none _ _)))))))))))))); intro v252 w19 ho20 hb hg_ hnew_; clear hg_ hnew_; (first | rw [← Ny251.out] at ho20 | (simp only [Int.reduceToNat] at ho20; rw [← Ny251.out] at ho20)); have HO253 := Aside0.mk (Kd.R_lower ho20 (below_size (sB HB.out))); replace BK249 := Aside0.mk (blk_below (g := gb249) (o := .cells #[.int .i64 x250000_1, .string x250001_1, .bool x250002_1, .string x250003_1, .string x250004_1, .slice none 0 0] 26 (0, 0)) (sK BK249.out) hb); replace HB := Aside0.mk (below_step (sB HB.out) hb); clear hb ho20; obtain ⟨Ao21, co21, eo21⟩ := Kd.R_slice HO253.out; subst eo21) | ((with_reducible refine gate_callee (f := 25) rfl ?_); refine goesL_ (some 38) rfl rfl Tryz.func25 (by kernel_rfl) rfl #[.string t250, .slice Ao21 y251.length co21] rfl sM ?_; (with_reducible refine (wherryref11_among.calls k1 t250 _ _ y251 true _ ?side1 ?side2 A15.out).mono ?_); (case side1 => repeat (first | exact (Kd.R_reads' HO253.out).2.2 | (with_reducible refine Kd.C_alloc ?_ _) | (with_reducible refine Kd.C_drewN ?_ _) | (with_reducible refine Kd.C_drew ?_))); (case side2 => exact (Kd.R_reads' HO253.out).2.1); rintro e w' ⟨rfl, ⟨nd, rfl⟩⟩; refine ⟨_, rfl, ?_⟩))
      (try simp only [Act.put, List.setIfInBounds_toArray, List.set_cons_zero, List.set_cons_succ])
      go_cut [6, 7] (fun v6 v7 wc => ∃ (xb : Bool) (kq : Nat) (x7_16 : ByteArray), v6 = .bool xb ∧ v7 = .string x7_16 ∧ Aside0 (wherryref11_Verb.j1 kq t250 xb x7_16 = some (r1, r2, r3, r4, r5, r6, r7)) ∧ Aside0 (kq ≤ k1) ∧ Aside0 (wc.heap[gb249]? = some (.cells #[.int .i64 x250000_1, .string x250001_1, .bool x250002_1, .string x250003_1, .string x250004_1, (.slice none 0 0)] 26 (0, 0))) ∧ Aside0 (Below w.heap.size w wc))
      case first =>
       have H := HC17.out
       clear HC17
       by_cases c22 : ((t250.size : Int) = (a0.size : Int))
       ·
        rw [if_pos c22] at H
        have c22b0 : ((t250.size : Int) == (a0.size : Int)) = true := beq_iff_eq.mpr c22
        have c22b1 : ((t250.size : Int) != (a0.size : Int)) = false := bne_eq_false_iff_eq.mpr c22
        have c22b2 : (t250.size == a0.size) = true := by first | simpa using c22 | (simp at c22 ⊢; omega)
        clear c22
        (first | rw [c22b0] | (simp only [i64_w, i32_w]; rw [c22b0]) | skip)
        rw [c22b0] at H
        have H' := Aside0.mk H
        clear H
        go_wp2
        go_meet
        case rel => exact ⟨_, _, ((⟨#[]⟩ : ByteArray)), rfl, (by first | rfl | (simp; done) | (simp [*]; done)), H', ⟨by have := HK1.out; first | omega | exact Nat.le_refl _⟩, ⟨by refine sK ?_; exact BK249.out⟩, ⟨sB HB.out⟩⟩
       ·
        rw [if_neg c22] at H
        have c22b0 : ((t250.size : Int) == (a0.size : Int)) = false := beq_eq_false_iff_ne.mpr c22
        have c22b1 : ((t250.size : Int) != (a0.size : Int)) = true := bne_iff_ne.mpr c22
        have c22b2 : (t250.size == a0.size) = false := by first | simpa using c22 | (simp at c22 ⊢; omega)
        (first | rw [c22b0] | (simp only [i64_w, i32_w]; rw [c22b0]) | skip)
        obtain ⟨ji23, hji23⟩ : ∃ j_ : Int, (wrap64 ((t250.size : Int) + 1)) = j_ := ⟨_, rfl⟩
        replace H : (if 0 ≤ (ji23) then (if (ji23) ≤ (a0.size : Int) then (wherryref11_Verb.j1 k1 t250 ((t250.size : Int) == (a0.size : Int)) (a0.extract ((ji23) : Int).toNat a0.size)) else (none)) else (none)) = some (r1, r2, r3, r4, r5, r6, r7) := by first | (rw [hji23] at H; exact H) | (simp only [hji23] at H ⊢; exact H)
        have hji23w : (IntKind.i64.wrap ((t250.size : Int) + 1)) = ji23 := (i64_w _).trans hji23
        by_cases c24 : 0 ≤ (ji23)
        ·
         rw [if_pos c24] at H
         have c24b0 := eq_true c24
         have c24b1 : decide (0 ≤ (ji23)) = true := decide_eq_true c24
         clear c24
         by_cases c25 : (ji23) ≤ (a0.size : Int)
         ·
          rw [if_pos c25] at H
          have c25b0 := eq_true c25
          have c25b1 : decide ((ji23) ≤ (a0.size : Int)) = true := decide_eq_true c25
          clear c25
          rw [c22b0] at H
          have H' := Aside0.mk H
          clear H
          go_wp2
          go_meet
          case rel => exact ⟨_, _, (a0.extract ((ji23) : Int).toNat a0.size), rfl, (by first | rfl | (simp; done) | (simp only [← hji23] <;> (first | rfl | simp)) | (simp [*]; done)), H', ⟨by have := HK1.out; first | omega | exact Nat.le_refl _⟩, ⟨by refine sK ?_; exact BK249.out⟩, ⟨sB HB.out⟩⟩
         ·
          rw [if_neg c25] at H
          exact absurd H (by simp)
        ·
         rw [if_neg c24] at H
         exact absurd H (by simp)
      case rest =>
       clear HC17
       try clear c1; try clear p1; try clear q1; try clear hx1; try clear c2; try clear c2b0; try clear c2b1; try clear p2; try clear c6; try clear c6b0; try clear p6; try clear c7; try clear c7b0; try clear p8; try clear q8; try clear hx8; try clear c9; try clear c9b0; try clear p11; try clear q11; try clear hx11; try clear c12; try clear c12b0; try clear c16; try clear c22; try clear c22b0; try clear c22b1; try clear c22b2; try clear c24; try clear c24b0; try clear c24b1; try clear c25; try clear c25b0; try clear c25b1; try clear hcz10_0; try clear hcz10_1; try clear hcz10_2; try clear hcz10_3; try clear hcz10_4; try clear hcz10_5; try clear hcz13_0; try clear hcz13_1; try clear hcz13_2; try clear hcz13_3; try clear hcz13_4; try clear hcz13_5; try clear hcz4_0; try clear hcz4_1; try clear hcz4_2; try clear hcz4_3; try clear hcz4_4; try clear hcz4_5; try clear hfz10_0; try clear hfz10_1; try clear hfz10_2; try clear hfz10_3; try clear hfz10_4; try clear hfz10_5; try clear hfz13_0; try clear hfz13_1; try clear hfz13_2; try clear hfz13_3; try clear hfz13_4; try clear hfz13_5; try clear hfz4_0; try clear hfz4_1; try clear hfz4_2; try clear hfz4_3; try clear hfz4_4; try clear hfz4_5; try clear p11; try clear p2; try clear p8; try clear q11; try clear q8
       obtain ⟨xb, kq, x7_16, rfl, rfl, HA, HJ16, BK249, HB⟩ := hcut
       cases kq with
       | zero => exact absurd HA.out (by simp [wherryref11_Verb.j1])
       | succ kj16 =>
        have H := HA.out
        clear HA
        simp only [wherryref11_Verb.j1] at H
        have HC26 := Aside0.mk H
        clear H
        go_upto_if 54 with (fail)
        go_cut [54] (fun v54 wc => ∃ (kq : Nat) (x54_25 : Bool), v54 = .bool x54_25 ∧ Aside0 (wherryref11_Verb.j2 kq t250 xb x7_16 t250 x54_25 = some (r1, r2, r3, r4, r5, r6, r7)) ∧ Aside0 (kq ≤ kj16) ∧ Aside0 (wc.heap[gb249]? = some (.cells #[.int .i64 x250000_1, .string x250001_1, .bool x250002_1, .string x250003_1, .string x250004_1, (.slice none 0 0)] 26 (0, 0))) ∧ Aside0 (Below w.heap.size w wc))
        case first =>
         have H := HC26.out
         clear HC26
         by_cases c27 : t250.toList = ([101, 104, 108, 111] : List UInt8)
         ·
          rw [if_pos c27] at H
          have c27b0 : (t250.toList == ([101, 104, 108, 111] : List UInt8)) = true := beq_iff_eq.mpr c27
          have c27b1 : (t250.toList != ([101, 104, 108, 111] : List UInt8)) = false := bne_eq_false_iff_eq.mpr c27
          clear c27
          (first | rw [c27b0] | (simp only [i64_w, i32_w]; rw [c27b0]) | skip)
          have H' := Aside0.mk H
          clear H
          go_wp2
          go_meet
          case rel => exact ⟨_, ((t250.toList == ([101, 104, 108, 111] : List UInt8))), (by first | rfl | (simp; done) | (simp [*]; done)), H', ⟨by have := HK1.out; have := HJ16.out; first | omega | exact Nat.le_refl _⟩, ⟨by refine sK ?_; exact BK249.out⟩, ⟨sB HB.out⟩⟩
         ·
          rw [if_neg c27] at H
          have c27b0 : (t250.toList == ([101, 104, 108, 111] : List UInt8)) = false := beq_eq_false_iff_ne.mpr c27
          have c27b1 : (t250.toList != ([101, 104, 108, 111] : List UInt8)) = true := bne_iff_ne.mpr c27
          (first | rw [c27b0] | (simp only [i64_w, i32_w]; rw [c27b0]) | skip)
          have H' := Aside0.mk H
          clear H
          go_wp2
          go_meet
          case rel => exact ⟨_, ((t250.toList == ([104, 101, 108, 111] : List UInt8))), (by first | rfl | (simp; done) | (simp [*]; done)), H', ⟨by have := HK1.out; have := HJ16.out; first | omega | exact Nat.le_refl _⟩, ⟨by refine sK ?_; exact BK249.out⟩, ⟨sB HB.out⟩⟩
        case rest =>
         clear HC26
         try clear c1; try clear p1; try clear q1; try clear hx1; try clear c2; try clear c2b0; try clear c2b1; try clear p2; try clear c6; try clear c6b0; try clear p6; try clear c7; try clear c7b0; try clear p8; try clear q8; try clear hx8; try clear c9; try clear c9b0; try clear p11; try clear q11; try clear hx11; try clear c12; try clear c12b0; try clear c16; try clear c22; try clear c22b0; try clear c22b1; try clear c22b2; try clear c24; try clear c24b0; try clear c24b1; try clear c25; try clear c25b0; try clear c25b1; try clear c27; try clear c27b0; try clear c27b1; try clear hcz10_0; try clear hcz10_1; try clear hcz10_2; try clear hcz10_3; try clear hcz10_4; try clear hcz10_5; try clear hcz13_0; try clear hcz13_1; try clear hcz13_2; try clear hcz13_3; try clear hcz13_4; try clear hcz13_5; try clear hcz4_0; try clear hcz4_1; try clear hcz4_2; try clear hcz4_3; try clear hcz4_4; try clear hcz4_5; try clear hfz10_0; try clear hfz10_1; try clear hfz10_2; try clear hfz10_3; try clear hfz10_4; try clear hfz10_5; try clear hfz13_0; try clear hfz13_1; try clear hfz13_2; try clear hfz13_3; try clear hfz13_4; try clear hfz13_5; try clear hfz4_0; try clear hfz4_1; try clear hfz4_2; try clear hfz4_3; try clear hfz4_4; try clear hfz4_5; try clear p1; try clear p11; try clear p2; try clear p6; try clear p8; try clear q1; try clear q11; try clear q8
         obtain ⟨kq, x54_25, rfl, HA, HJ25, BK249, HB⟩ := hcut
         cases kq with
         | zero => exact absurd HA.out (by simp [wherryref11_Verb.j2])
         | succ kj25 =>
          have H := HA.out
          clear HA
          simp only [wherryref11_Verb.j2] at H
          by_cases c28 : x54_25 = true
          ·
           subst c28
           rw [if_pos rfl] at H
           try dsimp -simprocs only at H
           by_cases c29 : xb = true
           ·
            rw [if_pos c29] at H
            subst c29
            try clear c29
            simp only [Option.some.injEq, Prod.mk.injEq] at H
            obtain ⟨rfl, rfl, rfl, rfl, rfl, rfl, rfl⟩ := H
            have hcz30_0 := sC BK249.out 0
            have hcz30_1 := sC BK249.out 1
            have hcz30_2 := sC BK249.out 2
            have hcz30_3 := sC BK249.out 3
            have hcz30_4 := sC BK249.out 4
            have hcz30_5 := sC BK249.out 5
            have hfz30_0 := blk_frozen BK249.out 0
            have hfz30_1 := blk_frozen BK249.out 1
            have hfz30_2 := blk_frozen BK249.out 2
            have hfz30_3 := blk_frozen BK249.out 3
            have hfz30_4 := blk_frozen BK249.out 4
            have hfz30_5 := blk_frozen BK249.out 5
            go_wp2
            refine bodyPost_ret (results_ct rfl _ _ gb249 26 #[.int .i64 0, .string ⟨#[]⟩, .bool false, .string ⟨#[]⟩, .string ⟨#[]⟩, .slice none 0 0] (0, 0) _ rfl (by refine sK ?_; refine blk_put (cs := #[.int .i64 0, .string ⟨#[]⟩, .bool false, .string ⟨#[]⟩, .string ⟨#[]⟩, .slice none 0 0]) ?_ 5 _ rfl; refine sK ?_; refine blk_put (cs := #[.int .i64 0, .string ⟨#[]⟩, .bool false, .string ⟨#[]⟩, .string x250004_1, .slice none 0 0]) ?_ 4 _ rfl; refine sK ?_; refine blk_put (cs := #[.int .i64 0, .string ⟨#[]⟩, .bool false, .string x250003_1, .string x250004_1, .slice none 0 0]) ?_ 3 _ rfl; refine sK ?_; refine blk_put (cs := #[.int .i64 0, .string ⟨#[]⟩, .bool x250002_1, .string x250003_1, .string x250004_1, .slice none 0 0]) ?_ 2 _ rfl; refine sK ?_; refine blk_put (cs := #[.int .i64 0, .string x250001_1, .bool x250002_1, .string x250003_1, .string x250004_1, .slice none 0 0]) ?_ 1 _ rfl; refine sK ?_; refine blk_put (cs := #[.int .i64 x250000_1, .string x250001_1, .bool x250002_1, .string x250003_1, .string x250004_1, .slice none 0 0]) ?_ 0 _ rfl; refine sK ?_; exact BK249.out) Tryz.underlying26 rfl (by kernel_rfl)) rfl ?_
            exact ⟨_, by first | rfl | (simp [errW_none, errW_some] <;> rfl) | (simp [*, errW_none, errW_some] <;> rfl), by first | exact Kd.R_nil _ _ _ _ _ | exact Kd.N_nil _ _ _ _ _ | exact Kd.V_nil _ _ _ _ _ | exact Kd.Q_nil _ _ _ _ _ | exact Kd.S_nil _ _ _ _ _, sB HB.out⟩
           ·
            rw [if_neg c29] at H
            obtain rfl : xb = false := by simpa using c29
            try clear c29
            replace H := Option.bind_eq_some_iff.mp H
            obtain ⟨t255, A310, H⟩ := H
            try dsimp -simprocs only at H
            have A31 := Aside0.mk A310
            clear A310
            by_cases c32 : t255 = true
            ·
             subst c32
             rw [if_pos rfl] at H
             try dsimp -simprocs only at H
             simp only [Option.some.injEq, Prod.mk.injEq] at H
             obtain ⟨rfl, rfl, rfl, rfl, rfl, rfl, rfl⟩ := H
             go_wp2_with (first | (go_at_call 26; (with_reducible refine (wherryref11_Domain.calls kj25 x7_16 true _ A31.out).mono ?_); rintro e w' ⟨rfl, ⟨nd, rfl⟩⟩; (try (rw [drewN_self wc]; generalize hq_ : World.drewN wc _ = wc; have n0_ : Aside0 (wc.heap[gb249]? = some (.cells #[.int .i64 x250000_1, .string x250001_1, .bool x250002_1, .string x250003_1, .string x250004_1, .slice none 0 0] 26 (0, 0))) := ⟨by rw [← hq_]; exact (sK BK249.out)⟩; have n1_ : Aside0 (Below w.heap.size w wc) := ⟨by rw [← hq_]; exact (sB HB.out)⟩; clear BK249 HB hq_; have BK249 := n0_; have HB := n1_; clear n0_ n1_)); have hcz33_0 := sC BK249.out 0; have hcz33_1 := sC BK249.out 1; have hcz33_2 := sC BK249.out 2; have hcz33_3 := sC BK249.out 3; have hcz33_4 := sC BK249.out 4; have hcz33_5 := sC BK249.out 5; have hfz33_0 := blk_frozen BK249.out 0; have hfz33_1 := blk_frozen BK249.out 1; have hfz33_2 := blk_frozen BK249.out 2; have hfz33_3 := blk_frozen BK249.out 3; have hfz33_4 := blk_frozen BK249.out 4; have hfz33_5 := blk_frozen BK249.out 5))
             refine bodyPost_ret (results_ct rfl _ _ gb249 26 #[.int .i64 1, .string x7_16, .bool false, .string ⟨#[]⟩, .string ⟨#[]⟩, .slice none 0 0] (0, 0) _ rfl (by refine sK ?_; refine blk_put (cs := #[.int .i64 1, .string x7_16, .bool false, .string ⟨#[]⟩, .string ⟨#[]⟩, .slice none 0 0]) ?_ 5 _ rfl; refine sK ?_; refine blk_put (cs := #[.int .i64 1, .string x7_16, .bool false, .string ⟨#[]⟩, .string x250004_1, .slice none 0 0]) ?_ 4 _ rfl; refine sK ?_; refine blk_put (cs := #[.int .i64 1, .string x7_16, .bool false, .string x250003_1, .string x250004_1, .slice none 0 0]) ?_ 3 _ rfl; refine sK ?_; refine blk_put (cs := #[.int .i64 1, .string x7_16, .bool x250002_1, .string x250003_1, .string x250004_1, .slice none 0 0]) ?_ 2 _ rfl; refine sK ?_; refine blk_put (cs := #[.int .i64 1, .string x250001_1, .bool x250002_1, .string x250003_1, .string x250004_1, .slice none 0 0]) ?_ 1 _ rfl; refine sK ?_; refine blk_put (cs := #[.int .i64 x250000_1, .string x250001_1, .bool x250002_1, .string x250003_1, .string x250004_1, .slice none 0 0]) ?_ 0 _ rfl; refine sK ?_; exact BK249.out) Tryz.underlying26 rfl (by kernel_rfl)) rfl ?_
             exact ⟨_, by first | rfl | (simp [errW_none, errW_some] <;> rfl) | (simp [*, errW_none, errW_some] <;> rfl), by first | exact Kd.R_nil _ _ _ _ _ | exact Kd.N_nil _ _ _ _ _ | exact Kd.V_nil _ _ _ _ _ | exact Kd.Q_nil _ _ _ _ _ | exact Kd.S_nil _ _ _ _ _, sB HB.out⟩
            ·
             replace c32 := Bool.eq_false_iff.mpr c32
             subst c32
             rw [if_neg (show ¬ (false = true) by decide)] at H
             try dsimp -simprocs only at H
             simp only [Option.some.injEq, Prod.mk.injEq] at H
             obtain ⟨rfl, rfl, rfl, rfl, rfl, rfl, rfl⟩ := H
             go_wp2_with (first | (go_at_call 26; (with_reducible refine (wherryref11_Domain.calls kj25 x7_16 false _ A31.out).mono ?_); rintro e w' ⟨rfl, ⟨nd, rfl⟩⟩; (try (rw [drewN_self wc]; generalize hq_ : World.drewN wc _ = wc; have n0_ : Aside0 (wc.heap[gb249]? = some (.cells #[.int .i64 x250000_1, .string x250001_1, .bool x250002_1, .string x250003_1, .string x250004_1, .slice none 0 0] 26 (0, 0))) := ⟨by rw [← hq_]; exact (sK BK249.out)⟩; have n1_ : Aside0 (Below w.heap.size w wc) := ⟨by rw [← hq_]; exact (sB HB.out)⟩; clear BK249 HB hq_; have BK249 := n0_; have HB := n1_; clear n0_ n1_)); have hcz34_0 := sC BK249.out 0; have hcz34_1 := sC BK249.out 1; have hcz34_2 := sC BK249.out 2; have hcz34_3 := sC BK249.out 3; have hcz34_4 := sC BK249.out 4; have hcz34_5 := sC BK249.out 5; have hfz34_0 := blk_frozen BK249.out 0; have hfz34_1 := blk_frozen BK249.out 1; have hfz34_2 := blk_frozen BK249.out 2; have hfz34_3 := blk_frozen BK249.out 3; have hfz34_4 := blk_frozen BK249.out 4; have hfz34_5 := blk_frozen BK249.out 5))
             refine bodyPost_ret (results_ct rfl _ _ gb249 26 #[.int .i64 0, .string ⟨#[]⟩, .bool false, .string ⟨#[]⟩, .string ⟨#[]⟩, .slice none 0 0] (0, 0) _ rfl (by refine sK ?_; refine blk_put (cs := #[.int .i64 0, .string ⟨#[]⟩, .bool false, .string ⟨#[]⟩, .string ⟨#[]⟩, .slice none 0 0]) ?_ 5 _ rfl; refine sK ?_; refine blk_put (cs := #[.int .i64 0, .string ⟨#[]⟩, .bool false, .string ⟨#[]⟩, .string x250004_1, .slice none 0 0]) ?_ 4 _ rfl; refine sK ?_; refine blk_put (cs := #[.int .i64 0, .string ⟨#[]⟩, .bool false, .string x250003_1, .string x250004_1, .slice none 0 0]) ?_ 3 _ rfl; refine sK ?_; refine blk_put (cs := #[.int .i64 0, .string ⟨#[]⟩, .bool x250002_1, .string x250003_1, .string x250004_1, .slice none 0 0]) ?_ 2 _ rfl; refine sK ?_; refine blk_put (cs := #[.int .i64 0, .string x250001_1, .bool x250002_1, .string x250003_1, .string x250004_1, .slice none 0 0]) ?_ 1 _ rfl; refine sK ?_; refine blk_put (cs := #[.int .i64 x250000_1, .string x250001_1, .bool x250002_1, .string x250003_1, .string x250004_1, .slice none 0 0]) ?_ 0 _ rfl; refine sK ?_; exact BK249.out) Tryz.underlying26 rfl (by kernel_rfl)) rfl ?_
             exact ⟨_, by first | rfl | (simp [errW_none, errW_some] <;> rfl) | (simp [*, errW_none, errW_some] <;> rfl), by first | exact Kd.R_nil _ _ _ _ _ | exact Kd.N_nil _ _ _ _ _ | exact Kd.V_nil _ _ _ _ _ | exact Kd.Q_nil _ _ _ _ _ | exact Kd.S_nil _ _ _ _ _, sB HB.out⟩
          ·
           replace c28 := Bool.eq_false_iff.mpr c28
           subst c28
           rw [if_neg (show ¬ (false = true) by decide)] at H
           try dsimp -simprocs only at H
           by_cases c35 : t250.toList = ([109, 97, 105, 108] : List UInt8)
           ·
            rw [if_pos c35] at H
            have c35b0 : (t250.toList == ([109, 97, 105, 108] : List UInt8)) = true := beq_iff_eq.mpr c35
            have c35b1 : (t250.toList != ([109, 97, 105, 108] : List UInt8)) = false := bne_eq_false_iff_eq.mpr c35
            clear c35
            replace H := Option.bind_eq_some_iff.mp H
            obtain ⟨⟨t256, t257⟩, A360, H⟩ := H
            try dsimp -simprocs only at H
            have A36 := Aside0.mk A360
            clear A360
            by_cases c37 : xb = true
            ·
             rw [if_pos c37] at H
             subst c37
             try clear c37
             simp only [Option.some.injEq, Prod.mk.injEq] at H
             obtain ⟨rfl, rfl, rfl, rfl, rfl, rfl, rfl⟩ := H
             go_wp2_with (first | ((with_reducible refine gate_callee (f := 27) rfl ?_); refine goesL_ (some 69) rfl rfl Tryz.func27 (by kernel_rfl) rfl #[.string x7_16, .string ⟨#[102, 114, 111, 109, 58]⟩] rfl sM ?_; (with_reducible refine (wherryref11_begins.calls kj25 x7_16 (⟨#[102, 114, 111, 109, 58]⟩ : ByteArray) t256 t257 _ A36.out).mono ?_); rintro e w38 ⟨rfl, hb⟩; refine ⟨_, rfl, ?_⟩; replace BK249 := Aside0.mk (blk_below (g := gb249) (o := .cells #[.int .i64 x250000_1, .string x250001_1, .bool x250002_1, .string x250003_1, .string x250004_1, .slice none 0 0] 26 (0, 0)) (sK BK249.out) hb); replace HB := Aside0.mk (below_step (sB HB.out) hb); (try clear hb); have hcz39_0 := sC BK249.out 0; have hcz39_1 := sC BK249.out 1; have hcz39_2 := sC BK249.out 2; have hcz39_3 := sC BK249.out 3; have hcz39_4 := sC BK249.out 4; have hcz39_5 := sC BK249.out 5; have hfz39_0 := blk_frozen BK249.out 0; have hfz39_1 := blk_frozen BK249.out 1; have hfz39_2 := blk_frozen BK249.out 2; have hfz39_3 := blk_frozen BK249.out 3; have hfz39_4 := blk_frozen BK249.out 4; have hfz39_5 := blk_frozen BK249.out 5))
             refine bodyPost_ret (results_ct rfl _ _ gb249 26 #[.int .i64 0, .string ⟨#[]⟩, .bool false, .string ⟨#[]⟩, .string ⟨#[]⟩, .slice none 0 0] (0, 0) _ rfl (by refine sK ?_; refine blk_put (cs := #[.int .i64 0, .string ⟨#[]⟩, .bool false, .string ⟨#[]⟩, .string ⟨#[]⟩, .slice none 0 0]) ?_ 5 _ rfl; refine sK ?_; refine blk_put (cs := #[.int .i64 0, .string ⟨#[]⟩, .bool false, .string ⟨#[]⟩, .string x250004_1, .slice none 0 0]) ?_ 4 _ rfl; refine sK ?_; refine blk_put (cs := #[.int .i64 0, .string ⟨#[]⟩, .bool false, .string x250003_1, .string x250004_1, .slice none 0 0]) ?_ 3 _ rfl; refine sK ?_; refine blk_put (cs := #[.int .i64 0, .string ⟨#[]⟩, .bool x250002_1, .string x250003_1, .string x250004_1, .slice none 0 0]) ?_ 2 _ rfl; refine sK ?_; refine blk_put (cs := #[.int .i64 0, .string x250001_1, .bool x250002_1, .string x250003_1, .string x250004_1, .slice none 0 0]) ?_ 1 _ rfl; refine sK ?_; refine blk_put (cs := #[.int .i64 x250000_1, .string x250001_1, .bool x250002_1, .string x250003_1, .string x250004_1, .slice none 0 0]) ?_ 0 _ rfl; refine sK ?_; exact BK249.out) Tryz.underlying26 rfl (by kernel_rfl)) rfl ?_
             exact ⟨_, by first | rfl | (simp [errW_none, errW_some] <;> rfl) | (simp [*, errW_none, errW_some] <;> rfl), by first | exact Kd.R_nil _ _ _ _ _ | exact Kd.N_nil _ _ _ _ _ | exact Kd.V_nil _ _ _ _ _ | exact Kd.Q_nil _ _ _ _ _ | exact Kd.S_nil _ _ _ _ _, sB HB.out⟩
            ·
             rw [if_neg c37] at H
             obtain rfl : xb = false := by simpa using c37
             try clear c37
             by_cases c40 : t257 = true
             ·
              subst c40
              rw [if_pos rfl] at H
              try dsimp -simprocs only at H
              replace H := Option.bind_eq_some_iff.mp H
              obtain ⟨⟨t258, t259, t260, t261, t262, t263, t266⟩, A410, H⟩ := H
              try dsimp -simprocs only at H
              have A41 := Aside0.mk A410
              clear A410
              simp only [Option.some.injEq, Prod.mk.injEq] at H
              obtain ⟨rfl, rfl, rfl, rfl, rfl, rfl, rfl⟩ := H
              go_wp2_with (first | ((with_reducible refine gate_callee (f := 27) rfl ?_); refine goesL_ (some 69) rfl rfl Tryz.func27 (by kernel_rfl) rfl #[.string x7_16, .string ⟨#[102, 114, 111, 109, 58]⟩] rfl sM ?_; (with_reducible refine (wherryref11_begins.calls kj25 x7_16 (⟨#[102, 114, 111, 109, 58]⟩ : ByteArray) t256 true _ A36.out).mono ?_); rintro e w42 ⟨rfl, hb⟩; refine ⟨_, rfl, ?_⟩; replace BK249 := Aside0.mk (blk_below (g := gb249) (o := .cells #[.int .i64 x250000_1, .string x250001_1, .bool x250002_1, .string x250003_1, .string x250004_1, .slice none 0 0] 26 (0, 0)) (sK BK249.out) hb); replace HB := Aside0.mk (below_step (sB HB.out) hb); (try clear hb)) | ((with_reducible refine gate_callee (f := 28) rfl ?_); refine goesL_ (some 78) rfl rfl Tryz.func28 (by kernel_rfl) rfl #[.string t256, .int .i64 2] rfl sM ?_; (with_reducible refine (wherryref11_pathed.calls kj25 t256 2 t258 t259 t260 t261 t262 t263 t266 _ A41.out).mono ?_); rintro e w43 ⟨v264, rfl, ho0, hb⟩; refine ⟨_, rfl, ?_⟩; have HO265 := Aside0.mk (Kd.R_lower ho0 (below_size (sB HB.out))); replace BK249 := Aside0.mk (blk_below (g := gb249) (o := .cells #[.int .i64 x250000_1, .string x250001_1, .bool x250002_1, .string x250003_1, .string x250004_1, .slice none 0 0] 26 (0, 0)) (sK BK249.out) hb); replace HB := Aside0.mk (below_step (sB HB.out) hb); (try clear hb); (try clear ho0); have hcz44_0 := sC BK249.out 0; have hcz44_1 := sC BK249.out 1; have hcz44_2 := sC BK249.out 2; have hcz44_3 := sC BK249.out 3; have hcz44_4 := sC BK249.out 4; have hcz44_5 := sC BK249.out 5; have hfz44_0 := blk_frozen BK249.out 0; have hfz44_1 := blk_frozen BK249.out 1; have hfz44_2 := blk_frozen BK249.out 2; have hfz44_3 := blk_frozen BK249.out 3; have hfz44_4 := blk_frozen BK249.out 4; have hfz44_5 := blk_frozen BK249.out 5; obtain ⟨Ao45, co45, eo45⟩ := Kd.R_slice HO265.out; subst eo45))
              refine bodyPost_ret (results_ct rfl _ _ gb249 26 #[.int .i64 t258, .string t259, .bool t260, .string t261, .string t262, .slice Ao45 t263.length co45] (0, 0) _ rfl (by refine sK ?_; refine blk_put (cs := #[.int .i64 t258, .string t259, .bool t260, .string t261, .string t262, .slice none 0 0]) ?_ 5 _ rfl; refine sK ?_; refine blk_put (cs := #[.int .i64 t258, .string t259, .bool t260, .string t261, .string x250004_1, .slice none 0 0]) ?_ 4 _ rfl; refine sK ?_; refine blk_put (cs := #[.int .i64 t258, .string t259, .bool t260, .string x250003_1, .string x250004_1, .slice none 0 0]) ?_ 3 _ rfl; refine sK ?_; refine blk_put (cs := #[.int .i64 t258, .string t259, .bool x250002_1, .string x250003_1, .string x250004_1, .slice none 0 0]) ?_ 2 _ rfl; refine sK ?_; refine blk_put (cs := #[.int .i64 t258, .string x250001_1, .bool x250002_1, .string x250003_1, .string x250004_1, .slice none 0 0]) ?_ 1 _ rfl; refine sK ?_; refine blk_put (cs := #[.int .i64 x250000_1, .string x250001_1, .bool x250002_1, .string x250003_1, .string x250004_1, .slice none 0 0]) ?_ 0 _ rfl; refine sK ?_; exact BK249.out) Tryz.underlying26 rfl (by kernel_rfl)) rfl ?_
              exact ⟨_, by first | rfl | (simp [errW_none, errW_some] <;> rfl) | (simp [*, errW_none, errW_some] <;> rfl), by (with_reducible repeat (first | apply Kd.R_alloc | apply Kd.R_drewN | apply Kd.R_drew)); exact Kd.R_mono (Kd.R_far (p := ⟨gb249, 5, none⟩) (Kd.R_far (p := ⟨gb249, 4, none⟩) (Kd.R_far (p := ⟨gb249, 3, none⟩) (Kd.R_far (p := ⟨gb249, 2, none⟩) (Kd.R_far (p := ⟨gb249, 1, none⟩) (Kd.R_far (p := ⟨gb249, 0, none⟩) (Kd.R_types HO265.out BK249.out (by decide)) (fun _ hk => hk.2) (.int .i64 t258)) (fun _ hk => hk.2) (.string t259)) (fun _ hk => hk.2) (.bool t260)) (fun _ hk => hk.2) (.string t261)) (fun _ hk => hk.2) (.string t262)) (fun _ hk => hk.2) (.slice Ao45 t263.length co45)) (fun _ hk => trivial), sB HB.out⟩
             ·
              replace c40 := Bool.eq_false_iff.mpr c40
              subst c40
              rw [if_neg (show ¬ (false = true) by decide)] at H
              try dsimp -simprocs only at H
              simp only [Option.some.injEq, Prod.mk.injEq] at H
              obtain ⟨rfl, rfl, rfl, rfl, rfl, rfl, rfl⟩ := H
              go_wp2_with (first | ((with_reducible refine gate_callee (f := 27) rfl ?_); refine goesL_ (some 69) rfl rfl Tryz.func27 (by kernel_rfl) rfl #[.string x7_16, .string ⟨#[102, 114, 111, 109, 58]⟩] rfl sM ?_; (with_reducible refine (wherryref11_begins.calls kj25 x7_16 (⟨#[102, 114, 111, 109, 58]⟩ : ByteArray) t256 false _ A36.out).mono ?_); rintro e w46 ⟨rfl, hb⟩; refine ⟨_, rfl, ?_⟩; replace BK249 := Aside0.mk (blk_below (g := gb249) (o := .cells #[.int .i64 x250000_1, .string x250001_1, .bool x250002_1, .string x250003_1, .string x250004_1, .slice none 0 0] 26 (0, 0)) (sK BK249.out) hb); replace HB := Aside0.mk (below_step (sB HB.out) hb); (try clear hb); have hcz47_0 := sC BK249.out 0; have hcz47_1 := sC BK249.out 1; have hcz47_2 := sC BK249.out 2; have hcz47_3 := sC BK249.out 3; have hcz47_4 := sC BK249.out 4; have hcz47_5 := sC BK249.out 5; have hfz47_0 := blk_frozen BK249.out 0; have hfz47_1 := blk_frozen BK249.out 1; have hfz47_2 := blk_frozen BK249.out 2; have hfz47_3 := blk_frozen BK249.out 3; have hfz47_4 := blk_frozen BK249.out 4; have hfz47_5 := blk_frozen BK249.out 5))
              refine bodyPost_ret (results_ct rfl _ _ gb249 26 #[.int .i64 0, .string ⟨#[]⟩, .bool false, .string ⟨#[]⟩, .string ⟨#[]⟩, .slice none 0 0] (0, 0) _ rfl (by refine sK ?_; refine blk_put (cs := #[.int .i64 0, .string ⟨#[]⟩, .bool false, .string ⟨#[]⟩, .string ⟨#[]⟩, .slice none 0 0]) ?_ 5 _ rfl; refine sK ?_; refine blk_put (cs := #[.int .i64 0, .string ⟨#[]⟩, .bool false, .string ⟨#[]⟩, .string x250004_1, .slice none 0 0]) ?_ 4 _ rfl; refine sK ?_; refine blk_put (cs := #[.int .i64 0, .string ⟨#[]⟩, .bool false, .string x250003_1, .string x250004_1, .slice none 0 0]) ?_ 3 _ rfl; refine sK ?_; refine blk_put (cs := #[.int .i64 0, .string ⟨#[]⟩, .bool x250002_1, .string x250003_1, .string x250004_1, .slice none 0 0]) ?_ 2 _ rfl; refine sK ?_; refine blk_put (cs := #[.int .i64 0, .string x250001_1, .bool x250002_1, .string x250003_1, .string x250004_1, .slice none 0 0]) ?_ 1 _ rfl; refine sK ?_; refine blk_put (cs := #[.int .i64 x250000_1, .string x250001_1, .bool x250002_1, .string x250003_1, .string x250004_1, .slice none 0 0]) ?_ 0 _ rfl; refine sK ?_; exact BK249.out) Tryz.underlying26 rfl (by kernel_rfl)) rfl ?_
              exact ⟨_, by first | rfl | (simp [errW_none, errW_some] <;> rfl) | (simp [*, errW_none, errW_some] <;> rfl), by first | exact Kd.R_nil _ _ _ _ _ | exact Kd.N_nil _ _ _ _ _ | exact Kd.V_nil _ _ _ _ _ | exact Kd.Q_nil _ _ _ _ _ | exact Kd.S_nil _ _ _ _ _, sB HB.out⟩
           ·
            rw [if_neg c35] at H
            have c35b0 : (t250.toList == ([109, 97, 105, 108] : List UInt8)) = false := beq_eq_false_iff_ne.mpr c35
            have c35b1 : (t250.toList != ([109, 97, 105, 108] : List UInt8)) = true := bne_iff_ne.mpr c35
            by_cases c48 : t250.toList = ([114, 99, 112, 116] : List UInt8)
            ·
             rw [if_pos c48] at H
             have c48b0 : (t250.toList == ([114, 99, 112, 116] : List UInt8)) = true := beq_iff_eq.mpr c48
             have c48b1 : (t250.toList != ([114, 99, 112, 116] : List UInt8)) = false := bne_eq_false_iff_eq.mpr c48
             clear c48
             replace H := Option.bind_eq_some_iff.mp H
             obtain ⟨⟨t267, t268⟩, A490, H⟩ := H
             try dsimp -simprocs only at H
             have A49 := Aside0.mk A490
             clear A490
             by_cases c50 : xb = true
             ·
              rw [if_pos c50] at H
              subst c50
              try clear c50
              simp only [Option.some.injEq, Prod.mk.injEq] at H
              obtain ⟨rfl, rfl, rfl, rfl, rfl, rfl, rfl⟩ := H
              go_wp2_with (first | ((with_reducible refine gate_callee (f := 27) rfl ?_); refine goesL_ (some 85) rfl rfl Tryz.func27 (by kernel_rfl) rfl #[.string x7_16, .string ⟨#[116, 111, 58]⟩] rfl sM ?_; (with_reducible refine (wherryref11_begins.calls kj25 x7_16 (⟨#[116, 111, 58]⟩ : ByteArray) t267 t268 _ A49.out).mono ?_); rintro e w51 ⟨rfl, hb⟩; refine ⟨_, rfl, ?_⟩; replace BK249 := Aside0.mk (blk_below (g := gb249) (o := .cells #[.int .i64 x250000_1, .string x250001_1, .bool x250002_1, .string x250003_1, .string x250004_1, .slice none 0 0] 26 (0, 0)) (sK BK249.out) hb); replace HB := Aside0.mk (below_step (sB HB.out) hb); (try clear hb); have hcz52_0 := sC BK249.out 0; have hcz52_1 := sC BK249.out 1; have hcz52_2 := sC BK249.out 2; have hcz52_3 := sC BK249.out 3; have hcz52_4 := sC BK249.out 4; have hcz52_5 := sC BK249.out 5; have hfz52_0 := blk_frozen BK249.out 0; have hfz52_1 := blk_frozen BK249.out 1; have hfz52_2 := blk_frozen BK249.out 2; have hfz52_3 := blk_frozen BK249.out 3; have hfz52_4 := blk_frozen BK249.out 4; have hfz52_5 := blk_frozen BK249.out 5))
              refine bodyPost_ret (results_ct rfl _ _ gb249 26 #[.int .i64 0, .string ⟨#[]⟩, .bool false, .string ⟨#[]⟩, .string ⟨#[]⟩, .slice none 0 0] (0, 0) _ rfl (by refine sK ?_; refine blk_put (cs := #[.int .i64 0, .string ⟨#[]⟩, .bool false, .string ⟨#[]⟩, .string ⟨#[]⟩, .slice none 0 0]) ?_ 5 _ rfl; refine sK ?_; refine blk_put (cs := #[.int .i64 0, .string ⟨#[]⟩, .bool false, .string ⟨#[]⟩, .string x250004_1, .slice none 0 0]) ?_ 4 _ rfl; refine sK ?_; refine blk_put (cs := #[.int .i64 0, .string ⟨#[]⟩, .bool false, .string x250003_1, .string x250004_1, .slice none 0 0]) ?_ 3 _ rfl; refine sK ?_; refine blk_put (cs := #[.int .i64 0, .string ⟨#[]⟩, .bool x250002_1, .string x250003_1, .string x250004_1, .slice none 0 0]) ?_ 2 _ rfl; refine sK ?_; refine blk_put (cs := #[.int .i64 0, .string x250001_1, .bool x250002_1, .string x250003_1, .string x250004_1, .slice none 0 0]) ?_ 1 _ rfl; refine sK ?_; refine blk_put (cs := #[.int .i64 x250000_1, .string x250001_1, .bool x250002_1, .string x250003_1, .string x250004_1, .slice none 0 0]) ?_ 0 _ rfl; refine sK ?_; exact BK249.out) Tryz.underlying26 rfl (by kernel_rfl)) rfl ?_
              exact ⟨_, by first | rfl | (simp [errW_none, errW_some] <;> rfl) | (simp [*, errW_none, errW_some] <;> rfl), by first | exact Kd.R_nil _ _ _ _ _ | exact Kd.N_nil _ _ _ _ _ | exact Kd.V_nil _ _ _ _ _ | exact Kd.Q_nil _ _ _ _ _ | exact Kd.S_nil _ _ _ _ _, sB HB.out⟩
             ·
              rw [if_neg c50] at H
              obtain rfl : xb = false := by simpa using c50
              try clear c50
              by_cases c53 : t268 = true
              ·
               subst c53
               rw [if_pos rfl] at H
               try dsimp -simprocs only at H
               replace H := Option.bind_eq_some_iff.mp H
               obtain ⟨⟨t269, t270, t271, t272, t273, t274, t277⟩, A540, H⟩ := H
               try dsimp -simprocs only at H
               have A54 := Aside0.mk A540
               clear A540
               simp only [Option.some.injEq, Prod.mk.injEq] at H
               obtain ⟨rfl, rfl, rfl, rfl, rfl, rfl, rfl⟩ := H
               go_wp2_with (first | ((with_reducible refine gate_callee (f := 27) rfl ?_); refine goesL_ (some 85) rfl rfl Tryz.func27 (by kernel_rfl) rfl #[.string x7_16, .string ⟨#[116, 111, 58]⟩] rfl sM ?_; (with_reducible refine (wherryref11_begins.calls kj25 x7_16 (⟨#[116, 111, 58]⟩ : ByteArray) t267 true _ A49.out).mono ?_); rintro e w55 ⟨rfl, hb⟩; refine ⟨_, rfl, ?_⟩; replace BK249 := Aside0.mk (blk_below (g := gb249) (o := .cells #[.int .i64 x250000_1, .string x250001_1, .bool x250002_1, .string x250003_1, .string x250004_1, .slice none 0 0] 26 (0, 0)) (sK BK249.out) hb); replace HB := Aside0.mk (below_step (sB HB.out) hb); (try clear hb)) | ((with_reducible refine gate_callee (f := 28) rfl ?_); refine goesL_ (some 94) rfl rfl Tryz.func28 (by kernel_rfl) rfl #[.string t267, .int .i64 3] rfl sM ?_; (with_reducible refine (wherryref11_pathed.calls kj25 t267 3 t269 t270 t271 t272 t273 t274 t277 _ A54.out).mono ?_); rintro e w56 ⟨v275, rfl, ho0, hb⟩; refine ⟨_, rfl, ?_⟩; have HO276 := Aside0.mk (Kd.R_lower ho0 (below_size (sB HB.out))); replace BK249 := Aside0.mk (blk_below (g := gb249) (o := .cells #[.int .i64 x250000_1, .string x250001_1, .bool x250002_1, .string x250003_1, .string x250004_1, .slice none 0 0] 26 (0, 0)) (sK BK249.out) hb); replace HB := Aside0.mk (below_step (sB HB.out) hb); (try clear hb); (try clear ho0); have hcz57_0 := sC BK249.out 0; have hcz57_1 := sC BK249.out 1; have hcz57_2 := sC BK249.out 2; have hcz57_3 := sC BK249.out 3; have hcz57_4 := sC BK249.out 4; have hcz57_5 := sC BK249.out 5; have hfz57_0 := blk_frozen BK249.out 0; have hfz57_1 := blk_frozen BK249.out 1; have hfz57_2 := blk_frozen BK249.out 2; have hfz57_3 := blk_frozen BK249.out 3; have hfz57_4 := blk_frozen BK249.out 4; have hfz57_5 := blk_frozen BK249.out 5; obtain ⟨Ao58, co58, eo58⟩ := Kd.R_slice HO276.out; subst eo58))
               refine bodyPost_ret (results_ct rfl _ _ gb249 26 #[.int .i64 t269, .string t270, .bool t271, .string t272, .string t273, .slice Ao58 t274.length co58] (0, 0) _ rfl (by refine sK ?_; refine blk_put (cs := #[.int .i64 t269, .string t270, .bool t271, .string t272, .string t273, .slice none 0 0]) ?_ 5 _ rfl; refine sK ?_; refine blk_put (cs := #[.int .i64 t269, .string t270, .bool t271, .string t272, .string x250004_1, .slice none 0 0]) ?_ 4 _ rfl; refine sK ?_; refine blk_put (cs := #[.int .i64 t269, .string t270, .bool t271, .string x250003_1, .string x250004_1, .slice none 0 0]) ?_ 3 _ rfl; refine sK ?_; refine blk_put (cs := #[.int .i64 t269, .string t270, .bool x250002_1, .string x250003_1, .string x250004_1, .slice none 0 0]) ?_ 2 _ rfl; refine sK ?_; refine blk_put (cs := #[.int .i64 t269, .string x250001_1, .bool x250002_1, .string x250003_1, .string x250004_1, .slice none 0 0]) ?_ 1 _ rfl; refine sK ?_; refine blk_put (cs := #[.int .i64 x250000_1, .string x250001_1, .bool x250002_1, .string x250003_1, .string x250004_1, .slice none 0 0]) ?_ 0 _ rfl; refine sK ?_; exact BK249.out) Tryz.underlying26 rfl (by kernel_rfl)) rfl ?_
               exact ⟨_, by first | rfl | (simp [errW_none, errW_some] <;> rfl) | (simp [*, errW_none, errW_some] <;> rfl), by (with_reducible repeat (first | apply Kd.R_alloc | apply Kd.R_drewN | apply Kd.R_drew)); exact Kd.R_mono (Kd.R_far (p := ⟨gb249, 5, none⟩) (Kd.R_far (p := ⟨gb249, 4, none⟩) (Kd.R_far (p := ⟨gb249, 3, none⟩) (Kd.R_far (p := ⟨gb249, 2, none⟩) (Kd.R_far (p := ⟨gb249, 1, none⟩) (Kd.R_far (p := ⟨gb249, 0, none⟩) (Kd.R_types HO276.out BK249.out (by decide)) (fun _ hk => hk.2) (.int .i64 t269)) (fun _ hk => hk.2) (.string t270)) (fun _ hk => hk.2) (.bool t271)) (fun _ hk => hk.2) (.string t272)) (fun _ hk => hk.2) (.string t273)) (fun _ hk => hk.2) (.slice Ao58 t274.length co58)) (fun _ hk => trivial), sB HB.out⟩
              ·
               replace c53 := Bool.eq_false_iff.mpr c53
               subst c53
               rw [if_neg (show ¬ (false = true) by decide)] at H
               try dsimp -simprocs only at H
               simp only [Option.some.injEq, Prod.mk.injEq] at H
               obtain ⟨rfl, rfl, rfl, rfl, rfl, rfl, rfl⟩ := H
               go_wp2_with (first | ((with_reducible refine gate_callee (f := 27) rfl ?_); refine goesL_ (some 85) rfl rfl Tryz.func27 (by kernel_rfl) rfl #[.string x7_16, .string ⟨#[116, 111, 58]⟩] rfl sM ?_; (with_reducible refine (wherryref11_begins.calls kj25 x7_16 (⟨#[116, 111, 58]⟩ : ByteArray) t267 false _ A49.out).mono ?_); rintro e w59 ⟨rfl, hb⟩; refine ⟨_, rfl, ?_⟩; replace BK249 := Aside0.mk (blk_below (g := gb249) (o := .cells #[.int .i64 x250000_1, .string x250001_1, .bool x250002_1, .string x250003_1, .string x250004_1, .slice none 0 0] 26 (0, 0)) (sK BK249.out) hb); replace HB := Aside0.mk (below_step (sB HB.out) hb); (try clear hb); have hcz60_0 := sC BK249.out 0; have hcz60_1 := sC BK249.out 1; have hcz60_2 := sC BK249.out 2; have hcz60_3 := sC BK249.out 3; have hcz60_4 := sC BK249.out 4; have hcz60_5 := sC BK249.out 5; have hfz60_0 := blk_frozen BK249.out 0; have hfz60_1 := blk_frozen BK249.out 1; have hfz60_2 := blk_frozen BK249.out 2; have hfz60_3 := blk_frozen BK249.out 3; have hfz60_4 := blk_frozen BK249.out 4; have hfz60_5 := blk_frozen BK249.out 5))
               refine bodyPost_ret (results_ct rfl _ _ gb249 26 #[.int .i64 0, .string ⟨#[]⟩, .bool false, .string ⟨#[]⟩, .string ⟨#[]⟩, .slice none 0 0] (0, 0) _ rfl (by refine sK ?_; refine blk_put (cs := #[.int .i64 0, .string ⟨#[]⟩, .bool false, .string ⟨#[]⟩, .string ⟨#[]⟩, .slice none 0 0]) ?_ 5 _ rfl; refine sK ?_; refine blk_put (cs := #[.int .i64 0, .string ⟨#[]⟩, .bool false, .string ⟨#[]⟩, .string x250004_1, .slice none 0 0]) ?_ 4 _ rfl; refine sK ?_; refine blk_put (cs := #[.int .i64 0, .string ⟨#[]⟩, .bool false, .string x250003_1, .string x250004_1, .slice none 0 0]) ?_ 3 _ rfl; refine sK ?_; refine blk_put (cs := #[.int .i64 0, .string ⟨#[]⟩, .bool x250002_1, .string x250003_1, .string x250004_1, .slice none 0 0]) ?_ 2 _ rfl; refine sK ?_; refine blk_put (cs := #[.int .i64 0, .string x250001_1, .bool x250002_1, .string x250003_1, .string x250004_1, .slice none 0 0]) ?_ 1 _ rfl; refine sK ?_; refine blk_put (cs := #[.int .i64 x250000_1, .string x250001_1, .bool x250002_1, .string x250003_1, .string x250004_1, .slice none 0 0]) ?_ 0 _ rfl; refine sK ?_; exact BK249.out) Tryz.underlying26 rfl (by kernel_rfl)) rfl ?_
               exact ⟨_, by first | rfl | (simp [errW_none, errW_some] <;> rfl) | (simp [*, errW_none, errW_some] <;> rfl), by first | exact Kd.R_nil _ _ _ _ _ | exact Kd.N_nil _ _ _ _ _ | exact Kd.V_nil _ _ _ _ _ | exact Kd.Q_nil _ _ _ _ _ | exact Kd.S_nil _ _ _ _ _, sB HB.out⟩
            ·
             rw [if_neg c48] at H
             have c48b0 : (t250.toList == ([114, 99, 112, 116] : List UInt8)) = false := beq_eq_false_iff_ne.mpr c48
             have c48b1 : (t250.toList != ([114, 99, 112, 116] : List UInt8)) = true := bne_iff_ne.mpr c48
             have HC61 := Aside0.mk H
             clear H
             go_upto_if 97 with (fail)
             go_cut [97] (fun v97 wc => ∃ (kq : Nat) (x97_60 : Bool), v97 = .bool x97_60 ∧ Aside0 (wherryref11_Verb.j3 kq t250 xb x7_16 t250 x97_60 = some (r1, r2, r3, r4, r5, r6, r7)) ∧ Aside0 (kq ≤ kj25) ∧ Aside0 (wc.heap[gb249]? = some (.cells #[.int .i64 x250000_1, .string x250001_1, .bool x250002_1, .string x250003_1, .string x250004_1, (.slice none 0 0)] 26 (0, 0))) ∧ Aside0 (Below w.heap.size w wc))
             case first =>
              have H := HC61.out
              clear HC61
              by_cases c62 : t250.toList = ([100, 97, 116, 97] : List UInt8)
              ·
               rw [if_pos c62] at H
               have c62b0 : (t250.toList == ([100, 97, 116, 97] : List UInt8)) = true := beq_iff_eq.mpr c62
               have c62b1 : (t250.toList != ([100, 97, 116, 97] : List UInt8)) = false := bne_eq_false_iff_eq.mpr c62
               clear c62
               (first | rw [c62b0] | (simp only [i64_w, i32_w]; rw [c62b0]) | skip)
               have H' := Aside0.mk H
               clear H
               go_wp2
               go_meet
               case rel => exact ⟨_, ((t250.toList == ([100, 97, 116, 97] : List UInt8))), (by first | rfl | (simp; done) | (simp [*]; done)), H', ⟨by have := HK1.out; have := HJ16.out; have := HJ25.out; first | omega | exact Nat.le_refl _⟩, ⟨by refine sK ?_; exact BK249.out⟩, ⟨sB HB.out⟩⟩
              ·
               rw [if_neg c62] at H
               have c62b0 : (t250.toList == ([100, 97, 116, 97] : List UInt8)) = false := beq_eq_false_iff_ne.mpr c62
               have c62b1 : (t250.toList != ([100, 97, 116, 97] : List UInt8)) = true := bne_iff_ne.mpr c62
               (first | rw [c62b0] | (simp only [i64_w, i32_w]; rw [c62b0]) | skip)
               by_cases c63 : t250.toList = ([114, 115, 101, 116] : List UInt8)
               ·
                rw [if_pos c63] at H
                have c63b0 : (t250.toList == ([114, 115, 101, 116] : List UInt8)) = true := beq_iff_eq.mpr c63
                have c63b1 : (t250.toList != ([114, 115, 101, 116] : List UInt8)) = false := bne_eq_false_iff_eq.mpr c63
                clear c63
                have H' := Aside0.mk H
                clear H
                go_wp2
                go_meet
                case rel => exact ⟨_, ((t250.toList == ([114, 115, 101, 116] : List UInt8))), (by first | rfl | (simp; done) | (simp [*]; done)), H', ⟨by have := HK1.out; have := HJ16.out; have := HJ25.out; first | omega | exact Nat.le_refl _⟩, ⟨by refine sK ?_; exact BK249.out⟩, ⟨sB HB.out⟩⟩
               ·
                rw [if_neg c63] at H
                have c63b0 : (t250.toList == ([114, 115, 101, 116] : List UInt8)) = false := beq_eq_false_iff_ne.mpr c63
                have c63b1 : (t250.toList != ([114, 115, 101, 116] : List UInt8)) = true := bne_iff_ne.mpr c63
                have H' := Aside0.mk H
                clear H
                go_wp2
                go_meet
                case rel => exact ⟨_, ((t250.toList == ([113, 117, 105, 116] : List UInt8))), (by first | rfl | (simp; done) | (simp [*]; done)), H', ⟨by have := HK1.out; have := HJ16.out; have := HJ25.out; first | omega | exact Nat.le_refl _⟩, ⟨by refine sK ?_; exact BK249.out⟩, ⟨sB HB.out⟩⟩
             case rest =>
              clear HC61
              try clear c1; try clear p1; try clear q1; try clear hx1; try clear c2; try clear c2b0; try clear c2b1; try clear p2; try clear c3; try clear c4; try clear c5; try clear c6; try clear c6b0; try clear p6; try clear c7; try clear c7b0; try clear p8; try clear q8; try clear hx8; try clear c9; try clear c9b0; try clear p11; try clear q11; try clear hx11; try clear c12; try clear c12b0; try clear c16; try clear c22; try clear c22b0; try clear c22b1; try clear c22b2; try clear c24; try clear c24b0; try clear c24b1; try clear c25; try clear c25b0; try clear c25b1; try clear c27; try clear c27b0; try clear c27b1; try clear c28; try clear c29; try clear c29b0; try clear c29b1; try clear c29b2; try clear c32; try clear c35; try clear c35b0; try clear c35b1; try clear c37; try clear c37b0; try clear c37b1; try clear c37b2; try clear c40; try clear c48; try clear c48b0; try clear c48b1; try clear c50; try clear c50b0; try clear c50b1; try clear c50b2; try clear c53; try clear c62; try clear c62b0; try clear c62b1; try clear c63; try clear c63b0; try clear c63b1; try clear hcz10_0; try clear hcz10_1; try clear hcz10_2; try clear hcz10_3; try clear hcz10_4; try clear hcz10_5; try clear hcz13_0; try clear hcz13_1; try clear hcz13_2; try clear hcz13_3; try clear hcz13_4; try clear hcz13_5; try clear hcz30_0; try clear hcz30_1; try clear hcz30_2; try clear hcz30_3; try clear hcz30_4; try clear hcz30_5; try clear hcz33_0; try clear hcz33_1; try clear hcz33_2; try clear hcz33_3; try clear hcz33_4; try clear hcz33_5; try clear hcz34_0; try clear hcz34_1; try clear hcz34_2; try clear hcz34_3; try clear hcz34_4; try clear hcz34_5; try clear hcz39_0; try clear hcz39_1; try clear hcz39_2; try clear hcz39_3; try clear hcz39_4; try clear hcz39_5; try clear hcz44_0; try clear hcz44_1; try clear hcz44_2; try clear hcz44_3; try clear hcz44_4; try clear hcz44_5; try clear hcz47_0; try clear hcz47_1; try clear hcz47_2; try clear hcz47_3; try clear hcz47_4; try clear hcz47_5; try clear hcz4_0; try clear hcz4_1; try clear hcz4_2; try clear hcz4_3; try clear hcz4_4; try clear hcz4_5; try clear hcz52_0; try clear hcz52_1; try clear hcz52_2; try clear hcz52_3; try clear hcz52_4; try clear hcz52_5; try clear hcz57_0; try clear hcz57_1; try clear hcz57_2; try clear hcz57_3; try clear hcz57_4; try clear hcz57_5; try clear hcz60_0; try clear hcz60_1; try clear hcz60_2; try clear hcz60_3; try clear hcz60_4; try clear hcz60_5; try clear hfz10_0; try clear hfz10_1; try clear hfz10_2; try clear hfz10_3; try clear hfz10_4; try clear hfz10_5; try clear hfz13_0; try clear hfz13_1; try clear hfz13_2; try clear hfz13_3; try clear hfz13_4; try clear hfz13_5; try clear hfz30_0; try clear hfz30_1; try clear hfz30_2; try clear hfz30_3; try clear hfz30_4; try clear hfz30_5; try clear hfz33_0; try clear hfz33_1; try clear hfz33_2; try clear hfz33_3; try clear hfz33_4; try clear hfz33_5; try clear hfz34_0; try clear hfz34_1; try clear hfz34_2; try clear hfz34_3; try clear hfz34_4; try clear hfz34_5; try clear hfz39_0; try clear hfz39_1; try clear hfz39_2; try clear hfz39_3; try clear hfz39_4; try clear hfz39_5; try clear hfz44_0; try clear hfz44_1; try clear hfz44_2; try clear hfz44_3; try clear hfz44_4; try clear hfz44_5; try clear hfz47_0; try clear hfz47_1; try clear hfz47_2; try clear hfz47_3; try clear hfz47_4; try clear hfz47_5; try clear hfz4_0; try clear hfz4_1; try clear hfz4_2; try clear hfz4_3; try clear hfz4_4; try clear hfz4_5; try clear hfz52_0; try clear hfz52_1; try clear hfz52_2; try clear hfz52_3; try clear hfz52_4; try clear hfz52_5; try clear hfz57_0; try clear hfz57_1; try clear hfz57_2; try clear hfz57_3; try clear hfz57_4; try clear hfz57_5; try clear hfz60_0; try clear hfz60_1; try clear hfz60_2; try clear hfz60_3; try clear hfz60_4; try clear hfz60_5; try clear p1; try clear p11; try clear p2; try clear p6; try clear p8; try clear q1; try clear q11; try clear q8
              obtain ⟨kq, x97_60, rfl, HA, HJ60, BK249, HB⟩ := hcut
              cases kq with
              | zero => exact absurd HA.out (by simp [wherryref11_Verb.j3])
              | succ kj60 =>
               have H := HA.out
               clear HA
               simp only [wherryref11_Verb.j3] at H
               by_cases c64 : x97_60 = true
               ·
                subst c64
                rw [if_pos rfl] at H
                try dsimp -simprocs only at H
                by_cases c65 : xb = true
                ·
                 rw [if_pos c65] at H
                 subst c65
                 try clear c65
                 by_cases c66 : t250.toList = ([114, 115, 101, 116] : List UInt8)
                 ·
                  rw [if_pos c66] at H
                  have c66b0 : (t250.toList == ([114, 115, 101, 116] : List UInt8)) = true := beq_iff_eq.mpr c66
                  have c66b1 : (t250.toList != ([114, 115, 101, 116] : List UInt8)) = false := bne_eq_false_iff_eq.mpr c66
                  clear c66
                  simp only [Option.some.injEq, Prod.mk.injEq] at H
                  obtain ⟨rfl, rfl, rfl, rfl, rfl, rfl, rfl⟩ := H
                  have hcz67_0 := sC BK249.out 0
                  have hcz67_1 := sC BK249.out 1
                  have hcz67_2 := sC BK249.out 2
                  have hcz67_3 := sC BK249.out 3
                  have hcz67_4 := sC BK249.out 4
                  have hcz67_5 := sC BK249.out 5
                  have hfz67_0 := blk_frozen BK249.out 0
                  have hfz67_1 := blk_frozen BK249.out 1
                  have hfz67_2 := blk_frozen BK249.out 2
                  have hfz67_3 := blk_frozen BK249.out 3
                  have hfz67_4 := blk_frozen BK249.out 4
                  have hfz67_5 := blk_frozen BK249.out 5
                  go_wp2
                  refine bodyPost_ret (results_ct rfl _ _ gb249 26 #[.int .i64 5, .string ⟨#[]⟩, .bool false, .string ⟨#[]⟩, .string ⟨#[]⟩, .slice none 0 0] (0, 0) _ rfl (by refine sK ?_; refine blk_put (cs := #[.int .i64 5, .string ⟨#[]⟩, .bool false, .string ⟨#[]⟩, .string ⟨#[]⟩, .slice none 0 0]) ?_ 5 _ rfl; refine sK ?_; refine blk_put (cs := #[.int .i64 5, .string ⟨#[]⟩, .bool false, .string ⟨#[]⟩, .string x250004_1, .slice none 0 0]) ?_ 4 _ rfl; refine sK ?_; refine blk_put (cs := #[.int .i64 5, .string ⟨#[]⟩, .bool false, .string x250003_1, .string x250004_1, .slice none 0 0]) ?_ 3 _ rfl; refine sK ?_; refine blk_put (cs := #[.int .i64 5, .string ⟨#[]⟩, .bool x250002_1, .string x250003_1, .string x250004_1, .slice none 0 0]) ?_ 2 _ rfl; refine sK ?_; refine blk_put (cs := #[.int .i64 5, .string x250001_1, .bool x250002_1, .string x250003_1, .string x250004_1, .slice none 0 0]) ?_ 1 _ rfl; refine sK ?_; refine blk_put (cs := #[.int .i64 x250000_1, .string x250001_1, .bool x250002_1, .string x250003_1, .string x250004_1, .slice none 0 0]) ?_ 0 _ rfl; refine sK ?_; exact BK249.out) Tryz.underlying26 rfl (by kernel_rfl)) rfl ?_
                  exact ⟨_, by first | rfl | (simp [errW_none, errW_some] <;> rfl) | (simp [*, errW_none, errW_some] <;> rfl), by first | exact Kd.R_nil _ _ _ _ _ | exact Kd.N_nil _ _ _ _ _ | exact Kd.V_nil _ _ _ _ _ | exact Kd.Q_nil _ _ _ _ _ | exact Kd.S_nil _ _ _ _ _, sB HB.out⟩
                 ·
                  rw [if_neg c66] at H
                  have c66b0 : (t250.toList == ([114, 115, 101, 116] : List UInt8)) = false := beq_eq_false_iff_ne.mpr c66
                  have c66b1 : (t250.toList != ([114, 115, 101, 116] : List UInt8)) = true := bne_iff_ne.mpr c66
                  by_cases c68 : t250.toList = ([113, 117, 105, 116] : List UInt8)
                  ·
                   rw [if_pos c68] at H
                   have c68b0 : (t250.toList == ([113, 117, 105, 116] : List UInt8)) = true := beq_iff_eq.mpr c68
                   have c68b1 : (t250.toList != ([113, 117, 105, 116] : List UInt8)) = false := bne_eq_false_iff_eq.mpr c68
                   clear c68
                   simp only [Option.some.injEq, Prod.mk.injEq] at H
                   obtain ⟨rfl, rfl, rfl, rfl, rfl, rfl, rfl⟩ := H
                   have hcz69_0 := sC BK249.out 0
                   have hcz69_1 := sC BK249.out 1
                   have hcz69_2 := sC BK249.out 2
                   have hcz69_3 := sC BK249.out 3
                   have hcz69_4 := sC BK249.out 4
                   have hcz69_5 := sC BK249.out 5
                   have hfz69_0 := blk_frozen BK249.out 0
                   have hfz69_1 := blk_frozen BK249.out 1
                   have hfz69_2 := blk_frozen BK249.out 2
                   have hfz69_3 := blk_frozen BK249.out 3
                   have hfz69_4 := blk_frozen BK249.out 4
                   have hfz69_5 := blk_frozen BK249.out 5
                   go_wp2
                   refine bodyPost_ret (results_ct rfl _ _ gb249 26 #[.int .i64 8, .string ⟨#[]⟩, .bool false, .string ⟨#[]⟩, .string ⟨#[]⟩, .slice none 0 0] (0, 0) _ rfl (by refine sK ?_; refine blk_put (cs := #[.int .i64 8, .string ⟨#[]⟩, .bool false, .string ⟨#[]⟩, .string ⟨#[]⟩, .slice none 0 0]) ?_ 5 _ rfl; refine sK ?_; refine blk_put (cs := #[.int .i64 8, .string ⟨#[]⟩, .bool false, .string ⟨#[]⟩, .string x250004_1, .slice none 0 0]) ?_ 4 _ rfl; refine sK ?_; refine blk_put (cs := #[.int .i64 8, .string ⟨#[]⟩, .bool false, .string x250003_1, .string x250004_1, .slice none 0 0]) ?_ 3 _ rfl; refine sK ?_; refine blk_put (cs := #[.int .i64 8, .string ⟨#[]⟩, .bool x250002_1, .string x250003_1, .string x250004_1, .slice none 0 0]) ?_ 2 _ rfl; refine sK ?_; refine blk_put (cs := #[.int .i64 8, .string x250001_1, .bool x250002_1, .string x250003_1, .string x250004_1, .slice none 0 0]) ?_ 1 _ rfl; refine sK ?_; refine blk_put (cs := #[.int .i64 x250000_1, .string x250001_1, .bool x250002_1, .string x250003_1, .string x250004_1, .slice none 0 0]) ?_ 0 _ rfl; refine sK ?_; exact BK249.out) Tryz.underlying26 rfl (by kernel_rfl)) rfl ?_
                   exact ⟨_, by first | rfl | (simp [errW_none, errW_some] <;> rfl) | (simp [*, errW_none, errW_some] <;> rfl), by first | exact Kd.R_nil _ _ _ _ _ | exact Kd.N_nil _ _ _ _ _ | exact Kd.V_nil _ _ _ _ _ | exact Kd.Q_nil _ _ _ _ _ | exact Kd.S_nil _ _ _ _ _, sB HB.out⟩
                  ·
                   rw [if_neg c68] at H
                   have c68b0 : (t250.toList == ([113, 117, 105, 116] : List UInt8)) = false := beq_eq_false_iff_ne.mpr c68
                   have c68b1 : (t250.toList != ([113, 117, 105, 116] : List UInt8)) = true := bne_iff_ne.mpr c68
                   simp only [Option.some.injEq, Prod.mk.injEq] at H
                   obtain ⟨rfl, rfl, rfl, rfl, rfl, rfl, rfl⟩ := H
                   have hcz70_0 := sC BK249.out 0
                   have hcz70_1 := sC BK249.out 1
                   have hcz70_2 := sC BK249.out 2
                   have hcz70_3 := sC BK249.out 3
                   have hcz70_4 := sC BK249.out 4
                   have hcz70_5 := sC BK249.out 5
                   have hfz70_0 := blk_frozen BK249.out 0
                   have hfz70_1 := blk_frozen BK249.out 1
                   have hfz70_2 := blk_frozen BK249.out 2
                   have hfz70_3 := blk_frozen BK249.out 3
                   have hfz70_4 := blk_frozen BK249.out 4
                   have hfz70_5 := blk_frozen BK249.out 5
                   go_wp2
                   refine bodyPost_ret (results_ct rfl _ _ gb249 26 #[.int .i64 4, .string ⟨#[]⟩, .bool false, .string ⟨#[]⟩, .string ⟨#[]⟩, .slice none 0 0] (0, 0) _ rfl (by refine sK ?_; refine blk_put (cs := #[.int .i64 4, .string ⟨#[]⟩, .bool false, .string ⟨#[]⟩, .string ⟨#[]⟩, .slice none 0 0]) ?_ 5 _ rfl; refine sK ?_; refine blk_put (cs := #[.int .i64 4, .string ⟨#[]⟩, .bool false, .string ⟨#[]⟩, .string x250004_1, .slice none 0 0]) ?_ 4 _ rfl; refine sK ?_; refine blk_put (cs := #[.int .i64 4, .string ⟨#[]⟩, .bool false, .string x250003_1, .string x250004_1, .slice none 0 0]) ?_ 3 _ rfl; refine sK ?_; refine blk_put (cs := #[.int .i64 4, .string ⟨#[]⟩, .bool x250002_1, .string x250003_1, .string x250004_1, .slice none 0 0]) ?_ 2 _ rfl; refine sK ?_; refine blk_put (cs := #[.int .i64 4, .string x250001_1, .bool x250002_1, .string x250003_1, .string x250004_1, .slice none 0 0]) ?_ 1 _ rfl; refine sK ?_; refine blk_put (cs := #[.int .i64 x250000_1, .string x250001_1, .bool x250002_1, .string x250003_1, .string x250004_1, .slice none 0 0]) ?_ 0 _ rfl; refine sK ?_; exact BK249.out) Tryz.underlying26 rfl (by kernel_rfl)) rfl ?_
                   exact ⟨_, by first | rfl | (simp [errW_none, errW_some] <;> rfl) | (simp [*, errW_none, errW_some] <;> rfl), by first | exact Kd.R_nil _ _ _ _ _ | exact Kd.N_nil _ _ _ _ _ | exact Kd.V_nil _ _ _ _ _ | exact Kd.Q_nil _ _ _ _ _ | exact Kd.S_nil _ _ _ _ _, sB HB.out⟩
                ·
                 rw [if_neg c65] at H
                 obtain rfl : xb = false := by simpa using c65
                 try clear c65
                 simp only [Option.some.injEq, Prod.mk.injEq] at H
                 obtain ⟨rfl, rfl, rfl, rfl, rfl, rfl, rfl⟩ := H
                 have hcz71_0 := sC BK249.out 0
                 have hcz71_1 := sC BK249.out 1
                 have hcz71_2 := sC BK249.out 2
                 have hcz71_3 := sC BK249.out 3
                 have hcz71_4 := sC BK249.out 4
                 have hcz71_5 := sC BK249.out 5
                 have hfz71_0 := blk_frozen BK249.out 0
                 have hfz71_1 := blk_frozen BK249.out 1
                 have hfz71_2 := blk_frozen BK249.out 2
                 have hfz71_3 := blk_frozen BK249.out 3
                 have hfz71_4 := blk_frozen BK249.out 4
                 have hfz71_5 := blk_frozen BK249.out 5
                 go_wp2
                 refine bodyPost_ret (results_ct rfl _ _ gb249 26 #[.int .i64 0, .string ⟨#[]⟩, .bool false, .string ⟨#[]⟩, .string ⟨#[]⟩, .slice none 0 0] (0, 0) _ rfl (by refine sK ?_; refine blk_put (cs := #[.int .i64 0, .string ⟨#[]⟩, .bool false, .string ⟨#[]⟩, .string ⟨#[]⟩, .slice none 0 0]) ?_ 5 _ rfl; refine sK ?_; refine blk_put (cs := #[.int .i64 0, .string ⟨#[]⟩, .bool false, .string ⟨#[]⟩, .string x250004_1, .slice none 0 0]) ?_ 4 _ rfl; refine sK ?_; refine blk_put (cs := #[.int .i64 0, .string ⟨#[]⟩, .bool false, .string x250003_1, .string x250004_1, .slice none 0 0]) ?_ 3 _ rfl; refine sK ?_; refine blk_put (cs := #[.int .i64 0, .string ⟨#[]⟩, .bool x250002_1, .string x250003_1, .string x250004_1, .slice none 0 0]) ?_ 2 _ rfl; refine sK ?_; refine blk_put (cs := #[.int .i64 0, .string x250001_1, .bool x250002_1, .string x250003_1, .string x250004_1, .slice none 0 0]) ?_ 1 _ rfl; refine sK ?_; refine blk_put (cs := #[.int .i64 x250000_1, .string x250001_1, .bool x250002_1, .string x250003_1, .string x250004_1, .slice none 0 0]) ?_ 0 _ rfl; refine sK ?_; exact BK249.out) Tryz.underlying26 rfl (by kernel_rfl)) rfl ?_
                 exact ⟨_, by first | rfl | (simp [errW_none, errW_some] <;> rfl) | (simp [*, errW_none, errW_some] <;> rfl), by first | exact Kd.R_nil _ _ _ _ _ | exact Kd.N_nil _ _ _ _ _ | exact Kd.V_nil _ _ _ _ _ | exact Kd.Q_nil _ _ _ _ _ | exact Kd.S_nil _ _ _ _ _, sB HB.out⟩
               ·
                replace c64 := Bool.eq_false_iff.mpr c64
                subst c64
                rw [if_neg (show ¬ (false = true) by decide)] at H
                try dsimp -simprocs only at H
                by_cases c72 : t250.toList = ([110, 111, 111, 112] : List UInt8)
                ·
                 rw [if_pos c72] at H
                 have c72b0 : (t250.toList == ([110, 111, 111, 112] : List UInt8)) = true := beq_iff_eq.mpr c72
                 have c72b1 : (t250.toList != ([110, 111, 111, 112] : List UInt8)) = false := bne_eq_false_iff_eq.mpr c72
                 clear c72
                 simp only [Option.some.injEq, Prod.mk.injEq] at H
                 obtain ⟨rfl, rfl, rfl, rfl, rfl, rfl, rfl⟩ := H
                 have hcz73_0 := sC BK249.out 0
                 have hcz73_1 := sC BK249.out 1
                 have hcz73_2 := sC BK249.out 2
                 have hcz73_3 := sC BK249.out 3
                 have hcz73_4 := sC BK249.out 4
                 have hcz73_5 := sC BK249.out 5
                 have hfz73_0 := blk_frozen BK249.out 0
                 have hfz73_1 := blk_frozen BK249.out 1
                 have hfz73_2 := blk_frozen BK249.out 2
                 have hfz73_3 := blk_frozen BK249.out 3
                 have hfz73_4 := blk_frozen BK249.out 4
                 have hfz73_5 := blk_frozen BK249.out 5
                 go_wp2
                 refine bodyPost_ret (results_ct rfl _ _ gb249 26 #[.int .i64 7, .string ⟨#[]⟩, .bool false, .string ⟨#[]⟩, .string ⟨#[]⟩, .slice none 0 0] (0, 0) _ rfl (by refine sK ?_; refine blk_put (cs := #[.int .i64 7, .string ⟨#[]⟩, .bool false, .string ⟨#[]⟩, .string ⟨#[]⟩, .slice none 0 0]) ?_ 5 _ rfl; refine sK ?_; refine blk_put (cs := #[.int .i64 7, .string ⟨#[]⟩, .bool false, .string ⟨#[]⟩, .string x250004_1, .slice none 0 0]) ?_ 4 _ rfl; refine sK ?_; refine blk_put (cs := #[.int .i64 7, .string ⟨#[]⟩, .bool false, .string x250003_1, .string x250004_1, .slice none 0 0]) ?_ 3 _ rfl; refine sK ?_; refine blk_put (cs := #[.int .i64 7, .string ⟨#[]⟩, .bool x250002_1, .string x250003_1, .string x250004_1, .slice none 0 0]) ?_ 2 _ rfl; refine sK ?_; refine blk_put (cs := #[.int .i64 7, .string x250001_1, .bool x250002_1, .string x250003_1, .string x250004_1, .slice none 0 0]) ?_ 1 _ rfl; refine sK ?_; refine blk_put (cs := #[.int .i64 x250000_1, .string x250001_1, .bool x250002_1, .string x250003_1, .string x250004_1, .slice none 0 0]) ?_ 0 _ rfl; refine sK ?_; exact BK249.out) Tryz.underlying26 rfl (by kernel_rfl)) rfl ?_
                 exact ⟨_, by first | rfl | (simp [errW_none, errW_some] <;> rfl) | (simp [*, errW_none, errW_some] <;> rfl), by first | exact Kd.R_nil _ _ _ _ _ | exact Kd.N_nil _ _ _ _ _ | exact Kd.V_nil _ _ _ _ _ | exact Kd.Q_nil _ _ _ _ _ | exact Kd.S_nil _ _ _ _ _, sB HB.out⟩
                ·
                 rw [if_neg c72] at H
                 have c72b0 : (t250.toList == ([110, 111, 111, 112] : List UInt8)) = false := beq_eq_false_iff_ne.mpr c72
                 have c72b1 : (t250.toList != ([110, 111, 111, 112] : List UInt8)) = true := bne_iff_ne.mpr c72
                 by_cases c74 : t250.toList = ([118, 114, 102, 121] : List UInt8)
                 ·
                  rw [if_pos c74] at H
                  have c74b0 : (t250.toList == ([118, 114, 102, 121] : List UInt8)) = true := beq_iff_eq.mpr c74
                  have c74b1 : (t250.toList != ([118, 114, 102, 121] : List UInt8)) = false := bne_eq_false_iff_eq.mpr c74
                  clear c74
                  by_cases c75 : xb = true
                  ·
                   rw [if_pos c75] at H
                   subst c75
                   try clear c75
                   simp only [Option.some.injEq, Prod.mk.injEq] at H
                   obtain ⟨rfl, rfl, rfl, rfl, rfl, rfl, rfl⟩ := H
                   have hcz76_0 := sC BK249.out 0
                   have hcz76_1 := sC BK249.out 1
                   have hcz76_2 := sC BK249.out 2
                   have hcz76_3 := sC BK249.out 3
                   have hcz76_4 := sC BK249.out 4
                   have hcz76_5 := sC BK249.out 5
                   have hfz76_0 := blk_frozen BK249.out 0
                   have hfz76_1 := blk_frozen BK249.out 1
                   have hfz76_2 := blk_frozen BK249.out 2
                   have hfz76_3 := blk_frozen BK249.out 3
                   have hfz76_4 := blk_frozen BK249.out 4
                   have hfz76_5 := blk_frozen BK249.out 5
                   go_wp2
                   refine bodyPost_ret (results_ct rfl _ _ gb249 26 #[.int .i64 0, .string ⟨#[]⟩, .bool false, .string ⟨#[]⟩, .string ⟨#[]⟩, .slice none 0 0] (0, 0) _ rfl (by refine sK ?_; refine blk_put (cs := #[.int .i64 0, .string ⟨#[]⟩, .bool false, .string ⟨#[]⟩, .string ⟨#[]⟩, .slice none 0 0]) ?_ 5 _ rfl; refine sK ?_; refine blk_put (cs := #[.int .i64 0, .string ⟨#[]⟩, .bool false, .string ⟨#[]⟩, .string x250004_1, .slice none 0 0]) ?_ 4 _ rfl; refine sK ?_; refine blk_put (cs := #[.int .i64 0, .string ⟨#[]⟩, .bool false, .string x250003_1, .string x250004_1, .slice none 0 0]) ?_ 3 _ rfl; refine sK ?_; refine blk_put (cs := #[.int .i64 0, .string ⟨#[]⟩, .bool x250002_1, .string x250003_1, .string x250004_1, .slice none 0 0]) ?_ 2 _ rfl; refine sK ?_; refine blk_put (cs := #[.int .i64 0, .string x250001_1, .bool x250002_1, .string x250003_1, .string x250004_1, .slice none 0 0]) ?_ 1 _ rfl; refine sK ?_; refine blk_put (cs := #[.int .i64 x250000_1, .string x250001_1, .bool x250002_1, .string x250003_1, .string x250004_1, .slice none 0 0]) ?_ 0 _ rfl; refine sK ?_; exact BK249.out) Tryz.underlying26 rfl (by kernel_rfl)) rfl ?_
                   exact ⟨_, by first | rfl | (simp [errW_none, errW_some] <;> rfl) | (simp [*, errW_none, errW_some] <;> rfl), by first | exact Kd.R_nil _ _ _ _ _ | exact Kd.N_nil _ _ _ _ _ | exact Kd.V_nil _ _ _ _ _ | exact Kd.Q_nil _ _ _ _ _ | exact Kd.S_nil _ _ _ _ _, sB HB.out⟩
                  ·
                   rw [if_neg c75] at H
                   obtain rfl : xb = false := by simpa using c75
                   try clear c75
                   by_cases c77 : x7_16.toList = ([] : List UInt8)
                   ·
                    rw [if_pos c77] at H
                    have c77b0 : (x7_16.toList == ([] : List UInt8)) = true := beq_iff_eq.mpr c77
                    have c77b1 : (x7_16.toList != ([] : List UInt8)) = false := bne_eq_false_iff_eq.mpr c77
                    clear c77
                    simp only [Option.some.injEq, Prod.mk.injEq] at H
                    obtain ⟨rfl, rfl, rfl, rfl, rfl, rfl, rfl⟩ := H
                    have hcz78_0 := sC BK249.out 0
                    have hcz78_1 := sC BK249.out 1
                    have hcz78_2 := sC BK249.out 2
                    have hcz78_3 := sC BK249.out 3
                    have hcz78_4 := sC BK249.out 4
                    have hcz78_5 := sC BK249.out 5
                    have hfz78_0 := blk_frozen BK249.out 0
                    have hfz78_1 := blk_frozen BK249.out 1
                    have hfz78_2 := blk_frozen BK249.out 2
                    have hfz78_3 := blk_frozen BK249.out 3
                    have hfz78_4 := blk_frozen BK249.out 4
                    have hfz78_5 := blk_frozen BK249.out 5
                    go_wp2
                    refine bodyPost_ret (results_ct rfl _ _ gb249 26 #[.int .i64 0, .string ⟨#[]⟩, .bool false, .string ⟨#[]⟩, .string ⟨#[]⟩, .slice none 0 0] (0, 0) _ rfl (by refine sK ?_; refine blk_put (cs := #[.int .i64 0, .string ⟨#[]⟩, .bool false, .string ⟨#[]⟩, .string ⟨#[]⟩, .slice none 0 0]) ?_ 5 _ rfl; refine sK ?_; refine blk_put (cs := #[.int .i64 0, .string ⟨#[]⟩, .bool false, .string ⟨#[]⟩, .string x250004_1, .slice none 0 0]) ?_ 4 _ rfl; refine sK ?_; refine blk_put (cs := #[.int .i64 0, .string ⟨#[]⟩, .bool false, .string x250003_1, .string x250004_1, .slice none 0 0]) ?_ 3 _ rfl; refine sK ?_; refine blk_put (cs := #[.int .i64 0, .string ⟨#[]⟩, .bool x250002_1, .string x250003_1, .string x250004_1, .slice none 0 0]) ?_ 2 _ rfl; refine sK ?_; refine blk_put (cs := #[.int .i64 0, .string x250001_1, .bool x250002_1, .string x250003_1, .string x250004_1, .slice none 0 0]) ?_ 1 _ rfl; refine sK ?_; refine blk_put (cs := #[.int .i64 x250000_1, .string x250001_1, .bool x250002_1, .string x250003_1, .string x250004_1, .slice none 0 0]) ?_ 0 _ rfl; refine sK ?_; exact BK249.out) Tryz.underlying26 rfl (by kernel_rfl)) rfl ?_
                    exact ⟨_, by first | rfl | (simp [errW_none, errW_some] <;> rfl) | (simp [*, errW_none, errW_some] <;> rfl), by first | exact Kd.R_nil _ _ _ _ _ | exact Kd.N_nil _ _ _ _ _ | exact Kd.V_nil _ _ _ _ _ | exact Kd.Q_nil _ _ _ _ _ | exact Kd.S_nil _ _ _ _ _, sB HB.out⟩
                   ·
                    rw [if_neg c77] at H
                    have c77b0 : (x7_16.toList == ([] : List UInt8)) = false := beq_eq_false_iff_ne.mpr c77
                    have c77b1 : (x7_16.toList != ([] : List UInt8)) = true := bne_iff_ne.mpr c77
                    simp only [Option.some.injEq, Prod.mk.injEq] at H
                    obtain ⟨rfl, rfl, rfl, rfl, rfl, rfl, rfl⟩ := H
                    have hcz79_0 := sC BK249.out 0
                    have hcz79_1 := sC BK249.out 1
                    have hcz79_2 := sC BK249.out 2
                    have hcz79_3 := sC BK249.out 3
                    have hcz79_4 := sC BK249.out 4
                    have hcz79_5 := sC BK249.out 5
                    have hfz79_0 := blk_frozen BK249.out 0
                    have hfz79_1 := blk_frozen BK249.out 1
                    have hfz79_2 := blk_frozen BK249.out 2
                    have hfz79_3 := blk_frozen BK249.out 3
                    have hfz79_4 := blk_frozen BK249.out 4
                    have hfz79_5 := blk_frozen BK249.out 5
                    go_wp2
                    refine bodyPost_ret (results_ct rfl _ _ gb249 26 #[.int .i64 6, .string x7_16, .bool false, .string ⟨#[]⟩, .string ⟨#[]⟩, .slice none 0 0] (0, 0) _ rfl (by refine sK ?_; refine blk_put (cs := #[.int .i64 6, .string x7_16, .bool false, .string ⟨#[]⟩, .string ⟨#[]⟩, .slice none 0 0]) ?_ 5 _ rfl; refine sK ?_; refine blk_put (cs := #[.int .i64 6, .string x7_16, .bool false, .string ⟨#[]⟩, .string x250004_1, .slice none 0 0]) ?_ 4 _ rfl; refine sK ?_; refine blk_put (cs := #[.int .i64 6, .string x7_16, .bool false, .string x250003_1, .string x250004_1, .slice none 0 0]) ?_ 3 _ rfl; refine sK ?_; refine blk_put (cs := #[.int .i64 6, .string x7_16, .bool x250002_1, .string x250003_1, .string x250004_1, .slice none 0 0]) ?_ 2 _ rfl; refine sK ?_; refine blk_put (cs := #[.int .i64 6, .string x250001_1, .bool x250002_1, .string x250003_1, .string x250004_1, .slice none 0 0]) ?_ 1 _ rfl; refine sK ?_; refine blk_put (cs := #[.int .i64 x250000_1, .string x250001_1, .bool x250002_1, .string x250003_1, .string x250004_1, .slice none 0 0]) ?_ 0 _ rfl; refine sK ?_; exact BK249.out) Tryz.underlying26 rfl (by kernel_rfl)) rfl ?_
                    exact ⟨_, by first | rfl | (simp [errW_none, errW_some] <;> rfl) | (simp [*, errW_none, errW_some] <;> rfl), by first | exact Kd.R_nil _ _ _ _ _ | exact Kd.N_nil _ _ _ _ _ | exact Kd.V_nil _ _ _ _ _ | exact Kd.Q_nil _ _ _ _ _ | exact Kd.S_nil _ _ _ _ _, sB HB.out⟩
                 ·
                  rw [if_neg c74] at H
                  have c74b0 : (t250.toList == ([118, 114, 102, 121] : List UInt8)) = false := beq_eq_false_iff_ne.mpr c74
                  have c74b1 : (t250.toList != ([118, 114, 102, 121] : List UInt8)) = true := bne_iff_ne.mpr c74
                  by_cases c80 : t250.toList = ([101, 116, 114, 110] : List UInt8)
                  ·
                   rw [if_pos c80] at H
                   have c80b0 : (t250.toList == ([101, 116, 114, 110] : List UInt8)) = true := beq_iff_eq.mpr c80
                   have c80b1 : (t250.toList != ([101, 116, 114, 110] : List UInt8)) = false := bne_eq_false_iff_eq.mpr c80
                   clear c80
                   by_cases c81 : xb = true
                   ·
                    rw [if_pos c81] at H
                    subst c81
                    try clear c81
                    simp only [Option.some.injEq, Prod.mk.injEq] at H
                    obtain ⟨rfl, rfl, rfl, rfl, rfl, rfl, rfl⟩ := H
                    have hcz82_0 := sC BK249.out 0
                    have hcz82_1 := sC BK249.out 1
                    have hcz82_2 := sC BK249.out 2
                    have hcz82_3 := sC BK249.out 3
                    have hcz82_4 := sC BK249.out 4
                    have hcz82_5 := sC BK249.out 5
                    have hfz82_0 := blk_frozen BK249.out 0
                    have hfz82_1 := blk_frozen BK249.out 1
                    have hfz82_2 := blk_frozen BK249.out 2
                    have hfz82_3 := blk_frozen BK249.out 3
                    have hfz82_4 := blk_frozen BK249.out 4
                    have hfz82_5 := blk_frozen BK249.out 5
                    go_wp2
                    refine bodyPost_ret (results_ct rfl _ _ gb249 26 #[.int .i64 0, .string ⟨#[]⟩, .bool false, .string ⟨#[]⟩, .string ⟨#[]⟩, .slice none 0 0] (0, 0) _ rfl (by refine sK ?_; refine blk_put (cs := #[.int .i64 0, .string ⟨#[]⟩, .bool false, .string ⟨#[]⟩, .string ⟨#[]⟩, .slice none 0 0]) ?_ 5 _ rfl; refine sK ?_; refine blk_put (cs := #[.int .i64 0, .string ⟨#[]⟩, .bool false, .string ⟨#[]⟩, .string x250004_1, .slice none 0 0]) ?_ 4 _ rfl; refine sK ?_; refine blk_put (cs := #[.int .i64 0, .string ⟨#[]⟩, .bool false, .string x250003_1, .string x250004_1, .slice none 0 0]) ?_ 3 _ rfl; refine sK ?_; refine blk_put (cs := #[.int .i64 0, .string ⟨#[]⟩, .bool x250002_1, .string x250003_1, .string x250004_1, .slice none 0 0]) ?_ 2 _ rfl; refine sK ?_; refine blk_put (cs := #[.int .i64 0, .string x250001_1, .bool x250002_1, .string x250003_1, .string x250004_1, .slice none 0 0]) ?_ 1 _ rfl; refine sK ?_; refine blk_put (cs := #[.int .i64 x250000_1, .string x250001_1, .bool x250002_1, .string x250003_1, .string x250004_1, .slice none 0 0]) ?_ 0 _ rfl; refine sK ?_; exact BK249.out) Tryz.underlying26 rfl (by kernel_rfl)) rfl ?_
                    exact ⟨_, by first | rfl | (simp [errW_none, errW_some] <;> rfl) | (simp [*, errW_none, errW_some] <;> rfl), by first | exact Kd.R_nil _ _ _ _ _ | exact Kd.N_nil _ _ _ _ _ | exact Kd.V_nil _ _ _ _ _ | exact Kd.Q_nil _ _ _ _ _ | exact Kd.S_nil _ _ _ _ _, sB HB.out⟩
                   ·
                    rw [if_neg c81] at H
                    obtain rfl : xb = false := by simpa using c81
                    try clear c81
                    replace H := Option.bind_eq_some_iff.mp H
                    obtain ⟨t278, A830, H⟩ := H
                    try dsimp -simprocs only at H
                    have A83 := Aside0.mk A830
                    clear A830
                    by_cases c84 : t278 = true
                    ·
                     subst c84
                     rw [if_pos rfl] at H
                     try dsimp -simprocs only at H
                     simp only [Option.some.injEq, Prod.mk.injEq] at H
                     obtain ⟨rfl, rfl, rfl, rfl, rfl, rfl, rfl⟩ := H
                     go_wp2_with (first | (go_at_call 26; (with_reducible refine (wherryref11_Domain.calls kj60 x7_16 true _ A83.out).mono ?_); rintro e w' ⟨rfl, ⟨nd, rfl⟩⟩; (try (rw [drewN_self wc]; generalize hq_ : World.drewN wc _ = wc; have n0_ : Aside0 (wc.heap[gb249]? = some (.cells #[.int .i64 x250000_1, .string x250001_1, .bool x250002_1, .string x250003_1, .string x250004_1, .slice none 0 0] 26 (0, 0))) := ⟨by rw [← hq_]; exact (sK BK249.out)⟩; have n1_ : Aside0 (Below w.heap.size w wc) := ⟨by rw [← hq_]; exact (sB HB.out)⟩; clear BK249 HB hq_; have BK249 := n0_; have HB := n1_; clear n0_ n1_)); have hcz85_0 := sC BK249.out 0; have hcz85_1 := sC BK249.out 1; have hcz85_2 := sC BK249.out 2; have hcz85_3 := sC BK249.out 3; have hcz85_4 := sC BK249.out 4; have hcz85_5 := sC BK249.out 5; have hfz85_0 := blk_frozen BK249.out 0; have hfz85_1 := blk_frozen BK249.out 1; have hfz85_2 := blk_frozen BK249.out 2; have hfz85_3 := blk_frozen BK249.out 3; have hfz85_4 := blk_frozen BK249.out 4; have hfz85_5 := blk_frozen BK249.out 5))
                     refine bodyPost_ret (results_ct rfl _ _ gb249 26 #[.int .i64 9, .string x7_16, .bool false, .string ⟨#[]⟩, .string ⟨#[]⟩, .slice none 0 0] (0, 0) _ rfl (by refine sK ?_; refine blk_put (cs := #[.int .i64 9, .string x7_16, .bool false, .string ⟨#[]⟩, .string ⟨#[]⟩, .slice none 0 0]) ?_ 5 _ rfl; refine sK ?_; refine blk_put (cs := #[.int .i64 9, .string x7_16, .bool false, .string ⟨#[]⟩, .string x250004_1, .slice none 0 0]) ?_ 4 _ rfl; refine sK ?_; refine blk_put (cs := #[.int .i64 9, .string x7_16, .bool false, .string x250003_1, .string x250004_1, .slice none 0 0]) ?_ 3 _ rfl; refine sK ?_; refine blk_put (cs := #[.int .i64 9, .string x7_16, .bool x250002_1, .string x250003_1, .string x250004_1, .slice none 0 0]) ?_ 2 _ rfl; refine sK ?_; refine blk_put (cs := #[.int .i64 9, .string x250001_1, .bool x250002_1, .string x250003_1, .string x250004_1, .slice none 0 0]) ?_ 1 _ rfl; refine sK ?_; refine blk_put (cs := #[.int .i64 x250000_1, .string x250001_1, .bool x250002_1, .string x250003_1, .string x250004_1, .slice none 0 0]) ?_ 0 _ rfl; refine sK ?_; exact BK249.out) Tryz.underlying26 rfl (by kernel_rfl)) rfl ?_
                     exact ⟨_, by first | rfl | (simp [errW_none, errW_some] <;> rfl) | (simp [*, errW_none, errW_some] <;> rfl), by first | exact Kd.R_nil _ _ _ _ _ | exact Kd.N_nil _ _ _ _ _ | exact Kd.V_nil _ _ _ _ _ | exact Kd.Q_nil _ _ _ _ _ | exact Kd.S_nil _ _ _ _ _, sB HB.out⟩
                    ·
                     replace c84 := Bool.eq_false_iff.mpr c84
                     subst c84
                     rw [if_neg (show ¬ (false = true) by decide)] at H
                     try dsimp -simprocs only at H
                     simp only [Option.some.injEq, Prod.mk.injEq] at H
                     obtain ⟨rfl, rfl, rfl, rfl, rfl, rfl, rfl⟩ := H
                     go_wp2_with (first | (go_at_call 26; (with_reducible refine (wherryref11_Domain.calls kj60 x7_16 false _ A83.out).mono ?_); rintro e w' ⟨rfl, ⟨nd, rfl⟩⟩; (try (rw [drewN_self wc]; generalize hq_ : World.drewN wc _ = wc; have n0_ : Aside0 (wc.heap[gb249]? = some (.cells #[.int .i64 x250000_1, .string x250001_1, .bool x250002_1, .string x250003_1, .string x250004_1, .slice none 0 0] 26 (0, 0))) := ⟨by rw [← hq_]; exact (sK BK249.out)⟩; have n1_ : Aside0 (Below w.heap.size w wc) := ⟨by rw [← hq_]; exact (sB HB.out)⟩; clear BK249 HB hq_; have BK249 := n0_; have HB := n1_; clear n0_ n1_)); have hcz86_0 := sC BK249.out 0; have hcz86_1 := sC BK249.out 1; have hcz86_2 := sC BK249.out 2; have hcz86_3 := sC BK249.out 3; have hcz86_4 := sC BK249.out 4; have hcz86_5 := sC BK249.out 5; have hfz86_0 := blk_frozen BK249.out 0; have hfz86_1 := blk_frozen BK249.out 1; have hfz86_2 := blk_frozen BK249.out 2; have hfz86_3 := blk_frozen BK249.out 3; have hfz86_4 := blk_frozen BK249.out 4; have hfz86_5 := blk_frozen BK249.out 5))
                     refine bodyPost_ret (results_ct rfl _ _ gb249 26 #[.int .i64 0, .string ⟨#[]⟩, .bool false, .string ⟨#[]⟩, .string ⟨#[]⟩, .slice none 0 0] (0, 0) _ rfl (by refine sK ?_; refine blk_put (cs := #[.int .i64 0, .string ⟨#[]⟩, .bool false, .string ⟨#[]⟩, .string ⟨#[]⟩, .slice none 0 0]) ?_ 5 _ rfl; refine sK ?_; refine blk_put (cs := #[.int .i64 0, .string ⟨#[]⟩, .bool false, .string ⟨#[]⟩, .string x250004_1, .slice none 0 0]) ?_ 4 _ rfl; refine sK ?_; refine blk_put (cs := #[.int .i64 0, .string ⟨#[]⟩, .bool false, .string x250003_1, .string x250004_1, .slice none 0 0]) ?_ 3 _ rfl; refine sK ?_; refine blk_put (cs := #[.int .i64 0, .string ⟨#[]⟩, .bool x250002_1, .string x250003_1, .string x250004_1, .slice none 0 0]) ?_ 2 _ rfl; refine sK ?_; refine blk_put (cs := #[.int .i64 0, .string x250001_1, .bool x250002_1, .string x250003_1, .string x250004_1, .slice none 0 0]) ?_ 1 _ rfl; refine sK ?_; refine blk_put (cs := #[.int .i64 x250000_1, .string x250001_1, .bool x250002_1, .string x250003_1, .string x250004_1, .slice none 0 0]) ?_ 0 _ rfl; refine sK ?_; exact BK249.out) Tryz.underlying26 rfl (by kernel_rfl)) rfl ?_
                     exact ⟨_, by first | rfl | (simp [errW_none, errW_some] <;> rfl) | (simp [*, errW_none, errW_some] <;> rfl), by first | exact Kd.R_nil _ _ _ _ _ | exact Kd.N_nil _ _ _ _ _ | exact Kd.V_nil _ _ _ _ _ | exact Kd.Q_nil _ _ _ _ _ | exact Kd.S_nil _ _ _ _ _, sB HB.out⟩
                  ·
                   rw [if_neg c80] at H
                   have c80b0 : (t250.toList == ([101, 116, 114, 110] : List UInt8)) = false := beq_eq_false_iff_ne.mpr c80
                   have c80b1 : (t250.toList != ([101, 116, 114, 110] : List UInt8)) = true := bne_iff_ne.mpr c80
                   by_cases c87 : t250.toList = ([97, 117, 116, 104] : List UInt8)
                   ·
                    rw [if_pos c87] at H
                    have c87b0 : (t250.toList == ([97, 117, 116, 104] : List UInt8)) = true := beq_iff_eq.mpr c87
                    have c87b1 : (t250.toList != ([97, 117, 116, 104] : List UInt8)) = false := bne_eq_false_iff_eq.mpr c87
                    clear c87
                    replace H := Option.bind_eq_some_iff.mp H
                    obtain ⟨t279, A880, H⟩ := H
                    try dsimp -simprocs only at H
                    have A88 := Aside0.mk A880
                    clear A880
                    by_cases c89 : t279.toList = ([99, 114, 97, 109, 45, 109, 100, 53] : List UInt8)
                    ·
                     rw [if_pos c89] at H
                     have c89b0 : (t279.toList == ([99, 114, 97, 109, 45, 109, 100, 53] : List UInt8)) = true := beq_iff_eq.mpr c89
                     have c89b1 : (t279.toList != ([99, 114, 97, 109, 45, 109, 100, 53] : List UInt8)) = false := bne_eq_false_iff_eq.mpr c89
                     clear c89
                     simp only [Option.some.injEq, Prod.mk.injEq] at H
                     obtain ⟨rfl, rfl, rfl, rfl, rfl, rfl, rfl⟩ := H
                     go_wp2_with (first | ((with_reducible refine gate_callee (f := 29) rfl ?_); refine goesL_ (some 134) rfl rfl Tryz.func29 (by kernel_rfl) rfl #[.string x7_16] rfl sM ?_; (with_reducible refine (wherryref11_Fold.calls kj60 x7_16 t279 _ A88.out).mono ?_); rintro e w90 ⟨rfl, hb⟩; refine ⟨_, rfl, ?_⟩; replace BK249 := Aside0.mk (blk_below (g := gb249) (o := .cells #[.int .i64 x250000_1, .string x250001_1, .bool x250002_1, .string x250003_1, .string x250004_1, .slice none 0 0] 26 (0, 0)) (sK BK249.out) hb); replace HB := Aside0.mk (below_step (sB HB.out) hb); (try clear hb); have hcz91_0 := sC BK249.out 0; have hcz91_1 := sC BK249.out 1; have hcz91_2 := sC BK249.out 2; have hcz91_3 := sC BK249.out 3; have hcz91_4 := sC BK249.out 4; have hcz91_5 := sC BK249.out 5; have hfz91_0 := blk_frozen BK249.out 0; have hfz91_1 := blk_frozen BK249.out 1; have hfz91_2 := blk_frozen BK249.out 2; have hfz91_3 := blk_frozen BK249.out 3; have hfz91_4 := blk_frozen BK249.out 4; have hfz91_5 := blk_frozen BK249.out 5))
                     refine bodyPost_ret (results_ct rfl _ _ gb249 26 #[.int .i64 10, .string ⟨#[]⟩, .bool false, .string ⟨#[]⟩, .string ⟨#[]⟩, .slice none 0 0] (0, 0) _ rfl (by refine sK ?_; refine blk_put (cs := #[.int .i64 10, .string ⟨#[]⟩, .bool false, .string ⟨#[]⟩, .string ⟨#[]⟩, .slice none 0 0]) ?_ 5 _ rfl; refine sK ?_; refine blk_put (cs := #[.int .i64 10, .string ⟨#[]⟩, .bool false, .string ⟨#[]⟩, .string x250004_1, .slice none 0 0]) ?_ 4 _ rfl; refine sK ?_; refine blk_put (cs := #[.int .i64 10, .string ⟨#[]⟩, .bool false, .string x250003_1, .string x250004_1, .slice none 0 0]) ?_ 3 _ rfl; refine sK ?_; refine blk_put (cs := #[.int .i64 10, .string ⟨#[]⟩, .bool x250002_1, .string x250003_1, .string x250004_1, .slice none 0 0]) ?_ 2 _ rfl; refine sK ?_; refine blk_put (cs := #[.int .i64 10, .string x250001_1, .bool x250002_1, .string x250003_1, .string x250004_1, .slice none 0 0]) ?_ 1 _ rfl; refine sK ?_; refine blk_put (cs := #[.int .i64 x250000_1, .string x250001_1, .bool x250002_1, .string x250003_1, .string x250004_1, .slice none 0 0]) ?_ 0 _ rfl; refine sK ?_; exact BK249.out) Tryz.underlying26 rfl (by kernel_rfl)) rfl ?_
                     exact ⟨_, by first | rfl | (simp [errW_none, errW_some] <;> rfl) | (simp [*, errW_none, errW_some] <;> rfl), by first | exact Kd.R_nil _ _ _ _ _ | exact Kd.N_nil _ _ _ _ _ | exact Kd.V_nil _ _ _ _ _ | exact Kd.Q_nil _ _ _ _ _ | exact Kd.S_nil _ _ _ _ _, sB HB.out⟩
                    ·
                     rw [if_neg c89] at H
                     have c89b0 : (t279.toList == ([99, 114, 97, 109, 45, 109, 100, 53] : List UInt8)) = false := beq_eq_false_iff_ne.mpr c89
                     have c89b1 : (t279.toList != ([99, 114, 97, 109, 45, 109, 100, 53] : List UInt8)) = true := bne_iff_ne.mpr c89
                     replace H := Option.bind_eq_some_iff.mp H
                     obtain ⟨t280, A920, H⟩ := H
                     try dsimp -simprocs only at H
                     have A92 := Aside0.mk A920
                     clear A920
                     by_cases c93 : t280 = true
                     ·
                      subst c93
                      rw [if_pos rfl] at H
                      try dsimp -simprocs only at H
                      simp only [Option.some.injEq, Prod.mk.injEq] at H
                      obtain ⟨rfl, rfl, rfl, rfl, rfl, rfl, rfl⟩ := H
                      go_wp2_with (first | ((with_reducible refine gate_callee (f := 29) rfl ?_); refine goesL_ (some 134) rfl rfl Tryz.func29 (by kernel_rfl) rfl #[.string x7_16] rfl sM ?_; (with_reducible refine (wherryref11_Fold.calls kj60 x7_16 t279 _ A88.out).mono ?_); rintro e w94 ⟨rfl, hb⟩; refine ⟨_, rfl, ?_⟩; replace BK249 := Aside0.mk (blk_below (g := gb249) (o := .cells #[.int .i64 x250000_1, .string x250001_1, .bool x250002_1, .string x250003_1, .string x250004_1, .slice none 0 0] 26 (0, 0)) (sK BK249.out) hb); replace HB := Aside0.mk (below_step (sB HB.out) hb); (try clear hb)) | ((with_reducible refine gate_callee (f := 30) rfl ?_); refine goesL_ (some 138) rfl rfl Tryz.func30 (by kernel_rfl) rfl #[.string x7_16] rfl sM ?_; (with_reducible refine (wherryref11_mechanism.calls kj60 x7_16 true _ A92.out).mono ?_); rintro e w' ⟨rfl, ⟨nd, rfl⟩⟩; refine ⟨_, rfl, ?_⟩; (try (rw [drewN_self w94]; generalize hq_ : World.drewN w94 _ = w94; have n0_ : Aside0 (w94.heap[gb249]? = some (.cells #[.int .i64 x250000_1, .string x250001_1, .bool x250002_1, .string x250003_1, .string x250004_1, .slice none 0 0] 26 (0, 0))) := ⟨by rw [← hq_]; exact (sK BK249.out)⟩; have n1_ : Aside0 (Below w.heap.size w w94) := ⟨by rw [← hq_]; exact (sB HB.out)⟩; clear BK249 HB hq_; have BK249 := n0_; have HB := n1_; clear n0_ n1_)); have hcz95_0 := sC BK249.out 0; have hcz95_1 := sC BK249.out 1; have hcz95_2 := sC BK249.out 2; have hcz95_3 := sC BK249.out 3; have hcz95_4 := sC BK249.out 4; have hcz95_5 := sC BK249.out 5; have hfz95_0 := blk_frozen BK249.out 0; have hfz95_1 := blk_frozen BK249.out 1; have hfz95_2 := blk_frozen BK249.out 2; have hfz95_3 := blk_frozen BK249.out 3; have hfz95_4 := blk_frozen BK249.out 4; have hfz95_5 := blk_frozen BK249.out 5))
                      refine bodyPost_ret (results_ct rfl _ _ gb249 26 #[.int .i64 0, .string ⟨#[]⟩, .bool false, .string ⟨#[]⟩, .string ⟨#[]⟩, .slice none 0 0] (0, 0) _ rfl (by refine sK ?_; refine blk_put (cs := #[.int .i64 0, .string ⟨#[]⟩, .bool false, .string ⟨#[]⟩, .string ⟨#[]⟩, .slice none 0 0]) ?_ 5 _ rfl; refine sK ?_; refine blk_put (cs := #[.int .i64 0, .string ⟨#[]⟩, .bool false, .string ⟨#[]⟩, .string x250004_1, .slice none 0 0]) ?_ 4 _ rfl; refine sK ?_; refine blk_put (cs := #[.int .i64 0, .string ⟨#[]⟩, .bool false, .string x250003_1, .string x250004_1, .slice none 0 0]) ?_ 3 _ rfl; refine sK ?_; refine blk_put (cs := #[.int .i64 0, .string ⟨#[]⟩, .bool x250002_1, .string x250003_1, .string x250004_1, .slice none 0 0]) ?_ 2 _ rfl; refine sK ?_; refine blk_put (cs := #[.int .i64 0, .string x250001_1, .bool x250002_1, .string x250003_1, .string x250004_1, .slice none 0 0]) ?_ 1 _ rfl; refine sK ?_; refine blk_put (cs := #[.int .i64 x250000_1, .string x250001_1, .bool x250002_1, .string x250003_1, .string x250004_1, .slice none 0 0]) ?_ 0 _ rfl; refine sK ?_; exact BK249.out) Tryz.underlying26 rfl (by kernel_rfl)) rfl ?_
                      exact ⟨_, by first | rfl | (simp [errW_none, errW_some] <;> rfl) | (simp [*, errW_none, errW_some] <;> rfl), by first | exact Kd.R_nil _ _ _ _ _ | exact Kd.N_nil _ _ _ _ _ | exact Kd.V_nil _ _ _ _ _ | exact Kd.Q_nil _ _ _ _ _ | exact Kd.S_nil _ _ _ _ _, sB HB.out⟩
                     ·
                      replace c93 := Bool.eq_false_iff.mpr c93
                      subst c93
                      rw [if_neg (show ¬ (false = true) by decide)] at H
                      try dsimp -simprocs only at H
                      simp only [Option.some.injEq, Prod.mk.injEq] at H
                      obtain ⟨rfl, rfl, rfl, rfl, rfl, rfl, rfl⟩ := H
                      go_wp2_with (first | ((with_reducible refine gate_callee (f := 29) rfl ?_); refine goesL_ (some 134) rfl rfl Tryz.func29 (by kernel_rfl) rfl #[.string x7_16] rfl sM ?_; (with_reducible refine (wherryref11_Fold.calls kj60 x7_16 t279 _ A88.out).mono ?_); rintro e w96 ⟨rfl, hb⟩; refine ⟨_, rfl, ?_⟩; replace BK249 := Aside0.mk (blk_below (g := gb249) (o := .cells #[.int .i64 x250000_1, .string x250001_1, .bool x250002_1, .string x250003_1, .string x250004_1, .slice none 0 0] 26 (0, 0)) (sK BK249.out) hb); replace HB := Aside0.mk (below_step (sB HB.out) hb); (try clear hb)) | ((with_reducible refine gate_callee (f := 30) rfl ?_); refine goesL_ (some 138) rfl rfl Tryz.func30 (by kernel_rfl) rfl #[.string x7_16] rfl sM ?_; (with_reducible refine (wherryref11_mechanism.calls kj60 x7_16 false _ A92.out).mono ?_); rintro e w' ⟨rfl, ⟨nd, rfl⟩⟩; refine ⟨_, rfl, ?_⟩; (try (rw [drewN_self w96]; generalize hq_ : World.drewN w96 _ = w96; have n0_ : Aside0 (w96.heap[gb249]? = some (.cells #[.int .i64 x250000_1, .string x250001_1, .bool x250002_1, .string x250003_1, .string x250004_1, .slice none 0 0] 26 (0, 0))) := ⟨by rw [← hq_]; exact (sK BK249.out)⟩; have n1_ : Aside0 (Below w.heap.size w w96) := ⟨by rw [← hq_]; exact (sB HB.out)⟩; clear BK249 HB hq_; have BK249 := n0_; have HB := n1_; clear n0_ n1_)); have hcz97_0 := sC BK249.out 0; have hcz97_1 := sC BK249.out 1; have hcz97_2 := sC BK249.out 2; have hcz97_3 := sC BK249.out 3; have hcz97_4 := sC BK249.out 4; have hcz97_5 := sC BK249.out 5; have hfz97_0 := blk_frozen BK249.out 0; have hfz97_1 := blk_frozen BK249.out 1; have hfz97_2 := blk_frozen BK249.out 2; have hfz97_3 := blk_frozen BK249.out 3; have hfz97_4 := blk_frozen BK249.out 4; have hfz97_5 := blk_frozen BK249.out 5))
                      refine bodyPost_ret (results_ct rfl _ _ gb249 26 #[.int .i64 0, .string ⟨#[]⟩, .bool false, .string ⟨#[]⟩, .string ⟨#[]⟩, .slice none 0 0] (0, 0) _ rfl (by refine sK ?_; refine blk_put (cs := #[.int .i64 0, .string ⟨#[]⟩, .bool false, .string ⟨#[]⟩, .string ⟨#[]⟩, .slice none 0 0]) ?_ 5 _ rfl; refine sK ?_; refine blk_put (cs := #[.int .i64 0, .string ⟨#[]⟩, .bool false, .string ⟨#[]⟩, .string x250004_1, .slice none 0 0]) ?_ 4 _ rfl; refine sK ?_; refine blk_put (cs := #[.int .i64 0, .string ⟨#[]⟩, .bool false, .string x250003_1, .string x250004_1, .slice none 0 0]) ?_ 3 _ rfl; refine sK ?_; refine blk_put (cs := #[.int .i64 0, .string ⟨#[]⟩, .bool x250002_1, .string x250003_1, .string x250004_1, .slice none 0 0]) ?_ 2 _ rfl; refine sK ?_; refine blk_put (cs := #[.int .i64 0, .string x250001_1, .bool x250002_1, .string x250003_1, .string x250004_1, .slice none 0 0]) ?_ 1 _ rfl; refine sK ?_; refine blk_put (cs := #[.int .i64 x250000_1, .string x250001_1, .bool x250002_1, .string x250003_1, .string x250004_1, .slice none 0 0]) ?_ 0 _ rfl; refine sK ?_; exact BK249.out) Tryz.underlying26 rfl (by kernel_rfl)) rfl ?_
                      exact ⟨_, by first | rfl | (simp [errW_none, errW_some] <;> rfl) | (simp [*, errW_none, errW_some] <;> rfl), by first | exact Kd.R_nil _ _ _ _ _ | exact Kd.N_nil _ _ _ _ _ | exact Kd.V_nil _ _ _ _ _ | exact Kd.Q_nil _ _ _ _ _ | exact Kd.S_nil _ _ _ _ _, sB HB.out⟩
                   ·
                    rw [if_neg c87] at H
                    have c87b0 : (t250.toList == ([97, 117, 116, 104] : List UInt8)) = false := beq_eq_false_iff_ne.mpr c87
                    have c87b1 : (t250.toList != ([97, 117, 116, 104] : List UInt8)) = true := bne_iff_ne.mpr c87
                    by_cases c98 : t250.toList = ([97, 116, 114, 110] : List UInt8)
                    ·
                     rw [if_pos c98] at H
                     have c98b0 : (t250.toList == ([97, 116, 114, 110] : List UInt8)) = true := beq_iff_eq.mpr c98
                     have c98b1 : (t250.toList != ([97, 116, 114, 110] : List UInt8)) = false := bne_eq_false_iff_eq.mpr c98
                     clear c98
                     by_cases c99 : xb = true
                     ·
                      rw [if_pos c99] at H
                      subst c99
                      try clear c99
                      simp only [Option.some.injEq, Prod.mk.injEq] at H
                      obtain ⟨rfl, rfl, rfl, rfl, rfl, rfl, rfl⟩ := H
                      have hcz100_0 := sC BK249.out 0
                      have hcz100_1 := sC BK249.out 1
                      have hcz100_2 := sC BK249.out 2
                      have hcz100_3 := sC BK249.out 3
                      have hcz100_4 := sC BK249.out 4
                      have hcz100_5 := sC BK249.out 5
                      have hfz100_0 := blk_frozen BK249.out 0
                      have hfz100_1 := blk_frozen BK249.out 1
                      have hfz100_2 := blk_frozen BK249.out 2
                      have hfz100_3 := blk_frozen BK249.out 3
                      have hfz100_4 := blk_frozen BK249.out 4
                      have hfz100_5 := blk_frozen BK249.out 5
                      go_wp2
                      refine bodyPost_ret (results_ct rfl _ _ gb249 26 #[.int .i64 11, .string ⟨#[]⟩, .bool false, .string ⟨#[]⟩, .string ⟨#[]⟩, .slice none 0 0] (0, 0) _ rfl (by refine sK ?_; refine blk_put (cs := #[.int .i64 11, .string ⟨#[]⟩, .bool false, .string ⟨#[]⟩, .string ⟨#[]⟩, .slice none 0 0]) ?_ 5 _ rfl; refine sK ?_; refine blk_put (cs := #[.int .i64 11, .string ⟨#[]⟩, .bool false, .string ⟨#[]⟩, .string x250004_1, .slice none 0 0]) ?_ 4 _ rfl; refine sK ?_; refine blk_put (cs := #[.int .i64 11, .string ⟨#[]⟩, .bool false, .string x250003_1, .string x250004_1, .slice none 0 0]) ?_ 3 _ rfl; refine sK ?_; refine blk_put (cs := #[.int .i64 11, .string ⟨#[]⟩, .bool x250002_1, .string x250003_1, .string x250004_1, .slice none 0 0]) ?_ 2 _ rfl; refine sK ?_; refine blk_put (cs := #[.int .i64 11, .string x250001_1, .bool x250002_1, .string x250003_1, .string x250004_1, .slice none 0 0]) ?_ 1 _ rfl; refine sK ?_; refine blk_put (cs := #[.int .i64 x250000_1, .string x250001_1, .bool x250002_1, .string x250003_1, .string x250004_1, .slice none 0 0]) ?_ 0 _ rfl; refine sK ?_; exact BK249.out) Tryz.underlying26 rfl (by kernel_rfl)) rfl ?_
                      exact ⟨_, by first | rfl | (simp [errW_none, errW_some] <;> rfl) | (simp [*, errW_none, errW_some] <;> rfl), by first | exact Kd.R_nil _ _ _ _ _ | exact Kd.N_nil _ _ _ _ _ | exact Kd.V_nil _ _ _ _ _ | exact Kd.Q_nil _ _ _ _ _ | exact Kd.S_nil _ _ _ _ _, sB HB.out⟩
                     ·
                      rw [if_neg c99] at H
                      obtain rfl : xb = false := by simpa using c99
                      try clear c99
                      replace H := Option.bind_eq_some_iff.mp H
                      obtain ⟨t281, A1010, H⟩ := H
                      try dsimp -simprocs only at H
                      have A101 := Aside0.mk A1010
                      clear A1010
                      by_cases c102 : t281 = true
                      ·
                       subst c102
                       rw [if_pos rfl] at H
                       try dsimp -simprocs only at H
                       simp only [Option.some.injEq, Prod.mk.injEq] at H
                       obtain ⟨rfl, rfl, rfl, rfl, rfl, rfl, rfl⟩ := H
                       go_wp2_with (first | ((with_reducible refine gate_callee (f := 26) rfl ?_); refine goesL_ (some 145) rfl rfl Tryz.func26 (by kernel_rfl) rfl #[.string x7_16] rfl sM ?_; (with_reducible refine (wherryref11_Domain.calls kj60 x7_16 true _ A101.out).mono ?_); rintro e w' ⟨rfl, ⟨nd, rfl⟩⟩; refine ⟨_, rfl, ?_⟩; (try (rw [drewN_self wc]; generalize hq_ : World.drewN wc _ = wc; have n0_ : Aside0 (wc.heap[gb249]? = some (.cells #[.int .i64 x250000_1, .string x250001_1, .bool x250002_1, .string x250003_1, .string x250004_1, .slice none 0 0] 26 (0, 0))) := ⟨by rw [← hq_]; exact (sK BK249.out)⟩; have n1_ : Aside0 (Below w.heap.size w wc) := ⟨by rw [← hq_]; exact (sB HB.out)⟩; clear BK249 HB hq_; have BK249 := n0_; have HB := n1_; clear n0_ n1_)); have hcz103_0 := sC BK249.out 0; have hcz103_1 := sC BK249.out 1; have hcz103_2 := sC BK249.out 2; have hcz103_3 := sC BK249.out 3; have hcz103_4 := sC BK249.out 4; have hcz103_5 := sC BK249.out 5; have hfz103_0 := blk_frozen BK249.out 0; have hfz103_1 := blk_frozen BK249.out 1; have hfz103_2 := blk_frozen BK249.out 2; have hfz103_3 := blk_frozen BK249.out 3; have hfz103_4 := blk_frozen BK249.out 4; have hfz103_5 := blk_frozen BK249.out 5))
                       refine bodyPost_ret (results_ct rfl _ _ gb249 26 #[.int .i64 11, .string x7_16, .bool false, .string ⟨#[]⟩, .string ⟨#[]⟩, .slice none 0 0] (0, 0) _ rfl (by refine sK ?_; refine blk_put (cs := #[.int .i64 11, .string x7_16, .bool false, .string ⟨#[]⟩, .string ⟨#[]⟩, .slice none 0 0]) ?_ 5 _ rfl; refine sK ?_; refine blk_put (cs := #[.int .i64 11, .string x7_16, .bool false, .string ⟨#[]⟩, .string x250004_1, .slice none 0 0]) ?_ 4 _ rfl; refine sK ?_; refine blk_put (cs := #[.int .i64 11, .string x7_16, .bool false, .string x250003_1, .string x250004_1, .slice none 0 0]) ?_ 3 _ rfl; refine sK ?_; refine blk_put (cs := #[.int .i64 11, .string x7_16, .bool x250002_1, .string x250003_1, .string x250004_1, .slice none 0 0]) ?_ 2 _ rfl; refine sK ?_; refine blk_put (cs := #[.int .i64 11, .string x250001_1, .bool x250002_1, .string x250003_1, .string x250004_1, .slice none 0 0]) ?_ 1 _ rfl; refine sK ?_; refine blk_put (cs := #[.int .i64 x250000_1, .string x250001_1, .bool x250002_1, .string x250003_1, .string x250004_1, .slice none 0 0]) ?_ 0 _ rfl; refine sK ?_; exact BK249.out) Tryz.underlying26 rfl (by kernel_rfl)) rfl ?_
                       exact ⟨_, by first | rfl | (simp [errW_none, errW_some] <;> rfl) | (simp [*, errW_none, errW_some] <;> rfl), by first | exact Kd.R_nil _ _ _ _ _ | exact Kd.N_nil _ _ _ _ _ | exact Kd.V_nil _ _ _ _ _ | exact Kd.Q_nil _ _ _ _ _ | exact Kd.S_nil _ _ _ _ _, sB HB.out⟩
                      ·
                       replace c102 := Bool.eq_false_iff.mpr c102
                       subst c102
                       rw [if_neg (show ¬ (false = true) by decide)] at H
                       try dsimp -simprocs only at H
                       simp only [Option.some.injEq, Prod.mk.injEq] at H
                       obtain ⟨rfl, rfl, rfl, rfl, rfl, rfl, rfl⟩ := H
                       go_wp2_with (first | ((with_reducible refine gate_callee (f := 26) rfl ?_); refine goesL_ (some 145) rfl rfl Tryz.func26 (by kernel_rfl) rfl #[.string x7_16] rfl sM ?_; (with_reducible refine (wherryref11_Domain.calls kj60 x7_16 false _ A101.out).mono ?_); rintro e w' ⟨rfl, ⟨nd, rfl⟩⟩; refine ⟨_, rfl, ?_⟩; (try (rw [drewN_self wc]; generalize hq_ : World.drewN wc _ = wc; have n0_ : Aside0 (wc.heap[gb249]? = some (.cells #[.int .i64 x250000_1, .string x250001_1, .bool x250002_1, .string x250003_1, .string x250004_1, .slice none 0 0] 26 (0, 0))) := ⟨by rw [← hq_]; exact (sK BK249.out)⟩; have n1_ : Aside0 (Below w.heap.size w wc) := ⟨by rw [← hq_]; exact (sB HB.out)⟩; clear BK249 HB hq_; have BK249 := n0_; have HB := n1_; clear n0_ n1_)); have hcz104_0 := sC BK249.out 0; have hcz104_1 := sC BK249.out 1; have hcz104_2 := sC BK249.out 2; have hcz104_3 := sC BK249.out 3; have hcz104_4 := sC BK249.out 4; have hcz104_5 := sC BK249.out 5; have hfz104_0 := blk_frozen BK249.out 0; have hfz104_1 := blk_frozen BK249.out 1; have hfz104_2 := blk_frozen BK249.out 2; have hfz104_3 := blk_frozen BK249.out 3; have hfz104_4 := blk_frozen BK249.out 4; have hfz104_5 := blk_frozen BK249.out 5))
                       refine bodyPost_ret (results_ct rfl _ _ gb249 26 #[.int .i64 0, .string ⟨#[]⟩, .bool false, .string ⟨#[]⟩, .string ⟨#[]⟩, .slice none 0 0] (0, 0) _ rfl (by refine sK ?_; refine blk_put (cs := #[.int .i64 0, .string ⟨#[]⟩, .bool false, .string ⟨#[]⟩, .string ⟨#[]⟩, .slice none 0 0]) ?_ 5 _ rfl; refine sK ?_; refine blk_put (cs := #[.int .i64 0, .string ⟨#[]⟩, .bool false, .string ⟨#[]⟩, .string x250004_1, .slice none 0 0]) ?_ 4 _ rfl; refine sK ?_; refine blk_put (cs := #[.int .i64 0, .string ⟨#[]⟩, .bool false, .string x250003_1, .string x250004_1, .slice none 0 0]) ?_ 3 _ rfl; refine sK ?_; refine blk_put (cs := #[.int .i64 0, .string ⟨#[]⟩, .bool x250002_1, .string x250003_1, .string x250004_1, .slice none 0 0]) ?_ 2 _ rfl; refine sK ?_; refine blk_put (cs := #[.int .i64 0, .string x250001_1, .bool x250002_1, .string x250003_1, .string x250004_1, .slice none 0 0]) ?_ 1 _ rfl; refine sK ?_; refine blk_put (cs := #[.int .i64 x250000_1, .string x250001_1, .bool x250002_1, .string x250003_1, .string x250004_1, .slice none 0 0]) ?_ 0 _ rfl; refine sK ?_; exact BK249.out) Tryz.underlying26 rfl (by kernel_rfl)) rfl ?_
                       exact ⟨_, by first | rfl | (simp [errW_none, errW_some] <;> rfl) | (simp [*, errW_none, errW_some] <;> rfl), by first | exact Kd.R_nil _ _ _ _ _ | exact Kd.N_nil _ _ _ _ _ | exact Kd.V_nil _ _ _ _ _ | exact Kd.Q_nil _ _ _ _ _ | exact Kd.S_nil _ _ _ _ _, sB HB.out⟩
                    ·
                     rw [if_neg c98] at H
                     have c98b0 : (t250.toList == ([97, 116, 114, 110] : List UInt8)) = false := beq_eq_false_iff_ne.mpr c98
                     have c98b1 : (t250.toList != ([97, 116, 114, 110] : List UInt8)) = true := bne_iff_ne.mpr c98
                     simp only [Option.some.injEq, Prod.mk.injEq] at H
                     obtain ⟨rfl, rfl, rfl, rfl, rfl, rfl, rfl⟩ := H
                     have hcz105_0 := sC BK249.out 0
                     have hcz105_1 := sC BK249.out 1
                     have hcz105_2 := sC BK249.out 2
                     have hcz105_3 := sC BK249.out 3
                     have hcz105_4 := sC BK249.out 4
                     have hcz105_5 := sC BK249.out 5
                     have hfz105_0 := blk_frozen BK249.out 0
                     have hfz105_1 := blk_frozen BK249.out 1
                     have hfz105_2 := blk_frozen BK249.out 2
                     have hfz105_3 := blk_frozen BK249.out 3
                     have hfz105_4 := blk_frozen BK249.out 4
                     have hfz105_5 := blk_frozen BK249.out 5
                     go_wp2
                     refine bodyPost_ret (results_ct rfl _ _ gb249 26 #[.int .i64 0, .string ⟨#[]⟩, .bool false, .string ⟨#[]⟩, .string ⟨#[]⟩, .slice none 0 0] (0, 0) _ rfl (by refine sK ?_; refine blk_put (cs := #[.int .i64 0, .string ⟨#[]⟩, .bool false, .string ⟨#[]⟩, .string ⟨#[]⟩, .slice none 0 0]) ?_ 5 _ rfl; refine sK ?_; refine blk_put (cs := #[.int .i64 0, .string ⟨#[]⟩, .bool false, .string ⟨#[]⟩, .string x250004_1, .slice none 0 0]) ?_ 4 _ rfl; refine sK ?_; refine blk_put (cs := #[.int .i64 0, .string ⟨#[]⟩, .bool false, .string x250003_1, .string x250004_1, .slice none 0 0]) ?_ 3 _ rfl; refine sK ?_; refine blk_put (cs := #[.int .i64 0, .string ⟨#[]⟩, .bool x250002_1, .string x250003_1, .string x250004_1, .slice none 0 0]) ?_ 2 _ rfl; refine sK ?_; refine blk_put (cs := #[.int .i64 0, .string x250001_1, .bool x250002_1, .string x250003_1, .string x250004_1, .slice none 0 0]) ?_ 1 _ rfl; refine sK ?_; refine blk_put (cs := #[.int .i64 x250000_1, .string x250001_1, .bool x250002_1, .string x250003_1, .string x250004_1, .slice none 0 0]) ?_ 0 _ rfl; refine sK ?_; exact BK249.out) Tryz.underlying26 rfl (by kernel_rfl)) rfl ?_
                     exact ⟨_, by first | rfl | (simp [errW_none, errW_some] <;> rfl) | (simp [*, errW_none, errW_some] <;> rfl), by first | exact Kd.R_nil _ _ _ _ _ | exact Kd.N_nil _ _ _ _ _ | exact Kd.V_nil _ _ _ _ _ | exact Kd.Q_nil _ _ _ _ _ | exact Kd.S_nil _ _ _ _ _, sB HB.out⟩
     ·
      replace c16 := Bool.eq_false_iff.mpr c16
      subst c16
      rw [if_neg (show ¬ (false = true) by decide)] at H
      try dsimp -simprocs only at H
      simp only [Option.some.injEq, Prod.mk.injEq] at H
      obtain ⟨rfl, rfl, rfl, rfl, rfl, rfl, rfl⟩ := H
      go_wp2_with (first | ((with_reducible refine gate_callee (f := 24) rfl ?_); refine goesL_ (some 35) rfl rfl Tryz.func24 (by kernel_rfl) rfl #[.string a0] rfl sM ?_; (with_reducible refine (wherryref11_first.calls k1 a0 t250 _ A14.out).mono ?_); rintro e w106 ⟨rfl, hb⟩; refine ⟨_, rfl, ?_⟩; replace BK249 := Aside0.mk (blk_below (g := gb249) (o := .cells #[.int .i64 x250000_1, .string x250001_1, .bool x250002_1, .string x250003_1, .string x250004_1, .slice none 0 0] 26 (0, 0)) (sK BK249.out) hb); replace HB := Aside0.mk (below_step (sB HB.out) hb); (try clear hb)) | ((with_reducible refine gate_dst (N := 37) rfl ?_); refine Kd.R_lit Kd.string _ 9 ?hg (N := 37) ?hd (xs := ([(⟨#[101, 104, 108, 111]⟩ : ByteArray), (⟨#[104, 101, 108, 111]⟩ : ByteArray), (⟨#[109, 97, 105, 108]⟩ : ByteArray), (⟨#[114, 99, 112, 116]⟩ : ByteArray), (⟨#[100, 97, 116, 97]⟩ : ByteArray), (⟨#[114, 115, 101, 116]⟩ : ByteArray), (⟨#[113, 117, 105, 116]⟩ : ByteArray), (⟨#[110, 111, 111, 112]⟩ : ByteArray), (⟨#[118, 114, 102, 121]⟩ : ByteArray), (⟨#[101, 116, 114, 110]⟩ : ByteArray), (⟨#[97, 117, 116, 104]⟩ : ByteArray), (⟨#[97, 116, 114, 110]⟩ : ByteArray)] : List ByteArray)) (inner := [.string ⟨#[101, 104, 108, 111]⟩, .string ⟨#[104, 101, 108, 111]⟩, .string ⟨#[109, 97, 105, 108]⟩, .string ⟨#[114, 99, 112, 116]⟩, .string ⟨#[100, 97, 116, 97]⟩, .string ⟨#[114, 115, 101, 116]⟩, .string ⟨#[113, 117, 105, 116]⟩, .string ⟨#[110, 111, 111, 112]⟩, .string ⟨#[118, 114, 102, 121]⟩, .string ⟨#[101, 116, 114, 110]⟩, .string ⟨#[97, 117, 116, 104]⟩, .string ⟨#[97, 116, 114, 110]⟩]) (ok := fun _ => True) (okp := fun _ => True) ?hr ?hp (fun _ hk => hk) trivial (Below.refl _ _) (Nat.le_refl _) (by simp) ?_; (case hd => rfl); (case hg => rfl); (case hr => first | (go_simp; done) | (go_simp; rfl)); (case hp => exact (Reps.one (show Kd.M Kd.string _ _ _ (⟨#[101, 104, 108, 111]⟩ : ByteArray) [.string ⟨#[101, 104, 108, 111]⟩] from rfl) (Reps.one (show Kd.M Kd.string _ _ _ (⟨#[104, 101, 108, 111]⟩ : ByteArray) [.string ⟨#[104, 101, 108, 111]⟩] from rfl) (Reps.one (show Kd.M Kd.string _ _ _ (⟨#[109, 97, 105, 108]⟩ : ByteArray) [.string ⟨#[109, 97, 105, 108]⟩] from rfl) (Reps.one (show Kd.M Kd.string _ _ _ (⟨#[114, 99, 112, 116]⟩ : ByteArray) [.string ⟨#[114, 99, 112, 116]⟩] from rfl) (Reps.one (show Kd.M Kd.string _ _ _ (⟨#[100, 97, 116, 97]⟩ : ByteArray) [.string ⟨#[100, 97, 116, 97]⟩] from rfl) (Reps.one (show Kd.M Kd.string _ _ _ (⟨#[114, 115, 101, 116]⟩ : ByteArray) [.string ⟨#[114, 115, 101, 116]⟩] from rfl) (Reps.one (show Kd.M Kd.string _ _ _ (⟨#[113, 117, 105, 116]⟩ : ByteArray) [.string ⟨#[113, 117, 105, 116]⟩] from rfl) (Reps.one (show Kd.M Kd.string _ _ _ (⟨#[110, 111, 111, 112]⟩ : ByteArray) [.string ⟨#[110, 111, 111, 112]⟩] from rfl) (Reps.one (show Kd.M Kd.string _ _ _ (⟨#[118, 114, 102, 121]⟩ : ByteArray) [.string ⟨#[118, 114, 102, 121]⟩] from rfl) (Reps.one (show Kd.M Kd.string _ _ _ (⟨#[101, 116, 114, 110]⟩ : ByteArray) [.string ⟨#[101, 116, 114, 110]⟩] from rfl) (Reps.one (show Kd.M Kd.string _ _ _ (⟨#[97, 117, 116, 104]⟩ : ByteArray) [.string ⟨#[97, 117, 116, 104]⟩] from rfl) (Reps.one (show Kd.M Kd.string _ _ _ (⟨#[97, 116, 114, 110]⟩ : ByteArray) [.string ⟨#[97, 116, 114, 110]⟩] from rfl) (Reps.none _ _)))))))))))))); intro v252 w107 ho108 hb hg_ hnew_; clear hg_ hnew_; (first | rw [← Ny251.out] at ho108 | (simp only [Int.reduceToNat] at ho108; rw [← Ny251.out] at ho108)); have HO253 := Aside0.mk (Kd.R_lower ho108 (below_size (sB HB.out))); replace BK249 := Aside0.mk (blk_below (g := gb249) (o := .cells #[.int .i64 x250000_1, .string x250001_1, .bool x250002_1, .string x250003_1, .string x250004_1, .slice none 0 0] 26 (0, 0)) (sK BK249.out) hb); replace HB := Aside0.mk (below_step (sB HB.out) hb); clear hb ho108; obtain ⟨Ao109, co109, eo109⟩ := Kd.R_slice HO253.out; subst eo109) | ((with_reducible refine gate_callee (f := 25) rfl ?_); refine goesL_ (some 38) rfl rfl Tryz.func25 (by kernel_rfl) rfl #[.string t250, .slice Ao109 y251.length co109] rfl sM ?_; (with_reducible refine (wherryref11_among.calls k1 t250 _ _ y251 false _ ?side1 ?side2 A15.out).mono ?_); (case side1 => repeat (first | exact (Kd.R_reads' HO253.out).2.2 | (with_reducible refine Kd.C_alloc ?_ _) | (with_reducible refine Kd.C_drewN ?_ _) | (with_reducible refine Kd.C_drew ?_))); (case side2 => exact (Kd.R_reads' HO253.out).2.1); rintro e w' ⟨rfl, ⟨nd, rfl⟩⟩; refine ⟨_, rfl, ?_⟩; (try (rw [drewN_self w107]; generalize hq_ : World.drewN w107 _ = w107; have n0_ : Aside0 (Kd.R Kd.string 9 w107 w.heap.size (fun _ => True) (.slice Ao109 y251.length co109) y251) := ⟨by rw [← hq_]; exact (sR HO253.out)⟩; have n1_ : Aside0 (w107.heap[gb249]? = some (.cells #[.int .i64 x250000_1, .string x250001_1, .bool x250002_1, .string x250003_1, .string x250004_1, .slice none 0 0] 26 (0, 0))) := ⟨by rw [← hq_]; exact (sK BK249.out)⟩; have n2_ : Aside0 (Below w.heap.size w w107) := ⟨by rw [← hq_]; exact (sB HB.out)⟩; clear HO253 BK249 HB hq_; have HO253 := n0_; have BK249 := n1_; have HB := n2_; clear n0_ n1_ n2_)); have hcz110_0 := sC BK249.out 0; have hcz110_1 := sC BK249.out 1; have hcz110_2 := sC BK249.out 2; have hcz110_3 := sC BK249.out 3; have hcz110_4 := sC BK249.out 4; have hcz110_5 := sC BK249.out 5; have hfz110_0 := blk_frozen BK249.out 0; have hfz110_1 := blk_frozen BK249.out 1; have hfz110_2 := blk_frozen BK249.out 2; have hfz110_3 := blk_frozen BK249.out 3; have hfz110_4 := blk_frozen BK249.out 4; have hfz110_5 := blk_frozen BK249.out 5))
      refine bodyPost_ret (results_ct rfl _ _ gb249 26 #[.int .i64 0, .string ⟨#[]⟩, .bool false, .string ⟨#[]⟩, .string ⟨#[]⟩, .slice none 0 0] (0, 0) _ rfl (by refine sK ?_; refine blk_put (cs := #[.int .i64 0, .string ⟨#[]⟩, .bool false, .string ⟨#[]⟩, .string ⟨#[]⟩, .slice none 0 0]) ?_ 5 _ rfl; refine sK ?_; refine blk_put (cs := #[.int .i64 0, .string ⟨#[]⟩, .bool false, .string ⟨#[]⟩, .string x250004_1, .slice none 0 0]) ?_ 4 _ rfl; refine sK ?_; refine blk_put (cs := #[.int .i64 0, .string ⟨#[]⟩, .bool false, .string x250003_1, .string x250004_1, .slice none 0 0]) ?_ 3 _ rfl; refine sK ?_; refine blk_put (cs := #[.int .i64 0, .string ⟨#[]⟩, .bool x250002_1, .string x250003_1, .string x250004_1, .slice none 0 0]) ?_ 2 _ rfl; refine sK ?_; refine blk_put (cs := #[.int .i64 0, .string x250001_1, .bool x250002_1, .string x250003_1, .string x250004_1, .slice none 0 0]) ?_ 1 _ rfl; refine sK ?_; refine blk_put (cs := #[.int .i64 x250000_1, .string x250001_1, .bool x250002_1, .string x250003_1, .string x250004_1, .slice none 0 0]) ?_ 0 _ rfl; refine sK ?_; exact BK249.out) Tryz.underlying26 rfl (by kernel_rfl)) rfl ?_
      exact ⟨_, by first | rfl | (simp [errW_none, errW_some] <;> rfl) | (simp [*, errW_none, errW_some] <;> rfl), by first | exact Kd.R_nil _ _ _ _ _ | exact Kd.N_nil _ _ _ _ _ | exact Kd.V_nil _ _ _ _ _ | exact Kd.Q_nil _ _ _ _ _ | exact Kd.S_nil _ _ _ _ _, sB HB.out⟩
end Go.Proofs.YthcdjgekmfnmnaaGreatDoor.PVerb
end
section
namespace Go.Proofs.YthcdjgekmfnmnaaGreatDoor.PVerb
open Go.RowKit Go.Proofs.YthcdjgekmfnmnaaGreatDoorW.PrintWords Go.Proofs.YthcdjgekmfnmnaaGreatDoorW.PrintLast Go.Proofs.YthcdjgekmfnmnaaGreatDoorW.PrintMore
attribute [local go_sem] max2_int min2_int max_two min_two max_three min_three max_four min_four
set_option linter.unusedVariables false
set_option linter.unusedSimpArgs false
theorem reft_bytes (l d : ByteArray) : (((⟨#[60]⟩ ++ l) ++ ⟨#[64]⟩) ++ d) ++ ⟨#[62]⟩ = bs (60 :: l.data.toList ++ 64 :: d.data.toList ++ [62]) := by
  rw [← bs_of (_ ++ _)]
  congr 1
  simp [ByteArray.toList_data_append]
def wherryref11_Text.f (a0_0 : Bool) (a0_1 a0_2 : ByteArray) : Option ByteArray :=
  if a0_1.size < 2147483648 ∧ a0_2.size < 2147483648 then some (if a0_0 then bs [60, 62] else bs (60 :: a0_1.data.toList ++ 64 :: a0_2.data.toList ++ [62])) else none
set_option maxHeartbeats 1000000 in
set_option maxRecDepth 100000 in
theorem wherryref11_Text.calls (a0_0 : Bool) (a0_1 a0_2 : ByteArray) (r : ByteArray) (w : World) (h : wherryref11_Text.f a0_0 a0_1 a0_2 = some r) :
    Calls Tryz.prog 15 #[.agg #[.bool a0_0, .string a0_1, .string a0_2]] w fun e w' => e = .returned (.string r) ∧ Below w.heap.size w w' := by
  unfold wherryref11_Text.f at h
  split at h
  · rename_i hs
    have h1 := hs.1
    have h2 := hs.2
    have hbb := Aside0.mk ((Below.refl _ w).alloc (Nat.le_refl _) (.cells #[.bool a0_0, .string a0_1, .string a0_2] 23))
    obtain rfl := Option.some.inj h
    clear h hs
    cases a0_0
    · have HT := Aside0.mk (reft_bytes a0_1 a0_2)
      have e1 : (1 : Nat) + a0_1.size ≤ 9223372036854775807 := by omega
      show Calls Tryz.prog 15 _ w fun e w' => e = .returned (.string (bs (60 :: a0_1.data.toList ++ 64 :: a0_2.data.toList ++ [62]))) ∧ Below w.heap.size w w'
      rw [← HT.out]
      go_enter Tryz.func15, Tryz.ntmps15
      go_wp2
      go_ret
      exact ⟨rfl, hbb.out⟩
    · go_enter Tryz.func15, Tryz.ntmps15
      go_wp2
      go_ret
      exact ⟨rfl, hbb.out⟩
  · cases h
end Go.Proofs.YthcdjgekmfnmnaaGreatDoor.PVerb
end
section
namespace Go.Proofs.YthcdjgekmfnmnaaGreatDoor.PVerb
open Go.RowKit Go.Proofs.YthcdjgekmfnmnaaGreatDoorW.PrintWords Go.Proofs.YthcdjgekmfnmnaaGreatDoorW.PrintLast Go.Proofs.YthcdjgekmfnmnaaGreatDoorW.PrintMore
attribute [local go_sem] max2_int min2_int max_two min_two max_three min_three max_four min_four
set_option linter.unusedVariables false
set_option linter.unusedSimpArgs false
mutual
def wherryref11_line.j0 : Nat → ByteArray → Int → ByteArray → Bool → ByteArray → ByteArray → List (S47) → Option (ByteArray)
 | 0, _, _, _, _, _, _, _ => none
 | k + 1, x3, x310000, x310001, x310002, x310003, x310004, x310005 => wherryref11_line.l0 k x3 0 x310000 x310001 x310002 x310003 x310004 x310005
def wherryref11_line.l0 : Nat → ByteArray → Int → Int → ByteArray → Bool → ByteArray → ByteArray → List (S47) → Option (ByteArray)
 | 0, _, _, _, _, _, _, _, _ => none
 | k + 1, x3, x4, x310000, x310001, x310002, x310003, x310004, x310005 => if x4 < (x310005.length : Int) then (if x3.size + 1 ≤ 9223372036854775807 then (if 0 ≤ x4 then (if (x3 ++ (⟨#[32]⟩ : ByteArray)).size + ((rd_T47 x310005 x4).f0).size ≤ 9223372036854775807 then (if ((x3 ++ (⟨#[32]⟩ : ByteArray)) ++ ((rd_T47 x310005 x4).f0)).size + 1 ≤ 9223372036854775807 then (if (((x3 ++ (⟨#[32]⟩ : ByteArray)) ++ ((rd_T47 x310005 x4).f0)) ++ (⟨#[61]⟩ : ByteArray)).size + ((rd_T47 x310005 x4).f1).size ≤ 9223372036854775807 then (wherryref11_line.l0 k ((((x3 ++ (⟨#[32]⟩ : ByteArray)) ++ ((rd_T47 x310005 x4).f0)) ++ (⟨#[61]⟩ : ByteArray)) ++ ((rd_T47 x310005 x4).f1)) (wrap64 (x4 + 1)) x310000 x310001 x310002 x310003 x310004 x310005) else (none)) else (none)) else (none)) else (none)) else (none)) else (some x3)
end
def wherryref11_line.f (k : Nat) (a0_0 : Int) (a0_1 : ByteArray) (a0_2 : Bool) (a0_3 : ByteArray) (a0_4 : ByteArray) (l0_5 : List (S47)) : Option (ByteArray) := if a0_0 = 1 then (if 5 + a0_1.size ≤ 9223372036854775807 then (some ((⟨#[69, 72, 76, 79, 32]⟩ : ByteArray) ++ a0_1)) else (none)) else (if a0_0 = 2 then ((wherryref11_Text.f a0_2 a0_3 a0_4).bind fun t310 => (if 10 + t310.size ≤ 9223372036854775807 then (wherryref11_line.j0 k ((⟨#[77, 65, 73, 76, 32, 70, 82, 79, 77, 58]⟩ : ByteArray) ++ t310) a0_0 a0_1 a0_2 a0_3 a0_4 l0_5) else (none))) else (if a0_0 = 3 then ((wherryref11_Text.f a0_2 a0_3 a0_4).bind fun t311 => (if 8 + t311.size ≤ 9223372036854775807 then (wherryref11_line.j0 k ((⟨#[82, 67, 80, 84, 32, 84, 79, 58]⟩ : ByteArray) ++ t311) a0_0 a0_1 a0_2 a0_3 a0_4 l0_5) else (none))) else (if a0_0 = 4 then (some (⟨#[68, 65, 84, 65]⟩ : ByteArray)) else (if a0_0 = 5 then (some (⟨#[82, 83, 69, 84]⟩ : ByteArray)) else (if a0_0 = 6 then (if 5 + a0_1.size ≤ 9223372036854775807 then (some ((⟨#[86, 82, 70, 89, 32]⟩ : ByteArray) ++ a0_1)) else (none)) else (if a0_0 = 7 then (some (⟨#[78, 79, 79, 80]⟩ : ByteArray)) else (if a0_0 = 8 then (some (⟨#[81, 85, 73, 84]⟩ : ByteArray)) else (if a0_0 = 9 then (if 5 + a0_1.size ≤ 9223372036854775807 then (some ((⟨#[69, 84, 82, 78, 32]⟩ : ByteArray) ++ a0_1)) else (none)) else (if a0_0 = 10 then (some (⟨#[65, 85, 84, 72, 32, 67, 82, 65, 77, 45, 77, 68, 53]⟩ : ByteArray)) else (if a0_0 = 11 then (if a0_1.toList = ([] : List UInt8) then (some (⟨#[65, 84, 82, 78]⟩ : ByteArray)) else (if 5 + a0_1.size ≤ 9223372036854775807 then (some ((⟨#[65, 84, 82, 78, 32]⟩ : ByteArray) ++ a0_1)) else (none))) else (wherryref11_line.j0 k (⟨#[]⟩ : ByteArray) a0_0 a0_1 a0_2 a0_3 a0_4 l0_5)))))))))))
set_option maxHeartbeats 8000000 in
set_option maxRecDepth 100000 in
theorem wherryref11_line.calls (k : Nat) (a0_0 : Int) (a0_1 : ByteArray) (a0_2 : Bool) (a0_3 : ByteArray) (a0_4 : ByteArray) (A0_5 : Option Addr) (c0_5 : Nat) (l0_5 : List (S47)) (r : ByteArray) (w : World) (hr0_5 : Kd.C k47 w A0_5 l0_5.length l0_5) (hc0_5 : l0_5.length ≤ c0_5) (h : wherryref11_line.f k a0_0 a0_1 a0_2 a0_3 a0_4 l0_5 = some r) :
  Calls Tryz.prog 33 #[.agg #[.int .i64 a0_0, .string a0_1, .bool a0_2, .string a0_3, .string a0_4, .slice A0_5 l0_5.length c0_5]] w fun e w' => e = .returned (.string r) ∧ Below w.heap.size w w' := by
 have hu26 := Tryz.underlying26
 have hu23 := Tryz.underlying23
 have HR0_5 := Aside0.mk hr0_5
 have HC0_5 := Aside0.mk hc0_5
 clear hr0_5 hc0_5
 have HB := Aside0.mk (Below.refl w.heap.size w)
 have H : (if a0_0 = 1 then (if 5 + a0_1.size ≤ 9223372036854775807 then (some ((⟨#[69, 72, 76, 79, 32]⟩ : ByteArray) ++ a0_1)) else (none)) else (if a0_0 = 2 then ((wherryref11_Text.f a0_2 a0_3 a0_4).bind fun t310 => (if 10 + t310.size ≤ 9223372036854775807 then (wherryref11_line.j0 k ((⟨#[77, 65, 73, 76, 32, 70, 82, 79, 77, 58]⟩ : ByteArray) ++ t310) a0_0 a0_1 a0_2 a0_3 a0_4 l0_5) else (none))) else (if a0_0 = 3 then ((wherryref11_Text.f a0_2 a0_3 a0_4).bind fun t311 => (if 8 + t311.size ≤ 9223372036854775807 then (wherryref11_line.j0 k ((⟨#[82, 67, 80, 84, 32, 84, 79, 58]⟩ : ByteArray) ++ t311) a0_0 a0_1 a0_2 a0_3 a0_4 l0_5) else (none))) else (if a0_0 = 4 then (some (⟨#[68, 65, 84, 65]⟩ : ByteArray)) else (if a0_0 = 5 then (some (⟨#[82, 83, 69, 84]⟩ : ByteArray)) else (if a0_0 = 6 then (if 5 + a0_1.size ≤ 9223372036854775807 then (some ((⟨#[86, 82, 70, 89, 32]⟩ : ByteArray) ++ a0_1)) else (none)) else (if a0_0 = 7 then (some (⟨#[78, 79, 79, 80]⟩ : ByteArray)) else (if a0_0 = 8 then (some (⟨#[81, 85, 73, 84]⟩ : ByteArray)) else (if a0_0 = 9 then (if 5 + a0_1.size ≤ 9223372036854775807 then (some ((⟨#[69, 84, 82, 78, 32]⟩ : ByteArray) ++ a0_1)) else (none)) else (if a0_0 = 10 then (some (⟨#[65, 85, 84, 72, 32, 67, 82, 65, 77, 45, 77, 68, 53]⟩ : ByteArray)) else (if a0_0 = 11 then (if a0_1.toList = ([] : List UInt8) then (some (⟨#[65, 84, 82, 78]⟩ : ByteArray)) else (if 5 + a0_1.size ≤ 9223372036854775807 then (some ((⟨#[65, 84, 82, 78, 32]⟩ : ByteArray) ++ a0_1)) else (none))) else (wherryref11_line.j0 k (⟨#[]⟩ : ByteArray) a0_0 a0_1 a0_2 a0_3 a0_4 l0_5)))))))))))) = some r := h
 clear h
 have HC2 := Aside0.mk H
 clear H
 go_enter Tryz.func33, Tryz.ntmps33
 go_upto_block 0 with (first | ((with_reducible refine gate_dst (N := 1) rfl ?_); refine box_event ?hg (N := 1) ?hd (cs := #[.int .i64 a0_0, .string a0_1, .bool a0_2, .string a0_3, .string a0_4, .slice A0_5 l0_5.length c0_5]) (t := 26) ?hr ?_; (case hd => rfl); (case hg => rfl); (case hr => first | (go_simp; done) | (go_simp; rfl)); intro gb309 hg w3 hbox hb; have BK309 := Aside0.mk (hbox); have GW309 := Aside0.mk ((by rw [hg]; exact (below_size (sB HB.out)) : w.heap.size ≤ gb309)); have GE309 := Aside0.mk ((by rw [hg]; exact (below_size (sB HB.out)) : w.heap.size ≤ gb309)); replace HB := Aside0.mk (below_step (sB HB.out) hb); clear hb hbox hg; have hcz4_0 := sC BK309.out 0; have hcz4_1 := sC BK309.out 1; have hcz4_2 := sC BK309.out 2; have hcz4_3 := sC BK309.out 3; have hcz4_4 := sC BK309.out 4; have hcz4_5 := sC BK309.out 5; have hfz4_0 := blk_frozen BK309.out 0; have hfz4_1 := blk_frozen BK309.out 1; have hfz4_2 := blk_frozen BK309.out 2; have hfz4_3 := blk_frozen BK309.out 3; have hfz4_4 := blk_frozen BK309.out 4; have hfz4_5 := blk_frozen BK309.out 5))
 repeat (go_quiet (first | ((with_reducible refine gate_dst (N := 1) rfl ?_); refine box_event ?hg (N := 1) ?hd (cs := #[.int .i64 a0_0, .string a0_1, .bool a0_2, .string a0_3, .string a0_4, .slice A0_5 l0_5.length c0_5]) (t := 26) ?hr ?_; (case hd => rfl); (case hg => rfl); (case hr => first | (go_simp; done) | (go_simp; rfl)); intro gb309 hg w3 hbox hb; have BK309 := Aside0.mk (hbox); have GW309 := Aside0.mk ((by rw [hg]; exact (below_size (sB HB.out)) : w.heap.size ≤ gb309)); have GE309 := Aside0.mk ((by rw [hg]; exact (below_size (sB HB.out)) : w.heap.size ≤ gb309)); replace HB := Aside0.mk (below_step (sB HB.out) hb); clear hb hbox hg; have hcz4_0 := sC BK309.out 0; have hcz4_1 := sC BK309.out 1; have hcz4_2 := sC BK309.out 2; have hcz4_3 := sC BK309.out 3; have hcz4_4 := sC BK309.out 4; have hcz4_5 := sC BK309.out 5; have hfz4_0 := blk_frozen BK309.out 0; have hfz4_1 := blk_frozen BK309.out 1; have hfz4_2 := blk_frozen BK309.out 2; have hfz4_3 := blk_frozen BK309.out 3; have hfz4_4 := blk_frozen BK309.out 4; have hfz4_5 := blk_frozen BK309.out 5)); go_upto_block 0 with (first | ((with_reducible refine gate_dst (N := 1) rfl ?_); refine box_event ?hg (N := 1) ?hd (cs := #[.int .i64 a0_0, .string a0_1, .bool a0_2, .string a0_3, .string a0_4, .slice A0_5 l0_5.length c0_5]) (t := 26) ?hr ?_; (case hd => rfl); (case hg => rfl); (case hr => first | (go_simp; done) | (go_simp; rfl)); intro gb309 hg w3 hbox hb; have BK309 := Aside0.mk (hbox); have GW309 := Aside0.mk ((by rw [hg]; exact (below_size (sB HB.out)) : w.heap.size ≤ gb309)); have GE309 := Aside0.mk ((by rw [hg]; exact (below_size (sB HB.out)) : w.heap.size ≤ gb309)); replace HB := Aside0.mk (below_step (sB HB.out) hb); clear hb hbox hg; have hcz4_0 := sC BK309.out 0; have hcz4_1 := sC BK309.out 1; have hcz4_2 := sC BK309.out 2; have hcz4_3 := sC BK309.out 3; have hcz4_4 := sC BK309.out 4; have hcz4_5 := sC BK309.out 5; have hfz4_0 := blk_frozen BK309.out 0; have hfz4_1 := blk_frozen BK309.out 1; have hfz4_2 := blk_frozen BK309.out 2; have hfz4_3 := blk_frozen BK309.out 3; have hfz4_4 := blk_frozen BK309.out 4; have hfz4_5 := blk_frozen BK309.out 5)))
 (try simp only [Act.put, List.setIfInBounds_toArray, List.set_cons_zero, List.set_cons_succ])
 go_cut [3] (fun v3 wc => ∃ (kq : Nat) (x3_1 : ByteArray), v3 = .string x3_1 ∧ Aside0 (wherryref11_line.j0 kq x3_1 a0_0 a0_1 a0_2 a0_3 a0_4 l0_5 = some r) ∧ Aside0 (kq ≤ k) ∧ Aside0 (wc.heap[gb309]? = some (.cells #[.int .i64 a0_0, .string a0_1, .bool a0_2, .string a0_3, .string a0_4, (.slice A0_5 l0_5.length c0_5)] 26 (0, 0))) ∧ Aside0 (Below w.heap.size w wc))
 case first =>
  have H := HC2.out
  clear HC2
  by_cases c5 : a0_0 = 1
  ·
   rw [if_pos c5] at H
   have c5b0 : (a0_0 == 1) = true := beq_iff_eq.mpr c5
   have c5b1 : (a0_0 != 1) = false := bne_eq_false_iff_eq.mpr c5
   clear c5
   (first | rw [c5b0] | (simp only [i64_w, i32_w]; rw [c5b0]) | skip)
   by_cases c6 : 5 + a0_1.size ≤ 9223372036854775807
   ·
    rw [if_pos c6] at H
    have c6b0 := eq_true c6
    have c6b1 : decide (5 + a0_1.size ≤ 9223372036854775807) = true := decide_eq_true c6
    try have c6b2 : (9223372036854775807 < 5 + a0_1.size) = False := eq_false (Nat.not_lt.2 c6)
    obtain rfl := Option.some.inj H
    have hcz7_0 := sC BK309.out 0
    have hcz7_1 := sC BK309.out 1
    have hcz7_2 := sC BK309.out 2
    have hcz7_3 := sC BK309.out 3
    have hcz7_4 := sC BK309.out 4
    have hcz7_5 := sC BK309.out 5
    have hfz7_0 := blk_frozen BK309.out 0
    have hfz7_1 := blk_frozen BK309.out 1
    have hfz7_2 := blk_frozen BK309.out 2
    have hfz7_3 := blk_frozen BK309.out 3
    have hfz7_4 := blk_frozen BK309.out 4
    have hfz7_5 := blk_frozen BK309.out 5
    go_wp2
    repeat (go_quiet (fail); try go_wp2)
    go_ret
    exact ⟨by first | rfl | (simp [errW_none, errW_some] <;> rfl) | (simp [*, errW_none, errW_some] <;> rfl), sB HB.out⟩
   ·
    rw [if_neg c6] at H
    exact absurd H (by simp)
  ·
   rw [if_neg c5] at H
   have c5b0 : (a0_0 == 1) = false := beq_eq_false_iff_ne.mpr c5
   have c5b1 : (a0_0 != 1) = true := bne_iff_ne.mpr c5
   (first | rw [c5b0] | (simp only [i64_w, i32_w]; rw [c5b0]) | skip)
   by_cases c8 : a0_0 = 2
   ·
    rw [if_pos c8] at H
    have c8b0 : (a0_0 == 2) = true := beq_iff_eq.mpr c8
    have c8b1 : (a0_0 != 2) = false := bne_eq_false_iff_eq.mpr c8
    clear c8
    replace H := Option.bind_eq_some_iff.mp H
    obtain ⟨t310, A90, H⟩ := H
    try dsimp -simprocs only at H
    have A9 := Aside0.mk A90
    clear A90
    by_cases c10 : 10 + t310.size ≤ 9223372036854775807
    ·
     rw [if_pos c10] at H
     have c10b0 := eq_true c10
     have c10b1 : decide (10 + t310.size ≤ 9223372036854775807) = true := decide_eq_true c10
     try have c10b2 : (9223372036854775807 < 10 + t310.size) = False := eq_false (Nat.not_lt.2 c10)
     have H' := Aside0.mk H
     clear H
     have hcz11_0 := sC BK309.out 0
     have hcz11_1 := sC BK309.out 1
     have hcz11_2 := sC BK309.out 2
     have hcz11_3 := sC BK309.out 3
     have hcz11_4 := sC BK309.out 4
     have hcz11_5 := sC BK309.out 5
     have hfz11_0 := blk_frozen BK309.out 0
     have hfz11_1 := blk_frozen BK309.out 1
     have hfz11_2 := blk_frozen BK309.out 2
     have hfz11_3 := blk_frozen BK309.out 3
     have hfz11_4 := blk_frozen BK309.out 4
     have hfz11_5 := blk_frozen BK309.out 5
     go_wp2_with (first | (go_at_call 15; (with_reducible refine (wherryref11_Text.calls a0_2 a0_3 a0_4 t310 _ A9.out).mono ?_); rintro e w12 ⟨rfl, hb⟩; replace BK309 := Aside0.mk (blk_below (g := gb309) (o := .cells #[.int .i64 a0_0, .string a0_1, .bool a0_2, .string a0_3, .string a0_4, .slice A0_5 l0_5.length c0_5] 26 (0, 0)) (sK BK309.out) hb); replace HB := Aside0.mk (below_step (sB HB.out) hb); (try clear hb)))
     repeat (go_quiet (first | (go_at_call 15; (with_reducible refine (wherryref11_Text.calls a0_2 a0_3 a0_4 t310 _ A9.out).mono ?_); rintro e w12 ⟨rfl, hb⟩; replace BK309 := Aside0.mk (blk_below (g := gb309) (o := .cells #[.int .i64 a0_0, .string a0_1, .bool a0_2, .string a0_3, .string a0_4, .slice A0_5 l0_5.length c0_5] 26 (0, 0)) (sK BK309.out) hb); replace HB := Aside0.mk (below_step (sB HB.out) hb); (try clear hb))); try go_wp2_with (first | (go_at_call 15; (with_reducible refine (wherryref11_Text.calls a0_2 a0_3 a0_4 t310 _ A9.out).mono ?_); rintro e w12 ⟨rfl, hb⟩; replace BK309 := Aside0.mk (blk_below (g := gb309) (o := .cells #[.int .i64 a0_0, .string a0_1, .bool a0_2, .string a0_3, .string a0_4, .slice A0_5 l0_5.length c0_5] 26 (0, 0)) (sK BK309.out) hb); replace HB := Aside0.mk (below_step (sB HB.out) hb); (try clear hb))))
     go_meet
     case rel => exact ⟨_, ((⟨#[77, 65, 73, 76, 32, 70, 82, 79, 77, 58]⟩ : ByteArray) ++ t310), (by first | rfl | (simp; done) | (simp [*]; done)), H', ⟨by first | omega | exact Nat.le_refl _⟩, ⟨by refine sK ?_; exact BK309.out⟩, ⟨sB HB.out⟩⟩
    ·
     rw [if_neg c10] at H
     exact absurd H (by simp)
   ·
    rw [if_neg c8] at H
    have c8b0 : (a0_0 == 2) = false := beq_eq_false_iff_ne.mpr c8
    have c8b1 : (a0_0 != 2) = true := bne_iff_ne.mpr c8
    by_cases c13 : a0_0 = 3
    ·
     rw [if_pos c13] at H
     have c13b0 : (a0_0 == 3) = true := beq_iff_eq.mpr c13
     have c13b1 : (a0_0 != 3) = false := bne_eq_false_iff_eq.mpr c13
     clear c13
     replace H := Option.bind_eq_some_iff.mp H
     obtain ⟨t311, A140, H⟩ := H
     try dsimp -simprocs only at H
     have A14 := Aside0.mk A140
     clear A140
     by_cases c15 : 8 + t311.size ≤ 9223372036854775807
     ·
      rw [if_pos c15] at H
      have c15b0 := eq_true c15
      have c15b1 : decide (8 + t311.size ≤ 9223372036854775807) = true := decide_eq_true c15
      try have c15b2 : (9223372036854775807 < 8 + t311.size) = False := eq_false (Nat.not_lt.2 c15)
      have H' := Aside0.mk H
      clear H
      have hcz16_0 := sC BK309.out 0
      have hcz16_1 := sC BK309.out 1
      have hcz16_2 := sC BK309.out 2
      have hcz16_3 := sC BK309.out 3
      have hcz16_4 := sC BK309.out 4
      have hcz16_5 := sC BK309.out 5
      have hfz16_0 := blk_frozen BK309.out 0
      have hfz16_1 := blk_frozen BK309.out 1
      have hfz16_2 := blk_frozen BK309.out 2
      have hfz16_3 := blk_frozen BK309.out 3
      have hfz16_4 := blk_frozen BK309.out 4
      have hfz16_5 := blk_frozen BK309.out 5
      go_wp2_with (first | (go_at_call 15; (with_reducible refine (wherryref11_Text.calls a0_2 a0_3 a0_4 t311 _ A14.out).mono ?_); rintro e w17 ⟨rfl, hb⟩; replace BK309 := Aside0.mk (blk_below (g := gb309) (o := .cells #[.int .i64 a0_0, .string a0_1, .bool a0_2, .string a0_3, .string a0_4, .slice A0_5 l0_5.length c0_5] 26 (0, 0)) (sK BK309.out) hb); replace HB := Aside0.mk (below_step (sB HB.out) hb); (try clear hb)))
      repeat (go_quiet (first | (go_at_call 15; (with_reducible refine (wherryref11_Text.calls a0_2 a0_3 a0_4 t311 _ A14.out).mono ?_); rintro e w17 ⟨rfl, hb⟩; replace BK309 := Aside0.mk (blk_below (g := gb309) (o := .cells #[.int .i64 a0_0, .string a0_1, .bool a0_2, .string a0_3, .string a0_4, .slice A0_5 l0_5.length c0_5] 26 (0, 0)) (sK BK309.out) hb); replace HB := Aside0.mk (below_step (sB HB.out) hb); (try clear hb))); try go_wp2_with (first | (go_at_call 15; (with_reducible refine (wherryref11_Text.calls a0_2 a0_3 a0_4 t311 _ A14.out).mono ?_); rintro e w17 ⟨rfl, hb⟩; replace BK309 := Aside0.mk (blk_below (g := gb309) (o := .cells #[.int .i64 a0_0, .string a0_1, .bool a0_2, .string a0_3, .string a0_4, .slice A0_5 l0_5.length c0_5] 26 (0, 0)) (sK BK309.out) hb); replace HB := Aside0.mk (below_step (sB HB.out) hb); (try clear hb))))
      go_meet
      case rel => exact ⟨_, ((⟨#[82, 67, 80, 84, 32, 84, 79, 58]⟩ : ByteArray) ++ t311), (by first | rfl | (simp; done) | (simp [*]; done)), H', ⟨by first | omega | exact Nat.le_refl _⟩, ⟨by refine sK ?_; exact BK309.out⟩, ⟨sB HB.out⟩⟩
     ·
      rw [if_neg c15] at H
      exact absurd H (by simp)
    ·
     rw [if_neg c13] at H
     have c13b0 : (a0_0 == 3) = false := beq_eq_false_iff_ne.mpr c13
     have c13b1 : (a0_0 != 3) = true := bne_iff_ne.mpr c13
     by_cases c18 : a0_0 = 4
     ·
      rw [if_pos c18] at H
      have c18b0 : (a0_0 == 4) = true := beq_iff_eq.mpr c18
      have c18b1 : (a0_0 != 4) = false := bne_eq_false_iff_eq.mpr c18
      clear c18
      obtain rfl := Option.some.inj H
      go_wp2
      repeat (go_quiet (fail); try go_wp2)
      go_ret
      exact ⟨by first | rfl | (simp [errW_none, errW_some] <;> rfl) | (simp [*, errW_none, errW_some] <;> rfl), sB HB.out⟩
     ·
      rw [if_neg c18] at H
      have c18b0 : (a0_0 == 4) = false := beq_eq_false_iff_ne.mpr c18
      have c18b1 : (a0_0 != 4) = true := bne_iff_ne.mpr c18
      by_cases c19 : a0_0 = 5
      ·
       rw [if_pos c19] at H
       have c19b0 : (a0_0 == 5) = true := beq_iff_eq.mpr c19
       have c19b1 : (a0_0 != 5) = false := bne_eq_false_iff_eq.mpr c19
       clear c19
       obtain rfl := Option.some.inj H
       go_wp2
       repeat (go_quiet (fail); try go_wp2)
       go_ret
       exact ⟨by first | rfl | (simp [errW_none, errW_some] <;> rfl) | (simp [*, errW_none, errW_some] <;> rfl), sB HB.out⟩
      ·
       rw [if_neg c19] at H
       have c19b0 : (a0_0 == 5) = false := beq_eq_false_iff_ne.mpr c19
       have c19b1 : (a0_0 != 5) = true := bne_iff_ne.mpr c19
       by_cases c20 : a0_0 = 6
       ·
        rw [if_pos c20] at H
        have c20b0 : (a0_0 == 6) = true := beq_iff_eq.mpr c20
        have c20b1 : (a0_0 != 6) = false := bne_eq_false_iff_eq.mpr c20
        clear c20
        by_cases c21 : 5 + a0_1.size ≤ 9223372036854775807
        ·
         rw [if_pos c21] at H
         have c21b0 := eq_true c21
         have c21b1 : decide (5 + a0_1.size ≤ 9223372036854775807) = true := decide_eq_true c21
         try have c21b2 : (9223372036854775807 < 5 + a0_1.size) = False := eq_false (Nat.not_lt.2 c21)
         obtain rfl := Option.some.inj H
         have hcz22_0 := sC BK309.out 0
         have hcz22_1 := sC BK309.out 1
         have hcz22_2 := sC BK309.out 2
         have hcz22_3 := sC BK309.out 3
         have hcz22_4 := sC BK309.out 4
         have hcz22_5 := sC BK309.out 5
         have hfz22_0 := blk_frozen BK309.out 0
         have hfz22_1 := blk_frozen BK309.out 1
         have hfz22_2 := blk_frozen BK309.out 2
         have hfz22_3 := blk_frozen BK309.out 3
         have hfz22_4 := blk_frozen BK309.out 4
         have hfz22_5 := blk_frozen BK309.out 5
         go_wp2
         repeat (go_quiet (fail); try go_wp2)
         go_ret
         exact ⟨by first | rfl | (simp [errW_none, errW_some] <;> rfl) | (simp [*, errW_none, errW_some] <;> rfl), sB HB.out⟩
        ·
         rw [if_neg c21] at H
         exact absurd H (by simp)
       ·
        rw [if_neg c20] at H
        have c20b0 : (a0_0 == 6) = false := beq_eq_false_iff_ne.mpr c20
        have c20b1 : (a0_0 != 6) = true := bne_iff_ne.mpr c20
        by_cases c23 : a0_0 = 7
        ·
         rw [if_pos c23] at H
         have c23b0 : (a0_0 == 7) = true := beq_iff_eq.mpr c23
         have c23b1 : (a0_0 != 7) = false := bne_eq_false_iff_eq.mpr c23
         clear c23
         obtain rfl := Option.some.inj H
         go_wp2
         repeat (go_quiet (fail); try go_wp2)
         go_ret
         exact ⟨by first | rfl | (simp [errW_none, errW_some] <;> rfl) | (simp [*, errW_none, errW_some] <;> rfl), sB HB.out⟩
        ·
         rw [if_neg c23] at H
         have c23b0 : (a0_0 == 7) = false := beq_eq_false_iff_ne.mpr c23
         have c23b1 : (a0_0 != 7) = true := bne_iff_ne.mpr c23
         by_cases c24 : a0_0 = 8
         ·
          rw [if_pos c24] at H
          have c24b0 : (a0_0 == 8) = true := beq_iff_eq.mpr c24
          have c24b1 : (a0_0 != 8) = false := bne_eq_false_iff_eq.mpr c24
          clear c24
          obtain rfl := Option.some.inj H
          go_wp2
          repeat (go_quiet (fail); try go_wp2)
          go_ret
          exact ⟨by first | rfl | (simp [errW_none, errW_some] <;> rfl) | (simp [*, errW_none, errW_some] <;> rfl), sB HB.out⟩
         ·
          rw [if_neg c24] at H
          have c24b0 : (a0_0 == 8) = false := beq_eq_false_iff_ne.mpr c24
          have c24b1 : (a0_0 != 8) = true := bne_iff_ne.mpr c24
          by_cases c25 : a0_0 = 9
          ·
           rw [if_pos c25] at H
           have c25b0 : (a0_0 == 9) = true := beq_iff_eq.mpr c25
           have c25b1 : (a0_0 != 9) = false := bne_eq_false_iff_eq.mpr c25
           clear c25
           by_cases c26 : 5 + a0_1.size ≤ 9223372036854775807
           ·
            rw [if_pos c26] at H
            have c26b0 := eq_true c26
            have c26b1 : decide (5 + a0_1.size ≤ 9223372036854775807) = true := decide_eq_true c26
            try have c26b2 : (9223372036854775807 < 5 + a0_1.size) = False := eq_false (Nat.not_lt.2 c26)
            obtain rfl := Option.some.inj H
            have hcz27_0 := sC BK309.out 0
            have hcz27_1 := sC BK309.out 1
            have hcz27_2 := sC BK309.out 2
            have hcz27_3 := sC BK309.out 3
            have hcz27_4 := sC BK309.out 4
            have hcz27_5 := sC BK309.out 5
            have hfz27_0 := blk_frozen BK309.out 0
            have hfz27_1 := blk_frozen BK309.out 1
            have hfz27_2 := blk_frozen BK309.out 2
            have hfz27_3 := blk_frozen BK309.out 3
            have hfz27_4 := blk_frozen BK309.out 4
            have hfz27_5 := blk_frozen BK309.out 5
            go_wp2
            repeat (go_quiet (fail); try go_wp2)
            go_ret
            exact ⟨by first | rfl | (simp [errW_none, errW_some] <;> rfl) | (simp [*, errW_none, errW_some] <;> rfl), sB HB.out⟩
           ·
            rw [if_neg c26] at H
            exact absurd H (by simp)
          ·
           rw [if_neg c25] at H
           have c25b0 : (a0_0 == 9) = false := beq_eq_false_iff_ne.mpr c25
           have c25b1 : (a0_0 != 9) = true := bne_iff_ne.mpr c25
           by_cases c28 : a0_0 = 10
           ·
            rw [if_pos c28] at H
            have c28b0 : (a0_0 == 10) = true := beq_iff_eq.mpr c28
            have c28b1 : (a0_0 != 10) = false := bne_eq_false_iff_eq.mpr c28
            clear c28
            obtain rfl := Option.some.inj H
            go_wp2
            repeat (go_quiet (fail); try go_wp2)
            go_ret
            exact ⟨by first | rfl | (simp [errW_none, errW_some] <;> rfl) | (simp [*, errW_none, errW_some] <;> rfl), sB HB.out⟩
           ·
            rw [if_neg c28] at H
            have c28b0 : (a0_0 == 10) = false := beq_eq_false_iff_ne.mpr c28
            have c28b1 : (a0_0 != 10) = true := bne_iff_ne.mpr c28
            by_cases c29 : a0_0 = 11
            ·
             rw [if_pos c29] at H
             have c29b0 : (a0_0 == 11) = true := beq_iff_eq.mpr c29
             have c29b1 : (a0_0 != 11) = false := bne_eq_false_iff_eq.mpr c29
             clear c29
             by_cases c30 : a0_1.toList = ([] : List UInt8)
             ·
              rw [if_pos c30] at H
              have c30b0 : (a0_1.toList == ([] : List UInt8)) = true := beq_iff_eq.mpr c30
              have c30b1 : (a0_1.toList != ([] : List UInt8)) = false := bne_eq_false_iff_eq.mpr c30
              clear c30
              obtain rfl := Option.some.inj H
              have hcz31_0 := sC BK309.out 0
              have hcz31_1 := sC BK309.out 1
              have hcz31_2 := sC BK309.out 2
              have hcz31_3 := sC BK309.out 3
              have hcz31_4 := sC BK309.out 4
              have hcz31_5 := sC BK309.out 5
              have hfz31_0 := blk_frozen BK309.out 0
              have hfz31_1 := blk_frozen BK309.out 1
              have hfz31_2 := blk_frozen BK309.out 2
              have hfz31_3 := blk_frozen BK309.out 3
              have hfz31_4 := blk_frozen BK309.out 4
              have hfz31_5 := blk_frozen BK309.out 5
              go_wp2
              repeat (go_quiet (fail); try go_wp2)
              go_ret
              exact ⟨by first | rfl | (simp [errW_none, errW_some] <;> rfl) | (simp [*, errW_none, errW_some] <;> rfl), sB HB.out⟩
             ·
              rw [if_neg c30] at H
              have c30b0 : (a0_1.toList == ([] : List UInt8)) = false := beq_eq_false_iff_ne.mpr c30
              have c30b1 : (a0_1.toList != ([] : List UInt8)) = true := bne_iff_ne.mpr c30
              by_cases c32 : 5 + a0_1.size ≤ 9223372036854775807
              ·
               rw [if_pos c32] at H
               have c32b0 := eq_true c32
               have c32b1 : decide (5 + a0_1.size ≤ 9223372036854775807) = true := decide_eq_true c32
               try have c32b2 : (9223372036854775807 < 5 + a0_1.size) = False := eq_false (Nat.not_lt.2 c32)
               obtain rfl := Option.some.inj H
               have hcz33_0 := sC BK309.out 0
               have hcz33_1 := sC BK309.out 1
               have hcz33_2 := sC BK309.out 2
               have hcz33_3 := sC BK309.out 3
               have hcz33_4 := sC BK309.out 4
               have hcz33_5 := sC BK309.out 5
               have hfz33_0 := blk_frozen BK309.out 0
               have hfz33_1 := blk_frozen BK309.out 1
               have hfz33_2 := blk_frozen BK309.out 2
               have hfz33_3 := blk_frozen BK309.out 3
               have hfz33_4 := blk_frozen BK309.out 4
               have hfz33_5 := blk_frozen BK309.out 5
               go_wp2
               repeat (go_quiet (fail); try go_wp2)
               go_ret
               exact ⟨by first | rfl | (simp [errW_none, errW_some] <;> rfl) | (simp [*, errW_none, errW_some] <;> rfl), sB HB.out⟩
              ·
               rw [if_neg c32] at H
               exact absurd H (by simp)
            ·
             rw [if_neg c29] at H
             have c29b0 : (a0_0 == 11) = false := beq_eq_false_iff_ne.mpr c29
             have c29b1 : (a0_0 != 11) = true := bne_iff_ne.mpr c29
             have H' := Aside0.mk H
             clear H
             go_wp2
             repeat (go_quiet (fail); try go_wp2)
             go_meet
             case rel => exact ⟨_, ((⟨#[]⟩ : ByteArray)), (by first | rfl | (simp; done) | (simp [*]; done)), H', ⟨by first | omega | exact Nat.le_refl _⟩, ⟨by refine sK ?_; exact BK309.out⟩, ⟨sB HB.out⟩⟩
 case rest =>
  clear HC2
  try clear c1; try clear c2; try clear p2; try clear c3; try clear c5; try clear c5b0; try clear c5b1; try clear c6; try clear c6b0; try clear c6b1; try clear c6b2; try clear c8; try clear c8b0; try clear c8b1; try clear c10; try clear c10b0; try clear c10b1; try clear c10b2; try clear c13; try clear c13b0; try clear c13b1; try clear c15; try clear c15b0; try clear c15b1; try clear c15b2; try clear c18; try clear c18b0; try clear c18b1; try clear c19; try clear c19b0; try clear c19b1; try clear c20; try clear c20b0; try clear c20b1; try clear c21; try clear c21b0; try clear c21b1; try clear c21b2; try clear c23; try clear c23b0; try clear c23b1; try clear c24; try clear c24b0; try clear c24b1; try clear c25; try clear c25b0; try clear c25b1; try clear c26; try clear c26b0; try clear c26b1; try clear c26b2; try clear c28; try clear c28b0; try clear c28b1; try clear c29; try clear c29b0; try clear c29b1; try clear c30; try clear c30b0; try clear c30b1; try clear c32; try clear c32b0; try clear c32b1; try clear c32b2; try clear c33; try clear hcz11_0; try clear hcz11_1; try clear hcz11_2; try clear hcz11_3; try clear hcz11_4; try clear hcz11_5; try clear hcz16_0; try clear hcz16_1; try clear hcz16_2; try clear hcz16_3; try clear hcz16_4; try clear hcz16_5; try clear hcz22_0; try clear hcz22_1; try clear hcz22_2; try clear hcz22_3; try clear hcz22_4; try clear hcz22_5; try clear hcz27_0; try clear hcz27_1; try clear hcz27_2; try clear hcz27_3; try clear hcz27_4; try clear hcz27_5; try clear hcz31_0; try clear hcz31_1; try clear hcz31_2; try clear hcz31_3; try clear hcz31_4; try clear hcz31_5; try clear hcz33_0; try clear hcz33_1; try clear hcz33_2; try clear hcz33_3; try clear hcz33_4; try clear hcz33_5; try clear hcz4_0; try clear hcz4_1; try clear hcz4_2; try clear hcz4_3; try clear hcz4_4; try clear hcz4_5; try clear hcz7_0; try clear hcz7_1; try clear hcz7_2; try clear hcz7_3; try clear hcz7_4; try clear hcz7_5; try clear hfz11_0; try clear hfz11_1; try clear hfz11_2; try clear hfz11_3; try clear hfz11_4; try clear hfz11_5; try clear hfz16_0; try clear hfz16_1; try clear hfz16_2; try clear hfz16_3; try clear hfz16_4; try clear hfz16_5; try clear hfz22_0; try clear hfz22_1; try clear hfz22_2; try clear hfz22_3; try clear hfz22_4; try clear hfz22_5; try clear hfz27_0; try clear hfz27_1; try clear hfz27_2; try clear hfz27_3; try clear hfz27_4; try clear hfz27_5; try clear hfz31_0; try clear hfz31_1; try clear hfz31_2; try clear hfz31_3; try clear hfz31_4; try clear hfz31_5; try clear hfz33_0; try clear hfz33_1; try clear hfz33_2; try clear hfz33_3; try clear hfz33_4; try clear hfz33_5; try clear hfz4_0; try clear hfz4_1; try clear hfz4_2; try clear hfz4_3; try clear hfz4_4; try clear hfz4_5; try clear hfz7_0; try clear hfz7_1; try clear hfz7_2; try clear hfz7_3; try clear hfz7_4; try clear hfz7_5
  obtain ⟨kq, x3_1, rfl, HA, HJ1, BK309, HB⟩ := hcut
  cases kq with
  | zero => exact absurd HA.out (by simp [wherryref11_line.j0])
  | succ kj1 =>
   have H := HA.out
   clear HA
   simp only [wherryref11_line.j0] at H
   have H' := Aside0.mk H
   clear H
   go_wp2
   repeat (go_quiet (fail); try go_wp2)
   go_loopg [3, 4] kj1 (fun kq v3 v4 w' => ∃ (x3_2 : ByteArray) (x4_2 : Int), v3 = .string x3_2 ∧ v4 = .int .i64 x4_2 ∧ Aside0 (wherryref11_line.l0 kq x3_2 x4_2 a0_0 a0_1 a0_2 a0_3 a0_4 l0_5 = some r) ∧ Aside0 (kq ≤ kj1) ∧ Aside0 (w'.heap[gb309]? = some (.cells #[.int .i64 a0_0, .string a0_1, .bool a0_2, .string a0_3, .string a0_4, (.slice A0_5 l0_5.length c0_5)] 26 (0, 0))) ∧ Aside0 (Below w.heap.size w w'))
   case atStart => exact ⟨(x3_1), (0), (by first | rfl | (simp; done) | (simp [*]; done)), (by first | rfl | (simp; done) | (simp [*]; done)), H', ⟨Nat.le_refl _⟩, ⟨by refine sK ?_; exact BK309.out⟩, ⟨sB HB.out⟩⟩
   case round =>
    clear H'
    try clear c1; try clear c2; try clear p2; try clear c3; try clear c5; try clear c5b0; try clear c5b1; try clear c6; try clear c6b0; try clear c6b1; try clear c6b2; try clear c8; try clear c8b0; try clear c8b1; try clear c10; try clear c10b0; try clear c10b1; try clear c10b2; try clear c13; try clear c13b0; try clear c13b1; try clear c15; try clear c15b0; try clear c15b1; try clear c15b2; try clear c18; try clear c18b0; try clear c18b1; try clear c19; try clear c19b0; try clear c19b1; try clear c20; try clear c20b0; try clear c20b1; try clear c21; try clear c21b0; try clear c21b1; try clear c21b2; try clear c23; try clear c23b0; try clear c23b1; try clear c24; try clear c24b0; try clear c24b1; try clear c25; try clear c25b0; try clear c25b1; try clear c26; try clear c26b0; try clear c26b1; try clear c26b2; try clear c28; try clear c28b0; try clear c28b1; try clear c29; try clear c29b0; try clear c29b1; try clear c30; try clear c30b0; try clear c30b1; try clear c32; try clear c32b0; try clear c32b1; try clear c32b2; try clear c33; try clear hcz11_0; try clear hcz11_1; try clear hcz11_2; try clear hcz11_3; try clear hcz11_4; try clear hcz11_5; try clear hcz16_0; try clear hcz16_1; try clear hcz16_2; try clear hcz16_3; try clear hcz16_4; try clear hcz16_5; try clear hcz22_0; try clear hcz22_1; try clear hcz22_2; try clear hcz22_3; try clear hcz22_4; try clear hcz22_5; try clear hcz27_0; try clear hcz27_1; try clear hcz27_2; try clear hcz27_3; try clear hcz27_4; try clear hcz27_5; try clear hcz31_0; try clear hcz31_1; try clear hcz31_2; try clear hcz31_3; try clear hcz31_4; try clear hcz31_5; try clear hcz33_0; try clear hcz33_1; try clear hcz33_2; try clear hcz33_3; try clear hcz33_4; try clear hcz33_5; try clear hcz4_0; try clear hcz4_1; try clear hcz4_2; try clear hcz4_3; try clear hcz4_4; try clear hcz4_5; try clear hcz7_0; try clear hcz7_1; try clear hcz7_2; try clear hcz7_3; try clear hcz7_4; try clear hcz7_5; try clear hfz11_0; try clear hfz11_1; try clear hfz11_2; try clear hfz11_3; try clear hfz11_4; try clear hfz11_5; try clear hfz16_0; try clear hfz16_1; try clear hfz16_2; try clear hfz16_3; try clear hfz16_4; try clear hfz16_5; try clear hfz22_0; try clear hfz22_1; try clear hfz22_2; try clear hfz22_3; try clear hfz22_4; try clear hfz22_5; try clear hfz27_0; try clear hfz27_1; try clear hfz27_2; try clear hfz27_3; try clear hfz27_4; try clear hfz27_5; try clear hfz31_0; try clear hfz31_1; try clear hfz31_2; try clear hfz31_3; try clear hfz31_4; try clear hfz31_5; try clear hfz33_0; try clear hfz33_1; try clear hfz33_2; try clear hfz33_3; try clear hfz33_4; try clear hfz33_5; try clear hfz4_0; try clear hfz4_1; try clear hfz4_2; try clear hfz4_3; try clear hfz4_4; try clear hfz4_5; try clear hfz7_0; try clear hfz7_1; try clear hfz7_2; try clear hfz7_3; try clear hfz7_4; try clear hfz7_5; try clear p2
    obtain ⟨x3_2, x4_2, rfl, rfl, HA, HK2, BK309, HB⟩ := hrel
    cases gk with
    | zero => exact absurd HA.out (by simp [wherryref11_line.l0])
    | succ k2 =>
     have H := HA.out
     clear HA
     simp only [wherryref11_line.l0] at H
     by_cases c34 : x4_2 < (l0_5.length : Int)
     ·
      rw [if_pos c34] at H
      have c34b0 : decide (x4_2 < (l0_5.length : Int)) = true := decide_eq_true c34
      clear c34
      by_cases c35 : x3_2.size + 1 ≤ 9223372036854775807
      ·
       rw [if_pos c35] at H
       have c35b0 := eq_true c35
       have c35b1 : decide (x3_2.size + 1 ≤ 9223372036854775807) = true := decide_eq_true c35
       try have c35b2 : (9223372036854775807 < x3_2.size + 1) = False := eq_false (Nat.not_lt.2 c35)
       by_cases c36 : 0 ≤ x4_2
       ·
        rw [if_pos c36] at H
        have c36b0 : decide (0 ≤ x4_2) = true := decide_eq_true c36
        clear c36
        by_cases c37 : (x3_2 ++ (⟨#[32]⟩ : ByteArray)).size + ((rd_T47 l0_5 x4_2).f0).size ≤ 9223372036854775807
        ·
         rw [if_pos c37] at H
         have c37b0 := eq_true c37
         have c37s := c37
         simp only [ByteArray.size_append, show (⟨#[32]⟩ : ByteArray).size = 1 from rfl] at c37s
         have c37b1 : decide ((x3_2 ++ (⟨#[32]⟩ : ByteArray)).size + ((rd_T47 l0_5 x4_2).f0).size ≤ 9223372036854775807) = true := decide_eq_true c37
         try have c37b2 : (9223372036854775807 < (x3_2 ++ (⟨#[32]⟩ : ByteArray)).size + ((rd_T47 l0_5 x4_2).f0).size) = False := eq_false (Nat.not_lt.2 c37)
         by_cases c38 : ((x3_2 ++ (⟨#[32]⟩ : ByteArray)) ++ ((rd_T47 l0_5 x4_2).f0)).size + 1 ≤ 9223372036854775807
         ·
          rw [if_pos c38] at H
          have c38b0 := eq_true c38
          have c38s := c38
          simp only [ByteArray.size_append, show (⟨#[32]⟩ : ByteArray).size = 1 from rfl] at c38s
          have c38b1 : decide (((x3_2 ++ (⟨#[32]⟩ : ByteArray)) ++ ((rd_T47 l0_5 x4_2).f0)).size + 1 ≤ 9223372036854775807) = true := decide_eq_true c38
          try have c38b2 : (9223372036854775807 < ((x3_2 ++ (⟨#[32]⟩ : ByteArray)) ++ ((rd_T47 l0_5 x4_2).f0)).size + 1) = False := eq_false (Nat.not_lt.2 c38)
          by_cases c39 : (((x3_2 ++ (⟨#[32]⟩ : ByteArray)) ++ ((rd_T47 l0_5 x4_2).f0)) ++ (⟨#[61]⟩ : ByteArray)).size + ((rd_T47 l0_5 x4_2).f1).size ≤ 9223372036854775807
          ·
           rw [if_pos c39] at H
           have c39b0 := eq_true c39
           have c39s := c39
           simp only [ByteArray.size_append, show (⟨#[32]⟩ : ByteArray).size = 1 from rfl, show (⟨#[61]⟩ : ByteArray).size = 1 from rfl] at c39s
           have c39b1 : decide ((((x3_2 ++ (⟨#[32]⟩ : ByteArray)) ++ ((rd_T47 l0_5 x4_2).f0)) ++ (⟨#[61]⟩ : ByteArray)).size + ((rd_T47 l0_5 x4_2).f1).size ≤ 9223372036854775807) = true := decide_eq_true c39
           try have c39b2 : (9223372036854775807 < (((x3_2 ++ (⟨#[32]⟩ : ByteArray)) ++ ((rd_T47 l0_5 x4_2).f0)) ++ (⟨#[61]⟩ : ByteArray)).size + ((rd_T47 l0_5 x4_2).f1).size) = False := eq_false (Nat.not_lt.2 c39)
           have H' := Aside0.mk H
           clear H
           have hcz40_0 := sC BK309.out 0
           have hcz40_1 := sC BK309.out 1
           have hcz40_2 := sC BK309.out 2
           have hcz40_3 := sC BK309.out 3
           have hcz40_4 := sC BK309.out 4
           have hcz40_5 := sC BK309.out 5
           have hfz40_0 := blk_frozen BK309.out 0
           have hfz40_1 := blk_frozen BK309.out 1
           have hfz40_2 := blk_frozen BK309.out 2
           have hfz40_3 := blk_frozen BK309.out 3
           have hfz40_4 := blk_frozen BK309.out 4
           have hfz40_5 := blk_frozen BK309.out 5
           have p312 : 0 ≤ (x4_2 : Int) := of_decide_eq_true sA
           have q312 : x4_2 < (l0_5.length : Int) := of_decide_eq_true sA
           obtain ⟨ad312, e312, hx312_0, hx312_1⟩ := at_T47 HR0_5.out x4_2 p312 q312
           cases e312
           replace hx312_0 := (HB.out.cell (World.block_lt_of_cell? w _ hx312_0)).trans hx312_0
           replace hx312_1 := (HB.out.cell (World.block_lt_of_cell? w _ hx312_1)).trans hx312_1
           replace p312 := eq_true p312
           replace q312 := eq_true q312
           have p313 : 0 ≤ (x4_2 : Int) := of_decide_eq_true sA
           have q313 : x4_2 < (l0_5.length : Int) := of_decide_eq_true sA
           obtain ⟨ad313, e313, hx313_0, hx313_1⟩ := at_T47 HR0_5.out x4_2 p313 q313
           obtain rfl : ad312 = ad313 := (by injection e313)
           replace hx313_0 := (HB.out.cell (World.block_lt_of_cell? w _ hx313_0)).trans hx313_0
           replace hx313_1 := (HB.out.cell (World.block_lt_of_cell? w _ hx313_1)).trans hx313_1
           replace p313 := eq_true p313
           replace q313 := eq_true q313
           go_wp2
           repeat (go_quiet (fail); try go_wp2)
           go_roundg k2
           case measure => have := HJ1.out; have := HK2.out; omega
           case rel => exact ⟨((((x3_2 ++ (⟨#[32]⟩ : ByteArray)) ++ ((rd_T47 l0_5 x4_2).f0)) ++ (⟨#[61]⟩ : ByteArray)) ++ ((rd_T47 l0_5 x4_2).f1)), (wrap64 (x4_2 + 1)), (by first | rfl | (simp; done) | (simp [*]; done)), (by first | rfl | (simp; done) | (simp [*]; done)), H', ⟨by have := HJ1.out; have := HK2.out; omega⟩, ⟨by refine sK ?_; exact BK309.out⟩, ⟨sB HB.out⟩⟩
          ·
           rw [if_neg c39] at H
           exact absurd H (by simp)
         ·
          rw [if_neg c38] at H
          exact absurd H (by simp)
        ·
         rw [if_neg c37] at H
         exact absurd H (by simp)
       ·
        rw [if_neg c36] at H
        exact absurd H (by simp)
      ·
       rw [if_neg c35] at H
       exact absurd H (by simp)
     ·
      rw [if_neg c34] at H
      have c34b0 : decide (x4_2 < (l0_5.length : Int)) = false := decide_eq_false c34
      clear c34
      obtain rfl := Option.some.inj H
      have hcz41_0 := sC BK309.out 0
      have hcz41_1 := sC BK309.out 1
      have hcz41_2 := sC BK309.out 2
      have hcz41_3 := sC BK309.out 3
      have hcz41_4 := sC BK309.out 4
      have hcz41_5 := sC BK309.out 5
      have hfz41_0 := blk_frozen BK309.out 0
      have hfz41_1 := blk_frozen BK309.out 1
      have hfz41_2 := blk_frozen BK309.out 2
      have hfz41_3 := blk_frozen BK309.out 3
      have hfz41_4 := blk_frozen BK309.out 4
      have hfz41_5 := blk_frozen BK309.out 5
      go_wp2
      repeat (go_quiet (fail); try go_wp2)
      go_ret
      exact ⟨by first | rfl | (simp [errW_none, errW_some] <;> rfl) | (simp [*, errW_none, errW_some] <;> rfl), sB HB.out⟩
end Go.Proofs.YthcdjgekmfnmnaaGreatDoor.PVerb
end
section
namespace Go.Proofs.YthcdjgekmfnmnaaGreatDoor.PVerb
open Go.RowKit Go.Proofs.YthcdjgekmfnmnaaGreatDoorW.PrintWords Go.Proofs.YthcdjgekmfnmnaaGreatDoorW.PrintLast Go.Proofs.YthcdjgekmfnmnaaGreatDoorW.PrintMore
attribute [local go_sem] max2_int min2_int max_two min_two max_three min_three max_four min_four
set_option linter.unusedVariables false
set_option linter.unusedSimpArgs false
def wherryref11_Line.f (k : Nat) (a0_0 : Int) (a0_1 : ByteArray) (a0_2 : Bool) (a0_3 : ByteArray) (a0_4 : ByteArray) (l0_5 : List (S47)) : Option (ByteArray × Bool) := (wherryref11_line.f k a0_0 a0_1 a0_2 a0_3 a0_4 l0_5).bind fun t315 => ((wherryref11_Verb.f k t315).bind fun bt316 => (if bt316.2.2.2.2.2.2 = 0 then ((wherrykeep_Cmd.f k bt316.1 bt316.2.1 bt316.2.2.1 bt316.2.2.2.1 bt316.2.2.2.2.1 bt316.2.2.2.2.2.1 a0_0 a0_1 a0_2 a0_3 a0_4 l0_5).bind fun t326 => (if t326 = true then (some (t315, true)) else (some ((⟨#[]⟩ : ByteArray), false)))) else (some ((⟨#[]⟩ : ByteArray), false))))
set_option maxHeartbeats 8000000 in
set_option maxRecDepth 100000 in
theorem wherryref11_Line.calls (k : Nat) (a0_0 : Int) (a0_1 : ByteArray) (a0_2 : Bool) (a0_3 : ByteArray) (a0_4 : ByteArray) (A0_5 : Option Addr) (c0_5 : Nat) (l0_5 : List (S47)) (r1 : ByteArray) (r2 : Bool) (w : World) (hr0_5 : Kd.C k47 w A0_5 l0_5.length l0_5) (hc0_5 : l0_5.length ≤ c0_5) (h : wherryref11_Line.f k a0_0 a0_1 a0_2 a0_3 a0_4 l0_5 = some (r1, r2)) :
  Calls Tryz.prog 9 #[.agg #[.int .i64 a0_0, .string a0_1, .bool a0_2, .string a0_3, .string a0_4, .slice A0_5 l0_5.length c0_5]] w fun e w' => e = .returned (.tuple #[.string r1, .bool r2]) ∧ Below w.heap.size w w' := by
 have hu26 := Tryz.underlying26
 have HR0_5 := Aside0.mk hr0_5
 have HC0_5 := Aside0.mk hc0_5
 clear hr0_5 hc0_5
 have HB := Aside0.mk (Below.refl w.heap.size w)
 have H : ((wherryref11_line.f k a0_0 a0_1 a0_2 a0_3 a0_4 l0_5).bind fun t315 => ((wherryref11_Verb.f k t315).bind fun bt316 => (if bt316.2.2.2.2.2.2 = 0 then ((wherrykeep_Cmd.f k bt316.1 bt316.2.1 bt316.2.2.1 bt316.2.2.2.1 bt316.2.2.2.2.1 bt316.2.2.2.2.2.1 a0_0 a0_1 a0_2 a0_3 a0_4 l0_5).bind fun t326 => (if t326 = true then (some (t315, true)) else (some ((⟨#[]⟩ : ByteArray), false)))) else (some ((⟨#[]⟩ : ByteArray), false))))) = some (r1, r2) := h
 clear h
 replace H := Option.bind_eq_some_iff.mp H
 obtain ⟨t315, A20, H⟩ := H
 try dsimp -simprocs only at H
 have A2 := Aside0.mk A20
 clear A20
 replace H := Option.bind_eq_some_iff.mp H
 obtain ⟨⟨t316, t317, t318, t319, t320, t321, t324⟩, A30, H⟩ := H
 try dsimp -simprocs only at H
 have A3 := Aside0.mk A30
 clear A30
 by_cases c4 : t324 = 0
 ·
  rw [if_pos c4] at H
  have c4b0 : (t324 == 0) = true := beq_iff_eq.mpr c4
  have c4b1 : (t324 != 0) = false := bne_eq_false_iff_eq.mpr c4
  clear c4
  replace H := Option.bind_eq_some_iff.mp H
  obtain ⟨t326, A50, H⟩ := H
  try dsimp -simprocs only at H
  have A5 := Aside0.mk A50
  clear A50
  by_cases c6 : t326 = true
  ·
   subst c6
   rw [if_pos rfl] at H
   try dsimp -simprocs only at H
   simp only [Option.some.injEq, Prod.mk.injEq] at H
   obtain ⟨rfl, rfl⟩ := H
   go_enter Tryz.func9, Tryz.ntmps9
   go_wp2_with (first | ((with_reducible refine gate_dst (N := 1) rfl ?_); refine box_event ?hg (N := 1) ?hd (cs := #[.int .i64 a0_0, .string a0_1, .bool a0_2, .string a0_3, .string a0_4, .slice A0_5 l0_5.length c0_5]) (t := 26) ?hr ?_; (case hd => rfl); (case hg => rfl); (case hr => first | (go_simp; done) | (go_simp; rfl)); intro gb314 hg w7 hbox hb; have BK314 := Aside0.mk (hbox); have GW314 := Aside0.mk ((by rw [hg]; exact (below_size (sB HB.out)) : w.heap.size ≤ gb314)); have GE314 := Aside0.mk ((by rw [hg]; exact (below_size (sB HB.out)) : w.heap.size ≤ gb314)); replace HB := Aside0.mk (below_step (sB HB.out) hb); clear hb hbox hg; have hcz8_0 := sC BK314.out 0; have hcz8_1 := sC BK314.out 1; have hcz8_2 := sC BK314.out 2; have hcz8_3 := sC BK314.out 3; have hcz8_4 := sC BK314.out 4; have hcz8_5 := sC BK314.out 5; have hfz8_0 := blk_frozen BK314.out 0; have hfz8_1 := blk_frozen BK314.out 1; have hfz8_2 := blk_frozen BK314.out 2; have hfz8_3 := blk_frozen BK314.out 3; have hfz8_4 := blk_frozen BK314.out 4; have hfz8_5 := blk_frozen BK314.out 5) | ((with_reducible refine gate_callee (f := 33) rfl ?_); refine goesL_ (some 8) rfl rfl Tryz.func33 (by kernel_rfl) rfl #[.agg #[.int .i64 a0_0, .string a0_1, .bool a0_2, .string a0_3, .string a0_4, .slice A0_5 l0_5.length c0_5]] rfl sM ?_; (with_reducible refine (wherryref11_line.calls k a0_0 a0_1 a0_2 a0_3 a0_4 _ _ l0_5 t315 _ ?side1 ?side2 A2.out).mono ?_); (case side1 => repeat (first | exact (Kd.C_below HR0_5.out HB.out) | (with_reducible refine Kd.C_alloc ?_ _) | (with_reducible refine Kd.C_drewN ?_ _) | (with_reducible refine Kd.C_drew ?_))); (case side2 => exact HC0_5.out); rintro e w9 ⟨rfl, hb⟩; refine ⟨_, rfl, ?_⟩; replace BK314 := Aside0.mk (blk_below (g := gb314) (o := .cells #[.int .i64 a0_0, .string a0_1, .bool a0_2, .string a0_3, .string a0_4, .slice A0_5 l0_5.length c0_5] 26 (0, 0)) (sK BK314.out) hb); replace HB := Aside0.mk (below_step (sB HB.out) hb); (try clear hb)) | ((with_reducible refine gate_callee (f := 7) rfl ?_); refine goesL_ (some 11) rfl rfl Tryz.func7 (by kernel_rfl) rfl #[.string t315] rfl sM ?_; (with_reducible refine (wherryref11_Verb.calls k t315 t316 t317 t318 t319 t320 t321 t324 _ A3.out).mono ?_); rintro e w10 ⟨v322, rfl, ho0, hb⟩; refine ⟨_, rfl, ?_⟩; have HO323 := Aside0.mk (Kd.R_lower ho0 (below_size (sB HB.out))); replace BK314 := Aside0.mk (blk_below (g := gb314) (o := .cells #[.int .i64 a0_0, .string a0_1, .bool a0_2, .string a0_3, .string a0_4, .slice A0_5 l0_5.length c0_5] 26 (0, 0)) (sK BK314.out) hb); replace HB := Aside0.mk (below_step (sB HB.out) hb); (try clear hb); (try clear ho0)) | ((with_reducible refine gate_dst (N := 5) rfl ?_); refine box_event ?hg (N := 5) ?hd (cs := #[.int .i64 0, .string ⟨#[]⟩, .bool false, .string ⟨#[]⟩, .string ⟨#[]⟩, .slice none 0 0]) (t := 26) ?hr ?_; (case hd => rfl); (case hg => rfl); (case hr => first | (go_simp; done) | (go_simp; rfl)); intro gb325 hg w11 hbox hb; replace HO323 := Aside0.mk (Kd.R_below (sR HO323.out) hb); have BK325 := Aside0.mk (hbox); have GW325 := Aside0.mk ((by rw [hg]; exact (below_size (sB HB.out)) : w.heap.size ≤ gb325)); have GE325 := Aside0.mk ((by rw [hg]; exact (below_size (sB HB.out)) : w.heap.size ≤ gb325)); replace HB := Aside0.mk (below_step (sB HB.out) hb); have NB314_325 := Aside0.mk ((by rw [hg]; exact Nat.ne_of_lt (blk_lt (g := gb314) (o := .cells #[.int .i64 a0_0, .string a0_1, .bool a0_2, .string a0_3, .string a0_4, .slice A0_5 l0_5.length c0_5] 26 (0, 0)) (sK BK314.out)) : gb314 ≠ gb325)); have NB325_314 := Aside0.mk ((by rw [hg]; exact Nat.ne_of_gt (blk_lt (g := gb314) (o := .cells #[.int .i64 a0_0, .string a0_1, .bool a0_2, .string a0_3, .string a0_4, .slice A0_5 l0_5.length c0_5] 26 (0, 0)) (sK BK314.out)) : gb325 ≠ gb314)); replace BK314 := Aside0.mk (blk_below (g := gb314) (o := .cells #[.int .i64 a0_0, .string a0_1, .bool a0_2, .string a0_3, .string a0_4, .slice A0_5 l0_5.length c0_5] 26 (0, 0)) (sK BK314.out) hb); clear hb hbox hg; have hnb12 := NB325_314.out; have hnc12 := NB314_325.out; have hcz13_0 := sC BK325.out 0; have hcz13_1 := sC BK325.out 1; have hcz13_2 := sC BK325.out 2; have hcz13_3 := sC BK325.out 3; have hcz13_4 := sC BK325.out 4; have hcz13_5 := sC BK325.out 5; have hfz13_0 := blk_frozen BK325.out 0; have hfz13_1 := blk_frozen BK325.out 1; have hfz13_2 := blk_frozen BK325.out 2; have hfz13_3 := blk_frozen BK325.out 3; have hfz13_4 := blk_frozen BK325.out 4; have hfz13_5 := blk_frozen BK325.out 5; obtain ⟨Ao14, co14, eo14⟩ := Kd.R_slice HO323.out; subst eo14; have hcz15_0 := sC BK314.out 0; have hcz15_1 := sC BK314.out 1; have hcz15_2 := sC BK314.out 2; have hcz15_3 := sC BK314.out 3; have hcz15_4 := sC BK314.out 4; have hcz15_5 := sC BK314.out 5; have hfz15_0 := blk_frozen BK314.out 0; have hfz15_1 := blk_frozen BK314.out 1; have hfz15_2 := blk_frozen BK314.out 2; have hfz15_3 := blk_frozen BK314.out 3; have hfz15_4 := blk_frozen BK314.out 4; have hfz15_5 := blk_frozen BK314.out 5) | (go_at_call 12; (with_reducible refine (wherrykeep_Cmd.calls k t316 t317 t318 t319 t320 _ _ t321 a0_0 a0_1 a0_2 a0_3 a0_4 _ _ l0_5 true _ ?side1 ?side2 ?side3 ?side4 A5.out).mono ?_); (case side1 => refine (Kd.R_reads' (e := 47) (base := w.heap.size) (ok := fun k_ => True) (n := t321.length) (c := co14) ?_).2.2; exact (by (with_reducible repeat (first | apply Kd.R_alloc | apply Kd.R_drewN | apply Kd.R_drew)); exact (Kd.R_mono (Kd.R_far (p := ⟨gb325, 5, none⟩) (Kd.R_far (p := ⟨gb325, 4, none⟩) (Kd.R_far (p := ⟨gb325, 3, none⟩) (Kd.R_far (p := ⟨gb325, 2, none⟩) (Kd.R_far (p := ⟨gb325, 1, none⟩) (Kd.R_far (p := ⟨gb325, 0, none⟩) (Kd.R_types HO323.out BK325.out (by decide)) (fun _ hk => hk.2) (.int .i64 t316)) (fun _ hk => hk.2) (.string t317)) (fun _ hk => hk.2) (.bool t318)) (fun _ hk => hk.2) (.string t319)) (fun _ hk => hk.2) (.string t320)) (fun _ hk => hk.2) (.slice Ao14 t321.length co14)) (fun _ h_ => h_.1)))); (case side2 => exact (Kd.R_reads' HO323.out).2.1); (case side3 => exact Kd.C_below HR0_5.out (sB HB.out)); (case side4 => exact HC0_5.out); rintro e w16 ⟨rfl, hb⟩; replace HO323 := Aside0.mk (Kd.R_below (by (with_reducible repeat (first | apply Kd.R_alloc | apply Kd.R_drewN | apply Kd.R_drew)); exact (Kd.R_mono (Kd.R_far (p := ⟨gb325, 5, none⟩) (Kd.R_far (p := ⟨gb325, 4, none⟩) (Kd.R_far (p := ⟨gb325, 3, none⟩) (Kd.R_far (p := ⟨gb325, 2, none⟩) (Kd.R_far (p := ⟨gb325, 1, none⟩) (Kd.R_far (p := ⟨gb325, 0, none⟩) (Kd.R_types HO323.out BK325.out (by decide)) (fun _ hk => hk.2) (.int .i64 t316)) (fun _ hk => hk.2) (.string t317)) (fun _ hk => hk.2) (.bool t318)) (fun _ hk => hk.2) (.string t319)) (fun _ hk => hk.2) (.string t320)) (fun _ hk => hk.2) (.slice Ao14 t321.length co14)) (fun _ h_ => h_.1))) hb); replace BK314 := Aside0.mk (blk_below (g := gb314) (o := .cells #[.int .i64 a0_0, .string a0_1, .bool a0_2, .string a0_3, .string a0_4, .slice A0_5 l0_5.length c0_5] 26 (0, 0)) (by refine sK ?_; refine blk_far ?_ NB314_325.out _; refine sK ?_; refine blk_far ?_ NB314_325.out _; refine sK ?_; refine blk_far ?_ NB314_325.out _; refine sK ?_; refine blk_far ?_ NB314_325.out _; refine sK ?_; refine blk_far ?_ NB314_325.out _; refine sK ?_; refine blk_far ?_ NB314_325.out _; refine sK ?_; exact BK314.out) hb); replace BK325 := Aside0.mk (blk_below (g := gb325) (o := .cells #[.int .i64 t316, .string t317, .bool t318, .string t319, .string t320, .slice Ao14 t321.length co14] 26 (0, 0)) (by refine sK ?_; refine blk_put (cs := #[.int .i64 t316, .string t317, .bool t318, .string t319, .string t320, .slice none 0 0]) ?_ 5 _ rfl; refine sK ?_; refine blk_put (cs := #[.int .i64 t316, .string t317, .bool t318, .string t319, .string ⟨#[]⟩, .slice none 0 0]) ?_ 4 _ rfl; refine sK ?_; refine blk_put (cs := #[.int .i64 t316, .string t317, .bool t318, .string ⟨#[]⟩, .string ⟨#[]⟩, .slice none 0 0]) ?_ 3 _ rfl; refine sK ?_; refine blk_put (cs := #[.int .i64 t316, .string t317, .bool false, .string ⟨#[]⟩, .string ⟨#[]⟩, .slice none 0 0]) ?_ 2 _ rfl; refine sK ?_; refine blk_put (cs := #[.int .i64 t316, .string ⟨#[]⟩, .bool false, .string ⟨#[]⟩, .string ⟨#[]⟩, .slice none 0 0]) ?_ 1 _ rfl; refine sK ?_; refine blk_put (cs := #[.int .i64 0, .string ⟨#[]⟩, .bool false, .string ⟨#[]⟩, .string ⟨#[]⟩, .slice none 0 0]) ?_ 0 _ rfl; refine sK ?_; exact BK325.out) hb); replace HB := Aside0.mk (below_step (sB HB.out) hb); (try clear hb); (try clear hk)))
   go_ret2
   exact ⟨by first | rfl | (simp [errW_none, errW_some] <;> rfl) | (simp [*, errW_none, errW_some] <;> rfl), sB HB.out⟩
  ·
   replace c6 := Bool.eq_false_iff.mpr c6
   subst c6
   rw [if_neg (show ¬ (false = true) by decide)] at H
   try dsimp -simprocs only at H
   simp only [Option.some.injEq, Prod.mk.injEq] at H
   obtain ⟨rfl, rfl⟩ := H
   go_enter Tryz.func9, Tryz.ntmps9
   go_wp2_with (first | ((with_reducible refine gate_dst (N := 1) rfl ?_); refine box_event ?hg (N := 1) ?hd (cs := #[.int .i64 a0_0, .string a0_1, .bool a0_2, .string a0_3, .string a0_4, .slice A0_5 l0_5.length c0_5]) (t := 26) ?hr ?_; (case hd => rfl); (case hg => rfl); (case hr => first | (go_simp; done) | (go_simp; rfl)); intro gb314 hg w17 hbox hb; have BK314 := Aside0.mk (hbox); have GW314 := Aside0.mk ((by rw [hg]; exact (below_size (sB HB.out)) : w.heap.size ≤ gb314)); have GE314 := Aside0.mk ((by rw [hg]; exact (below_size (sB HB.out)) : w.heap.size ≤ gb314)); replace HB := Aside0.mk (below_step (sB HB.out) hb); clear hb hbox hg; have hcz18_0 := sC BK314.out 0; have hcz18_1 := sC BK314.out 1; have hcz18_2 := sC BK314.out 2; have hcz18_3 := sC BK314.out 3; have hcz18_4 := sC BK314.out 4; have hcz18_5 := sC BK314.out 5; have hfz18_0 := blk_frozen BK314.out 0; have hfz18_1 := blk_frozen BK314.out 1; have hfz18_2 := blk_frozen BK314.out 2; have hfz18_3 := blk_frozen BK314.out 3; have hfz18_4 := blk_frozen BK314.out 4; have hfz18_5 := blk_frozen BK314.out 5) | ((with_reducible refine gate_callee (f := 33) rfl ?_); refine goesL_ (some 8) rfl rfl Tryz.func33 (by kernel_rfl) rfl #[.agg #[.int .i64 a0_0, .string a0_1, .bool a0_2, .string a0_3, .string a0_4, .slice A0_5 l0_5.length c0_5]] rfl sM ?_; (with_reducible refine (wherryref11_line.calls k a0_0 a0_1 a0_2 a0_3 a0_4 _ _ l0_5 t315 _ ?side1 ?side2 A2.out).mono ?_); (case side1 => repeat (first | exact (Kd.C_below HR0_5.out HB.out) | (with_reducible refine Kd.C_alloc ?_ _) | (with_reducible refine Kd.C_drewN ?_ _) | (with_reducible refine Kd.C_drew ?_))); (case side2 => exact HC0_5.out); rintro e w19 ⟨rfl, hb⟩; refine ⟨_, rfl, ?_⟩; replace BK314 := Aside0.mk (blk_below (g := gb314) (o := .cells #[.int .i64 a0_0, .string a0_1, .bool a0_2, .string a0_3, .string a0_4, .slice A0_5 l0_5.length c0_5] 26 (0, 0)) (sK BK314.out) hb); replace HB := Aside0.mk (below_step (sB HB.out) hb); (try clear hb)) | ((with_reducible refine gate_callee (f := 7) rfl ?_); refine goesL_ (some 11) rfl rfl Tryz.func7 (by kernel_rfl) rfl #[.string t315] rfl sM ?_; (with_reducible refine (wherryref11_Verb.calls k t315 t316 t317 t318 t319 t320 t321 t324 _ A3.out).mono ?_); rintro e w20 ⟨v322, rfl, ho0, hb⟩; refine ⟨_, rfl, ?_⟩; have HO323 := Aside0.mk (Kd.R_lower ho0 (below_size (sB HB.out))); replace BK314 := Aside0.mk (blk_below (g := gb314) (o := .cells #[.int .i64 a0_0, .string a0_1, .bool a0_2, .string a0_3, .string a0_4, .slice A0_5 l0_5.length c0_5] 26 (0, 0)) (sK BK314.out) hb); replace HB := Aside0.mk (below_step (sB HB.out) hb); (try clear hb); (try clear ho0)) | ((with_reducible refine gate_dst (N := 5) rfl ?_); refine box_event ?hg (N := 5) ?hd (cs := #[.int .i64 0, .string ⟨#[]⟩, .bool false, .string ⟨#[]⟩, .string ⟨#[]⟩, .slice none 0 0]) (t := 26) ?hr ?_; (case hd => rfl); (case hg => rfl); (case hr => first | (go_simp; done) | (go_simp; rfl)); intro gb325 hg w21 hbox hb; replace HO323 := Aside0.mk (Kd.R_below (sR HO323.out) hb); have BK325 := Aside0.mk (hbox); have GW325 := Aside0.mk ((by rw [hg]; exact (below_size (sB HB.out)) : w.heap.size ≤ gb325)); have GE325 := Aside0.mk ((by rw [hg]; exact (below_size (sB HB.out)) : w.heap.size ≤ gb325)); replace HB := Aside0.mk (below_step (sB HB.out) hb); have NB314_325 := Aside0.mk ((by rw [hg]; exact Nat.ne_of_lt (blk_lt (g := gb314) (o := .cells #[.int .i64 a0_0, .string a0_1, .bool a0_2, .string a0_3, .string a0_4, .slice A0_5 l0_5.length c0_5] 26 (0, 0)) (sK BK314.out)) : gb314 ≠ gb325)); have NB325_314 := Aside0.mk ((by rw [hg]; exact Nat.ne_of_gt (blk_lt (g := gb314) (o := .cells #[.int .i64 a0_0, .string a0_1, .bool a0_2, .string a0_3, .string a0_4, .slice A0_5 l0_5.length c0_5] 26 (0, 0)) (sK BK314.out)) : gb325 ≠ gb314)); replace BK314 := Aside0.mk (blk_below (g := gb314) (o := .cells #[.int .i64 a0_0, .string a0_1, .bool a0_2, .string a0_3, .string a0_4, .slice A0_5 l0_5.length c0_5] 26 (0, 0)) (sK BK314.out) hb); clear hb hbox hg; have hnb22 := NB325_314.out; have hnc22 := NB314_325.out; have hcz23_0 := sC BK325.out 0; have hcz23_1 := sC BK325.out 1; have hcz23_2 := sC BK325.out 2; have hcz23_3 := sC BK325.out 3; have hcz23_4 := sC BK325.out 4; have hcz23_5 := sC BK325.out 5; have hfz23_0 := blk_frozen BK325.out 0; have hfz23_1 := blk_frozen BK325.out 1; have hfz23_2 := blk_frozen BK325.out 2; have hfz23_3 := blk_frozen BK325.out 3; have hfz23_4 := blk_frozen BK325.out 4; have hfz23_5 := blk_frozen BK325.out 5; obtain ⟨Ao24, co24, eo24⟩ := Kd.R_slice HO323.out; subst eo24; have hcz25_0 := sC BK314.out 0; have hcz25_1 := sC BK314.out 1; have hcz25_2 := sC BK314.out 2; have hcz25_3 := sC BK314.out 3; have hcz25_4 := sC BK314.out 4; have hcz25_5 := sC BK314.out 5; have hfz25_0 := blk_frozen BK314.out 0; have hfz25_1 := blk_frozen BK314.out 1; have hfz25_2 := blk_frozen BK314.out 2; have hfz25_3 := blk_frozen BK314.out 3; have hfz25_4 := blk_frozen BK314.out 4; have hfz25_5 := blk_frozen BK314.out 5) | (go_at_call 12; (with_reducible refine (wherrykeep_Cmd.calls k t316 t317 t318 t319 t320 _ _ t321 a0_0 a0_1 a0_2 a0_3 a0_4 _ _ l0_5 false _ ?side1 ?side2 ?side3 ?side4 A5.out).mono ?_); (case side1 => refine (Kd.R_reads' (e := 47) (base := w.heap.size) (ok := fun k_ => True) (n := t321.length) (c := co24) ?_).2.2; exact (by (with_reducible repeat (first | apply Kd.R_alloc | apply Kd.R_drewN | apply Kd.R_drew)); exact (Kd.R_mono (Kd.R_far (p := ⟨gb325, 5, none⟩) (Kd.R_far (p := ⟨gb325, 4, none⟩) (Kd.R_far (p := ⟨gb325, 3, none⟩) (Kd.R_far (p := ⟨gb325, 2, none⟩) (Kd.R_far (p := ⟨gb325, 1, none⟩) (Kd.R_far (p := ⟨gb325, 0, none⟩) (Kd.R_types HO323.out BK325.out (by decide)) (fun _ hk => hk.2) (.int .i64 t316)) (fun _ hk => hk.2) (.string t317)) (fun _ hk => hk.2) (.bool t318)) (fun _ hk => hk.2) (.string t319)) (fun _ hk => hk.2) (.string t320)) (fun _ hk => hk.2) (.slice Ao24 t321.length co24)) (fun _ h_ => h_.1)))); (case side2 => exact (Kd.R_reads' HO323.out).2.1); (case side3 => exact Kd.C_below HR0_5.out (sB HB.out)); (case side4 => exact HC0_5.out); rintro e w26 ⟨rfl, hb⟩; replace HO323 := Aside0.mk (Kd.R_below (by (with_reducible repeat (first | apply Kd.R_alloc | apply Kd.R_drewN | apply Kd.R_drew)); exact (Kd.R_mono (Kd.R_far (p := ⟨gb325, 5, none⟩) (Kd.R_far (p := ⟨gb325, 4, none⟩) (Kd.R_far (p := ⟨gb325, 3, none⟩) (Kd.R_far (p := ⟨gb325, 2, none⟩) (Kd.R_far (p := ⟨gb325, 1, none⟩) (Kd.R_far (p := ⟨gb325, 0, none⟩) (Kd.R_types HO323.out BK325.out (by decide)) (fun _ hk => hk.2) (.int .i64 t316)) (fun _ hk => hk.2) (.string t317)) (fun _ hk => hk.2) (.bool t318)) (fun _ hk => hk.2) (.string t319)) (fun _ hk => hk.2) (.string t320)) (fun _ hk => hk.2) (.slice Ao24 t321.length co24)) (fun _ h_ => h_.1))) hb); replace BK314 := Aside0.mk (blk_below (g := gb314) (o := .cells #[.int .i64 a0_0, .string a0_1, .bool a0_2, .string a0_3, .string a0_4, .slice A0_5 l0_5.length c0_5] 26 (0, 0)) (by refine sK ?_; refine blk_far ?_ NB314_325.out _; refine sK ?_; refine blk_far ?_ NB314_325.out _; refine sK ?_; refine blk_far ?_ NB314_325.out _; refine sK ?_; refine blk_far ?_ NB314_325.out _; refine sK ?_; refine blk_far ?_ NB314_325.out _; refine sK ?_; refine blk_far ?_ NB314_325.out _; refine sK ?_; exact BK314.out) hb); replace BK325 := Aside0.mk (blk_below (g := gb325) (o := .cells #[.int .i64 t316, .string t317, .bool t318, .string t319, .string t320, .slice Ao24 t321.length co24] 26 (0, 0)) (by refine sK ?_; refine blk_put (cs := #[.int .i64 t316, .string t317, .bool t318, .string t319, .string t320, .slice none 0 0]) ?_ 5 _ rfl; refine sK ?_; refine blk_put (cs := #[.int .i64 t316, .string t317, .bool t318, .string t319, .string ⟨#[]⟩, .slice none 0 0]) ?_ 4 _ rfl; refine sK ?_; refine blk_put (cs := #[.int .i64 t316, .string t317, .bool t318, .string ⟨#[]⟩, .string ⟨#[]⟩, .slice none 0 0]) ?_ 3 _ rfl; refine sK ?_; refine blk_put (cs := #[.int .i64 t316, .string t317, .bool false, .string ⟨#[]⟩, .string ⟨#[]⟩, .slice none 0 0]) ?_ 2 _ rfl; refine sK ?_; refine blk_put (cs := #[.int .i64 t316, .string ⟨#[]⟩, .bool false, .string ⟨#[]⟩, .string ⟨#[]⟩, .slice none 0 0]) ?_ 1 _ rfl; refine sK ?_; refine blk_put (cs := #[.int .i64 0, .string ⟨#[]⟩, .bool false, .string ⟨#[]⟩, .string ⟨#[]⟩, .slice none 0 0]) ?_ 0 _ rfl; refine sK ?_; exact BK325.out) hb); replace HB := Aside0.mk (below_step (sB HB.out) hb); (try clear hb); (try clear hk)))
   go_ret2
   exact ⟨by first | rfl | (simp [errW_none, errW_some] <;> rfl) | (simp [*, errW_none, errW_some] <;> rfl), sB HB.out⟩
 ·
  rw [if_neg c4] at H
  have c4b0 : (t324 == 0) = false := beq_eq_false_iff_ne.mpr c4
  have c4b1 : (t324 != 0) = true := bne_iff_ne.mpr c4
  simp only [Option.some.injEq, Prod.mk.injEq] at H
  obtain ⟨rfl, rfl⟩ := H
  go_enter Tryz.func9, Tryz.ntmps9
  go_wp2_with (first | ((with_reducible refine gate_dst (N := 1) rfl ?_); refine box_event ?hg (N := 1) ?hd (cs := #[.int .i64 a0_0, .string a0_1, .bool a0_2, .string a0_3, .string a0_4, .slice A0_5 l0_5.length c0_5]) (t := 26) ?hr ?_; (case hd => rfl); (case hg => rfl); (case hr => first | (go_simp; done) | (go_simp; rfl)); intro gb314 hg w27 hbox hb; have BK314 := Aside0.mk (hbox); have GW314 := Aside0.mk ((by rw [hg]; exact (below_size (sB HB.out)) : w.heap.size ≤ gb314)); have GE314 := Aside0.mk ((by rw [hg]; exact (below_size (sB HB.out)) : w.heap.size ≤ gb314)); replace HB := Aside0.mk (below_step (sB HB.out) hb); clear hb hbox hg; have hcz28_0 := sC BK314.out 0; have hcz28_1 := sC BK314.out 1; have hcz28_2 := sC BK314.out 2; have hcz28_3 := sC BK314.out 3; have hcz28_4 := sC BK314.out 4; have hcz28_5 := sC BK314.out 5; have hfz28_0 := blk_frozen BK314.out 0; have hfz28_1 := blk_frozen BK314.out 1; have hfz28_2 := blk_frozen BK314.out 2; have hfz28_3 := blk_frozen BK314.out 3; have hfz28_4 := blk_frozen BK314.out 4; have hfz28_5 := blk_frozen BK314.out 5) | ((with_reducible refine gate_callee (f := 33) rfl ?_); refine goesL_ (some 8) rfl rfl Tryz.func33 (by kernel_rfl) rfl #[.agg #[.int .i64 a0_0, .string a0_1, .bool a0_2, .string a0_3, .string a0_4, .slice A0_5 l0_5.length c0_5]] rfl sM ?_; (with_reducible refine (wherryref11_line.calls k a0_0 a0_1 a0_2 a0_3 a0_4 _ _ l0_5 t315 _ ?side1 ?side2 A2.out).mono ?_); (case side1 => repeat (first | exact (Kd.C_below HR0_5.out HB.out) | (with_reducible refine Kd.C_alloc ?_ _) | (with_reducible refine Kd.C_drewN ?_ _) | (with_reducible refine Kd.C_drew ?_))); (case side2 => exact HC0_5.out); rintro e w29 ⟨rfl, hb⟩; refine ⟨_, rfl, ?_⟩; replace BK314 := Aside0.mk (blk_below (g := gb314) (o := .cells #[.int .i64 a0_0, .string a0_1, .bool a0_2, .string a0_3, .string a0_4, .slice A0_5 l0_5.length c0_5] 26 (0, 0)) (sK BK314.out) hb); replace HB := Aside0.mk (below_step (sB HB.out) hb); (try clear hb)) | ((with_reducible refine gate_callee (f := 7) rfl ?_); refine goesL_ (some 11) rfl rfl Tryz.func7 (by kernel_rfl) rfl #[.string t315] rfl sM ?_; (with_reducible refine (wherryref11_Verb.calls k t315 t316 t317 t318 t319 t320 t321 t324 _ A3.out).mono ?_); rintro e w30 ⟨v322, rfl, ho0, hb⟩; refine ⟨_, rfl, ?_⟩; have HO323 := Aside0.mk (Kd.R_lower ho0 (below_size (sB HB.out))); replace BK314 := Aside0.mk (blk_below (g := gb314) (o := .cells #[.int .i64 a0_0, .string a0_1, .bool a0_2, .string a0_3, .string a0_4, .slice A0_5 l0_5.length c0_5] 26 (0, 0)) (sK BK314.out) hb); replace HB := Aside0.mk (below_step (sB HB.out) hb); (try clear hb); (try clear ho0)) | ((with_reducible refine gate_dst (N := 5) rfl ?_); refine box_event ?hg (N := 5) ?hd (cs := #[.int .i64 0, .string ⟨#[]⟩, .bool false, .string ⟨#[]⟩, .string ⟨#[]⟩, .slice none 0 0]) (t := 26) ?hr ?_; (case hd => rfl); (case hg => rfl); (case hr => first | (go_simp; done) | (go_simp; rfl)); intro gb325 hg w31 hbox hb; replace HO323 := Aside0.mk (Kd.R_below (sR HO323.out) hb); have BK325 := Aside0.mk (hbox); have GW325 := Aside0.mk ((by rw [hg]; exact (below_size (sB HB.out)) : w.heap.size ≤ gb325)); have GE325 := Aside0.mk ((by rw [hg]; exact (below_size (sB HB.out)) : w.heap.size ≤ gb325)); replace HB := Aside0.mk (below_step (sB HB.out) hb); have NB314_325 := Aside0.mk ((by rw [hg]; exact Nat.ne_of_lt (blk_lt (g := gb314) (o := .cells #[.int .i64 a0_0, .string a0_1, .bool a0_2, .string a0_3, .string a0_4, .slice A0_5 l0_5.length c0_5] 26 (0, 0)) (sK BK314.out)) : gb314 ≠ gb325)); have NB325_314 := Aside0.mk ((by rw [hg]; exact Nat.ne_of_gt (blk_lt (g := gb314) (o := .cells #[.int .i64 a0_0, .string a0_1, .bool a0_2, .string a0_3, .string a0_4, .slice A0_5 l0_5.length c0_5] 26 (0, 0)) (sK BK314.out)) : gb325 ≠ gb314)); replace BK314 := Aside0.mk (blk_below (g := gb314) (o := .cells #[.int .i64 a0_0, .string a0_1, .bool a0_2, .string a0_3, .string a0_4, .slice A0_5 l0_5.length c0_5] 26 (0, 0)) (sK BK314.out) hb); clear hb hbox hg; have hnb32 := NB325_314.out; have hnc32 := NB314_325.out; have hcz33_0 := sC BK325.out 0; have hcz33_1 := sC BK325.out 1; have hcz33_2 := sC BK325.out 2; have hcz33_3 := sC BK325.out 3; have hcz33_4 := sC BK325.out 4; have hcz33_5 := sC BK325.out 5; have hfz33_0 := blk_frozen BK325.out 0; have hfz33_1 := blk_frozen BK325.out 1; have hfz33_2 := blk_frozen BK325.out 2; have hfz33_3 := blk_frozen BK325.out 3; have hfz33_4 := blk_frozen BK325.out 4; have hfz33_5 := blk_frozen BK325.out 5; obtain ⟨Ao34, co34, eo34⟩ := Kd.R_slice HO323.out; subst eo34))
  go_ret2
  exact ⟨by first | rfl | (simp [errW_none, errW_some] <;> rfl) | (simp [*, errW_none, errW_some] <;> rfl), sB HB.out⟩
end Go.Proofs.YthcdjgekmfnmnaaGreatDoor.PVerb
end
section
namespace Go.Proofs.YthcdjgekmfnmnaaGreatDoor.PVerb
open Go.RowKit Go.Proofs.YthcdjgekmfnmnaaGreatDoorW.PrintWords Go.Proofs.YthcdjgekmfnmnaaGreatDoorW.PrintLast Go.Proofs.YthcdjgekmfnmnaaGreatDoorW.PrintMore
attribute [local go_sem] max2_int min2_int max_two min_two max_three min_three max_four min_four
set_option linter.unusedVariables false
set_option linter.unusedSimpArgs false
def wherryref11_Param.l0 : Nat → ByteArray → Int → Int → ByteArray → Bool → ByteArray → ByteArray → List (S47) → Option (ByteArray × Bool)
 | 0, _, _, _, _, _, _, _, _ => none
 | k + 1, x1, x6, x328000, x328001, x328002, x328003, x328004, x328005 => if x6 < (x328005.length : Int) then (if 0 ≤ x6 then (if ((rd_T47 x328005 x6).f0).toList = x1.toList then (some ((rd_T47 x328005 x6).f1, true)) else (wherryref11_Param.l0 k x1 (wrap64 (x6 + 1)) x328000 x328001 x328002 x328003 x328004 x328005)) else (none)) else (some ((⟨#[]⟩ : ByteArray), false))
def wherryref11_Param.f (k : Nat) (a0_0 : Int) (a0_1 : ByteArray) (a0_2 : Bool) (a0_3 : ByteArray) (a0_4 : ByteArray) (l0_5 : List (S47)) (a1 : ByteArray) : Option (ByteArray × Bool) := wherryref11_Param.l0 k a1 0 a0_0 a0_1 a0_2 a0_3 a0_4 l0_5
set_option maxHeartbeats 8000000 in
set_option maxRecDepth 100000 in
theorem wherryref11_Param.calls (k : Nat) (a0_0 : Int) (a0_1 : ByteArray) (a0_2 : Bool) (a0_3 : ByteArray) (a0_4 : ByteArray) (A0_5 : Option Addr) (c0_5 : Nat) (l0_5 : List (S47)) (a1 : ByteArray) (r1 : ByteArray) (r2 : Bool) (w : World) (hr0_5 : Kd.C k47 w A0_5 l0_5.length l0_5) (hc0_5 : l0_5.length ≤ c0_5) (h : wherryref11_Param.f k a0_0 a0_1 a0_2 a0_3 a0_4 l0_5 a1 = some (r1, r2)) :
  Calls Tryz.prog 11 #[.agg #[.int .i64 a0_0, .string a0_1, .bool a0_2, .string a0_3, .string a0_4, .slice A0_5 l0_5.length c0_5], .string a1] w fun e w' => e = .returned (.tuple #[.string r1, .bool r2]) ∧ Below w.heap.size w w' := by
 have hu26 := Tryz.underlying26
 have HR0_5 := Aside0.mk hr0_5
 have HC0_5 := Aside0.mk hc0_5
 clear hr0_5 hc0_5
 have HB := Aside0.mk (Below.refl w.heap.size w)
 have H : (wherryref11_Param.l0 k a1 0 a0_0 a0_1 a0_2 a0_3 a0_4 l0_5) = some (r1, r2) := h
 clear h
 have H' := Aside0.mk H
 clear H
 go_enter Tryz.func11, Tryz.ntmps11
 go_wp2_with (first | ((with_reducible refine gate_dst (N := 2) rfl ?_); refine box_event ?hg (N := 2) ?hd (cs := #[.int .i64 a0_0, .string a0_1, .bool a0_2, .string a0_3, .string a0_4, .slice A0_5 l0_5.length c0_5]) (t := 26) ?hr ?_; (case hd => rfl); (case hg => rfl); (case hr => first | (go_simp; done) | (go_simp; rfl)); intro gb327 hg w3 hbox hb; have BK327 := Aside0.mk (hbox); have GW327 := Aside0.mk ((by rw [hg]; exact (below_size (sB HB.out)) : w.heap.size ≤ gb327)); have GE327 := Aside0.mk ((by rw [hg]; exact (below_size (sB HB.out)) : w.heap.size ≤ gb327)); replace HB := Aside0.mk (below_step (sB HB.out) hb); clear hb hbox hg))
 go_loopg [6] k (fun kq v6 w' => ∃ (x6_1 : Int), v6 = .int .i64 x6_1 ∧ Aside0 (wherryref11_Param.l0 kq a1 x6_1 a0_0 a0_1 a0_2 a0_3 a0_4 l0_5 = some (r1, r2)) ∧ Aside0 (kq ≤ k) ∧ Aside0 (w'.heap[gb327]? = some (.cells #[.int .i64 a0_0, .string a0_1, .bool a0_2, .string a0_3, .string a0_4, (.slice A0_5 l0_5.length c0_5)] 26 (0, 0))) ∧ Aside0 (Below w.heap.size w w'))
 case atStart => exact ⟨(0), (by first | rfl | (simp; done) | (simp [*]; done)), H', ⟨Nat.le_refl _⟩, ⟨by refine sK ?_; exact BK327.out⟩, ⟨sB HB.out⟩⟩
 case round =>
  clear H'
  try clear c1; try clear p2
  obtain ⟨x6_1, rfl, HA, HK1, BK327, HB⟩ := hrel
  cases gk with
  | zero => exact absurd HA.out (by simp [wherryref11_Param.l0])
  | succ k1 =>
   have H := HA.out
   clear HA
   simp only [wherryref11_Param.l0] at H
   by_cases c4 : x6_1 < (l0_5.length : Int)
   ·
    rw [if_pos c4] at H
    have c4b0 : decide (x6_1 < (l0_5.length : Int)) = true := decide_eq_true c4
    clear c4
    by_cases c5 : 0 ≤ x6_1
    ·
     rw [if_pos c5] at H
     have c5b0 : decide (0 ≤ x6_1) = true := decide_eq_true c5
     clear c5
     by_cases c6 : ((rd_T47 l0_5 x6_1).f0).toList = a1.toList
     ·
      rw [if_pos c6] at H
      have c6b0 : (((rd_T47 l0_5 x6_1).f0).toList == a1.toList) = true := beq_iff_eq.mpr c6
      have c6b1 : (((rd_T47 l0_5 x6_1).f0).toList != a1.toList) = false := bne_eq_false_iff_eq.mpr c6
      clear c6
      simp only [Option.some.injEq, Prod.mk.injEq] at H
      obtain ⟨rfl, rfl⟩ := H
      have hcz7_0 := sC BK327.out 0
      have hcz7_1 := sC BK327.out 1
      have hcz7_2 := sC BK327.out 2
      have hcz7_3 := sC BK327.out 3
      have hcz7_4 := sC BK327.out 4
      have hcz7_5 := sC BK327.out 5
      have hfz7_0 := blk_frozen BK327.out 0
      have hfz7_1 := blk_frozen BK327.out 1
      have hfz7_2 := blk_frozen BK327.out 2
      have hfz7_3 := blk_frozen BK327.out 3
      have hfz7_4 := blk_frozen BK327.out 4
      have hfz7_5 := blk_frozen BK327.out 5
      have p328 : 0 ≤ (x6_1 : Int) := of_decide_eq_true sA
      have q328 : x6_1 < (l0_5.length : Int) := of_decide_eq_true sA
      obtain ⟨ad328, e328, hx328_0, hx328_1⟩ := at_T47 HR0_5.out x6_1 p328 q328
      cases e328
      replace hx328_0 := (HB.out.cell (World.block_lt_of_cell? w _ hx328_0)).trans hx328_0
      replace hx328_1 := (HB.out.cell (World.block_lt_of_cell? w _ hx328_1)).trans hx328_1
      replace p328 := eq_true p328
      replace q328 := eq_true q328
      have p329 : 0 ≤ (x6_1 : Int) := of_decide_eq_true sA
      have q329 : x6_1 < (l0_5.length : Int) := of_decide_eq_true sA
      obtain ⟨ad329, e329, hx329_0, hx329_1⟩ := at_T47 HR0_5.out x6_1 p329 q329
      obtain rfl : ad328 = ad329 := (by injection e329)
      replace hx329_0 := (HB.out.cell (World.block_lt_of_cell? w _ hx329_0)).trans hx329_0
      replace hx329_1 := (HB.out.cell (World.block_lt_of_cell? w _ hx329_1)).trans hx329_1
      replace p329 := eq_true p329
      replace q329 := eq_true q329
      go_wp2
      go_ret2
      exact ⟨by first | rfl | (simp [errW_none, errW_some] <;> rfl) | (simp [*, errW_none, errW_some] <;> rfl), sB HB.out⟩
     ·
      rw [if_neg c6] at H
      have c6b0 : (((rd_T47 l0_5 x6_1).f0).toList == a1.toList) = false := beq_eq_false_iff_ne.mpr c6
      have c6b1 : (((rd_T47 l0_5 x6_1).f0).toList != a1.toList) = true := bne_iff_ne.mpr c6
      have H' := Aside0.mk H
      clear H
      have hcz8_0 := sC BK327.out 0
      have hcz8_1 := sC BK327.out 1
      have hcz8_2 := sC BK327.out 2
      have hcz8_3 := sC BK327.out 3
      have hcz8_4 := sC BK327.out 4
      have hcz8_5 := sC BK327.out 5
      have hfz8_0 := blk_frozen BK327.out 0
      have hfz8_1 := blk_frozen BK327.out 1
      have hfz8_2 := blk_frozen BK327.out 2
      have hfz8_3 := blk_frozen BK327.out 3
      have hfz8_4 := blk_frozen BK327.out 4
      have hfz8_5 := blk_frozen BK327.out 5
      have p328 : 0 ≤ (x6_1 : Int) := of_decide_eq_true sA
      have q328 : x6_1 < (l0_5.length : Int) := of_decide_eq_true sA
      obtain ⟨ad328, e328, hx328_0, hx328_1⟩ := at_T47 HR0_5.out x6_1 p328 q328
      cases e328
      replace hx328_0 := (HB.out.cell (World.block_lt_of_cell? w _ hx328_0)).trans hx328_0
      replace hx328_1 := (HB.out.cell (World.block_lt_of_cell? w _ hx328_1)).trans hx328_1
      replace p328 := eq_true p328
      replace q328 := eq_true q328
      go_wp2
      go_roundg k1
      case measure => have := HK1.out; omega
      case rel => exact ⟨(wrap64 (x6_1 + 1)), (by first | rfl | (simp; done) | (simp [*]; done)), H', ⟨by have := HK1.out; omega⟩, ⟨by refine sK ?_; exact BK327.out⟩, ⟨sB HB.out⟩⟩
    ·
     rw [if_neg c5] at H
     exact absurd H (by simp)
   ·
    rw [if_neg c4] at H
    have c4b0 : decide (x6_1 < (l0_5.length : Int)) = false := decide_eq_false c4
    clear c4
    simp only [Option.some.injEq, Prod.mk.injEq] at H
    obtain ⟨rfl, rfl⟩ := H
    have hcz9_0 := sC BK327.out 0
    have hcz9_1 := sC BK327.out 1
    have hcz9_2 := sC BK327.out 2
    have hcz9_3 := sC BK327.out 3
    have hcz9_4 := sC BK327.out 4
    have hcz9_5 := sC BK327.out 5
    have hfz9_0 := blk_frozen BK327.out 0
    have hfz9_1 := blk_frozen BK327.out 1
    have hfz9_2 := blk_frozen BK327.out 2
    have hfz9_3 := blk_frozen BK327.out 3
    have hfz9_4 := blk_frozen BK327.out 4
    have hfz9_5 := blk_frozen BK327.out 5
    go_wp2
    go_ret2
    exact ⟨by first | rfl | (simp [errW_none, errW_some] <;> rfl) | (simp [*, errW_none, errW_some] <;> rfl), sB HB.out⟩
end Go.Proofs.YthcdjgekmfnmnaaGreatDoor.PVerb
end
section
namespace Go.Proofs.YthcdjgekmfnmnaaGreatDoor.PVerb
open Go.RowKit Go.Proofs.YthcdjgekmfnmnaaGreatDoorW.PrintWords Go.Proofs.YthcdjgekmfnmnaaGreatDoorW.PrintLast Go.Proofs.YthcdjgekmfnmnaaGreatDoorW.PrintMore
attribute [local go_sem] max2_int min2_int max_two min_two max_three min_three max_four min_four
set_option linter.unusedVariables false
set_option linter.unusedSimpArgs false
def wherrylaw12_wakes.f (k : Nat)  : Option (Bool) := (verb_Parse.f k (⟨#[109, 97, 105, 108, 32, 102, 114, 111, 109, 58, 60, 62, 32, 115, 105, 122, 101, 61, 53]⟩ : ByteArray)).bind fun bt330 => ((verb_Text.f k bt330.1 bt330.2.1 bt330.2.2.1 bt330.2.2.2.1 bt330.2.2.2.2.1 bt330.2.2.2.2.2.1).bind fun bt340 => ((verb_Param.f bt330.1 bt330.2.1 bt330.2.2.1 bt330.2.2.2.1 bt330.2.2.2.2.1 bt330.2.2.2.2.2.1 (⟨#[83, 73, 90, 69]⟩ : ByteArray)).bind fun bt342 => ((verb_Parse.f k (⟨#[70, 82, 79, 66]⟩ : ByteArray)).bind fun bt344 => (if bt330.2.2.2.2.2.2 = 0 then (if bt340.2 = 0 then (if bt330.1 = 2 then (if bt330.2.2.1 = true then (if bt340.1.toList = ([77, 65, 73, 76, 32, 70, 82, 79, 77, 58, 60, 62, 32, 83, 73, 90, 69, 61, 53] : List UInt8) then (if bt342.2 = true then (if bt342.1.toList = ([53] : List UInt8) then (some (bt344.2.2.2.2.2.2 == 500)) else (some false)) else (some false)) else (some false)) else (some false)) else (some false)) else (some false)) else (some false)))))
theorem wherrylaw12_wakes.mono : ∀ k, LeO (wherrylaw12_wakes.f k ) (wherrylaw12_wakes.f (k + 1) ) := by
 intro  k
 unfold wherrylaw12_wakes.f
 repeat' first
   | (with_reducible exact verb_Parse.mono _ _)
   | (with_reducible exact verb_Text.mono _ _ _ _ _ _ _)
   | (with_reducible exact LeO.refl _)
   | (with_reducible exact LeO.none _)
   | (with_reducible refine LeO.ite ?_ ?_)
   | (with_reducible refine LeO.bind ?_ (fun _ => ?_))
   | exact verb_Parse.mono _ _
   | exact verb_Text.mono _ _ _ _ _ _ _
   | exact LeO.none _
   | refine LeO.ite ?_ ?_
   | refine LeO.bind ?_ (fun _ => ?_)
set_option maxHeartbeats 8000000 in
set_option maxRecDepth 100000 in
theorem wherrylaw12_wakes.calls (k : Nat)  (r : Bool) (w : World) (hG : Glob w) (hrt : r = true) (h : wherrylaw12_wakes.f k  = some r) :
  Calls Tryz.prog 13 #[] w fun e w' => e = .returned (.bool r) ∧ Below w.heap.size w w' := by
 have hu26 := Tryz.underlying26
 have HB := Aside0.mk (Below.refl w.heap.size w)
 have HG := Aside0.mk hG
 clear hG
 have HRT := Aside0.mk hrt
 clear hrt
 have H : ((verb_Parse.f k (⟨#[109, 97, 105, 108, 32, 102, 114, 111, 109, 58, 60, 62, 32, 115, 105, 122, 101, 61, 53]⟩ : ByteArray)).bind fun bt330 => ((verb_Text.f k bt330.1 bt330.2.1 bt330.2.2.1 bt330.2.2.2.1 bt330.2.2.2.2.1 bt330.2.2.2.2.2.1).bind fun bt340 => ((verb_Param.f bt330.1 bt330.2.1 bt330.2.2.1 bt330.2.2.2.1 bt330.2.2.2.2.1 bt330.2.2.2.2.2.1 (⟨#[83, 73, 90, 69]⟩ : ByteArray)).bind fun bt342 => ((verb_Parse.f k (⟨#[70, 82, 79, 66]⟩ : ByteArray)).bind fun bt344 => (if bt330.2.2.2.2.2.2 = 0 then (if bt340.2 = 0 then (if bt330.1 = 2 then (if bt330.2.2.1 = true then (if bt340.1.toList = ([77, 65, 73, 76, 32, 70, 82, 79, 77, 58, 60, 62, 32, 83, 73, 90, 69, 61, 53] : List UInt8) then (if bt342.2 = true then (if bt342.1.toList = ([53] : List UInt8) then (some (bt344.2.2.2.2.2.2 == 500)) else (some false)) else (some false)) else (some false)) else (some false)) else (some false)) else (some false)) else (some false)))))) = some r := h
 clear h
 replace H := Option.bind_eq_some_iff.mp H
 obtain ⟨⟨t330, t331, t332, t333, t334, t335, t338⟩, A10, H⟩ := H
 try dsimp -simprocs only at H
 have A1 := Aside0.mk A10
 clear A10
 replace H := Option.bind_eq_some_iff.mp H
 obtain ⟨⟨t340, t341⟩, A20, H⟩ := H
 try dsimp -simprocs only at H
 have A2 := Aside0.mk A20
 clear A20
 replace H := Option.bind_eq_some_iff.mp H
 obtain ⟨⟨t342, t343⟩, A30, H⟩ := H
 try dsimp -simprocs only at H
 have A3 := Aside0.mk A30
 clear A30
 replace H := Option.bind_eq_some_iff.mp H
 obtain ⟨⟨t344, t345, t346, t347, t348, t349, t352⟩, A40, H⟩ := H
 try dsimp -simprocs only at H
 have A4 := Aside0.mk A40
 clear A40
 by_cases c5 : t338 = 0
 ·
  rw [if_pos c5] at H
  have c5b0 : (t338 == 0) = true := beq_iff_eq.mpr c5
  have c5b1 : (t338 != 0) = false := bne_eq_false_iff_eq.mpr c5
  clear c5
  by_cases c6 : t341 = 0
  ·
   rw [if_pos c6] at H
   have c6b0 : (t341 == 0) = true := beq_iff_eq.mpr c6
   have c6b1 : (t341 != 0) = false := bne_eq_false_iff_eq.mpr c6
   clear c6
   by_cases c7 : t330 = 2
   ·
    rw [if_pos c7] at H
    have c7b0 : (t330 == 2) = true := beq_iff_eq.mpr c7
    have c7b1 : (t330 != 2) = false := bne_eq_false_iff_eq.mpr c7
    clear c7
    by_cases c8 : t332 = true
    ·
     subst c8
     rw [if_pos rfl] at H
     try dsimp -simprocs only at H
     by_cases c9 : t340.toList = ([77, 65, 73, 76, 32, 70, 82, 79, 77, 58, 60, 62, 32, 83, 73, 90, 69, 61, 53] : List UInt8)
     ·
      rw [if_pos c9] at H
      have c9b0 : (t340.toList == ([77, 65, 73, 76, 32, 70, 82, 79, 77, 58, 60, 62, 32, 83, 73, 90, 69, 61, 53] : List UInt8)) = true := beq_iff_eq.mpr c9
      have c9b1 : (t340.toList != ([77, 65, 73, 76, 32, 70, 82, 79, 77, 58, 60, 62, 32, 83, 73, 90, 69, 61, 53] : List UInt8)) = false := bne_eq_false_iff_eq.mpr c9
      clear c9
      by_cases c10 : t343 = true
      ·
       subst c10
       rw [if_pos rfl] at H
       try dsimp -simprocs only at H
       by_cases c11 : t342.toList = ([53] : List UInt8)
       ·
        rw [if_pos c11] at H
        have c11b0 : (t342.toList == ([53] : List UInt8)) = true := beq_iff_eq.mpr c11
        have c11b1 : (t342.toList != ([53] : List UInt8)) = false := bne_eq_false_iff_eq.mpr c11
        clear c11
        obtain rfl := Option.some.inj H
        go_enter Tryz.func13, Tryz.ntmps13
        go_wp2_with (first | ((with_reducible refine gate_callee (f := 6) rfl ?_); refine goesL_ (some 10) rfl rfl Tryz.func6 (by kernel_rfl) rfl #[.string ⟨#[109, 97, 105, 108, 32, 102, 114, 111, 109, 58, 60, 62, 32, 115, 105, 122, 101, 61, 53]⟩] rfl sM ?_; (with_reducible refine (verb_Parse.calls k (⟨#[109, 97, 105, 108, 32, 102, 114, 111, 109, 58, 60, 62, 32, 115, 105, 122, 101, 61, 53]⟩ : ByteArray) t330 t331 true t333 t334 t335 t338 _ ?side1 A1.out).mono ?_); (case side1 => exact Glob.below HG.out (sB HB.out)); rintro e w12 ⟨v336, rfl, ho0, hb⟩; refine ⟨_, rfl, ?_⟩; have HO337 := Aside0.mk (Kd.R_lower ho0 (below_size (sB HB.out))); replace HB := Aside0.mk (below_step (sB HB.out) hb); (try clear hb); (try clear ho0)) | ((with_reducible refine gate_dst (N := 1) rfl ?_); refine box_event ?hg (N := 1) ?hd (cs := #[.int .i64 0, .string ⟨#[]⟩, .bool false, .string ⟨#[]⟩, .string ⟨#[]⟩, .slice none 0 0]) (t := 26) ?hr ?_; (case hd => rfl); (case hg => rfl); (case hr => first | (go_simp; done) | (go_simp; rfl)); intro gb339 hg w13 hbox hb; replace HO337 := Aside0.mk (Kd.R_below (sR HO337.out) hb); have BK339 := Aside0.mk (hbox); have GW339 := Aside0.mk ((by rw [hg]; exact (below_size (sB HB.out)) : w.heap.size ≤ gb339)); have GE339 := Aside0.mk ((by rw [hg]; exact (below_size (sB HB.out)) : w.heap.size ≤ gb339)); replace HB := Aside0.mk (below_step (sB HB.out) hb); clear hb hbox hg; have hcz14_0 := sC BK339.out 0; have hcz14_1 := sC BK339.out 1; have hcz14_2 := sC BK339.out 2; have hcz14_3 := sC BK339.out 3; have hcz14_4 := sC BK339.out 4; have hcz14_5 := sC BK339.out 5; have hfz14_0 := blk_frozen BK339.out 0; have hfz14_1 := blk_frozen BK339.out 1; have hfz14_2 := blk_frozen BK339.out 2; have hfz14_3 := blk_frozen BK339.out 3; have hfz14_4 := blk_frozen BK339.out 4; have hfz14_5 := blk_frozen BK339.out 5; obtain ⟨Ao15, co15, eo15⟩ := Kd.R_slice HO337.out; subst eo15) | ((with_reducible refine gate_callee (f := 8) rfl ?_); refine goesL_ (some 15) rfl rfl Tryz.func8 (by kernel_rfl) rfl #[.agg #[.int .i64 t330, .string t331, .bool true, .string t333, .string t334, .slice Ao15 t335.length co15]] rfl sM ?_; (with_reducible refine (verb_Text.calls k t330 t331 true t333 t334 _ _ t335 t340 t341 _ ?side1 ?side2 ?side3 A2.out).mono ?_); (case side1 => exact Glob.below HG.out (sB HB.out)); (case side2 => refine (Kd.R_reads' (e := 47) (base := w.heap.size) (ok := fun k_ => True) (n := t335.length) (c := co15) ?_).2.2; exact (by (with_reducible repeat (first | apply Kd.R_alloc | apply Kd.R_drewN | apply Kd.R_drew)); exact (Kd.R_mono (Kd.R_far (p := ⟨gb339, 5, none⟩) (Kd.R_far (p := ⟨gb339, 4, none⟩) (Kd.R_far (p := ⟨gb339, 3, none⟩) (Kd.R_far (p := ⟨gb339, 2, none⟩) (Kd.R_far (p := ⟨gb339, 1, none⟩) (Kd.R_far (p := ⟨gb339, 0, none⟩) (Kd.R_types HO337.out BK339.out (by decide)) (fun _ hk => hk.2) (.int .i64 t330)) (fun _ hk => hk.2) (.string t331)) (fun _ hk => hk.2) (.bool true)) (fun _ hk => hk.2) (.string t333)) (fun _ hk => hk.2) (.string t334)) (fun _ hk => hk.2) (.slice Ao15 t335.length co15)) (fun _ h_ => h_.1)))); (case side3 => exact (Kd.R_reads' HO337.out).2.1); rintro e w16 ⟨rfl, hb⟩; refine ⟨_, rfl, ?_⟩; replace HO337 := Aside0.mk (Kd.R_below (by (with_reducible repeat (first | apply Kd.R_alloc | apply Kd.R_drewN | apply Kd.R_drew)); exact (Kd.R_mono (Kd.R_far (p := ⟨gb339, 5, none⟩) (Kd.R_far (p := ⟨gb339, 4, none⟩) (Kd.R_far (p := ⟨gb339, 3, none⟩) (Kd.R_far (p := ⟨gb339, 2, none⟩) (Kd.R_far (p := ⟨gb339, 1, none⟩) (Kd.R_far (p := ⟨gb339, 0, none⟩) (Kd.R_types HO337.out BK339.out (by decide)) (fun _ hk => hk.2) (.int .i64 t330)) (fun _ hk => hk.2) (.string t331)) (fun _ hk => hk.2) (.bool true)) (fun _ hk => hk.2) (.string t333)) (fun _ hk => hk.2) (.string t334)) (fun _ hk => hk.2) (.slice Ao15 t335.length co15)) (fun _ h_ => h_.1))) hb); replace BK339 := Aside0.mk (blk_below (g := gb339) (o := .cells #[.int .i64 t330, .string t331, .bool true, .string t333, .string t334, .slice Ao15 t335.length co15] 26 (0, 0)) (by refine sK ?_; refine blk_put (cs := #[.int .i64 t330, .string t331, .bool true, .string t333, .string t334, .slice none 0 0]) ?_ 5 _ rfl; refine sK ?_; refine blk_put (cs := #[.int .i64 t330, .string t331, .bool true, .string t333, .string ⟨#[]⟩, .slice none 0 0]) ?_ 4 _ rfl; refine sK ?_; refine blk_put (cs := #[.int .i64 t330, .string t331, .bool true, .string ⟨#[]⟩, .string ⟨#[]⟩, .slice none 0 0]) ?_ 3 _ rfl; refine sK ?_; refine blk_put (cs := #[.int .i64 t330, .string t331, .bool false, .string ⟨#[]⟩, .string ⟨#[]⟩, .slice none 0 0]) ?_ 2 _ rfl; refine sK ?_; refine blk_put (cs := #[.int .i64 t330, .string ⟨#[]⟩, .bool false, .string ⟨#[]⟩, .string ⟨#[]⟩, .slice none 0 0]) ?_ 1 _ rfl; refine sK ?_; refine blk_put (cs := #[.int .i64 0, .string ⟨#[]⟩, .bool false, .string ⟨#[]⟩, .string ⟨#[]⟩, .slice none 0 0]) ?_ 0 _ rfl; refine sK ?_; exact BK339.out) hb); replace HB := Aside0.mk (below_step (sB HB.out) hb); (try clear hb); (try clear hk); have hcz17_0 := sC BK339.out 0; have hcz17_1 := sC BK339.out 1; have hcz17_2 := sC BK339.out 2; have hcz17_3 := sC BK339.out 3; have hcz17_4 := sC BK339.out 4; have hcz17_5 := sC BK339.out 5; have hfz17_0 := blk_frozen BK339.out 0; have hfz17_1 := blk_frozen BK339.out 1; have hfz17_2 := blk_frozen BK339.out 2; have hfz17_3 := blk_frozen BK339.out 3; have hfz17_4 := blk_frozen BK339.out 4; have hfz17_5 := blk_frozen BK339.out 5) | ((with_reducible refine gate_callee (f := 10) rfl ?_); refine goesL_ (some 20) rfl rfl Tryz.func10 (by kernel_rfl) rfl #[.agg #[.int .i64 t330, .string t331, .bool true, .string t333, .string t334, .slice Ao15 t335.length co15], .string ⟨#[83, 73, 90, 69]⟩] rfl sM ?_; (with_reducible refine (verb_Param.calls t330 t331 true t333 t334 _ _ t335 (⟨#[83, 73, 90, 69]⟩ : ByteArray) t342 true _ ?side1 ?side2 A3.out).mono ?_); (case side1 => repeat (first | exact (Kd.R_reads' HO337.out).2.2 | (with_reducible refine Kd.C_alloc ?_ _) | (with_reducible refine Kd.C_drewN ?_ _) | (with_reducible refine Kd.C_drew ?_))); (case side2 => exact (Kd.R_reads' HO337.out).2.1); rintro e w18 ⟨rfl, hb⟩; refine ⟨_, rfl, ?_⟩; replace HO337 := Aside0.mk (Kd.R_below (sR HO337.out) hb); replace BK339 := Aside0.mk (blk_below (g := gb339) (o := .cells #[.int .i64 t330, .string t331, .bool true, .string t333, .string t334, .slice Ao15 t335.length co15] 26 (0, 0)) (sK BK339.out) hb); replace HB := Aside0.mk (below_step (sB HB.out) hb); (try clear hb)) | ((with_reducible refine gate_callee (f := 6) rfl ?_); refine goesL_ (some 24) rfl rfl Tryz.func6 (by kernel_rfl) rfl #[.string ⟨#[70, 82, 79, 66]⟩] rfl sM ?_; (with_reducible refine (verb_Parse.calls k (⟨#[70, 82, 79, 66]⟩ : ByteArray) t344 t345 t346 t347 t348 t349 t352 _ ?side1 A4.out).mono ?_); (case side1 => exact Glob.below HG.out (sB HB.out)); rintro e w19 ⟨v350, rfl, ho0, hb⟩; refine ⟨_, rfl, ?_⟩; have HO351 := Aside0.mk (Kd.R_lower (Kd.R_new' ho0 (Kd.R_lt (sR HO337.out))) (below_size (sB HB.out))); replace HO337 := Aside0.mk (Kd.R_elder' (sR HO337.out) (Kd.R_base ho0) hb); replace BK339 := Aside0.mk (blk_below (g := gb339) (o := .cells #[.int .i64 t330, .string t331, .bool true, .string t333, .string t334, .slice Ao15 t335.length co15] 26 (0, 0)) (sK BK339.out) hb); replace HB := Aside0.mk (below_step (sB HB.out) hb); (try clear hb); (try clear ho0)) | ((with_reducible refine gate_dst (N := 7) rfl ?_); refine box_event ?hg (N := 7) ?hd (cs := #[.int .i64 0, .string ⟨#[]⟩, .bool false, .string ⟨#[]⟩, .string ⟨#[]⟩, .slice none 0 0]) (t := 26) ?hr ?_; (case hd => rfl); (case hg => rfl); (case hr => first | (go_simp; done) | (go_simp; rfl)); intro gb353 hg w20 hbox hb; replace HO337 := Aside0.mk (Kd.R_below (sR HO337.out) hb); replace HO351 := Aside0.mk (Kd.R_below (sR HO351.out) hb); have BK353 := Aside0.mk (hbox); have GW353 := Aside0.mk ((by rw [hg]; exact (below_size (sB HB.out)) : w.heap.size ≤ gb353)); have GE353 := Aside0.mk ((by rw [hg]; exact (below_size (sB HB.out)) : w.heap.size ≤ gb353)); replace HB := Aside0.mk (below_step (sB HB.out) hb); have NB339_353 := Aside0.mk ((by rw [hg]; exact Nat.ne_of_lt (blk_lt (g := gb339) (o := .cells #[.int .i64 t330, .string t331, .bool true, .string t333, .string t334, .slice Ao15 t335.length co15] 26 (0, 0)) (sK BK339.out)) : gb339 ≠ gb353)); have NB353_339 := Aside0.mk ((by rw [hg]; exact Nat.ne_of_gt (blk_lt (g := gb339) (o := .cells #[.int .i64 t330, .string t331, .bool true, .string t333, .string t334, .slice Ao15 t335.length co15] 26 (0, 0)) (sK BK339.out)) : gb353 ≠ gb339)); replace BK339 := Aside0.mk (blk_below (g := gb339) (o := .cells #[.int .i64 t330, .string t331, .bool true, .string t333, .string t334, .slice Ao15 t335.length co15] 26 (0, 0)) (sK BK339.out) hb); clear hb hbox hg; have hnb21 := NB353_339.out; have hnc21 := NB339_353.out; have hcz22_0 := sC BK353.out 0; have hcz22_1 := sC BK353.out 1; have hcz22_2 := sC BK353.out 2; have hcz22_3 := sC BK353.out 3; have hcz22_4 := sC BK353.out 4; have hcz22_5 := sC BK353.out 5; have hfz22_0 := blk_frozen BK353.out 0; have hfz22_1 := blk_frozen BK353.out 1; have hfz22_2 := blk_frozen BK353.out 2; have hfz22_3 := blk_frozen BK353.out 3; have hfz22_4 := blk_frozen BK353.out 4; have hfz22_5 := blk_frozen BK353.out 5; obtain ⟨Ao23, co23, eo23⟩ := Kd.R_slice HO351.out; subst eo23; have hcz24_0 := sC BK339.out 0; have hcz24_1 := sC BK339.out 1; have hcz24_2 := sC BK339.out 2; have hcz24_3 := sC BK339.out 3; have hcz24_4 := sC BK339.out 4; have hcz24_5 := sC BK339.out 5; have hfz24_0 := blk_frozen BK339.out 0; have hfz24_1 := blk_frozen BK339.out 1; have hfz24_2 := blk_frozen BK339.out 2; have hfz24_3 := blk_frozen BK339.out 3; have hfz24_4 := blk_frozen BK339.out 4; have hfz24_5 := blk_frozen BK339.out 5))
        go_ret
        exact ⟨by first | rfl | (simp [errW_none, errW_some] <;> rfl) | (simp [*, errW_none, errW_some] <;> rfl), sB HB.out⟩
       ·
        rw [if_neg c11] at H
        have c11b0 : (t342.toList == ([53] : List UInt8)) = false := beq_eq_false_iff_ne.mpr c11
        have c11b1 : (t342.toList != ([53] : List UInt8)) = true := bne_iff_ne.mpr c11
        rw [HRT.out] at H
        exact absurd H (by decide)
      ·
       replace c10 := Bool.eq_false_iff.mpr c10
       subst c10
       rw [if_neg (show ¬ (false = true) by decide)] at H
       try dsimp -simprocs only at H
       rw [HRT.out] at H
       exact absurd H (by decide)
     ·
      rw [if_neg c9] at H
      have c9b0 : (t340.toList == ([77, 65, 73, 76, 32, 70, 82, 79, 77, 58, 60, 62, 32, 83, 73, 90, 69, 61, 53] : List UInt8)) = false := beq_eq_false_iff_ne.mpr c9
      have c9b1 : (t340.toList != ([77, 65, 73, 76, 32, 70, 82, 79, 77, 58, 60, 62, 32, 83, 73, 90, 69, 61, 53] : List UInt8)) = true := bne_iff_ne.mpr c9
      rw [HRT.out] at H
      exact absurd H (by decide)
    ·
     replace c8 := Bool.eq_false_iff.mpr c8
     subst c8
     rw [if_neg (show ¬ (false = true) by decide)] at H
     try dsimp -simprocs only at H
     rw [HRT.out] at H
     exact absurd H (by decide)
   ·
    rw [if_neg c7] at H
    have c7b0 : (t330 == 2) = false := beq_eq_false_iff_ne.mpr c7
    have c7b1 : (t330 != 2) = true := bne_iff_ne.mpr c7
    rw [HRT.out] at H
    exact absurd H (by decide)
  ·
   rw [if_neg c6] at H
   have c6b0 : (t341 == 0) = false := beq_eq_false_iff_ne.mpr c6
   have c6b1 : (t341 != 0) = true := bne_iff_ne.mpr c6
   rw [HRT.out] at H
   exact absurd H (by decide)
 ·
  rw [if_neg c5] at H
  have c5b0 : (t338 == 0) = false := beq_eq_false_iff_ne.mpr c5
  have c5b1 : (t338 != 0) = true := bne_iff_ne.mpr c5
  rw [HRT.out] at H
  exact absurd H (by decide)
end Go.Proofs.YthcdjgekmfnmnaaGreatDoor.PVerb
end
