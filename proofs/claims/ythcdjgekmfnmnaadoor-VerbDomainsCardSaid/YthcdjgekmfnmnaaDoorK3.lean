/- Parts of the proof, put together by program. -/
import Derived.Test.YthcdjgekmfnmnaaDoorK2
section
namespace Go.Proofs.YthcdjgekmfnmnaaDoor.PVerb
open Go.RowKit Go.Proofs.YthcdjgekmfnmnaaDoorW.PrintWords Go.Proofs.YthcdjgekmfnmnaaDoorW.PrintLast Go.Proofs.YthcdjgekmfnmnaaDoorW.PrintMore
attribute [local go_sem] max2_int min2_int max_two min_two max_three min_three max_four min_four
set_option linter.unusedVariables false
set_option linter.unusedSimpArgs false
def verb_mailbox.f (a0 : Int) (a1 : ByteArray) : Option (Int × ByteArray × Bool × ByteArray × ByteArray × (List (S46)) × Bool) := (strings_Split.f a1 (⟨#[32]⟩ : ByteArray)).bind fun t139 => (if 0 < (t139.length : Int) then ((path_Parse.f (rdOf ByteArray.empty t139 0)).bind fun bt143 => (if 1 ≤ (t139.length : Int) then ((verb_params.f a0 (t139.drop 1)).bind fun bt152 => (if bt143.2.2.2 = 0 then (if bt152.2 = true then (if a0 = 3 then (if bt143.1 = true then (some (0, (⟨#[]⟩ : ByteArray), false, (⟨#[]⟩ : ByteArray), (⟨#[]⟩ : ByteArray), ([] : List (S46)), false)) else (some (a0, (⟨#[]⟩ : ByteArray), bt143.1, bt143.2.1, bt143.2.2.1, bt152.1, true))) else (some (a0, (⟨#[]⟩ : ByteArray), bt143.1, bt143.2.1, bt143.2.2.1, bt152.1, true))) else (some (0, (⟨#[]⟩ : ByteArray), false, (⟨#[]⟩ : ByteArray), (⟨#[]⟩ : ByteArray), ([] : List (S46)), false))) else (some (0, (⟨#[]⟩ : ByteArray), false, (⟨#[]⟩ : ByteArray), (⟨#[]⟩ : ByteArray), ([] : List (S46)), false)))) else (none))) else (none))
set_option maxHeartbeats 8000000 in
set_option maxRecDepth 100000 in
theorem verb_mailbox.calls (a0 : Int) (a1 : ByteArray) (r1 : Int) (r2 : ByteArray) (r3 : Bool) (r4 : ByteArray) (r5 : ByteArray) (r6 : List (S46)) (r7 : Bool) (w : World) (hG : Glob w) (h : verb_mailbox.f a0 a1 = some (r1, r2, r3, r4, r5, r6, r7)) :
    Calls Tryd.prog 34 #[.int .i64 a0, .string a1] w fun e w' => ∃ v5_ : Value, e = .returned (.tuple #[.agg #[.int .i64 r1, .string r2, .bool r3, .string r4, .string r5, v5_], .bool r7]) ∧ Kd.R k46 46 w' w.heap.size (fun _ => True) v5_ r6 ∧ Below w.heap.size w w' := by
  have hu26 := Tryd.underlying26
  have hu23 := Tryd.underlying23
  have HB := Aside0.mk (Below.refl w.heap.size w)
  have HG := Aside0.mk hG
  clear hG
  have H : ((strings_Split.f a1 (⟨#[32]⟩ : ByteArray)).bind fun t139 => (if 0 < (t139.length : Int) then ((path_Parse.f (rdOf ByteArray.empty t139 0)).bind fun bt143 => (if 1 ≤ (t139.length : Int) then ((verb_params.f a0 (t139.drop 1)).bind fun bt152 => (if bt143.2.2.2 = 0 then (if bt152.2 = true then (if a0 = 3 then (if bt143.1 = true then (some (0, (⟨#[]⟩ : ByteArray), false, (⟨#[]⟩ : ByteArray), (⟨#[]⟩ : ByteArray), ([] : List (S46)), false)) else (some (a0, (⟨#[]⟩ : ByteArray), bt143.1, bt143.2.1, bt143.2.2.1, bt152.1, true))) else (some (a0, (⟨#[]⟩ : ByteArray), bt143.1, bt143.2.1, bt143.2.2.1, bt152.1, true))) else (some (0, (⟨#[]⟩ : ByteArray), false, (⟨#[]⟩ : ByteArray), (⟨#[]⟩ : ByteArray), ([] : List (S46)), false))) else (some (0, (⟨#[]⟩ : ByteArray), false, (⟨#[]⟩ : ByteArray), (⟨#[]⟩ : ByteArray), ([] : List (S46)), false)))) else (none))) else (none))) = some (r1, r2, r3, r4, r5, r6, r7) := h
  clear h
  replace H := Option.bind_eq_some_iff.mp H
  obtain ⟨t139, A30, H⟩ := H
  replace H : (if 0 < (t139.length : Int) then ((path_Parse.f (rdOf ByteArray.empty t139 0)).bind fun bt143 => (if 1 ≤ (t139.length : Int) then ((verb_params.f a0 (t139.drop 1)).bind fun bt152 => (if bt143.2.2.2 = 0 then (if bt152.2 = true then (if a0 = 3 then (if bt143.1 = true then (some (0, (⟨#[]⟩ : ByteArray), false, (⟨#[]⟩ : ByteArray), (⟨#[]⟩ : ByteArray), ([] : List (S46)), false)) else (some (a0, (⟨#[]⟩ : ByteArray), bt143.1, bt143.2.1, bt143.2.2.1, bt152.1, true))) else (some (a0, (⟨#[]⟩ : ByteArray), bt143.1, bt143.2.1, bt143.2.2.1, bt152.1, true))) else (some (0, (⟨#[]⟩ : ByteArray), false, (⟨#[]⟩ : ByteArray), (⟨#[]⟩ : ByteArray), ([] : List (S46)), false))) else (some (0, (⟨#[]⟩ : ByteArray), false, (⟨#[]⟩ : ByteArray), (⟨#[]⟩ : ByteArray), ([] : List (S46)), false)))) else (none))) else (none)) = some (r1, r2, r3, r4, r5, r6, r7) := H
  have A3 := Aside0.mk A30
  clear A30
  by_cases c4 : 0 < (t139.length : Int)
  · rw [if_pos c4] at H
    have c4b0 : decide (0 < (t139.length : Int)) = true := decide_eq_true c4
    have c4b1 : decide (0 < t139.length) = true := decide_eq_true (by omega)
    clear c4
    replace H := Option.bind_eq_some_iff.mp H
    obtain ⟨⟨t143, t144, t145, t146⟩, A50, H⟩ := H
    replace H : (if 1 ≤ (t139.length : Int) then ((verb_params.f a0 (t139.drop 1)).bind fun bt152 => (if t146 = 0 then (if bt152.2 = true then (if a0 = 3 then (if t143 = true then (some (0, (⟨#[]⟩ : ByteArray), false, (⟨#[]⟩ : ByteArray), (⟨#[]⟩ : ByteArray), ([] : List (S46)), false)) else (some (a0, (⟨#[]⟩ : ByteArray), t143, t144, t145, bt152.1, true))) else (some (a0, (⟨#[]⟩ : ByteArray), t143, t144, t145, bt152.1, true))) else (some (0, (⟨#[]⟩ : ByteArray), false, (⟨#[]⟩ : ByteArray), (⟨#[]⟩ : ByteArray), ([] : List (S46)), false))) else (some (0, (⟨#[]⟩ : ByteArray), false, (⟨#[]⟩ : ByteArray), (⟨#[]⟩ : ByteArray), ([] : List (S46)), false)))) else (none)) = some (r1, r2, r3, r4, r5, r6, r7) := H
    have A5 := Aside0.mk A50
    clear A50
    by_cases c6 : 1 ≤ (t139.length : Int)
    · rw [if_pos c6] at H
      have c6b0 := eq_true c6
      have c6b1 : decide (1 ≤ (t139.length : Int)) = true := decide_eq_true c6
      clear c6
      obtain ⟨y148, hy148⟩ : ∃ y_ : List ByteArray, y_ = (t139.drop 1) := ⟨_, rfl⟩
      replace H : ((verb_params.f a0 y148).bind fun bt152 => (if t146 = 0 then (if bt152.2 = true then (if a0 = 3 then (if t143 = true then (some (0, (⟨#[]⟩ : ByteArray), false, (⟨#[]⟩ : ByteArray), (⟨#[]⟩ : ByteArray), ([] : List (S46)), false)) else (some (a0, (⟨#[]⟩ : ByteArray), t143, t144, t145, bt152.1, true))) else (some (a0, (⟨#[]⟩ : ByteArray), t143, t144, t145, bt152.1, true))) else (some (0, (⟨#[]⟩ : ByteArray), false, (⟨#[]⟩ : ByteArray), (⟨#[]⟩ : ByteArray), ([] : List (S46)), false))) else (some (0, (⟨#[]⟩ : ByteArray), false, (⟨#[]⟩ : ByteArray), (⟨#[]⟩ : ByteArray), ([] : List (S46)), false)))) = some (r1, r2, r3, r4, r5, r6, r7) := by first | (rw [hy148]; with_reducible exact H) | (have H2_ := (Option.bind_some _ _).symm.trans H; rw [hy148]; with_reducible exact H2_) | (have H2_ := (Option.bind_some _ _).symm.trans H; with_reducible exact H2_) | with_reducible exact H | (rw [hy148]; exact H) | exact H
      have Ny148 := Aside0.mk hy148
      clear hy148
      replace H := Option.bind_eq_some_iff.mp H
      obtain ⟨⟨t152, t153⟩, A70, H⟩ := H
      replace H : (if t146 = 0 then (if t153 = true then (if a0 = 3 then (if t143 = true then (some (0, (⟨#[]⟩ : ByteArray), false, (⟨#[]⟩ : ByteArray), (⟨#[]⟩ : ByteArray), ([] : List (S46)), false)) else (some (a0, (⟨#[]⟩ : ByteArray), t143, t144, t145, t152, true))) else (some (a0, (⟨#[]⟩ : ByteArray), t143, t144, t145, t152, true))) else (some (0, (⟨#[]⟩ : ByteArray), false, (⟨#[]⟩ : ByteArray), (⟨#[]⟩ : ByteArray), ([] : List (S46)), false))) else (some (0, (⟨#[]⟩ : ByteArray), false, (⟨#[]⟩ : ByteArray), (⟨#[]⟩ : ByteArray), ([] : List (S46)), false))) = some (r1, r2, r3, r4, r5, r6, r7) := H
      have A7 := Aside0.mk A70
      clear A70
      by_cases c8 : t146 = 0
      · rw [if_pos c8] at H
        have c8b0 : (t146 == 0) = true := beq_iff_eq.mpr c8
        have c8b1 : (t146 != 0) = false := bne_eq_false_iff_eq.mpr c8
        clear c8
        by_cases c9 : t153 = true
        · subst c9
          have H1 : (if a0 = 3 then (if t143 = true then (some (0, (⟨#[]⟩ : ByteArray), false, (⟨#[]⟩ : ByteArray), (⟨#[]⟩ : ByteArray), ([] : List (S46)), false)) else (some (a0, (⟨#[]⟩ : ByteArray), t143, t144, t145, t152, true))) else (some (a0, (⟨#[]⟩ : ByteArray), t143, t144, t145, t152, true))) = some (r1, r2, r3, r4, r5, r6, r7) := by rw [if_pos rfl] at H; exact H
          clear H
          have H := H1
          clear H1
          by_cases c10 : a0 = 3
          · rw [if_pos c10] at H
            have c10b0 : (a0 == 3) = true := beq_iff_eq.mpr c10
            have c10b1 : (a0 != 3) = false := bne_eq_false_iff_eq.mpr c10
            clear c10
            by_cases c11 : t143 = true
            · subst c11
              have H1 : (some (0, (⟨#[]⟩ : ByteArray), false, (⟨#[]⟩ : ByteArray), (⟨#[]⟩ : ByteArray), ([] : List (S46)), false)) = some (r1, r2, r3, r4, r5, r6, r7) := by rw [if_pos rfl] at H; exact H
              clear H
              have H := H1
              clear H1
              simp only [Option.some.injEq, Prod.mk.injEq] at H
              obtain ⟨rfl, rfl, rfl, rfl, rfl, rfl, rfl⟩ := H
              go_enter Tryd.func34, Tryd.ntmps34
              go_wp2_with (first | ((with_reducible refine gate_dst (N := 4) rfl ?_); refine box_event ?hg (N := 4) ?hd (cs := #[.int .i64 0, .string (⟨#[]⟩ : ByteArray), .bool false, .string (⟨#[]⟩ : ByteArray), .string (⟨#[]⟩ : ByteArray), .slice none 0 0]) (t := 26) ?hr ?_; (case hd => rfl); (case hg => rfl); (case hr => first | (go_simp; done) | (go_simp; rfl)); intro gb138 hg w12 hbox hb; have n0_ := Aside0.mk (below_step (by repeat (first | (with_reducible first | exact HB.out | apply below_alloc | apply pw_below_drewN | apply below_drew1) | exact HB.out)) hb); have n1_ := Aside0.mk (hbox); have n2_ := Aside0.mk ((by rw [hg]; exact (below_size (by repeat (first | (with_reducible first | exact HB.out | apply below_alloc | apply pw_below_drewN | apply below_drew1) | exact HB.out))) : w.heap.size ≤ gb138)); have n3_ := Aside0.mk ((by rw [hg]; exact (below_size (by repeat (first | (with_reducible first | exact HB.out | apply below_alloc | apply pw_below_drewN | apply below_drew1) | exact HB.out))) : w.heap.size ≤ gb138)); clear HB; have HB := n0_; have BK138 := n1_; have GW138 := n2_; have GE138 := n3_; clear n0_ n1_ n2_ n3_; clear hb hbox hg) | ((with_reducible refine gate_callee (f := 19) rfl ?_); refine goesL_ (some 12) rfl rfl Tryd.func19 (by kernel_rfl) rfl #[.string a1, .string (⟨#[32]⟩ : ByteArray)] rfl (by (try simp only [List.map_toArray, List.map_cons, List.map_nil]); first | done | rfl | (simp only [List.length_drop, List.length_take]; rfl)) ?_; (with_reducible refine (strings_Split.calls a1 (⟨#[32]⟩ : ByteArray) t139 _ ?side1 A3.out).mono ?_); (case side1 => exact Glob.below HG.out (by repeat (first | (with_reducible first | exact HB.out | apply below_alloc | apply pw_below_drewN | apply below_drew1 | refine below_set ?_ GE138.out) | exact HB.out))); rintro e w13 ⟨v140, rfl, ho0, hb⟩; refine ⟨_, rfl, ?_⟩; have n0_ := Aside0.mk (Kd.R_lower ho0 (below_size (by repeat (first | (with_reducible first | exact HB.out | apply below_alloc | apply pw_below_drewN | apply below_drew1 | refine below_set ?_ GE138.out) | exact HB.out)))); have n1_ := Aside0.mk (blk_below (g := gb138) (o := .cells #[.int .i64 0, .string (⟨#[]⟩ : ByteArray), .bool false, .string (⟨#[]⟩ : ByteArray), .string (⟨#[]⟩ : ByteArray), .slice none 0 0] 26 (0, 0)) (by (with_reducible repeat (first | refine blk_drewN ?_ _ | refine blk_drew ?_ | refine blk_alloc ?_ _)); exact BK138.out) hb); have n2_ := Aside0.mk (below_step (by repeat (first | (with_reducible first | exact HB.out | apply below_alloc | apply pw_below_drewN | apply below_drew1 | refine below_set ?_ GE138.out) | exact HB.out)) hb); clear BK138; clear HB; have HO141 := n0_; have BK138 := n1_; have HB := n2_; clear n0_ n1_ n2_; (try clear hb); (try clear hb2); (try clear hk); (try clear hi); (try clear ho0); obtain ⟨Ao14, co14, eo14⟩ := Kd.R_slice HO141.out; subst eo14; have p142 : 0 ≤ (0 : Int) := (by omega); have q142 : 0 < (t139.length : Int) := of_decide_eq_true (by first | (with_reducible assumption) | assumption); obtain ⟨ad142, e142, hx142_0⟩ := Kd.at_string (Kd.R_reads' HO141.out).2.2 0 p142 q142; cases e142; have qi142 : (0 < t139.length) = True := eq_true (by omega); (try rw [show ((0 : Int)).toNat = 0 from rfl] at hx142_0); (try rw [Addr.add_zero'] at hx142_0); replace p142 := eq_true p142; replace q142 := eq_true q142) | ((with_reducible refine gate_callee (f := 44) rfl ?_); refine goesL_ (some 17) rfl rfl Tryd.func44 (by kernel_rfl) rfl #[.string (rdOf ByteArray.empty t139 0)] rfl (by (try simp only [List.map_toArray, List.map_cons, List.map_nil]); first | done | rfl | (simp only [List.length_drop, List.length_take]; rfl)) ?_; (with_reducible refine (path_Parse.calls (rdOf ByteArray.empty t139 0) true t144 t145 t146 _ ?side1 A5.out).mono ?_); (case side1 => exact Glob.below HG.out (by repeat (first | (with_reducible first | exact HB.out | apply below_alloc | apply pw_below_drewN | apply below_drew1 | refine below_set ?_ GE138.out) | exact HB.out))); rintro e w15 ⟨rfl, hb⟩; refine ⟨_, rfl, ?_⟩; have n0_ := Aside0.mk (Kd.R_below (by (with_reducible repeat (first | apply Kd.R_alloc | apply Kd.R_drewN | apply Kd.R_drew)); exact HO141.out) hb); have n1_ := Aside0.mk (blk_below (g := gb138) (o := .cells #[.int .i64 0, .string (⟨#[]⟩ : ByteArray), .bool false, .string (⟨#[]⟩ : ByteArray), .string (⟨#[]⟩ : ByteArray), .slice none 0 0] 26 (0, 0)) (by (with_reducible repeat (first | refine blk_drewN ?_ _ | refine blk_drew ?_ | refine blk_alloc ?_ _)); exact BK138.out) hb); have n2_ := Aside0.mk (below_step (by repeat (first | (with_reducible first | exact HB.out | apply below_alloc | apply pw_below_drewN | apply below_drew1 | refine below_set ?_ GE138.out) | exact HB.out)) hb); clear HO141; clear BK138; clear HB; have HO141 := n0_; have BK138 := n1_; have HB := n2_; clear n0_ n1_ n2_; (try clear hb); (try clear hb2); (try clear hk); (try clear hi)) | ((with_reducible refine gate_dst (N := 7) rfl ?_); refine box_event ?hg (N := 7) ?hd (cs := #[.bool false, .string (⟨#[]⟩ : ByteArray), .string (⟨#[]⟩ : ByteArray)]) (t := 23) ?hr ?_; (case hd => rfl); (case hg => rfl); (case hr => first | (go_simp; done) | (go_simp; rfl)); intro gb147 hg w16 hbox hb; have n0_ := Aside0.mk (Kd.R_below (by (with_reducible repeat (first | apply Kd.R_alloc | apply Kd.R_drewN | apply Kd.R_drew)); exact HO141.out) hb); have n1_ := Aside0.mk (blk_below (g := gb138) (o := .cells #[.int .i64 0, .string (⟨#[]⟩ : ByteArray), .bool false, .string (⟨#[]⟩ : ByteArray), .string (⟨#[]⟩ : ByteArray), .slice none 0 0] 26 (0, 0)) (by (with_reducible repeat (first | refine blk_drewN ?_ _ | refine blk_drew ?_ | refine blk_alloc ?_ _)); exact BK138.out) hb); have n2_ := Aside0.mk (below_step (by repeat (first | (with_reducible first | exact HB.out | apply below_alloc | apply pw_below_drewN | apply below_drew1 | refine below_set ?_ GE138.out) | exact HB.out)) hb); have n3_ := Aside0.mk (hbox); have n4_ := Aside0.mk ((by rw [hg]; exact (below_size (by repeat (first | (with_reducible first | exact HB.out | apply below_alloc | apply pw_below_drewN | apply below_drew1 | refine below_set ?_ GE138.out) | exact HB.out))) : w.heap.size ≤ gb147)); have n5_ := Aside0.mk ((by rw [hg]; exact (below_size (by repeat (first | (with_reducible first | exact HB.out | apply below_alloc | apply pw_below_drewN | apply below_drew1 | refine below_set ?_ GE138.out) | exact HB.out))) : w.heap.size ≤ gb147)); have n6_ := Aside0.mk ((by rw [hg]; exact Nat.ne_of_lt (blk_lt (g := gb138) (o := .cells #[.int .i64 0, .string (⟨#[]⟩ : ByteArray), .bool false, .string (⟨#[]⟩ : ByteArray), .string (⟨#[]⟩ : ByteArray), .slice none 0 0] 26 (0, 0)) (by (with_reducible repeat (first | refine blk_drewN ?_ _ | refine blk_drew ?_ | refine blk_alloc ?_ _)); exact BK138.out)) : gb138 ≠ gb147)); have n7_ := Aside0.mk ((by rw [hg]; exact Nat.ne_of_gt (blk_lt (g := gb138) (o := .cells #[.int .i64 0, .string (⟨#[]⟩ : ByteArray), .bool false, .string (⟨#[]⟩ : ByteArray), .string (⟨#[]⟩ : ByteArray), .slice none 0 0] 26 (0, 0)) (by (with_reducible repeat (first | refine blk_drewN ?_ _ | refine blk_drew ?_ | refine blk_alloc ?_ _)); exact BK138.out)) : gb147 ≠ gb138)); clear HO141; clear BK138; clear HB; have HO141 := n0_; have BK138 := n1_; have HB := n2_; have BK147 := n3_; have GW147 := n4_; have GE147 := n5_; have NB138_147 := n6_; have NB147_138 := n7_; clear n0_ n1_ n2_ n3_ n4_ n5_ n6_ n7_; clear hb hbox hg; have hnb17 := NB147_138.out; have hnc17 := NB138_147.out; have hcz18_0 : w16.cell? ⟨gb147, 0, none⟩ = some (.bool false) := (blk_cell BK147.out 0).trans rfl; have hcz18_1 : w16.cell? ⟨gb147, 1, none⟩ = some (.string (⟨#[]⟩ : ByteArray)) := (blk_cell BK147.out 1).trans rfl; have hcz18_2 : w16.cell? ⟨gb147, 2, none⟩ = some (.string (⟨#[]⟩ : ByteArray)) := (blk_cell BK147.out 2).trans rfl; have hfz18_0 := blk_frozen BK147.out 0; have hfz18_1 := blk_frozen BK147.out 1; have hfz18_2 := blk_frozen BK147.out 2) | ((with_reducible refine gate_store (t := 23) (p := 7) rfl ?_); refine store_event (t := 23) (p := 7) (v := ?vo_w19) (w1 := (((w16.setCell ⟨gb147, 0, none⟩ (.bool true)).setCell ⟨gb147, 1, none⟩ (.string t144)).setCell ⟨gb147, 2, none⟩ (.string t145))) ?hg ?ho ?hn ?hr ?_; (case ho => rfl); (case hg => rfl); (case hn => rfl); (case hr => first | (go_simp; done) | (go_simp; rfl)); intro w19 hw; have n0_ : Aside0 (Kd.R Kd.string 9 w19 w.heap.size (fun _ => True) (.slice (some ad142) t139.length co14) t139) := ⟨(by rw [hw]; exact (by (with_reducible repeat (first | apply Kd.R_alloc | apply Kd.R_drewN | apply Kd.R_drew)); exact Kd.R_mono (Kd.R_far (p := ⟨gb147, 2, none⟩) (Kd.R_far (p := ⟨gb147, 1, none⟩) (Kd.R_far (p := ⟨gb147, 0, none⟩) (Kd.R_types HO141.out BK147.out (by decide)) (fun _ hk => hk.2) (.bool true)) (fun _ hk => hk.2) (.string t144)) (fun _ hk => hk.2) (.string t145)) (fun _ hk => trivial)))⟩; have n1_ : Aside0 (w19.heap[gb138]? = some (.cells #[.int .i64 0, .string (⟨#[]⟩ : ByteArray), .bool false, .string (⟨#[]⟩ : ByteArray), .string (⟨#[]⟩ : ByteArray), .slice none 0 0] 26 (0, 0))) := ⟨(by rw [hw]; exact (by (with_reducible repeat (first | refine blk_drewN ?_ _ | refine blk_drew ?_ | refine blk_alloc ?_ _)); refine blk_far ?_ NB138_147.out _; (with_reducible repeat (first | refine blk_drewN ?_ _ | refine blk_drew ?_ | refine blk_alloc ?_ _)); refine blk_far ?_ NB138_147.out _; (with_reducible repeat (first | refine blk_drewN ?_ _ | refine blk_drew ?_ | refine blk_alloc ?_ _)); refine blk_far ?_ NB138_147.out _; (with_reducible repeat (first | refine blk_drewN ?_ _ | refine blk_drew ?_ | refine blk_alloc ?_ _)); exact BK138.out))⟩; have n2_ : Aside0 (w19.heap[gb147]? = some (.cells #[.bool true, .string t144, .string t145] 23 (0, 0))) := ⟨(by rw [hw]; exact (by (with_reducible repeat (first | refine blk_drewN ?_ _ | refine blk_drew ?_ | refine blk_alloc ?_ _)); refine blk_put (cs := #[.bool true, .string t144, .string (⟨#[]⟩ : ByteArray)]) ?_ 2 _ rfl; (with_reducible repeat (first | refine blk_drewN ?_ _ | refine blk_drew ?_ | refine blk_alloc ?_ _)); refine blk_put (cs := #[.bool true, .string (⟨#[]⟩ : ByteArray), .string (⟨#[]⟩ : ByteArray)]) ?_ 1 _ rfl; (with_reducible repeat (first | refine blk_drewN ?_ _ | refine blk_drew ?_ | refine blk_alloc ?_ _)); refine blk_put (cs := #[.bool false, .string (⟨#[]⟩ : ByteArray), .string (⟨#[]⟩ : ByteArray)]) ?_ 0 _ rfl; (with_reducible repeat (first | refine blk_drewN ?_ _ | refine blk_drew ?_ | refine blk_alloc ?_ _)); exact BK147.out))⟩; have n3_ : Aside0 (Below w.heap.size w w19) := ⟨(by rw [hw]; exact (by repeat (first | (with_reducible first | exact HB.out | apply below_alloc | apply pw_below_drewN | apply below_drew1 | refine below_set ?_ GE138.out | refine below_set ?_ GE147.out) | exact HB.out)))⟩; clear hw; clear HO141; clear BK138; clear BK147; clear HB; have HO141 := n0_; have BK138 := n1_; have BK147 := n2_; have HB := n3_; clear n0_ n1_ n2_ n3_; have q20 : (1 : Int) ≤ ((t139.length : Int) : Int) := of_decide_eq_true (by first | (with_reducible assumption) | assumption); obtain ⟨i020, hi020, _, hsz20, _⟩ := info_parts info9; have hroom20 : t139.length ≤ co14 := (Kd.R_reads' HO141.out).2.1; have hC20 : Kd.C Kd.string _ (some ad142) t139.length t139 := (Kd.R_reads' HO141.out).2.2; have hcut20 := cut_from (P := Tryd.prog) 40 9 .i64 Tryd.underlying40 hi020 1 hsz20 (some ad142) t139.length co14 1 (by omega) q20; have hr20 := Kd.C_drop (m := (1 : Int).toNat) (c := co14) hC20 (by omega) hroom20; obtain ⟨A20, hA20⟩ : ∃ A1, A1 = (if co14 = (1 : Int).toNat then (some ad142) else ((some ad142) : Option Addr).map (·.add ((1 : Int).toNat * 1))) := ⟨_, rfl⟩; obtain ⟨c20, hc20⟩ : ∃ c1, c1 = co14 - (1 : Int).toNat := ⟨_, rfl⟩; have hy20 : y148.length = t139.length - (1 : Int).toNat := (by rw [Ny148.out, List.length_drop] <;> omega); rw [show (t139).drop (1 : Int).toNat = y148 from Ny148.out.symm] at hr20; replace hr20 : Kd.C Kd.string _ A20 y148.length y148 := (by rw [hA20]; exact hr20); rw [← hy20, ← hA20, ← hc20] at hcut20; have HR151 := Aside0.mk hr20; have HC151 := Aside0.mk (show y148.length ≤ c20 from by rw [hy20, hc20]; exact Nat.sub_le_sub_right hroom20 _); clear hr20 hC20 hroom20 hi020 hsz20 hc20; have KY20 := Aside0.mk hy20; have KA20 := Aside0.mk hA20; clear hy20 hA20; have KL20 := Aside0.mk (show 1 ≤ t139.length from by omega); replace q20 := eq_true q20) | ((with_reducible refine gate_callee (f := 45) rfl ?_); refine goesL_ (some 24) rfl rfl Tryd.func45 (by kernel_rfl) rfl #[.int .i64 a0, .slice A20 y148.length c20] rfl (by (try simp only [List.map_toArray, List.map_cons, List.map_nil]); first | done | rfl | (simp only [List.length_drop, List.length_take]; rfl)) ?_; (with_reducible refine (verb_params.calls a0 _ _ y148 t152 true _ ?side1 ?side2 ?side3 A7.out).mono ?_); (case side1 => exact Glob.below HG.out (by repeat (first | (with_reducible first | exact HB.out | apply below_alloc | apply pw_below_drewN | apply below_drew1 | refine below_set ?_ GE138.out | refine below_set ?_ GE147.out) | exact HB.out))); (case side2 => repeat (first | exact (by repeat (first | (with_reducible exact HR151.out) | (with_reducible refine Kd.C_alloc ?_ _) | (with_reducible refine Kd.C_drewN ?_ _) | (with_reducible refine Kd.C_drew ?_) | exact HR151.out)) | (with_reducible refine Kd.C_alloc ?_ _) | (with_reducible refine Kd.C_drewN ?_ _) | (with_reducible refine Kd.C_drew ?_))); (case side3 => exact HC151.out); rintro e w21 ⟨v154, rfl, ho0, hb⟩; refine ⟨_, rfl, ?_⟩; have n0_ := Aside0.mk (Kd.R_below (by (with_reducible repeat (first | apply Kd.R_alloc | apply Kd.R_drewN | apply Kd.R_drew)); exact HO141.out) hb); have n1_ := Aside0.mk (Kd.R_lower ho0 (below_size (by repeat (first | (with_reducible first | exact HB.out | apply below_alloc | apply pw_below_drewN | apply below_drew1 | refine below_set ?_ GE138.out | refine below_set ?_ GE147.out) | exact HB.out)))); have n2_ := Aside0.mk (blk_below (g := gb138) (o := .cells #[.int .i64 0, .string (⟨#[]⟩ : ByteArray), .bool false, .string (⟨#[]⟩ : ByteArray), .string (⟨#[]⟩ : ByteArray), .slice none 0 0] 26 (0, 0)) (by (with_reducible repeat (first | refine blk_drewN ?_ _ | refine blk_drew ?_ | refine blk_alloc ?_ _)); exact BK138.out) hb); have n3_ := Aside0.mk (blk_below (g := gb147) (o := .cells #[.bool true, .string t144, .string t145] 23 (0, 0)) (by (with_reducible repeat (first | refine blk_drewN ?_ _ | refine blk_drew ?_ | refine blk_alloc ?_ _)); exact BK147.out) hb); have n4_ := Aside0.mk (Kd.C_below (by repeat (first | (with_reducible exact HR151.out) | (with_reducible refine Kd.C_alloc ?_ _) | (with_reducible refine Kd.C_drewN ?_ _) | (with_reducible refine Kd.C_drew ?_) | exact HR151.out)) hb); have n5_ := Aside0.mk (below_step (by repeat (first | (with_reducible first | exact HB.out | apply below_alloc | apply pw_below_drewN | apply below_drew1 | refine below_set ?_ GE138.out | refine below_set ?_ GE147.out) | exact HB.out)) hb); clear HO141; clear BK138; clear BK147; clear HR151; clear HB; have HO141 := n0_; have HO155 := n1_; have BK138 := n2_; have BK147 := n3_; have HR151 := n4_; have HB := n5_; clear n0_ n1_ n2_ n3_ n4_ n5_; (try clear hb); (try clear hb2); (try clear hk); (try clear hi); (try clear ho0); have hcz22_0 : w21.cell? ⟨gb147, 0, none⟩ = some (.bool true) := (blk_cell BK147.out 0).trans rfl; have hcz22_1 : w21.cell? ⟨gb147, 1, none⟩ = some (.string t144) := (blk_cell BK147.out 1).trans rfl; have hcz22_2 : w21.cell? ⟨gb147, 2, none⟩ = some (.string t145) := (blk_cell BK147.out 2).trans rfl; have hfz22_0 := blk_frozen BK147.out 0; have hfz22_1 := blk_frozen BK147.out 1; have hfz22_2 := blk_frozen BK147.out 2; have hcz23_0 : w21.cell? ⟨gb138, 0, none⟩ = some (.int .i64 0) := (blk_cell BK138.out 0).trans rfl; have hcz23_1 : w21.cell? ⟨gb138, 1, none⟩ = some (.string (⟨#[]⟩ : ByteArray)) := (blk_cell BK138.out 1).trans rfl; have hcz23_2 : w21.cell? ⟨gb138, 2, none⟩ = some (.bool false) := (blk_cell BK138.out 2).trans rfl; have hcz23_3 : w21.cell? ⟨gb138, 3, none⟩ = some (.string (⟨#[]⟩ : ByteArray)) := (blk_cell BK138.out 3).trans rfl; have hcz23_4 : w21.cell? ⟨gb138, 4, none⟩ = some (.string (⟨#[]⟩ : ByteArray)) := (blk_cell BK138.out 4).trans rfl; have hcz23_5 : w21.cell? ⟨gb138, 5, none⟩ = some (.slice none 0 0) := (blk_cell BK138.out 5).trans rfl; have hfz23_0 := blk_frozen BK138.out 0; have hfz23_1 := blk_frozen BK138.out 1; have hfz23_2 := blk_frozen BK138.out 2; have hfz23_3 := blk_frozen BK138.out 3; have hfz23_4 := blk_frozen BK138.out 4; have hfz23_5 := blk_frozen BK138.out 5))
              refine bodyPost_ret (results_ct rfl _ _ gb138 26 #[.int .i64 0, .string (⟨#[]⟩ : ByteArray), .bool false, .string (⟨#[]⟩ : ByteArray), .string (⟨#[]⟩ : ByteArray), .slice none 0 0] (0, 0) _ rfl (by (with_reducible repeat (first | refine blk_drewN ?_ _ | refine blk_drew ?_ | refine blk_alloc ?_ _)); refine blk_put (cs := #[.int .i64 0, .string (⟨#[]⟩ : ByteArray), .bool false, .string (⟨#[]⟩ : ByteArray), .string (⟨#[]⟩ : ByteArray), .slice none 0 0]) ?_ 5 _ rfl; (with_reducible repeat (first | refine blk_drewN ?_ _ | refine blk_drew ?_ | refine blk_alloc ?_ _)); refine blk_put (cs := #[.int .i64 0, .string (⟨#[]⟩ : ByteArray), .bool false, .string (⟨#[]⟩ : ByteArray), .string (⟨#[]⟩ : ByteArray), .slice none 0 0]) ?_ 4 _ rfl; (with_reducible repeat (first | refine blk_drewN ?_ _ | refine blk_drew ?_ | refine blk_alloc ?_ _)); refine blk_put (cs := #[.int .i64 0, .string (⟨#[]⟩ : ByteArray), .bool false, .string (⟨#[]⟩ : ByteArray), .string (⟨#[]⟩ : ByteArray), .slice none 0 0]) ?_ 3 _ rfl; (with_reducible repeat (first | refine blk_drewN ?_ _ | refine blk_drew ?_ | refine blk_alloc ?_ _)); refine blk_put (cs := #[.int .i64 0, .string (⟨#[]⟩ : ByteArray), .bool false, .string (⟨#[]⟩ : ByteArray), .string (⟨#[]⟩ : ByteArray), .slice none 0 0]) ?_ 2 _ rfl; (with_reducible repeat (first | refine blk_drewN ?_ _ | refine blk_drew ?_ | refine blk_alloc ?_ _)); refine blk_put (cs := #[.int .i64 0, .string (⟨#[]⟩ : ByteArray), .bool false, .string (⟨#[]⟩ : ByteArray), .string (⟨#[]⟩ : ByteArray), .slice none 0 0]) ?_ 1 _ rfl; (with_reducible repeat (first | refine blk_drewN ?_ _ | refine blk_drew ?_ | refine blk_alloc ?_ _)); refine blk_put (cs := #[.int .i64 0, .string (⟨#[]⟩ : ByteArray), .bool false, .string (⟨#[]⟩ : ByteArray), .string (⟨#[]⟩ : ByteArray), .slice none 0 0]) ?_ 0 _ rfl; (with_reducible repeat (first | refine blk_drewN ?_ _ | refine blk_drew ?_ | refine blk_alloc ?_ _)); exact BK138.out) Tryd.underlying26 rfl (by kernel_rfl)) rfl ?_
              exact ⟨_, by first | rfl | (simp [errW_none, errW_some] <;> rfl) | (simp [*, errW_none, errW_some] <;> rfl), by first | exact Kd.R_nil _ _ _ _ _ | exact Kd.N_nil _ _ _ _ _ | exact Kd.V_nil _ _ _ _ _ | exact Kd.Q_nil _ _ _ _ _ | exact Kd.S_nil _ _ _ _ _, by repeat (first | (with_reducible first | exact HB.out | apply below_alloc | apply pw_below_drewN | apply below_drew1 | refine below_set ?_ GE138.out | refine below_set ?_ GE147.out) | exact HB.out)⟩
            · replace c11 := Bool.eq_false_iff.mpr c11
              subst c11
              have H1 : (some (a0, (⟨#[]⟩ : ByteArray), false, t144, t145, t152, true)) = some (r1, r2, r3, r4, r5, r6, r7) := by rw [if_neg (show ¬ (false = true) by decide)] at H; exact H
              clear H
              have H := H1
              clear H1
              simp only [Option.some.injEq, Prod.mk.injEq] at H
              obtain ⟨rfl, rfl, rfl, rfl, rfl, rfl, rfl⟩ := H
              go_enter Tryd.func34, Tryd.ntmps34
              go_wp2_with (first | ((with_reducible refine gate_dst (N := 4) rfl ?_); refine box_event ?hg (N := 4) ?hd (cs := #[.int .i64 0, .string (⟨#[]⟩ : ByteArray), .bool false, .string (⟨#[]⟩ : ByteArray), .string (⟨#[]⟩ : ByteArray), .slice none 0 0]) (t := 26) ?hr ?_; (case hd => rfl); (case hg => rfl); (case hr => first | (go_simp; done) | (go_simp; rfl)); intro gb138 hg w24 hbox hb; have n0_ := Aside0.mk (below_step (by repeat (first | (with_reducible first | exact HB.out | apply below_alloc | apply pw_below_drewN | apply below_drew1) | exact HB.out)) hb); have n1_ := Aside0.mk (hbox); have n2_ := Aside0.mk ((by rw [hg]; exact (below_size (by repeat (first | (with_reducible first | exact HB.out | apply below_alloc | apply pw_below_drewN | apply below_drew1) | exact HB.out))) : w.heap.size ≤ gb138)); have n3_ := Aside0.mk ((by rw [hg]; exact (below_size (by repeat (first | (with_reducible first | exact HB.out | apply below_alloc | apply pw_below_drewN | apply below_drew1) | exact HB.out))) : w.heap.size ≤ gb138)); clear HB; have HB := n0_; have BK138 := n1_; have GW138 := n2_; have GE138 := n3_; clear n0_ n1_ n2_ n3_; clear hb hbox hg) | ((with_reducible refine gate_callee (f := 19) rfl ?_); refine goesL_ (some 12) rfl rfl Tryd.func19 (by kernel_rfl) rfl #[.string a1, .string (⟨#[32]⟩ : ByteArray)] rfl (by (try simp only [List.map_toArray, List.map_cons, List.map_nil]); first | done | rfl | (simp only [List.length_drop, List.length_take]; rfl)) ?_; (with_reducible refine (strings_Split.calls a1 (⟨#[32]⟩ : ByteArray) t139 _ ?side1 A3.out).mono ?_); (case side1 => exact Glob.below HG.out (by repeat (first | (with_reducible first | exact HB.out | apply below_alloc | apply pw_below_drewN | apply below_drew1 | refine below_set ?_ GE138.out) | exact HB.out))); rintro e w25 ⟨v140, rfl, ho0, hb⟩; refine ⟨_, rfl, ?_⟩; have n0_ := Aside0.mk (Kd.R_lower ho0 (below_size (by repeat (first | (with_reducible first | exact HB.out | apply below_alloc | apply pw_below_drewN | apply below_drew1 | refine below_set ?_ GE138.out) | exact HB.out)))); have n1_ := Aside0.mk (blk_below (g := gb138) (o := .cells #[.int .i64 0, .string (⟨#[]⟩ : ByteArray), .bool false, .string (⟨#[]⟩ : ByteArray), .string (⟨#[]⟩ : ByteArray), .slice none 0 0] 26 (0, 0)) (by (with_reducible repeat (first | refine blk_drewN ?_ _ | refine blk_drew ?_ | refine blk_alloc ?_ _)); exact BK138.out) hb); have n2_ := Aside0.mk (below_step (by repeat (first | (with_reducible first | exact HB.out | apply below_alloc | apply pw_below_drewN | apply below_drew1 | refine below_set ?_ GE138.out) | exact HB.out)) hb); clear BK138; clear HB; have HO141 := n0_; have BK138 := n1_; have HB := n2_; clear n0_ n1_ n2_; (try clear hb); (try clear hb2); (try clear hk); (try clear hi); (try clear ho0); obtain ⟨Ao26, co26, eo26⟩ := Kd.R_slice HO141.out; subst eo26; have p142 : 0 ≤ (0 : Int) := (by omega); have q142 : 0 < (t139.length : Int) := of_decide_eq_true (by first | (with_reducible assumption) | assumption); obtain ⟨ad142, e142, hx142_0⟩ := Kd.at_string (Kd.R_reads' HO141.out).2.2 0 p142 q142; cases e142; have qi142 : (0 < t139.length) = True := eq_true (by omega); (try rw [show ((0 : Int)).toNat = 0 from rfl] at hx142_0); (try rw [Addr.add_zero'] at hx142_0); replace p142 := eq_true p142; replace q142 := eq_true q142) | ((with_reducible refine gate_callee (f := 44) rfl ?_); refine goesL_ (some 17) rfl rfl Tryd.func44 (by kernel_rfl) rfl #[.string (rdOf ByteArray.empty t139 0)] rfl (by (try simp only [List.map_toArray, List.map_cons, List.map_nil]); first | done | rfl | (simp only [List.length_drop, List.length_take]; rfl)) ?_; (with_reducible refine (path_Parse.calls (rdOf ByteArray.empty t139 0) false t144 t145 t146 _ ?side1 A5.out).mono ?_); (case side1 => exact Glob.below HG.out (by repeat (first | (with_reducible first | exact HB.out | apply below_alloc | apply pw_below_drewN | apply below_drew1 | refine below_set ?_ GE138.out) | exact HB.out))); rintro e w27 ⟨rfl, hb⟩; refine ⟨_, rfl, ?_⟩; have n0_ := Aside0.mk (Kd.R_below (by (with_reducible repeat (first | apply Kd.R_alloc | apply Kd.R_drewN | apply Kd.R_drew)); exact HO141.out) hb); have n1_ := Aside0.mk (blk_below (g := gb138) (o := .cells #[.int .i64 0, .string (⟨#[]⟩ : ByteArray), .bool false, .string (⟨#[]⟩ : ByteArray), .string (⟨#[]⟩ : ByteArray), .slice none 0 0] 26 (0, 0)) (by (with_reducible repeat (first | refine blk_drewN ?_ _ | refine blk_drew ?_ | refine blk_alloc ?_ _)); exact BK138.out) hb); have n2_ := Aside0.mk (below_step (by repeat (first | (with_reducible first | exact HB.out | apply below_alloc | apply pw_below_drewN | apply below_drew1 | refine below_set ?_ GE138.out) | exact HB.out)) hb); clear HO141; clear BK138; clear HB; have HO141 := n0_; have BK138 := n1_; have HB := n2_; clear n0_ n1_ n2_; (try clear hb); (try clear hb2); (try clear hk); (try clear hi)) | ((with_reducible refine gate_dst (N := 7) rfl ?_); refine box_event ?hg (N := 7) ?hd (cs := #[.bool false, .string (⟨#[]⟩ : ByteArray), .string (⟨#[]⟩ : ByteArray)]) (t := 23) ?hr ?_; (case hd => rfl); (case hg => rfl); (case hr => first | (go_simp; done) | (go_simp; rfl)); intro gb147 hg w28 hbox hb; have n0_ := Aside0.mk (Kd.R_below (by (with_reducible repeat (first | apply Kd.R_alloc | apply Kd.R_drewN | apply Kd.R_drew)); exact HO141.out) hb); have n1_ := Aside0.mk (blk_below (g := gb138) (o := .cells #[.int .i64 0, .string (⟨#[]⟩ : ByteArray), .bool false, .string (⟨#[]⟩ : ByteArray), .string (⟨#[]⟩ : ByteArray), .slice none 0 0] 26 (0, 0)) (by (with_reducible repeat (first | refine blk_drewN ?_ _ | refine blk_drew ?_ | refine blk_alloc ?_ _)); exact BK138.out) hb); have n2_ := Aside0.mk (below_step (by repeat (first | (with_reducible first | exact HB.out | apply below_alloc | apply pw_below_drewN | apply below_drew1 | refine below_set ?_ GE138.out) | exact HB.out)) hb); have n3_ := Aside0.mk (hbox); have n4_ := Aside0.mk ((by rw [hg]; exact (below_size (by repeat (first | (with_reducible first | exact HB.out | apply below_alloc | apply pw_below_drewN | apply below_drew1 | refine below_set ?_ GE138.out) | exact HB.out))) : w.heap.size ≤ gb147)); have n5_ := Aside0.mk ((by rw [hg]; exact (below_size (by repeat (first | (with_reducible first | exact HB.out | apply below_alloc | apply pw_below_drewN | apply below_drew1 | refine below_set ?_ GE138.out) | exact HB.out))) : w.heap.size ≤ gb147)); have n6_ := Aside0.mk ((by rw [hg]; exact Nat.ne_of_lt (blk_lt (g := gb138) (o := .cells #[.int .i64 0, .string (⟨#[]⟩ : ByteArray), .bool false, .string (⟨#[]⟩ : ByteArray), .string (⟨#[]⟩ : ByteArray), .slice none 0 0] 26 (0, 0)) (by (with_reducible repeat (first | refine blk_drewN ?_ _ | refine blk_drew ?_ | refine blk_alloc ?_ _)); exact BK138.out)) : gb138 ≠ gb147)); have n7_ := Aside0.mk ((by rw [hg]; exact Nat.ne_of_gt (blk_lt (g := gb138) (o := .cells #[.int .i64 0, .string (⟨#[]⟩ : ByteArray), .bool false, .string (⟨#[]⟩ : ByteArray), .string (⟨#[]⟩ : ByteArray), .slice none 0 0] 26 (0, 0)) (by (with_reducible repeat (first | refine blk_drewN ?_ _ | refine blk_drew ?_ | refine blk_alloc ?_ _)); exact BK138.out)) : gb147 ≠ gb138)); clear HO141; clear BK138; clear HB; have HO141 := n0_; have BK138 := n1_; have HB := n2_; have BK147 := n3_; have GW147 := n4_; have GE147 := n5_; have NB138_147 := n6_; have NB147_138 := n7_; clear n0_ n1_ n2_ n3_ n4_ n5_ n6_ n7_; clear hb hbox hg; have hnb29 := NB147_138.out; have hnc29 := NB138_147.out; have hcz30_0 : w28.cell? ⟨gb147, 0, none⟩ = some (.bool false) := (blk_cell BK147.out 0).trans rfl; have hcz30_1 : w28.cell? ⟨gb147, 1, none⟩ = some (.string (⟨#[]⟩ : ByteArray)) := (blk_cell BK147.out 1).trans rfl; have hcz30_2 : w28.cell? ⟨gb147, 2, none⟩ = some (.string (⟨#[]⟩ : ByteArray)) := (blk_cell BK147.out 2).trans rfl; have hfz30_0 := blk_frozen BK147.out 0; have hfz30_1 := blk_frozen BK147.out 1; have hfz30_2 := blk_frozen BK147.out 2) | ((with_reducible refine gate_store (t := 23) (p := 7) rfl ?_); refine store_event (t := 23) (p := 7) (v := ?vo_w31) (w1 := (((w28.setCell ⟨gb147, 0, none⟩ (.bool false)).setCell ⟨gb147, 1, none⟩ (.string t144)).setCell ⟨gb147, 2, none⟩ (.string t145))) ?hg ?ho ?hn ?hr ?_; (case ho => rfl); (case hg => rfl); (case hn => rfl); (case hr => first | (go_simp; done) | (go_simp; rfl)); intro w31 hw; have n0_ : Aside0 (Kd.R Kd.string 9 w31 w.heap.size (fun _ => True) (.slice (some ad142) t139.length co26) t139) := ⟨(by rw [hw]; exact (by (with_reducible repeat (first | apply Kd.R_alloc | apply Kd.R_drewN | apply Kd.R_drew)); exact Kd.R_mono (Kd.R_far (p := ⟨gb147, 2, none⟩) (Kd.R_far (p := ⟨gb147, 1, none⟩) (Kd.R_far (p := ⟨gb147, 0, none⟩) (Kd.R_types HO141.out BK147.out (by decide)) (fun _ hk => hk.2) (.bool false)) (fun _ hk => hk.2) (.string t144)) (fun _ hk => hk.2) (.string t145)) (fun _ hk => trivial)))⟩; have n1_ : Aside0 (w31.heap[gb138]? = some (.cells #[.int .i64 0, .string (⟨#[]⟩ : ByteArray), .bool false, .string (⟨#[]⟩ : ByteArray), .string (⟨#[]⟩ : ByteArray), .slice none 0 0] 26 (0, 0))) := ⟨(by rw [hw]; exact (by (with_reducible repeat (first | refine blk_drewN ?_ _ | refine blk_drew ?_ | refine blk_alloc ?_ _)); refine blk_far ?_ NB138_147.out _; (with_reducible repeat (first | refine blk_drewN ?_ _ | refine blk_drew ?_ | refine blk_alloc ?_ _)); refine blk_far ?_ NB138_147.out _; (with_reducible repeat (first | refine blk_drewN ?_ _ | refine blk_drew ?_ | refine blk_alloc ?_ _)); refine blk_far ?_ NB138_147.out _; (with_reducible repeat (first | refine blk_drewN ?_ _ | refine blk_drew ?_ | refine blk_alloc ?_ _)); exact BK138.out))⟩; have n2_ : Aside0 (w31.heap[gb147]? = some (.cells #[.bool false, .string t144, .string t145] 23 (0, 0))) := ⟨(by rw [hw]; exact (by (with_reducible repeat (first | refine blk_drewN ?_ _ | refine blk_drew ?_ | refine blk_alloc ?_ _)); refine blk_put (cs := #[.bool false, .string t144, .string (⟨#[]⟩ : ByteArray)]) ?_ 2 _ rfl; (with_reducible repeat (first | refine blk_drewN ?_ _ | refine blk_drew ?_ | refine blk_alloc ?_ _)); refine blk_put (cs := #[.bool false, .string (⟨#[]⟩ : ByteArray), .string (⟨#[]⟩ : ByteArray)]) ?_ 1 _ rfl; (with_reducible repeat (first | refine blk_drewN ?_ _ | refine blk_drew ?_ | refine blk_alloc ?_ _)); refine blk_put (cs := #[.bool false, .string (⟨#[]⟩ : ByteArray), .string (⟨#[]⟩ : ByteArray)]) ?_ 0 _ rfl; (with_reducible repeat (first | refine blk_drewN ?_ _ | refine blk_drew ?_ | refine blk_alloc ?_ _)); exact BK147.out))⟩; have n3_ : Aside0 (Below w.heap.size w w31) := ⟨(by rw [hw]; exact (by repeat (first | (with_reducible first | exact HB.out | apply below_alloc | apply pw_below_drewN | apply below_drew1 | refine below_set ?_ GE138.out | refine below_set ?_ GE147.out) | exact HB.out)))⟩; clear hw; clear HO141; clear BK138; clear BK147; clear HB; have HO141 := n0_; have BK138 := n1_; have BK147 := n2_; have HB := n3_; clear n0_ n1_ n2_ n3_; have q32 : (1 : Int) ≤ ((t139.length : Int) : Int) := of_decide_eq_true (by first | (with_reducible assumption) | assumption); obtain ⟨i032, hi032, _, hsz32, _⟩ := info_parts info9; have hroom32 : t139.length ≤ co26 := (Kd.R_reads' HO141.out).2.1; have hC32 : Kd.C Kd.string _ (some ad142) t139.length t139 := (Kd.R_reads' HO141.out).2.2; have hcut32 := cut_from (P := Tryd.prog) 40 9 .i64 Tryd.underlying40 hi032 1 hsz32 (some ad142) t139.length co26 1 (by omega) q32; have hr32 := Kd.C_drop (m := (1 : Int).toNat) (c := co26) hC32 (by omega) hroom32; obtain ⟨A32, hA32⟩ : ∃ A1, A1 = (if co26 = (1 : Int).toNat then (some ad142) else ((some ad142) : Option Addr).map (·.add ((1 : Int).toNat * 1))) := ⟨_, rfl⟩; obtain ⟨c32, hc32⟩ : ∃ c1, c1 = co26 - (1 : Int).toNat := ⟨_, rfl⟩; have hy32 : y148.length = t139.length - (1 : Int).toNat := (by rw [Ny148.out, List.length_drop] <;> omega); rw [show (t139).drop (1 : Int).toNat = y148 from Ny148.out.symm] at hr32; replace hr32 : Kd.C Kd.string _ A32 y148.length y148 := (by rw [hA32]; exact hr32); rw [← hy32, ← hA32, ← hc32] at hcut32; have HR151 := Aside0.mk hr32; have HC151 := Aside0.mk (show y148.length ≤ c32 from by rw [hy32, hc32]; exact Nat.sub_le_sub_right hroom32 _); clear hr32 hC32 hroom32 hi032 hsz32 hc32; have KY32 := Aside0.mk hy32; have KA32 := Aside0.mk hA32; clear hy32 hA32; have KL32 := Aside0.mk (show 1 ≤ t139.length from by omega); replace q32 := eq_true q32) | ((with_reducible refine gate_callee (f := 45) rfl ?_); refine goesL_ (some 24) rfl rfl Tryd.func45 (by kernel_rfl) rfl #[.int .i64 a0, .slice A32 y148.length c32] rfl (by (try simp only [List.map_toArray, List.map_cons, List.map_nil]); first | done | rfl | (simp only [List.length_drop, List.length_take]; rfl)) ?_; (with_reducible refine (verb_params.calls a0 _ _ y148 t152 true _ ?side1 ?side2 ?side3 A7.out).mono ?_); (case side1 => exact Glob.below HG.out (by repeat (first | (with_reducible first | exact HB.out | apply below_alloc | apply pw_below_drewN | apply below_drew1 | refine below_set ?_ GE138.out | refine below_set ?_ GE147.out) | exact HB.out))); (case side2 => repeat (first | exact (by repeat (first | (with_reducible exact HR151.out) | (with_reducible refine Kd.C_alloc ?_ _) | (with_reducible refine Kd.C_drewN ?_ _) | (with_reducible refine Kd.C_drew ?_) | exact HR151.out)) | (with_reducible refine Kd.C_alloc ?_ _) | (with_reducible refine Kd.C_drewN ?_ _) | (with_reducible refine Kd.C_drew ?_))); (case side3 => exact HC151.out); rintro e w33 ⟨v154, rfl, ho0, hb⟩; refine ⟨_, rfl, ?_⟩; have n0_ := Aside0.mk (Kd.R_below (by (with_reducible repeat (first | apply Kd.R_alloc | apply Kd.R_drewN | apply Kd.R_drew)); exact HO141.out) hb); have n1_ := Aside0.mk (Kd.R_lower ho0 (below_size (by repeat (first | (with_reducible first | exact HB.out | apply below_alloc | apply pw_below_drewN | apply below_drew1 | refine below_set ?_ GE138.out | refine below_set ?_ GE147.out) | exact HB.out)))); have n2_ := Aside0.mk (blk_below (g := gb138) (o := .cells #[.int .i64 0, .string (⟨#[]⟩ : ByteArray), .bool false, .string (⟨#[]⟩ : ByteArray), .string (⟨#[]⟩ : ByteArray), .slice none 0 0] 26 (0, 0)) (by (with_reducible repeat (first | refine blk_drewN ?_ _ | refine blk_drew ?_ | refine blk_alloc ?_ _)); exact BK138.out) hb); have n3_ := Aside0.mk (blk_below (g := gb147) (o := .cells #[.bool false, .string t144, .string t145] 23 (0, 0)) (by (with_reducible repeat (first | refine blk_drewN ?_ _ | refine blk_drew ?_ | refine blk_alloc ?_ _)); exact BK147.out) hb); have n4_ := Aside0.mk (Kd.C_below (by repeat (first | (with_reducible exact HR151.out) | (with_reducible refine Kd.C_alloc ?_ _) | (with_reducible refine Kd.C_drewN ?_ _) | (with_reducible refine Kd.C_drew ?_) | exact HR151.out)) hb); have n5_ := Aside0.mk (below_step (by repeat (first | (with_reducible first | exact HB.out | apply below_alloc | apply pw_below_drewN | apply below_drew1 | refine below_set ?_ GE138.out | refine below_set ?_ GE147.out) | exact HB.out)) hb); clear HO141; clear BK138; clear BK147; clear HR151; clear HB; have HO141 := n0_; have HO155 := n1_; have BK138 := n2_; have BK147 := n3_; have HR151 := n4_; have HB := n5_; clear n0_ n1_ n2_ n3_ n4_ n5_; (try clear hb); (try clear hb2); (try clear hk); (try clear hi); (try clear ho0); have hcz34_0 : w33.cell? ⟨gb147, 0, none⟩ = some (.bool false) := (blk_cell BK147.out 0).trans rfl; have hcz34_1 : w33.cell? ⟨gb147, 1, none⟩ = some (.string t144) := (blk_cell BK147.out 1).trans rfl; have hcz34_2 : w33.cell? ⟨gb147, 2, none⟩ = some (.string t145) := (blk_cell BK147.out 2).trans rfl; have hfz34_0 := blk_frozen BK147.out 0; have hfz34_1 := blk_frozen BK147.out 1; have hfz34_2 := blk_frozen BK147.out 2; obtain ⟨Ao35, co35, eo35⟩ := Kd.R_slice HO155.out; subst eo35; have hcz36_0 : w33.cell? ⟨gb138, 0, none⟩ = some (.int .i64 0) := (blk_cell BK138.out 0).trans rfl; have hcz36_1 : w33.cell? ⟨gb138, 1, none⟩ = some (.string (⟨#[]⟩ : ByteArray)) := (blk_cell BK138.out 1).trans rfl; have hcz36_2 : w33.cell? ⟨gb138, 2, none⟩ = some (.bool false) := (blk_cell BK138.out 2).trans rfl; have hcz36_3 : w33.cell? ⟨gb138, 3, none⟩ = some (.string (⟨#[]⟩ : ByteArray)) := (blk_cell BK138.out 3).trans rfl; have hcz36_4 : w33.cell? ⟨gb138, 4, none⟩ = some (.string (⟨#[]⟩ : ByteArray)) := (blk_cell BK138.out 4).trans rfl; have hcz36_5 : w33.cell? ⟨gb138, 5, none⟩ = some (.slice none 0 0) := (blk_cell BK138.out 5).trans rfl; have hfz36_0 := blk_frozen BK138.out 0; have hfz36_1 := blk_frozen BK138.out 1; have hfz36_2 := blk_frozen BK138.out 2; have hfz36_3 := blk_frozen BK138.out 3; have hfz36_4 := blk_frozen BK138.out 4; have hfz36_5 := blk_frozen BK138.out 5))
              refine bodyPost_ret (results_ct rfl _ _ gb138 26 #[.int .i64 a0, .string (⟨#[]⟩ : ByteArray), .bool false, .string t144, .string t145, .slice Ao35 t152.length co35] (0, 0) _ rfl (by (with_reducible repeat (first | refine blk_drewN ?_ _ | refine blk_drew ?_ | refine blk_alloc ?_ _)); refine blk_put (cs := #[.int .i64 a0, .string (⟨#[]⟩ : ByteArray), .bool false, .string t144, .string t145, .slice none 0 0]) ?_ 5 _ rfl; (with_reducible repeat (first | refine blk_drewN ?_ _ | refine blk_drew ?_ | refine blk_alloc ?_ _)); refine blk_put (cs := #[.int .i64 a0, .string (⟨#[]⟩ : ByteArray), .bool false, .string t144, .string (⟨#[]⟩ : ByteArray), .slice none 0 0]) ?_ 4 _ rfl; (with_reducible repeat (first | refine blk_drewN ?_ _ | refine blk_drew ?_ | refine blk_alloc ?_ _)); refine blk_put (cs := #[.int .i64 a0, .string (⟨#[]⟩ : ByteArray), .bool false, .string (⟨#[]⟩ : ByteArray), .string (⟨#[]⟩ : ByteArray), .slice none 0 0]) ?_ 3 _ rfl; (with_reducible repeat (first | refine blk_drewN ?_ _ | refine blk_drew ?_ | refine blk_alloc ?_ _)); refine blk_put (cs := #[.int .i64 a0, .string (⟨#[]⟩ : ByteArray), .bool false, .string (⟨#[]⟩ : ByteArray), .string (⟨#[]⟩ : ByteArray), .slice none 0 0]) ?_ 2 _ rfl; (with_reducible repeat (first | refine blk_drewN ?_ _ | refine blk_drew ?_ | refine blk_alloc ?_ _)); refine blk_put (cs := #[.int .i64 a0, .string (⟨#[]⟩ : ByteArray), .bool false, .string (⟨#[]⟩ : ByteArray), .string (⟨#[]⟩ : ByteArray), .slice none 0 0]) ?_ 1 _ rfl; (with_reducible repeat (first | refine blk_drewN ?_ _ | refine blk_drew ?_ | refine blk_alloc ?_ _)); refine blk_put (cs := #[.int .i64 0, .string (⟨#[]⟩ : ByteArray), .bool false, .string (⟨#[]⟩ : ByteArray), .string (⟨#[]⟩ : ByteArray), .slice none 0 0]) ?_ 0 _ rfl; (with_reducible repeat (first | refine blk_drewN ?_ _ | refine blk_drew ?_ | refine blk_alloc ?_ _)); exact BK138.out) Tryd.underlying26 rfl (by kernel_rfl)) rfl ?_
              exact ⟨_, by first | rfl | (simp [errW_none, errW_some] <;> rfl) | (simp [*, errW_none, errW_some] <;> rfl), by (with_reducible repeat (first | apply Kd.R_alloc | apply Kd.R_drewN | apply Kd.R_drew)); exact Kd.R_mono (Kd.R_far (p := ⟨gb138, 5, none⟩) (Kd.R_far (p := ⟨gb138, 4, none⟩) (Kd.R_far (p := ⟨gb138, 3, none⟩) (Kd.R_far (p := ⟨gb138, 2, none⟩) (Kd.R_far (p := ⟨gb138, 1, none⟩) (Kd.R_far (p := ⟨gb138, 0, none⟩) (Kd.R_types HO155.out BK138.out (by decide)) (fun _ hk => hk.2) (.int .i64 a0)) (fun _ hk => hk.2) (.string (⟨#[]⟩ : ByteArray))) (fun _ hk => hk.2) (.bool false)) (fun _ hk => hk.2) (.string t144)) (fun _ hk => hk.2) (.string t145)) (fun _ hk => hk.2) (.slice Ao35 t152.length co35)) (fun _ hk => trivial), by repeat (first | (with_reducible first | exact HB.out | apply below_alloc | apply pw_below_drewN | apply below_drew1 | refine below_set ?_ GE138.out | refine below_set ?_ GE147.out) | exact HB.out)⟩
          · rw [if_neg c10] at H
            have c10b0 : (a0 == 3) = false := beq_eq_false_iff_ne.mpr c10
            have c10b1 : (a0 != 3) = true := bne_iff_ne.mpr c10
            simp only [Option.some.injEq, Prod.mk.injEq] at H
            obtain ⟨rfl, rfl, rfl, rfl, rfl, rfl, rfl⟩ := H
            go_enter Tryd.func34, Tryd.ntmps34
            go_wp2_with (first | ((with_reducible refine gate_dst (N := 4) rfl ?_); refine box_event ?hg (N := 4) ?hd (cs := #[.int .i64 0, .string (⟨#[]⟩ : ByteArray), .bool false, .string (⟨#[]⟩ : ByteArray), .string (⟨#[]⟩ : ByteArray), .slice none 0 0]) (t := 26) ?hr ?_; (case hd => rfl); (case hg => rfl); (case hr => first | (go_simp; done) | (go_simp; rfl)); intro gb138 hg w37 hbox hb; have n0_ := Aside0.mk (below_step (by repeat (first | (with_reducible first | exact HB.out | apply below_alloc | apply pw_below_drewN | apply below_drew1) | exact HB.out)) hb); have n1_ := Aside0.mk (hbox); have n2_ := Aside0.mk ((by rw [hg]; exact (below_size (by repeat (first | (with_reducible first | exact HB.out | apply below_alloc | apply pw_below_drewN | apply below_drew1) | exact HB.out))) : w.heap.size ≤ gb138)); have n3_ := Aside0.mk ((by rw [hg]; exact (below_size (by repeat (first | (with_reducible first | exact HB.out | apply below_alloc | apply pw_below_drewN | apply below_drew1) | exact HB.out))) : w.heap.size ≤ gb138)); clear HB; have HB := n0_; have BK138 := n1_; have GW138 := n2_; have GE138 := n3_; clear n0_ n1_ n2_ n3_; clear hb hbox hg) | ((with_reducible refine gate_callee (f := 19) rfl ?_); refine goesL_ (some 12) rfl rfl Tryd.func19 (by kernel_rfl) rfl #[.string a1, .string (⟨#[32]⟩ : ByteArray)] rfl (by (try simp only [List.map_toArray, List.map_cons, List.map_nil]); first | done | rfl | (simp only [List.length_drop, List.length_take]; rfl)) ?_; (with_reducible refine (strings_Split.calls a1 (⟨#[32]⟩ : ByteArray) t139 _ ?side1 A3.out).mono ?_); (case side1 => exact Glob.below HG.out (by repeat (first | (with_reducible first | exact HB.out | apply below_alloc | apply pw_below_drewN | apply below_drew1 | refine below_set ?_ GE138.out) | exact HB.out))); rintro e w38 ⟨v140, rfl, ho0, hb⟩; refine ⟨_, rfl, ?_⟩; have n0_ := Aside0.mk (Kd.R_lower ho0 (below_size (by repeat (first | (with_reducible first | exact HB.out | apply below_alloc | apply pw_below_drewN | apply below_drew1 | refine below_set ?_ GE138.out) | exact HB.out)))); have n1_ := Aside0.mk (blk_below (g := gb138) (o := .cells #[.int .i64 0, .string (⟨#[]⟩ : ByteArray), .bool false, .string (⟨#[]⟩ : ByteArray), .string (⟨#[]⟩ : ByteArray), .slice none 0 0] 26 (0, 0)) (by (with_reducible repeat (first | refine blk_drewN ?_ _ | refine blk_drew ?_ | refine blk_alloc ?_ _)); exact BK138.out) hb); have n2_ := Aside0.mk (below_step (by repeat (first | (with_reducible first | exact HB.out | apply below_alloc | apply pw_below_drewN | apply below_drew1 | refine below_set ?_ GE138.out) | exact HB.out)) hb); clear BK138; clear HB; have HO141 := n0_; have BK138 := n1_; have HB := n2_; clear n0_ n1_ n2_; (try clear hb); (try clear hb2); (try clear hk); (try clear hi); (try clear ho0); obtain ⟨Ao39, co39, eo39⟩ := Kd.R_slice HO141.out; subst eo39; have p142 : 0 ≤ (0 : Int) := (by omega); have q142 : 0 < (t139.length : Int) := of_decide_eq_true (by first | (with_reducible assumption) | assumption); obtain ⟨ad142, e142, hx142_0⟩ := Kd.at_string (Kd.R_reads' HO141.out).2.2 0 p142 q142; cases e142; have qi142 : (0 < t139.length) = True := eq_true (by omega); (try rw [show ((0 : Int)).toNat = 0 from rfl] at hx142_0); (try rw [Addr.add_zero'] at hx142_0); replace p142 := eq_true p142; replace q142 := eq_true q142) | ((with_reducible refine gate_callee (f := 44) rfl ?_); refine goesL_ (some 17) rfl rfl Tryd.func44 (by kernel_rfl) rfl #[.string (rdOf ByteArray.empty t139 0)] rfl (by (try simp only [List.map_toArray, List.map_cons, List.map_nil]); first | done | rfl | (simp only [List.length_drop, List.length_take]; rfl)) ?_; (with_reducible refine (path_Parse.calls (rdOf ByteArray.empty t139 0) t143 t144 t145 t146 _ ?side1 A5.out).mono ?_); (case side1 => exact Glob.below HG.out (by repeat (first | (with_reducible first | exact HB.out | apply below_alloc | apply pw_below_drewN | apply below_drew1 | refine below_set ?_ GE138.out) | exact HB.out))); rintro e w40 ⟨rfl, hb⟩; refine ⟨_, rfl, ?_⟩; have n0_ := Aside0.mk (Kd.R_below (by (with_reducible repeat (first | apply Kd.R_alloc | apply Kd.R_drewN | apply Kd.R_drew)); exact HO141.out) hb); have n1_ := Aside0.mk (blk_below (g := gb138) (o := .cells #[.int .i64 0, .string (⟨#[]⟩ : ByteArray), .bool false, .string (⟨#[]⟩ : ByteArray), .string (⟨#[]⟩ : ByteArray), .slice none 0 0] 26 (0, 0)) (by (with_reducible repeat (first | refine blk_drewN ?_ _ | refine blk_drew ?_ | refine blk_alloc ?_ _)); exact BK138.out) hb); have n2_ := Aside0.mk (below_step (by repeat (first | (with_reducible first | exact HB.out | apply below_alloc | apply pw_below_drewN | apply below_drew1 | refine below_set ?_ GE138.out) | exact HB.out)) hb); clear HO141; clear BK138; clear HB; have HO141 := n0_; have BK138 := n1_; have HB := n2_; clear n0_ n1_ n2_; (try clear hb); (try clear hb2); (try clear hk); (try clear hi)) | ((with_reducible refine gate_dst (N := 7) rfl ?_); refine box_event ?hg (N := 7) ?hd (cs := #[.bool false, .string (⟨#[]⟩ : ByteArray), .string (⟨#[]⟩ : ByteArray)]) (t := 23) ?hr ?_; (case hd => rfl); (case hg => rfl); (case hr => first | (go_simp; done) | (go_simp; rfl)); intro gb147 hg w41 hbox hb; have n0_ := Aside0.mk (Kd.R_below (by (with_reducible repeat (first | apply Kd.R_alloc | apply Kd.R_drewN | apply Kd.R_drew)); exact HO141.out) hb); have n1_ := Aside0.mk (blk_below (g := gb138) (o := .cells #[.int .i64 0, .string (⟨#[]⟩ : ByteArray), .bool false, .string (⟨#[]⟩ : ByteArray), .string (⟨#[]⟩ : ByteArray), .slice none 0 0] 26 (0, 0)) (by (with_reducible repeat (first | refine blk_drewN ?_ _ | refine blk_drew ?_ | refine blk_alloc ?_ _)); exact BK138.out) hb); have n2_ := Aside0.mk (below_step (by repeat (first | (with_reducible first | exact HB.out | apply below_alloc | apply pw_below_drewN | apply below_drew1 | refine below_set ?_ GE138.out) | exact HB.out)) hb); have n3_ := Aside0.mk (hbox); have n4_ := Aside0.mk ((by rw [hg]; exact (below_size (by repeat (first | (with_reducible first | exact HB.out | apply below_alloc | apply pw_below_drewN | apply below_drew1 | refine below_set ?_ GE138.out) | exact HB.out))) : w.heap.size ≤ gb147)); have n5_ := Aside0.mk ((by rw [hg]; exact (below_size (by repeat (first | (with_reducible first | exact HB.out | apply below_alloc | apply pw_below_drewN | apply below_drew1 | refine below_set ?_ GE138.out) | exact HB.out))) : w.heap.size ≤ gb147)); have n6_ := Aside0.mk ((by rw [hg]; exact Nat.ne_of_lt (blk_lt (g := gb138) (o := .cells #[.int .i64 0, .string (⟨#[]⟩ : ByteArray), .bool false, .string (⟨#[]⟩ : ByteArray), .string (⟨#[]⟩ : ByteArray), .slice none 0 0] 26 (0, 0)) (by (with_reducible repeat (first | refine blk_drewN ?_ _ | refine blk_drew ?_ | refine blk_alloc ?_ _)); exact BK138.out)) : gb138 ≠ gb147)); have n7_ := Aside0.mk ((by rw [hg]; exact Nat.ne_of_gt (blk_lt (g := gb138) (o := .cells #[.int .i64 0, .string (⟨#[]⟩ : ByteArray), .bool false, .string (⟨#[]⟩ : ByteArray), .string (⟨#[]⟩ : ByteArray), .slice none 0 0] 26 (0, 0)) (by (with_reducible repeat (first | refine blk_drewN ?_ _ | refine blk_drew ?_ | refine blk_alloc ?_ _)); exact BK138.out)) : gb147 ≠ gb138)); clear HO141; clear BK138; clear HB; have HO141 := n0_; have BK138 := n1_; have HB := n2_; have BK147 := n3_; have GW147 := n4_; have GE147 := n5_; have NB138_147 := n6_; have NB147_138 := n7_; clear n0_ n1_ n2_ n3_ n4_ n5_ n6_ n7_; clear hb hbox hg; have hnb42 := NB147_138.out; have hnc42 := NB138_147.out; have hcz43_0 : w41.cell? ⟨gb147, 0, none⟩ = some (.bool false) := (blk_cell BK147.out 0).trans rfl; have hcz43_1 : w41.cell? ⟨gb147, 1, none⟩ = some (.string (⟨#[]⟩ : ByteArray)) := (blk_cell BK147.out 1).trans rfl; have hcz43_2 : w41.cell? ⟨gb147, 2, none⟩ = some (.string (⟨#[]⟩ : ByteArray)) := (blk_cell BK147.out 2).trans rfl; have hfz43_0 := blk_frozen BK147.out 0; have hfz43_1 := blk_frozen BK147.out 1; have hfz43_2 := blk_frozen BK147.out 2) | ((with_reducible refine gate_store (t := 23) (p := 7) rfl ?_); refine store_event (t := 23) (p := 7) (v := ?vo_w44) (w1 := (((w41.setCell ⟨gb147, 0, none⟩ (.bool t143)).setCell ⟨gb147, 1, none⟩ (.string t144)).setCell ⟨gb147, 2, none⟩ (.string t145))) ?hg ?ho ?hn ?hr ?_; (case ho => rfl); (case hg => rfl); (case hn => rfl); (case hr => first | (go_simp; done) | (go_simp; rfl)); intro w44 hw; have n0_ : Aside0 (Kd.R Kd.string 9 w44 w.heap.size (fun _ => True) (.slice (some ad142) t139.length co39) t139) := ⟨(by rw [hw]; exact (by (with_reducible repeat (first | apply Kd.R_alloc | apply Kd.R_drewN | apply Kd.R_drew)); exact Kd.R_mono (Kd.R_far (p := ⟨gb147, 2, none⟩) (Kd.R_far (p := ⟨gb147, 1, none⟩) (Kd.R_far (p := ⟨gb147, 0, none⟩) (Kd.R_types HO141.out BK147.out (by decide)) (fun _ hk => hk.2) (.bool t143)) (fun _ hk => hk.2) (.string t144)) (fun _ hk => hk.2) (.string t145)) (fun _ hk => trivial)))⟩; have n1_ : Aside0 (w44.heap[gb138]? = some (.cells #[.int .i64 0, .string (⟨#[]⟩ : ByteArray), .bool false, .string (⟨#[]⟩ : ByteArray), .string (⟨#[]⟩ : ByteArray), .slice none 0 0] 26 (0, 0))) := ⟨(by rw [hw]; exact (by (with_reducible repeat (first | refine blk_drewN ?_ _ | refine blk_drew ?_ | refine blk_alloc ?_ _)); refine blk_far ?_ NB138_147.out _; (with_reducible repeat (first | refine blk_drewN ?_ _ | refine blk_drew ?_ | refine blk_alloc ?_ _)); refine blk_far ?_ NB138_147.out _; (with_reducible repeat (first | refine blk_drewN ?_ _ | refine blk_drew ?_ | refine blk_alloc ?_ _)); refine blk_far ?_ NB138_147.out _; (with_reducible repeat (first | refine blk_drewN ?_ _ | refine blk_drew ?_ | refine blk_alloc ?_ _)); exact BK138.out))⟩; have n2_ : Aside0 (w44.heap[gb147]? = some (.cells #[.bool t143, .string t144, .string t145] 23 (0, 0))) := ⟨(by rw [hw]; exact (by (with_reducible repeat (first | refine blk_drewN ?_ _ | refine blk_drew ?_ | refine blk_alloc ?_ _)); refine blk_put (cs := #[.bool t143, .string t144, .string (⟨#[]⟩ : ByteArray)]) ?_ 2 _ rfl; (with_reducible repeat (first | refine blk_drewN ?_ _ | refine blk_drew ?_ | refine blk_alloc ?_ _)); refine blk_put (cs := #[.bool t143, .string (⟨#[]⟩ : ByteArray), .string (⟨#[]⟩ : ByteArray)]) ?_ 1 _ rfl; (with_reducible repeat (first | refine blk_drewN ?_ _ | refine blk_drew ?_ | refine blk_alloc ?_ _)); refine blk_put (cs := #[.bool false, .string (⟨#[]⟩ : ByteArray), .string (⟨#[]⟩ : ByteArray)]) ?_ 0 _ rfl; (with_reducible repeat (first | refine blk_drewN ?_ _ | refine blk_drew ?_ | refine blk_alloc ?_ _)); exact BK147.out))⟩; have n3_ : Aside0 (Below w.heap.size w w44) := ⟨(by rw [hw]; exact (by repeat (first | (with_reducible first | exact HB.out | apply below_alloc | apply pw_below_drewN | apply below_drew1 | refine below_set ?_ GE138.out | refine below_set ?_ GE147.out) | exact HB.out)))⟩; clear hw; clear HO141; clear BK138; clear BK147; clear HB; have HO141 := n0_; have BK138 := n1_; have BK147 := n2_; have HB := n3_; clear n0_ n1_ n2_ n3_; have q45 : (1 : Int) ≤ ((t139.length : Int) : Int) := of_decide_eq_true (by first | (with_reducible assumption) | assumption); obtain ⟨i045, hi045, _, hsz45, _⟩ := info_parts info9; have hroom45 : t139.length ≤ co39 := (Kd.R_reads' HO141.out).2.1; have hC45 : Kd.C Kd.string _ (some ad142) t139.length t139 := (Kd.R_reads' HO141.out).2.2; have hcut45 := cut_from (P := Tryd.prog) 40 9 .i64 Tryd.underlying40 hi045 1 hsz45 (some ad142) t139.length co39 1 (by omega) q45; have hr45 := Kd.C_drop (m := (1 : Int).toNat) (c := co39) hC45 (by omega) hroom45; obtain ⟨A45, hA45⟩ : ∃ A1, A1 = (if co39 = (1 : Int).toNat then (some ad142) else ((some ad142) : Option Addr).map (·.add ((1 : Int).toNat * 1))) := ⟨_, rfl⟩; obtain ⟨c45, hc45⟩ : ∃ c1, c1 = co39 - (1 : Int).toNat := ⟨_, rfl⟩; have hy45 : y148.length = t139.length - (1 : Int).toNat := (by rw [Ny148.out, List.length_drop] <;> omega); rw [show (t139).drop (1 : Int).toNat = y148 from Ny148.out.symm] at hr45; replace hr45 : Kd.C Kd.string _ A45 y148.length y148 := (by rw [hA45]; exact hr45); rw [← hy45, ← hA45, ← hc45] at hcut45; have HR151 := Aside0.mk hr45; have HC151 := Aside0.mk (show y148.length ≤ c45 from by rw [hy45, hc45]; exact Nat.sub_le_sub_right hroom45 _); clear hr45 hC45 hroom45 hi045 hsz45 hc45; have KY45 := Aside0.mk hy45; have KA45 := Aside0.mk hA45; clear hy45 hA45; have KL45 := Aside0.mk (show 1 ≤ t139.length from by omega); replace q45 := eq_true q45) | ((with_reducible refine gate_callee (f := 45) rfl ?_); refine goesL_ (some 24) rfl rfl Tryd.func45 (by kernel_rfl) rfl #[.int .i64 a0, .slice A45 y148.length c45] rfl (by (try simp only [List.map_toArray, List.map_cons, List.map_nil]); first | done | rfl | (simp only [List.length_drop, List.length_take]; rfl)) ?_; (with_reducible refine (verb_params.calls a0 _ _ y148 t152 true _ ?side1 ?side2 ?side3 A7.out).mono ?_); (case side1 => exact Glob.below HG.out (by repeat (first | (with_reducible first | exact HB.out | apply below_alloc | apply pw_below_drewN | apply below_drew1 | refine below_set ?_ GE138.out | refine below_set ?_ GE147.out) | exact HB.out))); (case side2 => repeat (first | exact (by repeat (first | (with_reducible exact HR151.out) | (with_reducible refine Kd.C_alloc ?_ _) | (with_reducible refine Kd.C_drewN ?_ _) | (with_reducible refine Kd.C_drew ?_) | exact HR151.out)) | (with_reducible refine Kd.C_alloc ?_ _) | (with_reducible refine Kd.C_drewN ?_ _) | (with_reducible refine Kd.C_drew ?_))); (case side3 => exact HC151.out); rintro e w46 ⟨v154, rfl, ho0, hb⟩; refine ⟨_, rfl, ?_⟩; have n0_ := Aside0.mk (Kd.R_below (by (with_reducible repeat (first | apply Kd.R_alloc | apply Kd.R_drewN | apply Kd.R_drew)); exact HO141.out) hb); have n1_ := Aside0.mk (Kd.R_lower ho0 (below_size (by repeat (first | (with_reducible first | exact HB.out | apply below_alloc | apply pw_below_drewN | apply below_drew1 | refine below_set ?_ GE138.out | refine below_set ?_ GE147.out) | exact HB.out)))); have n2_ := Aside0.mk (blk_below (g := gb138) (o := .cells #[.int .i64 0, .string (⟨#[]⟩ : ByteArray), .bool false, .string (⟨#[]⟩ : ByteArray), .string (⟨#[]⟩ : ByteArray), .slice none 0 0] 26 (0, 0)) (by (with_reducible repeat (first | refine blk_drewN ?_ _ | refine blk_drew ?_ | refine blk_alloc ?_ _)); exact BK138.out) hb); have n3_ := Aside0.mk (blk_below (g := gb147) (o := .cells #[.bool t143, .string t144, .string t145] 23 (0, 0)) (by (with_reducible repeat (first | refine blk_drewN ?_ _ | refine blk_drew ?_ | refine blk_alloc ?_ _)); exact BK147.out) hb); have n4_ := Aside0.mk (Kd.C_below (by repeat (first | (with_reducible exact HR151.out) | (with_reducible refine Kd.C_alloc ?_ _) | (with_reducible refine Kd.C_drewN ?_ _) | (with_reducible refine Kd.C_drew ?_) | exact HR151.out)) hb); have n5_ := Aside0.mk (below_step (by repeat (first | (with_reducible first | exact HB.out | apply below_alloc | apply pw_below_drewN | apply below_drew1 | refine below_set ?_ GE138.out | refine below_set ?_ GE147.out) | exact HB.out)) hb); clear HO141; clear BK138; clear BK147; clear HR151; clear HB; have HO141 := n0_; have HO155 := n1_; have BK138 := n2_; have BK147 := n3_; have HR151 := n4_; have HB := n5_; clear n0_ n1_ n2_ n3_ n4_ n5_; (try clear hb); (try clear hb2); (try clear hk); (try clear hi); (try clear ho0); have hcz47_0 : w46.cell? ⟨gb147, 0, none⟩ = some (.bool t143) := (blk_cell BK147.out 0).trans rfl; have hcz47_1 : w46.cell? ⟨gb147, 1, none⟩ = some (.string t144) := (blk_cell BK147.out 1).trans rfl; have hcz47_2 : w46.cell? ⟨gb147, 2, none⟩ = some (.string t145) := (blk_cell BK147.out 2).trans rfl; have hfz47_0 := blk_frozen BK147.out 0; have hfz47_1 := blk_frozen BK147.out 1; have hfz47_2 := blk_frozen BK147.out 2; obtain ⟨Ao48, co48, eo48⟩ := Kd.R_slice HO155.out; subst eo48; have hcz49_0 : w46.cell? ⟨gb138, 0, none⟩ = some (.int .i64 0) := (blk_cell BK138.out 0).trans rfl; have hcz49_1 : w46.cell? ⟨gb138, 1, none⟩ = some (.string (⟨#[]⟩ : ByteArray)) := (blk_cell BK138.out 1).trans rfl; have hcz49_2 : w46.cell? ⟨gb138, 2, none⟩ = some (.bool false) := (blk_cell BK138.out 2).trans rfl; have hcz49_3 : w46.cell? ⟨gb138, 3, none⟩ = some (.string (⟨#[]⟩ : ByteArray)) := (blk_cell BK138.out 3).trans rfl; have hcz49_4 : w46.cell? ⟨gb138, 4, none⟩ = some (.string (⟨#[]⟩ : ByteArray)) := (blk_cell BK138.out 4).trans rfl; have hcz49_5 : w46.cell? ⟨gb138, 5, none⟩ = some (.slice none 0 0) := (blk_cell BK138.out 5).trans rfl; have hfz49_0 := blk_frozen BK138.out 0; have hfz49_1 := blk_frozen BK138.out 1; have hfz49_2 := blk_frozen BK138.out 2; have hfz49_3 := blk_frozen BK138.out 3; have hfz49_4 := blk_frozen BK138.out 4; have hfz49_5 := blk_frozen BK138.out 5))
            refine bodyPost_ret (results_ct rfl _ _ gb138 26 #[.int .i64 a0, .string (⟨#[]⟩ : ByteArray), .bool t143, .string t144, .string t145, .slice Ao48 t152.length co48] (0, 0) _ rfl (by (with_reducible repeat (first | refine blk_drewN ?_ _ | refine blk_drew ?_ | refine blk_alloc ?_ _)); refine blk_put (cs := #[.int .i64 a0, .string (⟨#[]⟩ : ByteArray), .bool t143, .string t144, .string t145, .slice none 0 0]) ?_ 5 _ rfl; (with_reducible repeat (first | refine blk_drewN ?_ _ | refine blk_drew ?_ | refine blk_alloc ?_ _)); refine blk_put (cs := #[.int .i64 a0, .string (⟨#[]⟩ : ByteArray), .bool t143, .string t144, .string (⟨#[]⟩ : ByteArray), .slice none 0 0]) ?_ 4 _ rfl; (with_reducible repeat (first | refine blk_drewN ?_ _ | refine blk_drew ?_ | refine blk_alloc ?_ _)); refine blk_put (cs := #[.int .i64 a0, .string (⟨#[]⟩ : ByteArray), .bool t143, .string (⟨#[]⟩ : ByteArray), .string (⟨#[]⟩ : ByteArray), .slice none 0 0]) ?_ 3 _ rfl; (with_reducible repeat (first | refine blk_drewN ?_ _ | refine blk_drew ?_ | refine blk_alloc ?_ _)); refine blk_put (cs := #[.int .i64 a0, .string (⟨#[]⟩ : ByteArray), .bool false, .string (⟨#[]⟩ : ByteArray), .string (⟨#[]⟩ : ByteArray), .slice none 0 0]) ?_ 2 _ rfl; (with_reducible repeat (first | refine blk_drewN ?_ _ | refine blk_drew ?_ | refine blk_alloc ?_ _)); refine blk_put (cs := #[.int .i64 a0, .string (⟨#[]⟩ : ByteArray), .bool false, .string (⟨#[]⟩ : ByteArray), .string (⟨#[]⟩ : ByteArray), .slice none 0 0]) ?_ 1 _ rfl; (with_reducible repeat (first | refine blk_drewN ?_ _ | refine blk_drew ?_ | refine blk_alloc ?_ _)); refine blk_put (cs := #[.int .i64 0, .string (⟨#[]⟩ : ByteArray), .bool false, .string (⟨#[]⟩ : ByteArray), .string (⟨#[]⟩ : ByteArray), .slice none 0 0]) ?_ 0 _ rfl; (with_reducible repeat (first | refine blk_drewN ?_ _ | refine blk_drew ?_ | refine blk_alloc ?_ _)); exact BK138.out) Tryd.underlying26 rfl (by kernel_rfl)) rfl ?_
            exact ⟨_, by first | rfl | (simp [errW_none, errW_some] <;> rfl) | (simp [*, errW_none, errW_some] <;> rfl), by (with_reducible repeat (first | apply Kd.R_alloc | apply Kd.R_drewN | apply Kd.R_drew)); exact Kd.R_mono (Kd.R_far (p := ⟨gb138, 5, none⟩) (Kd.R_far (p := ⟨gb138, 4, none⟩) (Kd.R_far (p := ⟨gb138, 3, none⟩) (Kd.R_far (p := ⟨gb138, 2, none⟩) (Kd.R_far (p := ⟨gb138, 1, none⟩) (Kd.R_far (p := ⟨gb138, 0, none⟩) (Kd.R_types HO155.out BK138.out (by decide)) (fun _ hk => hk.2) (.int .i64 a0)) (fun _ hk => hk.2) (.string (⟨#[]⟩ : ByteArray))) (fun _ hk => hk.2) (.bool t143)) (fun _ hk => hk.2) (.string t144)) (fun _ hk => hk.2) (.string t145)) (fun _ hk => hk.2) (.slice Ao48 t152.length co48)) (fun _ hk => trivial), by repeat (first | (with_reducible first | exact HB.out | apply below_alloc | apply pw_below_drewN | apply below_drew1 | refine below_set ?_ GE138.out | refine below_set ?_ GE147.out) | exact HB.out)⟩
        · replace c9 := Bool.eq_false_iff.mpr c9
          subst c9
          have H1 : (some (0, (⟨#[]⟩ : ByteArray), false, (⟨#[]⟩ : ByteArray), (⟨#[]⟩ : ByteArray), ([] : List (S46)), false)) = some (r1, r2, r3, r4, r5, r6, r7) := by rw [if_neg (show ¬ (false = true) by decide)] at H; exact H
          clear H
          have H := H1
          clear H1
          simp only [Option.some.injEq, Prod.mk.injEq] at H
          obtain ⟨rfl, rfl, rfl, rfl, rfl, rfl, rfl⟩ := H
          go_enter Tryd.func34, Tryd.ntmps34
          go_wp2_with (first | ((with_reducible refine gate_dst (N := 4) rfl ?_); refine box_event ?hg (N := 4) ?hd (cs := #[.int .i64 0, .string (⟨#[]⟩ : ByteArray), .bool false, .string (⟨#[]⟩ : ByteArray), .string (⟨#[]⟩ : ByteArray), .slice none 0 0]) (t := 26) ?hr ?_; (case hd => rfl); (case hg => rfl); (case hr => first | (go_simp; done) | (go_simp; rfl)); intro gb138 hg w50 hbox hb; have n0_ := Aside0.mk (below_step (by repeat (first | (with_reducible first | exact HB.out | apply below_alloc | apply pw_below_drewN | apply below_drew1) | exact HB.out)) hb); have n1_ := Aside0.mk (hbox); have n2_ := Aside0.mk ((by rw [hg]; exact (below_size (by repeat (first | (with_reducible first | exact HB.out | apply below_alloc | apply pw_below_drewN | apply below_drew1) | exact HB.out))) : w.heap.size ≤ gb138)); have n3_ := Aside0.mk ((by rw [hg]; exact (below_size (by repeat (first | (with_reducible first | exact HB.out | apply below_alloc | apply pw_below_drewN | apply below_drew1) | exact HB.out))) : w.heap.size ≤ gb138)); clear HB; have HB := n0_; have BK138 := n1_; have GW138 := n2_; have GE138 := n3_; clear n0_ n1_ n2_ n3_; clear hb hbox hg) | ((with_reducible refine gate_callee (f := 19) rfl ?_); refine goesL_ (some 12) rfl rfl Tryd.func19 (by kernel_rfl) rfl #[.string a1, .string (⟨#[32]⟩ : ByteArray)] rfl (by (try simp only [List.map_toArray, List.map_cons, List.map_nil]); first | done | rfl | (simp only [List.length_drop, List.length_take]; rfl)) ?_; (with_reducible refine (strings_Split.calls a1 (⟨#[32]⟩ : ByteArray) t139 _ ?side1 A3.out).mono ?_); (case side1 => exact Glob.below HG.out (by repeat (first | (with_reducible first | exact HB.out | apply below_alloc | apply pw_below_drewN | apply below_drew1 | refine below_set ?_ GE138.out) | exact HB.out))); rintro e w51 ⟨v140, rfl, ho0, hb⟩; refine ⟨_, rfl, ?_⟩; have n0_ := Aside0.mk (Kd.R_lower ho0 (below_size (by repeat (first | (with_reducible first | exact HB.out | apply below_alloc | apply pw_below_drewN | apply below_drew1 | refine below_set ?_ GE138.out) | exact HB.out)))); have n1_ := Aside0.mk (blk_below (g := gb138) (o := .cells #[.int .i64 0, .string (⟨#[]⟩ : ByteArray), .bool false, .string (⟨#[]⟩ : ByteArray), .string (⟨#[]⟩ : ByteArray), .slice none 0 0] 26 (0, 0)) (by (with_reducible repeat (first | refine blk_drewN ?_ _ | refine blk_drew ?_ | refine blk_alloc ?_ _)); exact BK138.out) hb); have n2_ := Aside0.mk (below_step (by repeat (first | (with_reducible first | exact HB.out | apply below_alloc | apply pw_below_drewN | apply below_drew1 | refine below_set ?_ GE138.out) | exact HB.out)) hb); clear BK138; clear HB; have HO141 := n0_; have BK138 := n1_; have HB := n2_; clear n0_ n1_ n2_; (try clear hb); (try clear hb2); (try clear hk); (try clear hi); (try clear ho0); obtain ⟨Ao52, co52, eo52⟩ := Kd.R_slice HO141.out; subst eo52; have p142 : 0 ≤ (0 : Int) := (by omega); have q142 : 0 < (t139.length : Int) := of_decide_eq_true (by first | (with_reducible assumption) | assumption); obtain ⟨ad142, e142, hx142_0⟩ := Kd.at_string (Kd.R_reads' HO141.out).2.2 0 p142 q142; cases e142; have qi142 : (0 < t139.length) = True := eq_true (by omega); (try rw [show ((0 : Int)).toNat = 0 from rfl] at hx142_0); (try rw [Addr.add_zero'] at hx142_0); replace p142 := eq_true p142; replace q142 := eq_true q142) | ((with_reducible refine gate_callee (f := 44) rfl ?_); refine goesL_ (some 17) rfl rfl Tryd.func44 (by kernel_rfl) rfl #[.string (rdOf ByteArray.empty t139 0)] rfl (by (try simp only [List.map_toArray, List.map_cons, List.map_nil]); first | done | rfl | (simp only [List.length_drop, List.length_take]; rfl)) ?_; (with_reducible refine (path_Parse.calls (rdOf ByteArray.empty t139 0) t143 t144 t145 t146 _ ?side1 A5.out).mono ?_); (case side1 => exact Glob.below HG.out (by repeat (first | (with_reducible first | exact HB.out | apply below_alloc | apply pw_below_drewN | apply below_drew1 | refine below_set ?_ GE138.out) | exact HB.out))); rintro e w53 ⟨rfl, hb⟩; refine ⟨_, rfl, ?_⟩; have n0_ := Aside0.mk (Kd.R_below (by (with_reducible repeat (first | apply Kd.R_alloc | apply Kd.R_drewN | apply Kd.R_drew)); exact HO141.out) hb); have n1_ := Aside0.mk (blk_below (g := gb138) (o := .cells #[.int .i64 0, .string (⟨#[]⟩ : ByteArray), .bool false, .string (⟨#[]⟩ : ByteArray), .string (⟨#[]⟩ : ByteArray), .slice none 0 0] 26 (0, 0)) (by (with_reducible repeat (first | refine blk_drewN ?_ _ | refine blk_drew ?_ | refine blk_alloc ?_ _)); exact BK138.out) hb); have n2_ := Aside0.mk (below_step (by repeat (first | (with_reducible first | exact HB.out | apply below_alloc | apply pw_below_drewN | apply below_drew1 | refine below_set ?_ GE138.out) | exact HB.out)) hb); clear HO141; clear BK138; clear HB; have HO141 := n0_; have BK138 := n1_; have HB := n2_; clear n0_ n1_ n2_; (try clear hb); (try clear hb2); (try clear hk); (try clear hi)) | ((with_reducible refine gate_dst (N := 7) rfl ?_); refine box_event ?hg (N := 7) ?hd (cs := #[.bool false, .string (⟨#[]⟩ : ByteArray), .string (⟨#[]⟩ : ByteArray)]) (t := 23) ?hr ?_; (case hd => rfl); (case hg => rfl); (case hr => first | (go_simp; done) | (go_simp; rfl)); intro gb147 hg w54 hbox hb; have n0_ := Aside0.mk (Kd.R_below (by (with_reducible repeat (first | apply Kd.R_alloc | apply Kd.R_drewN | apply Kd.R_drew)); exact HO141.out) hb); have n1_ := Aside0.mk (blk_below (g := gb138) (o := .cells #[.int .i64 0, .string (⟨#[]⟩ : ByteArray), .bool false, .string (⟨#[]⟩ : ByteArray), .string (⟨#[]⟩ : ByteArray), .slice none 0 0] 26 (0, 0)) (by (with_reducible repeat (first | refine blk_drewN ?_ _ | refine blk_drew ?_ | refine blk_alloc ?_ _)); exact BK138.out) hb); have n2_ := Aside0.mk (below_step (by repeat (first | (with_reducible first | exact HB.out | apply below_alloc | apply pw_below_drewN | apply below_drew1 | refine below_set ?_ GE138.out) | exact HB.out)) hb); have n3_ := Aside0.mk (hbox); have n4_ := Aside0.mk ((by rw [hg]; exact (below_size (by repeat (first | (with_reducible first | exact HB.out | apply below_alloc | apply pw_below_drewN | apply below_drew1 | refine below_set ?_ GE138.out) | exact HB.out))) : w.heap.size ≤ gb147)); have n5_ := Aside0.mk ((by rw [hg]; exact (below_size (by repeat (first | (with_reducible first | exact HB.out | apply below_alloc | apply pw_below_drewN | apply below_drew1 | refine below_set ?_ GE138.out) | exact HB.out))) : w.heap.size ≤ gb147)); have n6_ := Aside0.mk ((by rw [hg]; exact Nat.ne_of_lt (blk_lt (g := gb138) (o := .cells #[.int .i64 0, .string (⟨#[]⟩ : ByteArray), .bool false, .string (⟨#[]⟩ : ByteArray), .string (⟨#[]⟩ : ByteArray), .slice none 0 0] 26 (0, 0)) (by (with_reducible repeat (first | refine blk_drewN ?_ _ | refine blk_drew ?_ | refine blk_alloc ?_ _)); exact BK138.out)) : gb138 ≠ gb147)); have n7_ := Aside0.mk ((by rw [hg]; exact Nat.ne_of_gt (blk_lt (g := gb138) (o := .cells #[.int .i64 0, .string (⟨#[]⟩ : ByteArray), .bool false, .string (⟨#[]⟩ : ByteArray), .string (⟨#[]⟩ : ByteArray), .slice none 0 0] 26 (0, 0)) (by (with_reducible repeat (first | refine blk_drewN ?_ _ | refine blk_drew ?_ | refine blk_alloc ?_ _)); exact BK138.out)) : gb147 ≠ gb138)); clear HO141; clear BK138; clear HB; have HO141 := n0_; have BK138 := n1_; have HB := n2_; have BK147 := n3_; have GW147 := n4_; have GE147 := n5_; have NB138_147 := n6_; have NB147_138 := n7_; clear n0_ n1_ n2_ n3_ n4_ n5_ n6_ n7_; clear hb hbox hg; have hnb55 := NB147_138.out; have hnc55 := NB138_147.out; have hcz56_0 : w54.cell? ⟨gb147, 0, none⟩ = some (.bool false) := (blk_cell BK147.out 0).trans rfl; have hcz56_1 : w54.cell? ⟨gb147, 1, none⟩ = some (.string (⟨#[]⟩ : ByteArray)) := (blk_cell BK147.out 1).trans rfl; have hcz56_2 : w54.cell? ⟨gb147, 2, none⟩ = some (.string (⟨#[]⟩ : ByteArray)) := (blk_cell BK147.out 2).trans rfl; have hfz56_0 := blk_frozen BK147.out 0; have hfz56_1 := blk_frozen BK147.out 1; have hfz56_2 := blk_frozen BK147.out 2) | ((with_reducible refine gate_store (t := 23) (p := 7) rfl ?_); refine store_event (t := 23) (p := 7) (v := ?vo_w57) (w1 := (((w54.setCell ⟨gb147, 0, none⟩ (.bool t143)).setCell ⟨gb147, 1, none⟩ (.string t144)).setCell ⟨gb147, 2, none⟩ (.string t145))) ?hg ?ho ?hn ?hr ?_; (case ho => rfl); (case hg => rfl); (case hn => rfl); (case hr => first | (go_simp; done) | (go_simp; rfl)); intro w57 hw; have n0_ : Aside0 (Kd.R Kd.string 9 w57 w.heap.size (fun _ => True) (.slice (some ad142) t139.length co52) t139) := ⟨(by rw [hw]; exact (by (with_reducible repeat (first | apply Kd.R_alloc | apply Kd.R_drewN | apply Kd.R_drew)); exact Kd.R_mono (Kd.R_far (p := ⟨gb147, 2, none⟩) (Kd.R_far (p := ⟨gb147, 1, none⟩) (Kd.R_far (p := ⟨gb147, 0, none⟩) (Kd.R_types HO141.out BK147.out (by decide)) (fun _ hk => hk.2) (.bool t143)) (fun _ hk => hk.2) (.string t144)) (fun _ hk => hk.2) (.string t145)) (fun _ hk => trivial)))⟩; have n1_ : Aside0 (w57.heap[gb138]? = some (.cells #[.int .i64 0, .string (⟨#[]⟩ : ByteArray), .bool false, .string (⟨#[]⟩ : ByteArray), .string (⟨#[]⟩ : ByteArray), .slice none 0 0] 26 (0, 0))) := ⟨(by rw [hw]; exact (by (with_reducible repeat (first | refine blk_drewN ?_ _ | refine blk_drew ?_ | refine blk_alloc ?_ _)); refine blk_far ?_ NB138_147.out _; (with_reducible repeat (first | refine blk_drewN ?_ _ | refine blk_drew ?_ | refine blk_alloc ?_ _)); refine blk_far ?_ NB138_147.out _; (with_reducible repeat (first | refine blk_drewN ?_ _ | refine blk_drew ?_ | refine blk_alloc ?_ _)); refine blk_far ?_ NB138_147.out _; (with_reducible repeat (first | refine blk_drewN ?_ _ | refine blk_drew ?_ | refine blk_alloc ?_ _)); exact BK138.out))⟩; have n2_ : Aside0 (w57.heap[gb147]? = some (.cells #[.bool t143, .string t144, .string t145] 23 (0, 0))) := ⟨(by rw [hw]; exact (by (with_reducible repeat (first | refine blk_drewN ?_ _ | refine blk_drew ?_ | refine blk_alloc ?_ _)); refine blk_put (cs := #[.bool t143, .string t144, .string (⟨#[]⟩ : ByteArray)]) ?_ 2 _ rfl; (with_reducible repeat (first | refine blk_drewN ?_ _ | refine blk_drew ?_ | refine blk_alloc ?_ _)); refine blk_put (cs := #[.bool t143, .string (⟨#[]⟩ : ByteArray), .string (⟨#[]⟩ : ByteArray)]) ?_ 1 _ rfl; (with_reducible repeat (first | refine blk_drewN ?_ _ | refine blk_drew ?_ | refine blk_alloc ?_ _)); refine blk_put (cs := #[.bool false, .string (⟨#[]⟩ : ByteArray), .string (⟨#[]⟩ : ByteArray)]) ?_ 0 _ rfl; (with_reducible repeat (first | refine blk_drewN ?_ _ | refine blk_drew ?_ | refine blk_alloc ?_ _)); exact BK147.out))⟩; have n3_ : Aside0 (Below w.heap.size w w57) := ⟨(by rw [hw]; exact (by repeat (first | (with_reducible first | exact HB.out | apply below_alloc | apply pw_below_drewN | apply below_drew1 | refine below_set ?_ GE138.out | refine below_set ?_ GE147.out) | exact HB.out)))⟩; clear hw; clear HO141; clear BK138; clear BK147; clear HB; have HO141 := n0_; have BK138 := n1_; have BK147 := n2_; have HB := n3_; clear n0_ n1_ n2_ n3_; have q58 : (1 : Int) ≤ ((t139.length : Int) : Int) := of_decide_eq_true (by first | (with_reducible assumption) | assumption); obtain ⟨i058, hi058, _, hsz58, _⟩ := info_parts info9; have hroom58 : t139.length ≤ co52 := (Kd.R_reads' HO141.out).2.1; have hC58 : Kd.C Kd.string _ (some ad142) t139.length t139 := (Kd.R_reads' HO141.out).2.2; have hcut58 := cut_from (P := Tryd.prog) 40 9 .i64 Tryd.underlying40 hi058 1 hsz58 (some ad142) t139.length co52 1 (by omega) q58; have hr58 := Kd.C_drop (m := (1 : Int).toNat) (c := co52) hC58 (by omega) hroom58; obtain ⟨A58, hA58⟩ : ∃ A1, A1 = (if co52 = (1 : Int).toNat then (some ad142) else ((some ad142) : Option Addr).map (·.add ((1 : Int).toNat * 1))) := ⟨_, rfl⟩; obtain ⟨c58, hc58⟩ : ∃ c1, c1 = co52 - (1 : Int).toNat := ⟨_, rfl⟩; have hy58 : y148.length = t139.length - (1 : Int).toNat := (by rw [Ny148.out, List.length_drop] <;> omega); rw [show (t139).drop (1 : Int).toNat = y148 from Ny148.out.symm] at hr58; replace hr58 : Kd.C Kd.string _ A58 y148.length y148 := (by rw [hA58]; exact hr58); rw [← hy58, ← hA58, ← hc58] at hcut58; have HR151 := Aside0.mk hr58; have HC151 := Aside0.mk (show y148.length ≤ c58 from by rw [hy58, hc58]; exact Nat.sub_le_sub_right hroom58 _); clear hr58 hC58 hroom58 hi058 hsz58 hc58; have KY58 := Aside0.mk hy58; have KA58 := Aside0.mk hA58; clear hy58 hA58; have KL58 := Aside0.mk (show 1 ≤ t139.length from by omega); replace q58 := eq_true q58) | ((with_reducible refine gate_callee (f := 45) rfl ?_); refine goesL_ (some 24) rfl rfl Tryd.func45 (by kernel_rfl) rfl #[.int .i64 a0, .slice A58 y148.length c58] rfl (by (try simp only [List.map_toArray, List.map_cons, List.map_nil]); first | done | rfl | (simp only [List.length_drop, List.length_take]; rfl)) ?_; (with_reducible refine (verb_params.calls a0 _ _ y148 t152 false _ ?side1 ?side2 ?side3 A7.out).mono ?_); (case side1 => exact Glob.below HG.out (by repeat (first | (with_reducible first | exact HB.out | apply below_alloc | apply pw_below_drewN | apply below_drew1 | refine below_set ?_ GE138.out | refine below_set ?_ GE147.out) | exact HB.out))); (case side2 => repeat (first | exact (by repeat (first | (with_reducible exact HR151.out) | (with_reducible refine Kd.C_alloc ?_ _) | (with_reducible refine Kd.C_drewN ?_ _) | (with_reducible refine Kd.C_drew ?_) | exact HR151.out)) | (with_reducible refine Kd.C_alloc ?_ _) | (with_reducible refine Kd.C_drewN ?_ _) | (with_reducible refine Kd.C_drew ?_))); (case side3 => exact HC151.out); rintro e w59 ⟨v154, rfl, ho0, hb⟩; refine ⟨_, rfl, ?_⟩; have n0_ := Aside0.mk (Kd.R_below (by (with_reducible repeat (first | apply Kd.R_alloc | apply Kd.R_drewN | apply Kd.R_drew)); exact HO141.out) hb); have n1_ := Aside0.mk (Kd.R_lower ho0 (below_size (by repeat (first | (with_reducible first | exact HB.out | apply below_alloc | apply pw_below_drewN | apply below_drew1 | refine below_set ?_ GE138.out | refine below_set ?_ GE147.out) | exact HB.out)))); have n2_ := Aside0.mk (blk_below (g := gb138) (o := .cells #[.int .i64 0, .string (⟨#[]⟩ : ByteArray), .bool false, .string (⟨#[]⟩ : ByteArray), .string (⟨#[]⟩ : ByteArray), .slice none 0 0] 26 (0, 0)) (by (with_reducible repeat (first | refine blk_drewN ?_ _ | refine blk_drew ?_ | refine blk_alloc ?_ _)); exact BK138.out) hb); have n3_ := Aside0.mk (blk_below (g := gb147) (o := .cells #[.bool t143, .string t144, .string t145] 23 (0, 0)) (by (with_reducible repeat (first | refine blk_drewN ?_ _ | refine blk_drew ?_ | refine blk_alloc ?_ _)); exact BK147.out) hb); have n4_ := Aside0.mk (Kd.C_below (by repeat (first | (with_reducible exact HR151.out) | (with_reducible refine Kd.C_alloc ?_ _) | (with_reducible refine Kd.C_drewN ?_ _) | (with_reducible refine Kd.C_drew ?_) | exact HR151.out)) hb); have n5_ := Aside0.mk (below_step (by repeat (first | (with_reducible first | exact HB.out | apply below_alloc | apply pw_below_drewN | apply below_drew1 | refine below_set ?_ GE138.out | refine below_set ?_ GE147.out) | exact HB.out)) hb); clear HO141; clear BK138; clear BK147; clear HR151; clear HB; have HO141 := n0_; have HO155 := n1_; have BK138 := n2_; have BK147 := n3_; have HR151 := n4_; have HB := n5_; clear n0_ n1_ n2_ n3_ n4_ n5_; (try clear hb); (try clear hb2); (try clear hk); (try clear hi); (try clear ho0); have hcz60_0 : w59.cell? ⟨gb138, 0, none⟩ = some (.int .i64 0) := (blk_cell BK138.out 0).trans rfl; have hcz60_1 : w59.cell? ⟨gb138, 1, none⟩ = some (.string (⟨#[]⟩ : ByteArray)) := (blk_cell BK138.out 1).trans rfl; have hcz60_2 : w59.cell? ⟨gb138, 2, none⟩ = some (.bool false) := (blk_cell BK138.out 2).trans rfl; have hcz60_3 : w59.cell? ⟨gb138, 3, none⟩ = some (.string (⟨#[]⟩ : ByteArray)) := (blk_cell BK138.out 3).trans rfl; have hcz60_4 : w59.cell? ⟨gb138, 4, none⟩ = some (.string (⟨#[]⟩ : ByteArray)) := (blk_cell BK138.out 4).trans rfl; have hcz60_5 : w59.cell? ⟨gb138, 5, none⟩ = some (.slice none 0 0) := (blk_cell BK138.out 5).trans rfl; have hfz60_0 := blk_frozen BK138.out 0; have hfz60_1 := blk_frozen BK138.out 1; have hfz60_2 := blk_frozen BK138.out 2; have hfz60_3 := blk_frozen BK138.out 3; have hfz60_4 := blk_frozen BK138.out 4; have hfz60_5 := blk_frozen BK138.out 5))
          refine bodyPost_ret (results_ct rfl _ _ gb138 26 #[.int .i64 0, .string (⟨#[]⟩ : ByteArray), .bool false, .string (⟨#[]⟩ : ByteArray), .string (⟨#[]⟩ : ByteArray), .slice none 0 0] (0, 0) _ rfl (by (with_reducible repeat (first | refine blk_drewN ?_ _ | refine blk_drew ?_ | refine blk_alloc ?_ _)); refine blk_put (cs := #[.int .i64 0, .string (⟨#[]⟩ : ByteArray), .bool false, .string (⟨#[]⟩ : ByteArray), .string (⟨#[]⟩ : ByteArray), .slice none 0 0]) ?_ 5 _ rfl; (with_reducible repeat (first | refine blk_drewN ?_ _ | refine blk_drew ?_ | refine blk_alloc ?_ _)); refine blk_put (cs := #[.int .i64 0, .string (⟨#[]⟩ : ByteArray), .bool false, .string (⟨#[]⟩ : ByteArray), .string (⟨#[]⟩ : ByteArray), .slice none 0 0]) ?_ 4 _ rfl; (with_reducible repeat (first | refine blk_drewN ?_ _ | refine blk_drew ?_ | refine blk_alloc ?_ _)); refine blk_put (cs := #[.int .i64 0, .string (⟨#[]⟩ : ByteArray), .bool false, .string (⟨#[]⟩ : ByteArray), .string (⟨#[]⟩ : ByteArray), .slice none 0 0]) ?_ 3 _ rfl; (with_reducible repeat (first | refine blk_drewN ?_ _ | refine blk_drew ?_ | refine blk_alloc ?_ _)); refine blk_put (cs := #[.int .i64 0, .string (⟨#[]⟩ : ByteArray), .bool false, .string (⟨#[]⟩ : ByteArray), .string (⟨#[]⟩ : ByteArray), .slice none 0 0]) ?_ 2 _ rfl; (with_reducible repeat (first | refine blk_drewN ?_ _ | refine blk_drew ?_ | refine blk_alloc ?_ _)); refine blk_put (cs := #[.int .i64 0, .string (⟨#[]⟩ : ByteArray), .bool false, .string (⟨#[]⟩ : ByteArray), .string (⟨#[]⟩ : ByteArray), .slice none 0 0]) ?_ 1 _ rfl; (with_reducible repeat (first | refine blk_drewN ?_ _ | refine blk_drew ?_ | refine blk_alloc ?_ _)); refine blk_put (cs := #[.int .i64 0, .string (⟨#[]⟩ : ByteArray), .bool false, .string (⟨#[]⟩ : ByteArray), .string (⟨#[]⟩ : ByteArray), .slice none 0 0]) ?_ 0 _ rfl; (with_reducible repeat (first | refine blk_drewN ?_ _ | refine blk_drew ?_ | refine blk_alloc ?_ _)); exact BK138.out) Tryd.underlying26 rfl (by kernel_rfl)) rfl ?_
          exact ⟨_, by first | rfl | (simp [errW_none, errW_some] <;> rfl) | (simp [*, errW_none, errW_some] <;> rfl), by first | exact Kd.R_nil _ _ _ _ _ | exact Kd.N_nil _ _ _ _ _ | exact Kd.V_nil _ _ _ _ _ | exact Kd.Q_nil _ _ _ _ _ | exact Kd.S_nil _ _ _ _ _, by repeat (first | (with_reducible first | exact HB.out | apply below_alloc | apply pw_below_drewN | apply below_drew1 | refine below_set ?_ GE138.out | refine below_set ?_ GE147.out) | exact HB.out)⟩
      · rw [if_neg c8] at H
        have c8b0 : (t146 == 0) = false := beq_eq_false_iff_ne.mpr c8
        have c8b1 : (t146 != 0) = true := bne_iff_ne.mpr c8
        simp only [Option.some.injEq, Prod.mk.injEq] at H
        obtain ⟨rfl, rfl, rfl, rfl, rfl, rfl, rfl⟩ := H
        go_enter Tryd.func34, Tryd.ntmps34
        go_wp2_with (first | ((with_reducible refine gate_dst (N := 4) rfl ?_); refine box_event ?hg (N := 4) ?hd (cs := #[.int .i64 0, .string (⟨#[]⟩ : ByteArray), .bool false, .string (⟨#[]⟩ : ByteArray), .string (⟨#[]⟩ : ByteArray), .slice none 0 0]) (t := 26) ?hr ?_; (case hd => rfl); (case hg => rfl); (case hr => first | (go_simp; done) | (go_simp; rfl)); intro gb138 hg w61 hbox hb; have n0_ := Aside0.mk (below_step (by repeat (first | (with_reducible first | exact HB.out | apply below_alloc | apply pw_below_drewN | apply below_drew1) | exact HB.out)) hb); have n1_ := Aside0.mk (hbox); have n2_ := Aside0.mk ((by rw [hg]; exact (below_size (by repeat (first | (with_reducible first | exact HB.out | apply below_alloc | apply pw_below_drewN | apply below_drew1) | exact HB.out))) : w.heap.size ≤ gb138)); have n3_ := Aside0.mk ((by rw [hg]; exact (below_size (by repeat (first | (with_reducible first | exact HB.out | apply below_alloc | apply pw_below_drewN | apply below_drew1) | exact HB.out))) : w.heap.size ≤ gb138)); clear HB; have HB := n0_; have BK138 := n1_; have GW138 := n2_; have GE138 := n3_; clear n0_ n1_ n2_ n3_; clear hb hbox hg) | ((with_reducible refine gate_callee (f := 19) rfl ?_); refine goesL_ (some 12) rfl rfl Tryd.func19 (by kernel_rfl) rfl #[.string a1, .string (⟨#[32]⟩ : ByteArray)] rfl (by (try simp only [List.map_toArray, List.map_cons, List.map_nil]); first | done | rfl | (simp only [List.length_drop, List.length_take]; rfl)) ?_; (with_reducible refine (strings_Split.calls a1 (⟨#[32]⟩ : ByteArray) t139 _ ?side1 A3.out).mono ?_); (case side1 => exact Glob.below HG.out (by repeat (first | (with_reducible first | exact HB.out | apply below_alloc | apply pw_below_drewN | apply below_drew1 | refine below_set ?_ GE138.out) | exact HB.out))); rintro e w62 ⟨v140, rfl, ho0, hb⟩; refine ⟨_, rfl, ?_⟩; have n0_ := Aside0.mk (Kd.R_lower ho0 (below_size (by repeat (first | (with_reducible first | exact HB.out | apply below_alloc | apply pw_below_drewN | apply below_drew1 | refine below_set ?_ GE138.out) | exact HB.out)))); have n1_ := Aside0.mk (blk_below (g := gb138) (o := .cells #[.int .i64 0, .string (⟨#[]⟩ : ByteArray), .bool false, .string (⟨#[]⟩ : ByteArray), .string (⟨#[]⟩ : ByteArray), .slice none 0 0] 26 (0, 0)) (by (with_reducible repeat (first | refine blk_drewN ?_ _ | refine blk_drew ?_ | refine blk_alloc ?_ _)); exact BK138.out) hb); have n2_ := Aside0.mk (below_step (by repeat (first | (with_reducible first | exact HB.out | apply below_alloc | apply pw_below_drewN | apply below_drew1 | refine below_set ?_ GE138.out) | exact HB.out)) hb); clear BK138; clear HB; have HO141 := n0_; have BK138 := n1_; have HB := n2_; clear n0_ n1_ n2_; (try clear hb); (try clear hb2); (try clear hk); (try clear hi); (try clear ho0); obtain ⟨Ao63, co63, eo63⟩ := Kd.R_slice HO141.out; subst eo63; have p142 : 0 ≤ (0 : Int) := (by omega); have q142 : 0 < (t139.length : Int) := of_decide_eq_true (by first | (with_reducible assumption) | assumption); obtain ⟨ad142, e142, hx142_0⟩ := Kd.at_string (Kd.R_reads' HO141.out).2.2 0 p142 q142; cases e142; have qi142 : (0 < t139.length) = True := eq_true (by omega); (try rw [show ((0 : Int)).toNat = 0 from rfl] at hx142_0); (try rw [Addr.add_zero'] at hx142_0); replace p142 := eq_true p142; replace q142 := eq_true q142) | ((with_reducible refine gate_callee (f := 44) rfl ?_); refine goesL_ (some 17) rfl rfl Tryd.func44 (by kernel_rfl) rfl #[.string (rdOf ByteArray.empty t139 0)] rfl (by (try simp only [List.map_toArray, List.map_cons, List.map_nil]); first | done | rfl | (simp only [List.length_drop, List.length_take]; rfl)) ?_; (with_reducible refine (path_Parse.calls (rdOf ByteArray.empty t139 0) t143 t144 t145 t146 _ ?side1 A5.out).mono ?_); (case side1 => exact Glob.below HG.out (by repeat (first | (with_reducible first | exact HB.out | apply below_alloc | apply pw_below_drewN | apply below_drew1 | refine below_set ?_ GE138.out) | exact HB.out))); rintro e w64 ⟨rfl, hb⟩; refine ⟨_, rfl, ?_⟩; have n0_ := Aside0.mk (Kd.R_below (by (with_reducible repeat (first | apply Kd.R_alloc | apply Kd.R_drewN | apply Kd.R_drew)); exact HO141.out) hb); have n1_ := Aside0.mk (blk_below (g := gb138) (o := .cells #[.int .i64 0, .string (⟨#[]⟩ : ByteArray), .bool false, .string (⟨#[]⟩ : ByteArray), .string (⟨#[]⟩ : ByteArray), .slice none 0 0] 26 (0, 0)) (by (with_reducible repeat (first | refine blk_drewN ?_ _ | refine blk_drew ?_ | refine blk_alloc ?_ _)); exact BK138.out) hb); have n2_ := Aside0.mk (below_step (by repeat (first | (with_reducible first | exact HB.out | apply below_alloc | apply pw_below_drewN | apply below_drew1 | refine below_set ?_ GE138.out) | exact HB.out)) hb); clear HO141; clear BK138; clear HB; have HO141 := n0_; have BK138 := n1_; have HB := n2_; clear n0_ n1_ n2_; (try clear hb); (try clear hb2); (try clear hk); (try clear hi)) | ((with_reducible refine gate_dst (N := 7) rfl ?_); refine box_event ?hg (N := 7) ?hd (cs := #[.bool false, .string (⟨#[]⟩ : ByteArray), .string (⟨#[]⟩ : ByteArray)]) (t := 23) ?hr ?_; (case hd => rfl); (case hg => rfl); (case hr => first | (go_simp; done) | (go_simp; rfl)); intro gb147 hg w65 hbox hb; have n0_ := Aside0.mk (Kd.R_below (by (with_reducible repeat (first | apply Kd.R_alloc | apply Kd.R_drewN | apply Kd.R_drew)); exact HO141.out) hb); have n1_ := Aside0.mk (blk_below (g := gb138) (o := .cells #[.int .i64 0, .string (⟨#[]⟩ : ByteArray), .bool false, .string (⟨#[]⟩ : ByteArray), .string (⟨#[]⟩ : ByteArray), .slice none 0 0] 26 (0, 0)) (by (with_reducible repeat (first | refine blk_drewN ?_ _ | refine blk_drew ?_ | refine blk_alloc ?_ _)); exact BK138.out) hb); have n2_ := Aside0.mk (below_step (by repeat (first | (with_reducible first | exact HB.out | apply below_alloc | apply pw_below_drewN | apply below_drew1 | refine below_set ?_ GE138.out) | exact HB.out)) hb); have n3_ := Aside0.mk (hbox); have n4_ := Aside0.mk ((by rw [hg]; exact (below_size (by repeat (first | (with_reducible first | exact HB.out | apply below_alloc | apply pw_below_drewN | apply below_drew1 | refine below_set ?_ GE138.out) | exact HB.out))) : w.heap.size ≤ gb147)); have n5_ := Aside0.mk ((by rw [hg]; exact (below_size (by repeat (first | (with_reducible first | exact HB.out | apply below_alloc | apply pw_below_drewN | apply below_drew1 | refine below_set ?_ GE138.out) | exact HB.out))) : w.heap.size ≤ gb147)); have n6_ := Aside0.mk ((by rw [hg]; exact Nat.ne_of_lt (blk_lt (g := gb138) (o := .cells #[.int .i64 0, .string (⟨#[]⟩ : ByteArray), .bool false, .string (⟨#[]⟩ : ByteArray), .string (⟨#[]⟩ : ByteArray), .slice none 0 0] 26 (0, 0)) (by (with_reducible repeat (first | refine blk_drewN ?_ _ | refine blk_drew ?_ | refine blk_alloc ?_ _)); exact BK138.out)) : gb138 ≠ gb147)); have n7_ := Aside0.mk ((by rw [hg]; exact Nat.ne_of_gt (blk_lt (g := gb138) (o := .cells #[.int .i64 0, .string (⟨#[]⟩ : ByteArray), .bool false, .string (⟨#[]⟩ : ByteArray), .string (⟨#[]⟩ : ByteArray), .slice none 0 0] 26 (0, 0)) (by (with_reducible repeat (first | refine blk_drewN ?_ _ | refine blk_drew ?_ | refine blk_alloc ?_ _)); exact BK138.out)) : gb147 ≠ gb138)); clear HO141; clear BK138; clear HB; have HO141 := n0_; have BK138 := n1_; have HB := n2_; have BK147 := n3_; have GW147 := n4_; have GE147 := n5_; have NB138_147 := n6_; have NB147_138 := n7_; clear n0_ n1_ n2_ n3_ n4_ n5_ n6_ n7_; clear hb hbox hg; have hnb66 := NB147_138.out; have hnc66 := NB138_147.out; have hcz67_0 : w65.cell? ⟨gb147, 0, none⟩ = some (.bool false) := (blk_cell BK147.out 0).trans rfl; have hcz67_1 : w65.cell? ⟨gb147, 1, none⟩ = some (.string (⟨#[]⟩ : ByteArray)) := (blk_cell BK147.out 1).trans rfl; have hcz67_2 : w65.cell? ⟨gb147, 2, none⟩ = some (.string (⟨#[]⟩ : ByteArray)) := (blk_cell BK147.out 2).trans rfl; have hfz67_0 := blk_frozen BK147.out 0; have hfz67_1 := blk_frozen BK147.out 1; have hfz67_2 := blk_frozen BK147.out 2) | ((with_reducible refine gate_store (t := 23) (p := 7) rfl ?_); refine store_event (t := 23) (p := 7) (v := ?vo_w68) (w1 := (((w65.setCell ⟨gb147, 0, none⟩ (.bool t143)).setCell ⟨gb147, 1, none⟩ (.string t144)).setCell ⟨gb147, 2, none⟩ (.string t145))) ?hg ?ho ?hn ?hr ?_; (case ho => rfl); (case hg => rfl); (case hn => rfl); (case hr => first | (go_simp; done) | (go_simp; rfl)); intro w68 hw; have n0_ : Aside0 (Kd.R Kd.string 9 w68 w.heap.size (fun _ => True) (.slice (some ad142) t139.length co63) t139) := ⟨(by rw [hw]; exact (by (with_reducible repeat (first | apply Kd.R_alloc | apply Kd.R_drewN | apply Kd.R_drew)); exact Kd.R_mono (Kd.R_far (p := ⟨gb147, 2, none⟩) (Kd.R_far (p := ⟨gb147, 1, none⟩) (Kd.R_far (p := ⟨gb147, 0, none⟩) (Kd.R_types HO141.out BK147.out (by decide)) (fun _ hk => hk.2) (.bool t143)) (fun _ hk => hk.2) (.string t144)) (fun _ hk => hk.2) (.string t145)) (fun _ hk => trivial)))⟩; have n1_ : Aside0 (w68.heap[gb138]? = some (.cells #[.int .i64 0, .string (⟨#[]⟩ : ByteArray), .bool false, .string (⟨#[]⟩ : ByteArray), .string (⟨#[]⟩ : ByteArray), .slice none 0 0] 26 (0, 0))) := ⟨(by rw [hw]; exact (by (with_reducible repeat (first | refine blk_drewN ?_ _ | refine blk_drew ?_ | refine blk_alloc ?_ _)); refine blk_far ?_ NB138_147.out _; (with_reducible repeat (first | refine blk_drewN ?_ _ | refine blk_drew ?_ | refine blk_alloc ?_ _)); refine blk_far ?_ NB138_147.out _; (with_reducible repeat (first | refine blk_drewN ?_ _ | refine blk_drew ?_ | refine blk_alloc ?_ _)); refine blk_far ?_ NB138_147.out _; (with_reducible repeat (first | refine blk_drewN ?_ _ | refine blk_drew ?_ | refine blk_alloc ?_ _)); exact BK138.out))⟩; have n2_ : Aside0 (w68.heap[gb147]? = some (.cells #[.bool t143, .string t144, .string t145] 23 (0, 0))) := ⟨(by rw [hw]; exact (by (with_reducible repeat (first | refine blk_drewN ?_ _ | refine blk_drew ?_ | refine blk_alloc ?_ _)); refine blk_put (cs := #[.bool t143, .string t144, .string (⟨#[]⟩ : ByteArray)]) ?_ 2 _ rfl; (with_reducible repeat (first | refine blk_drewN ?_ _ | refine blk_drew ?_ | refine blk_alloc ?_ _)); refine blk_put (cs := #[.bool t143, .string (⟨#[]⟩ : ByteArray), .string (⟨#[]⟩ : ByteArray)]) ?_ 1 _ rfl; (with_reducible repeat (first | refine blk_drewN ?_ _ | refine blk_drew ?_ | refine blk_alloc ?_ _)); refine blk_put (cs := #[.bool false, .string (⟨#[]⟩ : ByteArray), .string (⟨#[]⟩ : ByteArray)]) ?_ 0 _ rfl; (with_reducible repeat (first | refine blk_drewN ?_ _ | refine blk_drew ?_ | refine blk_alloc ?_ _)); exact BK147.out))⟩; have n3_ : Aside0 (Below w.heap.size w w68) := ⟨(by rw [hw]; exact (by repeat (first | (with_reducible first | exact HB.out | apply below_alloc | apply pw_below_drewN | apply below_drew1 | refine below_set ?_ GE138.out | refine below_set ?_ GE147.out) | exact HB.out)))⟩; clear hw; clear HO141; clear BK138; clear BK147; clear HB; have HO141 := n0_; have BK138 := n1_; have BK147 := n2_; have HB := n3_; clear n0_ n1_ n2_ n3_; have q69 : (1 : Int) ≤ ((t139.length : Int) : Int) := of_decide_eq_true (by first | (with_reducible assumption) | assumption); obtain ⟨i069, hi069, _, hsz69, _⟩ := info_parts info9; have hroom69 : t139.length ≤ co63 := (Kd.R_reads' HO141.out).2.1; have hC69 : Kd.C Kd.string _ (some ad142) t139.length t139 := (Kd.R_reads' HO141.out).2.2; have hcut69 := cut_from (P := Tryd.prog) 40 9 .i64 Tryd.underlying40 hi069 1 hsz69 (some ad142) t139.length co63 1 (by omega) q69; have hr69 := Kd.C_drop (m := (1 : Int).toNat) (c := co63) hC69 (by omega) hroom69; obtain ⟨A69, hA69⟩ : ∃ A1, A1 = (if co63 = (1 : Int).toNat then (some ad142) else ((some ad142) : Option Addr).map (·.add ((1 : Int).toNat * 1))) := ⟨_, rfl⟩; obtain ⟨c69, hc69⟩ : ∃ c1, c1 = co63 - (1 : Int).toNat := ⟨_, rfl⟩; have hy69 : y148.length = t139.length - (1 : Int).toNat := (by rw [Ny148.out, List.length_drop] <;> omega); rw [show (t139).drop (1 : Int).toNat = y148 from Ny148.out.symm] at hr69; replace hr69 : Kd.C Kd.string _ A69 y148.length y148 := (by rw [hA69]; exact hr69); rw [← hy69, ← hA69, ← hc69] at hcut69; have HR151 := Aside0.mk hr69; have HC151 := Aside0.mk (show y148.length ≤ c69 from by rw [hy69, hc69]; exact Nat.sub_le_sub_right hroom69 _); clear hr69 hC69 hroom69 hi069 hsz69 hc69; have KY69 := Aside0.mk hy69; have KA69 := Aside0.mk hA69; clear hy69 hA69; have KL69 := Aside0.mk (show 1 ≤ t139.length from by omega); replace q69 := eq_true q69) | ((with_reducible refine gate_callee (f := 45) rfl ?_); refine goesL_ (some 24) rfl rfl Tryd.func45 (by kernel_rfl) rfl #[.int .i64 a0, .slice A69 y148.length c69] rfl (by (try simp only [List.map_toArray, List.map_cons, List.map_nil]); first | done | rfl | (simp only [List.length_drop, List.length_take]; rfl)) ?_; (with_reducible refine (verb_params.calls a0 _ _ y148 t152 t153 _ ?side1 ?side2 ?side3 A7.out).mono ?_); (case side1 => exact Glob.below HG.out (by repeat (first | (with_reducible first | exact HB.out | apply below_alloc | apply pw_below_drewN | apply below_drew1 | refine below_set ?_ GE138.out | refine below_set ?_ GE147.out) | exact HB.out))); (case side2 => repeat (first | exact (by repeat (first | (with_reducible exact HR151.out) | (with_reducible refine Kd.C_alloc ?_ _) | (with_reducible refine Kd.C_drewN ?_ _) | (with_reducible refine Kd.C_drew ?_) | exact HR151.out)) | (with_reducible refine Kd.C_alloc ?_ _) | (with_reducible refine Kd.C_drewN ?_ _) | (with_reducible refine Kd.C_drew ?_))); (case side3 => exact HC151.out); rintro e w70 ⟨v154, rfl, ho0, hb⟩; refine ⟨_, rfl, ?_⟩; have n0_ := Aside0.mk (Kd.R_below (by (with_reducible repeat (first | apply Kd.R_alloc | apply Kd.R_drewN | apply Kd.R_drew)); exact HO141.out) hb); have n1_ := Aside0.mk (Kd.R_lower ho0 (below_size (by repeat (first | (with_reducible first | exact HB.out | apply below_alloc | apply pw_below_drewN | apply below_drew1 | refine below_set ?_ GE138.out | refine below_set ?_ GE147.out) | exact HB.out)))); have n2_ := Aside0.mk (blk_below (g := gb138) (o := .cells #[.int .i64 0, .string (⟨#[]⟩ : ByteArray), .bool false, .string (⟨#[]⟩ : ByteArray), .string (⟨#[]⟩ : ByteArray), .slice none 0 0] 26 (0, 0)) (by (with_reducible repeat (first | refine blk_drewN ?_ _ | refine blk_drew ?_ | refine blk_alloc ?_ _)); exact BK138.out) hb); have n3_ := Aside0.mk (blk_below (g := gb147) (o := .cells #[.bool t143, .string t144, .string t145] 23 (0, 0)) (by (with_reducible repeat (first | refine blk_drewN ?_ _ | refine blk_drew ?_ | refine blk_alloc ?_ _)); exact BK147.out) hb); have n4_ := Aside0.mk (Kd.C_below (by repeat (first | (with_reducible exact HR151.out) | (with_reducible refine Kd.C_alloc ?_ _) | (with_reducible refine Kd.C_drewN ?_ _) | (with_reducible refine Kd.C_drew ?_) | exact HR151.out)) hb); have n5_ := Aside0.mk (below_step (by repeat (first | (with_reducible first | exact HB.out | apply below_alloc | apply pw_below_drewN | apply below_drew1 | refine below_set ?_ GE138.out | refine below_set ?_ GE147.out) | exact HB.out)) hb); clear HO141; clear BK138; clear BK147; clear HR151; clear HB; have HO141 := n0_; have HO155 := n1_; have BK138 := n2_; have BK147 := n3_; have HR151 := n4_; have HB := n5_; clear n0_ n1_ n2_ n3_ n4_ n5_; (try clear hb); (try clear hb2); (try clear hk); (try clear hi); (try clear ho0); have hcz71_0 : w70.cell? ⟨gb138, 0, none⟩ = some (.int .i64 0) := (blk_cell BK138.out 0).trans rfl; have hcz71_1 : w70.cell? ⟨gb138, 1, none⟩ = some (.string (⟨#[]⟩ : ByteArray)) := (blk_cell BK138.out 1).trans rfl; have hcz71_2 : w70.cell? ⟨gb138, 2, none⟩ = some (.bool false) := (blk_cell BK138.out 2).trans rfl; have hcz71_3 : w70.cell? ⟨gb138, 3, none⟩ = some (.string (⟨#[]⟩ : ByteArray)) := (blk_cell BK138.out 3).trans rfl; have hcz71_4 : w70.cell? ⟨gb138, 4, none⟩ = some (.string (⟨#[]⟩ : ByteArray)) := (blk_cell BK138.out 4).trans rfl; have hcz71_5 : w70.cell? ⟨gb138, 5, none⟩ = some (.slice none 0 0) := (blk_cell BK138.out 5).trans rfl; have hfz71_0 := blk_frozen BK138.out 0; have hfz71_1 := blk_frozen BK138.out 1; have hfz71_2 := blk_frozen BK138.out 2; have hfz71_3 := blk_frozen BK138.out 3; have hfz71_4 := blk_frozen BK138.out 4; have hfz71_5 := blk_frozen BK138.out 5))
        refine bodyPost_ret (results_ct rfl _ _ gb138 26 #[.int .i64 0, .string (⟨#[]⟩ : ByteArray), .bool false, .string (⟨#[]⟩ : ByteArray), .string (⟨#[]⟩ : ByteArray), .slice none 0 0] (0, 0) _ rfl (by (with_reducible repeat (first | refine blk_drewN ?_ _ | refine blk_drew ?_ | refine blk_alloc ?_ _)); refine blk_put (cs := #[.int .i64 0, .string (⟨#[]⟩ : ByteArray), .bool false, .string (⟨#[]⟩ : ByteArray), .string (⟨#[]⟩ : ByteArray), .slice none 0 0]) ?_ 5 _ rfl; (with_reducible repeat (first | refine blk_drewN ?_ _ | refine blk_drew ?_ | refine blk_alloc ?_ _)); refine blk_put (cs := #[.int .i64 0, .string (⟨#[]⟩ : ByteArray), .bool false, .string (⟨#[]⟩ : ByteArray), .string (⟨#[]⟩ : ByteArray), .slice none 0 0]) ?_ 4 _ rfl; (with_reducible repeat (first | refine blk_drewN ?_ _ | refine blk_drew ?_ | refine blk_alloc ?_ _)); refine blk_put (cs := #[.int .i64 0, .string (⟨#[]⟩ : ByteArray), .bool false, .string (⟨#[]⟩ : ByteArray), .string (⟨#[]⟩ : ByteArray), .slice none 0 0]) ?_ 3 _ rfl; (with_reducible repeat (first | refine blk_drewN ?_ _ | refine blk_drew ?_ | refine blk_alloc ?_ _)); refine blk_put (cs := #[.int .i64 0, .string (⟨#[]⟩ : ByteArray), .bool false, .string (⟨#[]⟩ : ByteArray), .string (⟨#[]⟩ : ByteArray), .slice none 0 0]) ?_ 2 _ rfl; (with_reducible repeat (first | refine blk_drewN ?_ _ | refine blk_drew ?_ | refine blk_alloc ?_ _)); refine blk_put (cs := #[.int .i64 0, .string (⟨#[]⟩ : ByteArray), .bool false, .string (⟨#[]⟩ : ByteArray), .string (⟨#[]⟩ : ByteArray), .slice none 0 0]) ?_ 1 _ rfl; (with_reducible repeat (first | refine blk_drewN ?_ _ | refine blk_drew ?_ | refine blk_alloc ?_ _)); refine blk_put (cs := #[.int .i64 0, .string (⟨#[]⟩ : ByteArray), .bool false, .string (⟨#[]⟩ : ByteArray), .string (⟨#[]⟩ : ByteArray), .slice none 0 0]) ?_ 0 _ rfl; (with_reducible repeat (first | refine blk_drewN ?_ _ | refine blk_drew ?_ | refine blk_alloc ?_ _)); exact BK138.out) Tryd.underlying26 rfl (by kernel_rfl)) rfl ?_
        exact ⟨_, by first | rfl | (simp [errW_none, errW_some] <;> rfl) | (simp [*, errW_none, errW_some] <;> rfl), by first | exact Kd.R_nil _ _ _ _ _ | exact Kd.N_nil _ _ _ _ _ | exact Kd.V_nil _ _ _ _ _ | exact Kd.Q_nil _ _ _ _ _ | exact Kd.S_nil _ _ _ _ _, by repeat (first | (with_reducible first | exact HB.out | apply below_alloc | apply pw_below_drewN | apply below_drew1 | refine below_set ?_ GE138.out | refine below_set ?_ GE147.out) | exact HB.out)⟩
    · rw [if_neg c6] at H
      exact absurd H (by simp)
  · rw [if_neg c4] at H
    exact absurd H (by simp)
end Go.Proofs.YthcdjgekmfnmnaaDoor.PVerb
end
section
namespace Go.Proofs.YthcdjgekmfnmnaaDoor.PVerb
open Go.RowKit Go.Proofs.YthcdjgekmfnmnaaDoorW.PrintWords Go.Proofs.YthcdjgekmfnmnaaDoorW.PrintLast Go.Proofs.YthcdjgekmfnmnaaDoorW.PrintMore
attribute [local go_sem] max2_int min2_int max_two min_two max_three min_three max_four min_four
set_option linter.unusedVariables false
set_option linter.unusedSimpArgs false
def afterL (a b : List UInt8) : Bool := decide (b.length ≤ a.length) && foldL (a.take b.length) == foldL b
theorem ext_take (s : ByteArray) (n : Nat) : (s.extract 0 n).data.toList = s.data.toList.take n := Lib.extract_from_zero s n
theorem ext_drop (s : ByteArray) (n : Nat) : s.extract n s.size = bs (s.data.toList.drop n) := by
  have := Lib.extract_to_end s n
  rw [← bs_of (s.extract n s.size), this]
set_option maxHeartbeats 1000000 in
set_option maxRecDepth 100000 in
theorem after_short (a0 a1 : ByteArray) (w : World) (h : a0.size < a1.size) :
    Calls Tryd.prog 35 #[.string a0, .string a1] w fun e w' => e = .returned (.tuple #[.string (bs []), .bool false]) ∧ Below w.heap.size w w' := by
  have h1 : decide (a0.size < a1.size) = true := decide_eq_true h
  go_enter Tryd.func35, Tryd.ntmps35
  go_wp2
  go_ret2
  exact ⟨rfl, Below.refl _ _⟩
set_option maxHeartbeats 1000000 in
set_option maxRecDepth 100000 in
theorem after_walk (a0 a1 : ByteArray) (w : World) (h : ¬ a0.size < a1.size) (h0 : a0.size < 4294967281) (h1 : a1.size < 4294967281) (b : Bool) (hb : (foldL (a0.data.toList.take a1.size) == foldL a1.data.toList) = b) :
    Calls Tryd.prog 35 #[.string a0, .string a1] w fun e w' => e = .returned (.tuple #[.string (if b then bs (a0.data.toList.drop a1.size) else bs []), .bool b]) ∧ Below w.heap.size w w' := by
  have hd : decide (a0.size < a1.size) = false := decide_eq_false h
  have hle : a1.size ≤ a0.size := by omega
  have hes : (a0.extract 0 a1.size).size < 4294967281 := by rw [← data_size, ext_take]; simp; omega
  have H1 := Aside0.mk (fun W => path_Fold.walk (a0.extract 0 a1.size) W hes)
  have H2 := Aside0.mk (fun W => path_Fold.walk a1 W h1)
  rw [ext_take] at H1
  have hq : ((bs (foldL (a0.data.toList.take a1.size))).toList == (bs (foldL a1.data.toList)).toList) = b := by rw [toList_data, toList_data]; exact hb
  have hq2 : ((bs (foldL (a0.data.toList.take a1.size))).toList != (bs (foldL a1.data.toList)).toList) = !b := by rw [← hq]; rfl
  have HD := Aside0.mk (ext_drop a0 a1.size)
  clear hb h hes
  generalize bs (foldL (a0.data.toList.take a1.size)) = p at *
  generalize bs (foldL a1.data.toList) = q at *
  rw [← HD.out]
  cases b
  all_goals
    go_enter Tryd.func35, Tryd.ntmps35
    go_wp2_with fail
    refine (H1.out _).mono ?_
    rintro e w1 ⟨rfl, hb1⟩
    go_wp2_with fail
    refine (H2.out _).mono ?_
    rintro e w2 ⟨rfl, hb2⟩
    go_wp2
    go_ret2
    exact ⟨rfl, below_step hb1 hb2⟩
def verb_after.f (a0 a1 : ByteArray) : Option (ByteArray × Bool) :=
  if a0.size < 4294967281 ∧ a1.size < 4294967281 then some (if afterL a0.data.toList a1.data.toList then bs (a0.data.toList.drop a1.size) else bs [], afterL a0.data.toList a1.data.toList) else none
theorem verb_after.calls (a0 a1 : ByteArray) (r1 : ByteArray) (r2 : Bool) (w : World) (h : verb_after.f a0 a1 = some (r1, r2)) :
    Calls Tryd.prog 35 #[.string a0, .string a1] w fun e w' => e = .returned (.tuple #[.string r1, .bool r2]) ∧ Below w.heap.size w w' := by
  unfold verb_after.f at h
  split at h
  · rename_i hs
    simp only [Option.some.injEq] at h
    obtain ⟨rfl, rfl⟩ := Prod.mk.inj h
    by_cases hl : a0.size < a1.size
    · have hf : afterL a0.data.toList a1.data.toList = false := by unfold afterL; rw [data_size, data_size, decide_eq_false (by omega), Bool.false_and]
      rw [hf]
      exact after_short a0 a1 w hl
    · have hf : afterL a0.data.toList a1.data.toList = (foldL (a0.data.toList.take a1.size) == foldL a1.data.toList) := by unfold afterL; rw [data_size, data_size, decide_eq_true (by omega), Bool.true_and]
      rw [hf]
      exact after_walk a0 a1 w hl hs.1 hs.2 _ rfl
  · cases h
end Go.Proofs.YthcdjgekmfnmnaaDoor.PVerb
end
section
namespace Go.Proofs.YthcdjgekmfnmnaaDoor.PVerb
open Go.RowKit Go.Proofs.YthcdjgekmfnmnaaDoorW.PrintWords Go.Proofs.YthcdjgekmfnmnaaDoorW.PrintLast Go.Proofs.YthcdjgekmfnmnaaDoorW.PrintMore
attribute [local go_sem] max2_int min2_int max_two min_two max_three min_three max_four min_four
set_option linter.unusedVariables false
set_option linter.unusedSimpArgs false
def readTab : List (ByteArray × Int × Bool) := [(⟨#[101, 104, 108, 111, 32]⟩, 1, false), (⟨#[104, 101, 108, 111, 32]⟩, 1, false), (⟨#[109, 97, 105, 108, 32, 102, 114, 111, 109, 58]⟩, 2, true), (⟨#[114, 99, 112, 116, 32, 116, 111, 58]⟩, 3, true), (⟨#[101, 116, 114, 110, 32]⟩, 9, false), (⟨#[97, 116, 114, 110, 32]⟩, 11, false)]
def verb_read.tail (a0 : ByteArray) : Option (Int × ByteArray × Bool × ByteArray × ByteArray × List S46 × Bool) :=
  (verb_after.f a0 ⟨#[110, 111, 111, 112, 32]⟩).bind fun t => if t.2 = true then some (7, bs [], false, bs [], bs [], [], true) else
    (verb_after.f a0 ⟨#[118, 114, 102, 121, 32]⟩).bind fun u => if u.2 = true ∧ u.1.data.toList ≠ [] then some (6, u.1, false, bs [], bs [], [], true) else some (0, bs [], false, bs [], bs [], [], false)
def verb_read.rows (a0 : ByteArray) : List (ByteArray × Int × Bool) → Option (Int × ByteArray × Bool × ByteArray × ByteArray × List S46 × Bool)
  | [] => verb_read.tail a0
  | (b, kind, mb) :: l => (verb_after.f a0 b).bind fun t => if t.2 = true then (if mb = true then verb_mailbox.f kind t.1 else verb_named.f kind t.1) else verb_read.rows a0 l
def verb_read.f (a0 : ByteArray) : Option (Int × ByteArray × Bool × ByteArray × ByteArray × List S46 × Bool) :=
  (verb_alone.f a0).bind fun r => if r.2.2.2.2.2.2 = true then some r else verb_read.rows a0 readTab
theorem close6 {w w5 : World} {c0 c1 c2 c3 c4 c5 : Value} (u0 u1 u2 u3 u4 u5 : Value) (hb : w5.heap[w.heap.size]? = some (.cells #[c0, c1, c2, c3, c4, c5] 26 (0, 0))) (hB : Below w.heap.size w w5) :
    ((((((w5.setCell ⟨w.heap.size, 0, none⟩ u0).setCell ⟨w.heap.size, 1, none⟩ u1).setCell ⟨w.heap.size, 2, none⟩ u2).setCell ⟨w.heap.size, 3, none⟩ u3).setCell ⟨w.heap.size, 4, none⟩ u4).setCell ⟨w.heap.size, 5, none⟩ u5).heap[w.heap.size]? = some (.cells #[u0, u1, u2, u3, u4, u5] 26 (0, 0)) ∧
    Below w.heap.size w ((((((w5.setCell ⟨w.heap.size, 0, none⟩ u0).setCell ⟨w.heap.size, 1, none⟩ u1).setCell ⟨w.heap.size, 2, none⟩ u2).setCell ⟨w.heap.size, 3, none⟩ u3).setCell ⟨w.heap.size, 4, none⟩ u4).setCell ⟨w.heap.size, 5, none⟩ u5) ∧
    ∀ {v : Value} {xs : List S46}, Kd.R k46 46 w5 w.heap.size (fun _ => True) v xs →
      Kd.R k46 46 ((((((w5.setCell ⟨w.heap.size, 0, none⟩ u0).setCell ⟨w.heap.size, 1, none⟩ u1).setCell ⟨w.heap.size, 2, none⟩ u2).setCell ⟨w.heap.size, 3, none⟩ u3).setCell ⟨w.heap.size, 4, none⟩ u4).setCell ⟨w.heap.size, 5, none⟩ u5) w.heap.size (fun _ => True) v xs := by
  have b0 := blk_set hb 0 u0
  have b1 := blk_set b0 1 u1
  have b2 := blk_set b1 2 u2
  have b3 := blk_set b2 3 u3
  have b4 := blk_set b3 4 u4
  have b5 := blk_set b4 5 u5
  refine ⟨b5, ?_, fun h => ?_⟩
  · repeat (refine below_set ?_ (Nat.le_refl _))
    exact hB
  · exact Kd.R_set (Kd.R_set (Kd.R_set (Kd.R_set (Kd.R_set (Kd.R_set h hb (by decide) 0 u0) b0 (by decide) 1 u1) b1 (by decide) 2 u2) b2 (by decide) 3 u3) b3 (by decide) 4 u4) b4 (by decide) 5 u5
def readCells : Array Value := #[.string ⟨#[101, 104, 108, 111, 32]⟩, .int .i64 1, .func (.func 33) #[] #[], .string ⟨#[104, 101, 108, 111, 32]⟩, .int .i64 1, .func (.func 33) #[] #[], .string ⟨#[109, 97, 105, 108, 32, 102, 114, 111, 109, 58]⟩, .int .i64 2, .func (.func 34) #[] #[], .string ⟨#[114, 99, 112, 116, 32, 116, 111, 58]⟩, .int .i64 3, .func (.func 34) #[] #[], .string ⟨#[101, 116, 114, 110, 32]⟩, .int .i64 9, .func (.func 33) #[] #[], .string ⟨#[97, 116, 114, 110, 32]⟩, .int .i64 11, .func (.func 33) #[] #[]]
set_option maxHeartbeats 8000000 in
set_option maxRecDepth 100000 in
theorem read_walk (a0 : ByteArray) (r1 : Int) (r2 : ByteArray) (r3 : Bool) (r4 r5 : ByteArray) (r6 : List S46) (r7 : Bool) (w : World) (hG : Glob w) (h : verb_read.f a0 = some (r1, r2, r3, r4, r5, r6, r7)) :
    Calls Tryd.prog 20 #[.string a0] w fun e w' => ∃ v5_ : Value, e = .returned (.tuple #[.agg #[.int .i64 r1, .string r2, .bool r3, .string r4, .string r5, v5_], .bool r7]) ∧ Kd.R k46 46 w' w.heap.size (fun _ => True) v5_ r6 ∧ Below w.heap.size w w' := by
  have hu := Tryd.underlying26
  have hu66 := Tryd.underlying66
  have HGG := Aside0.mk hG
  clear hG
  unfold verb_read.f at h
  obtain ⟨⟨s1, s2, s3, s4, s5, s6, s7⟩, hal, h⟩ := Option.bind_eq_some_iff.mp h
  simp only at h
  have HA := Aside0.mk (fun W => verb_alone.calls a0 s1 s2 s3 s4 s5 s6 s7 W hal)
  have HH := Aside0.mk h
  clear hal h
  have hb0 : Below w.heap.size w (w.alloc (.cells #[.int .i64 0, .string ⟨#[]⟩, .bool false, .string ⟨#[]⟩, .string ⟨#[]⟩, .slice none 0 0] 26)) := (Below.refl _ w).alloc (Nat.le_refl _) _
  have bk0 := heap_alloc_new w (.cells #[.int .i64 0, .string ⟨#[]⟩, .bool false, .string ⟨#[]⟩, .string ⟨#[]⟩, .slice none 0 0] 26)
  have HB0 := Aside0.mk hb0
  have HK0 := Aside0.mk bk0
  clear hb0 bk0
  go_enter Tryd.func20, Tryd.ntmps20
  go_wp2_with fail
  refine (HA.out _).mono ?_
  rintro e w1 ⟨v, rfl, hR, hb⟩
  obtain ⟨Av, cv, ev, _, _⟩ := Kd.R_reads hR
  subst ev
  have HR := Aside0.mk (Kd.R_lower hR (below_size HB0.out))
  have HB1 := Aside0.mk (below_step HB0.out hb)
  have HK1 := Aside0.mk (blk_grown HK0.out (grown_of_below hb none) (by simp))
  clear hR hb HA HB0 HK0
  have f0 := blk_frozen HK1.out 0
  have f1 := blk_frozen HK1.out 1
  have f2 := blk_frozen HK1.out 2
  have f3 := blk_frozen HK1.out 3
  have f4 := blk_frozen HK1.out 4
  have f5 := blk_frozen HK1.out 5
  have z0 := blk_cell HK1.out 0
  have z1 := blk_cell HK1.out 1
  have z2 := blk_cell HK1.out 2
  have z3 := blk_cell HK1.out 3
  have z4 := blk_cell HK1.out 4
  have z5 := blk_cell HK1.out 5
  have hlt1 : w.heap.size < w1.heap.size := blk_lt HK1.out
  cases s7
  · have H := HH.out
    rw [if_neg (by decide)] at H
    have HH1 := Aside0.mk H
    clear HH H HR f0 f1 f2 f3 f4 f5 z0 z1 z2 z3 z4 z5
    have hbW : Below w.heap.size w ((w1.alloc (.cells #[.int .i64 s1, .string s2, .bool s3, .string s4, .string s5, .slice Av s6.length cv] 26)).alloc (.cells readCells 66)) := below_alloc (below_alloc HB1.out _) _
    have hbK : ((w1.alloc (.cells #[.int .i64 s1, .string s2, .bool s3, .string s4, .string s5, .slice Av s6.length cv] 26)).alloc (.cells readCells 66)).heap[w.heap.size]? = some (.cells #[.int .i64 0, .string ⟨#[]⟩, .bool false, .string ⟨#[]⟩, .string ⟨#[]⟩, .slice none 0 0] 26 (0, 0)) := blk_alloc (blk_alloc HK1.out _) _
    have hbT : ((w1.alloc (.cells #[.int .i64 s1, .string s2, .bool s3, .string s4, .string s5, .slice Av s6.length cv] 26)).alloc (.cells readCells 66)).heap[w1.heap.size + 1]? = some (.cells readCells 66 (0, 0)) := by
      have := heap_alloc_new (w1.alloc (.cells #[.int .i64 s1, .string s2, .bool s3, .string s4, .string s5, .slice Av s6.length cv] 26)) (.cells readCells 66)
      simpa using this
    have HBW := Aside0.mk hbW
    have HKW := Aside0.mk hbK
    have HTW := Aside0.mk hbT
    clear hbW hbK hbT HB1 HK1
    unfold readCells at HBW HKW HTW
    go_wp2
    go_loopg [29] 6 (fun gg v29 wr => ∃ i : Nat, i ≤ 6 ∧ 6 - i ≤ gg ∧ v29 = .int .i64 i ∧ Aside0 (verb_read.rows a0 (readTab.drop i) = some (r1, r2, r3, r4, r5, r6, r7)) ∧ Aside0 (Below w.heap.size w wr) ∧ Aside0 (wr.heap[w.heap.size]? = some (.cells #[.int .i64 0, .string ⟨#[]⟩, .bool false, .string ⟨#[]⟩, .string ⟨#[]⟩, .slice none 0 0] 26 (0, 0))) ∧ Aside0 (wr.heap[w1.heap.size + 1]? = some (.cells readCells 66 (0, 0))))
    case atStart => exact ⟨0, Nat.zero_le _, by omega, rfl, HH1, HBW, HKW, HTW⟩
    case round =>
      clear HH1 HBW HKW HTW
      obtain ⟨i, hi, hg, rfl, HH, HB, HK, HT⟩ := hrel
      by_cases hlt : i < 6
      · have key : ∃ b kind mb, readTab.drop i = (b, kind, mb) :: readTab.drop (i + 1) ∧ b.size < 4294967281 ∧ wr.cell? ⟨w1.heap.size + 1, i * 3, none⟩ = some (.string b) ∧ wr.cell? ⟨w1.heap.size + 1, i * 3 + 1, none⟩ = some (.int .i64 kind) ∧ wr.cell? ⟨w1.heap.size + 1, i * 3 + 2, none⟩ = some (.func (.func (if mb then 34 else 33)) #[] #[]) := by
          have e := fun j => blk_cell HT.out j
          obtain rfl | rfl | rfl | rfl | rfl | rfl : i = 0 ∨ i = 1 ∨ i = 2 ∨ i = 3 ∨ i = 4 ∨ i = 5 := by omega
          all_goals exact ⟨_, _, _, rfl, by decide, (e _).trans rfl, (e _).trans rfl, (e _).trans rfl⟩
        obtain ⟨b, kind, mb, hd, hbs, q0, q1, q2⟩ := key
        have hltz : (i : Int) < 6 := by omega
        have H := HH.out
        rw [hd, verb_read.rows] at H
        clear HH hd
        obtain ⟨⟨t1, t2⟩, haf, H⟩ := Option.bind_eq_some_iff.mp H
        simp only at H
        have HF := Aside0.mk (fun W => verb_after.calls a0 b t1 t2 W haf)
        have H1 := Aside0.mk H
        clear haf H hbs
        have z0 := blk_cell HK.out 0
        cases mb
        · simp only [Bool.false_eq_true, if_false] at q2 H1
          go_wp2_with fail
          refine (HF.out _).mono ?_
          rintro e w5 ⟨rfl, hb⟩
          have HB5 := Aside0.mk (below_step (below_alloc HB.out _) hb)
          have HK5 := Aside0.mk (blk_grown (blk_alloc HK.out _) (grown_of_below hb none) (by simp))
          have HT5 := Aside0.mk (blk_grown (blk_alloc HT.out _) (grown_of_below hb none) (by simp))
          have HX5 := Aside0.mk (blk_grown (heap_alloc_new wr (.cells #[.string b, .int .i64 kind, .func (.func 33) #[] #[]] 66)) (grown_of_below hb none) (by simp))
          clear hb HB HK HT HF q0 q1 q2 z0
          have H := H1.out
          clear H1
          cases t2
          · rw [if_neg (by decide)] at H
            have HH := Aside0.mk H
            clear H HX5
            go_wp2_with fail
            go_roundg (6 - (i + 1))
            case measure => omega
            case rel => exact ⟨i + 1, by omega, by omega, by go_num, HH, HB5, HK5, HT5⟩
          · rw [if_pos rfl] at H
            have HC := Aside0.mk (fun (W : World) (hg : Glob W) => verb_named.calls kind t1 r1 r2 r3 r4 r5 r6 r7 W hg H)
            clear H HT5
            have y1 := blk_cell HX5.out 1
            have y2 := blk_cell HX5.out 2
            clear HX5
            go_wp2_with fail
            refine (HC.out _ (HGG.out.below HB5.out)).mono ?_
            rintro e w6 ⟨v, rfl, hR, hb⟩
            obtain ⟨Aw, cw, ev, _, _⟩ := Kd.R_reads hR
            subst ev
            have HR := Aside0.mk (Kd.R_lower hR (below_size HB5.out))
            have HB6 := Aside0.mk (below_step HB5.out hb)
            have HK6 := Aside0.mk (blk_grown HK5.out (grown_of_below hb none) (by simp))
            clear hR hb HC HB5 HK5 y1 y2
            have f0 := blk_frozen HK6.out 0
            have f1 := blk_frozen HK6.out 1
            have f2 := blk_frozen HK6.out 2
            have f3 := blk_frozen HK6.out 3
            have f4 := blk_frozen HK6.out 4
            have f5 := blk_frozen HK6.out 5
            have z0 := blk_cell HK6.out 0
            have z1 := blk_cell HK6.out 1
            have z2 := blk_cell HK6.out 2
            have z3 := blk_cell HK6.out 3
            have z4 := blk_cell HK6.out 4
            have z5 := blk_cell HK6.out 5
            have CC := Aside0.mk (close6 (w := w) (.int .i64 r1) (.string r2) (.bool r3) (.string r4) (.string r5) (.slice Aw r6.length cw) HK6.out HB6.out)
            clear HK6 HB6
            go_wp2
            exact bodyPost_ret (results_ct rfl _ _ w.heap.size 26 #[.int .i64 r1, .string r2, .bool r3, .string r4, .string r5, .slice Aw r6.length cw] (0, 0) _ rfl CC.out.1 Tryd.underlying26 rfl (by kernel_rfl)) rfl ⟨_, rfl, CC.out.2.2 HR.out, CC.out.2.1⟩
        · simp only [if_true] at q2 H1
          go_wp2_with fail
          refine (HF.out _).mono ?_
          rintro e w5 ⟨rfl, hb⟩
          have HB5 := Aside0.mk (below_step (below_alloc HB.out _) hb)
          have HK5 := Aside0.mk (blk_grown (blk_alloc HK.out _) (grown_of_below hb none) (by simp))
          have HT5 := Aside0.mk (blk_grown (blk_alloc HT.out _) (grown_of_below hb none) (by simp))
          have HX5 := Aside0.mk (blk_grown (heap_alloc_new wr (.cells #[.string b, .int .i64 kind, .func (.func 34) #[] #[]] 66)) (grown_of_below hb none) (by simp))
          clear hb HB HK HT HF q0 q1 q2 z0
          have H := H1.out
          clear H1
          cases t2
          · rw [if_neg (by decide)] at H
            have HH := Aside0.mk H
            clear H HX5
            go_wp2_with fail
            go_roundg (6 - (i + 1))
            case measure => omega
            case rel => exact ⟨i + 1, by omega, by omega, by go_num, HH, HB5, HK5, HT5⟩
          · rw [if_pos rfl] at H
            have HC := Aside0.mk (fun (W : World) (hg : Glob W) => verb_mailbox.calls kind t1 r1 r2 r3 r4 r5 r6 r7 W hg H)
            clear H HT5
            have y1 := blk_cell HX5.out 1
            have y2 := blk_cell HX5.out 2
            clear HX5
            go_wp2_with fail
            refine (HC.out _ (HGG.out.below HB5.out)).mono ?_
            rintro e w6 ⟨v, rfl, hR, hb⟩
            obtain ⟨Aw, cw, ev, _, _⟩ := Kd.R_reads hR
            subst ev
            have HR := Aside0.mk (Kd.R_lower hR (below_size HB5.out))
            have HB6 := Aside0.mk (below_step HB5.out hb)
            have HK6 := Aside0.mk (blk_grown HK5.out (grown_of_below hb none) (by simp))
            clear hR hb HC HB5 HK5 y1 y2
            have f0 := blk_frozen HK6.out 0
            have f1 := blk_frozen HK6.out 1
            have f2 := blk_frozen HK6.out 2
            have f3 := blk_frozen HK6.out 3
            have f4 := blk_frozen HK6.out 4
            have f5 := blk_frozen HK6.out 5
            have z0 := blk_cell HK6.out 0
            have z1 := blk_cell HK6.out 1
            have z2 := blk_cell HK6.out 2
            have z3 := blk_cell HK6.out 3
            have z4 := blk_cell HK6.out 4
            have z5 := blk_cell HK6.out 5
            have CC := Aside0.mk (close6 (w := w) (.int .i64 r1) (.string r2) (.bool r3) (.string r4) (.string r5) (.slice Aw r6.length cw) HK6.out HB6.out)
            clear HK6 HB6
            go_wp2
            exact bodyPost_ret (results_ct rfl _ _ w.heap.size 26 #[.int .i64 r1, .string r2, .bool r3, .string r4, .string r5, .slice Aw r6.length cw] (0, 0) _ rfl CC.out.1 Tryd.underlying26 rfl (by kernel_rfl)) rfl ⟨_, rfl, CC.out.2.2 HR.out, CC.out.2.1⟩
      · have hie : i = 6 := by omega
        have H := HH.out
        rw [hie] at H
        have H2 : verb_read.tail a0 = some (r1, r2, r3, r4, r5, r6, r7) := H
        have hltz : ¬ (i : Int) < 6 := by omega
        clear HH H hie HT
        unfold verb_read.tail at H2
        obtain ⟨⟨t1, t2⟩, haf, H⟩ := Option.bind_eq_some_iff.mp H2
        simp only at H
        have HF := Aside0.mk (fun W => verb_after.calls a0 _ t1 t2 W haf)
        have H1 := Aside0.mk H
        clear haf H H2
        go_wp2_with fail
        refine (HF.out _).mono ?_
        rintro e w5 ⟨rfl, hb⟩
        have HB5 := Aside0.mk (below_step HB.out hb)
        have HK5 := Aside0.mk (blk_grown HK.out (grown_of_below hb none) (by simp))
        clear hb HB HK HF
        have H := H1.out
        clear H1
        cases t2
        · rw [if_neg (by decide)] at H
          obtain ⟨⟨u1, u2⟩, haf, H⟩ := Option.bind_eq_some_iff.mp H
          simp only at H
          have HF := Aside0.mk (fun W => verb_after.calls a0 _ u1 u2 W haf)
          have H1 := Aside0.mk H
          clear haf H
          go_wp2_with fail
          refine (HF.out _).mono ?_
          rintro e w6 ⟨rfl, hb⟩
          have HB6 := Aside0.mk (below_step HB5.out hb)
          have HK6 := Aside0.mk (blk_grown HK5.out (grown_of_below hb none) (by simp))
          clear hb HB5 HK5 HF
          have f0 := blk_frozen HK6.out 0
          have z0 := blk_cell HK6.out 0
          have f1 := blk_frozen HK6.out 1
          have z1 := blk_cell HK6.out 1
          have f2 := blk_frozen HK6.out 2
          have z2 := blk_cell HK6.out 2
          have f3 := blk_frozen HK6.out 3
          have z3 := blk_cell HK6.out 3
          have f4 := blk_frozen HK6.out 4
          have z4 := blk_cell HK6.out 4
          have f5 := blk_frozen HK6.out 5
          have z5 := blk_cell HK6.out 5
          have H := H1.out
          clear H1
          by_cases hc : u2 = true ∧ u1.data.toList ≠ []
          · rw [if_pos hc] at H
            obtain ⟨rfl, hne⟩ := hc
            have hne2 : u1.toList.isEmpty = false := by rw [toList_data]; simpa using hne
            simp only [Option.some.injEq, Prod.mk.injEq] at H
            obtain ⟨rfl, rfl, rfl, rfl, rfl, rfl, rfl⟩ := H
            clear hne
            have CC := Aside0.mk (close6 (w := w) (.int .i64 6) (.string u1) (.bool false) (.string ⟨#[]⟩) (.string ⟨#[]⟩) (.slice none 0 0) HK6.out HB6.out)
            clear HK6 HB6
            go_wp2
            exact bodyPost_ret (results_ct rfl _ _ w.heap.size 26 #[.int .i64 6, .string u1, .bool false, .string ⟨#[]⟩, .string ⟨#[]⟩, .slice none 0 0] (0, 0) _ rfl CC.out.1 Tryd.underlying26 rfl (by kernel_rfl)) rfl ⟨_, rfl, Kd.R_nil _ _ _ _ _, CC.out.2.1⟩
          · rw [if_neg hc] at H
            simp only [Option.some.injEq, Prod.mk.injEq] at H
            obtain ⟨rfl, rfl, rfl, rfl, rfl, rfl, rfl⟩ := H
            have CC := Aside0.mk (close6 (w := w) (.int .i64 0) (.string ⟨#[]⟩) (.bool false) (.string ⟨#[]⟩) (.string ⟨#[]⟩) (.slice none 0 0) HK6.out HB6.out)
            clear HK6 HB6
            cases u2
            · clear hc
              go_wp2
              exact bodyPost_ret (results_ct rfl _ _ w.heap.size 26 #[.int .i64 0, .string ⟨#[]⟩, .bool false, .string ⟨#[]⟩, .string ⟨#[]⟩, .slice none 0 0] (0, 0) _ rfl CC.out.1 Tryd.underlying26 rfl (by kernel_rfl)) rfl ⟨_, rfl, Kd.R_nil _ _ _ _ _, CC.out.2.1⟩
            · have hne2 : u1.toList.isEmpty = true := by
                rw [toList_data]
                cases hu1 : u1.data.toList with
                | nil => rfl
                | cons _ _ => exact absurd ⟨rfl, by rw [hu1]; simp⟩ hc
              clear hc
              go_wp2
              exact bodyPost_ret (results_ct rfl _ _ w.heap.size 26 #[.int .i64 0, .string ⟨#[]⟩, .bool false, .string ⟨#[]⟩, .string ⟨#[]⟩, .slice none 0 0] (0, 0) _ rfl CC.out.1 Tryd.underlying26 rfl (by kernel_rfl)) rfl ⟨_, rfl, Kd.R_nil _ _ _ _ _, CC.out.2.1⟩
        · rw [if_pos rfl] at H
          simp only [Option.some.injEq, Prod.mk.injEq] at H
          obtain ⟨rfl, rfl, rfl, rfl, rfl, rfl, rfl⟩ := H
          have f0 := blk_frozen HK5.out 0
          have z0 := blk_cell HK5.out 0
          have f1 := blk_frozen HK5.out 1
          have z1 := blk_cell HK5.out 1
          have f2 := blk_frozen HK5.out 2
          have z2 := blk_cell HK5.out 2
          have f3 := blk_frozen HK5.out 3
          have z3 := blk_cell HK5.out 3
          have f4 := blk_frozen HK5.out 4
          have z4 := blk_cell HK5.out 4
          have f5 := blk_frozen HK5.out 5
          have z5 := blk_cell HK5.out 5
          have CC := Aside0.mk (close6 (w := w) (.int .i64 7) (.string ⟨#[]⟩) (.bool false) (.string ⟨#[]⟩) (.string ⟨#[]⟩) (.slice none 0 0) HK5.out HB5.out)
          clear HK5 HB5
          go_wp2
          exact bodyPost_ret (results_ct rfl _ _ w.heap.size 26 #[.int .i64 7, .string ⟨#[]⟩, .bool false, .string ⟨#[]⟩, .string ⟨#[]⟩, .slice none 0 0] (0, 0) _ rfl CC.out.1 Tryd.underlying26 rfl (by kernel_rfl)) rfl ⟨_, rfl, Kd.R_nil _ _ _ _ _, CC.out.2.1⟩
  · have H := HH.out
    rw [if_pos rfl] at H
    simp only [Option.some.injEq, Prod.mk.injEq] at H
    obtain ⟨rfl, rfl, rfl, rfl, rfl, rfl, rfl⟩ := H
    clear HH
    have C := close6 (w := w) (.int .i64 s1) (.string s2) (.bool s3) (.string s4) (.string s5) (.slice Av s6.length cv) HK1.out HB1.out
    have CC := Aside0.mk C
    clear C
    go_wp2
    exact bodyPost_ret (results_ct rfl _ _ w.heap.size 26 #[.int .i64 s1, .string s2, .bool s3, .string s4, .string s5, .slice Av s6.length cv] (0, 0) _ rfl (blk_alloc CC.out.1 _) Tryd.underlying26 rfl (by kernel_rfl)) rfl ⟨_, rfl, Kd.R_alloc (CC.out.2.2 HR.out) _, below_alloc CC.out.2.1 _⟩
theorem verb_read.calls (a0 : ByteArray) (r1 : Int) (r2 : ByteArray) (r3 : Bool) (r4 r5 : ByteArray) (r6 : List S46) (r7 : Bool) (w : World) (hG : Glob w) (h : verb_read.f a0 = some (r1, r2, r3, r4, r5, r6, r7)) :
    Calls Tryd.prog 20 #[.string a0] w fun e w' => ∃ v5_ : Value, e = .returned (.tuple #[.agg #[.int .i64 r1, .string r2, .bool r3, .string r4, .string r5, v5_], .bool r7]) ∧ Kd.R k46 46 w' w.heap.size (fun _ => True) v5_ r6 ∧ Below w.heap.size w w' :=
  read_walk a0 r1 r2 r3 r4 r5 r6 r7 w hG h
end Go.Proofs.YthcdjgekmfnmnaaDoor.PVerb
end
section
namespace Go.Proofs.YthcdjgekmfnmnaaDoor.PVerb
open Go.RowKit Go.Proofs.YthcdjgekmfnmnaaDoorW.PrintWords Go.Proofs.YthcdjgekmfnmnaaDoorW.PrintLast Go.Proofs.YthcdjgekmfnmnaaDoorW.PrintMore
attribute [local go_sem] max2_int min2_int max_two min_two max_three min_three max_four min_four
set_option linter.unusedVariables false
set_option linter.unusedSimpArgs false
def verb_strange.l0 : Nat → ByteArray → Bool → Int → Int → Option (Bool)
  | 0, _, _, _, _ => none
  | k + 1, x3, x4, x13, x14 => if x14 < x13 then (if 0 ≤ x14 then (if x14 < (x3.size : Int) then (if (bt x3 x14) ≥ 97 then (if (bt x3 x14) ≤ 122 then (verb_strange.l0 k x3 x4 x13 (wrap64 (x14 + 1))) else (if (bt x3 x14) ≥ 65 then (if (bt x3 x14) ≤ 90 then (verb_strange.l0 k x3 x4 x13 (wrap64 (x14 + 1))) else (if (bt x3 x14) ≥ 48 then (if (bt x3 x14) ≤ 57 then (verb_strange.l0 k x3 x4 x13 (wrap64 (x14 + 1))) else (if ((bt x3 x14) = 45) then (verb_strange.l0 k x3 x4 x13 (wrap64 (x14 + 1))) else (some false))) else (if ((bt x3 x14) = 45) then (verb_strange.l0 k x3 x4 x13 (wrap64 (x14 + 1))) else (some false)))) else (if (bt x3 x14) ≥ 48 then (if (bt x3 x14) ≤ 57 then (verb_strange.l0 k x3 x4 x13 (wrap64 (x14 + 1))) else (if ((bt x3 x14) = 45) then (verb_strange.l0 k x3 x4 x13 (wrap64 (x14 + 1))) else (some false))) else (if ((bt x3 x14) = 45) then (verb_strange.l0 k x3 x4 x13 (wrap64 (x14 + 1))) else (some false))))) else (if (bt x3 x14) ≥ 65 then (if (bt x3 x14) ≤ 90 then (verb_strange.l0 k x3 x4 x13 (wrap64 (x14 + 1))) else (if (bt x3 x14) ≥ 48 then (if (bt x3 x14) ≤ 57 then (verb_strange.l0 k x3 x4 x13 (wrap64 (x14 + 1))) else (if ((bt x3 x14) = 45) then (verb_strange.l0 k x3 x4 x13 (wrap64 (x14 + 1))) else (some false))) else (if ((bt x3 x14) = 45) then (verb_strange.l0 k x3 x4 x13 (wrap64 (x14 + 1))) else (some false)))) else (if (bt x3 x14) ≥ 48 then (if (bt x3 x14) ≤ 57 then (verb_strange.l0 k x3 x4 x13 (wrap64 (x14 + 1))) else (if ((bt x3 x14) = 45) then (verb_strange.l0 k x3 x4 x13 (wrap64 (x14 + 1))) else (some false))) else (if ((bt x3 x14) = 45) then (verb_strange.l0 k x3 x4 x13 (wrap64 (x14 + 1))) else (some false))))) else (none)) else (none)) else (if x4 = true then (some (!x3.toList.isEmpty)) else (some false))
def verb_strange.f (k : Nat) (a0 : ByteArray) : Option (Bool) := (verb_after.f a0 (⟨#[97, 117, 116, 104, 32]⟩ : ByteArray)).bind fun bt156 => (verb_strange.l0 k bt156.1 bt156.2 (bt156.1.size : Int) 0)
theorem verb_strange.mono_l : ∀ k, (∀ y0 y1 y2 y3, LeO (verb_strange.l0 k y0 y1 y2 y3) (verb_strange.l0 (k + 1) y0 y1 y2 y3))
  | 0 => fun _ _ _ _ r h => by simp [verb_strange.l0] at h
  | k + 1 => by
    have ih0 := verb_strange.mono_l k
    · intro y0 y1 y2 y3
      unfold verb_strange.l0
      repeat' first
      | (with_reducible exact ih0 _ _ _ _)
      | (with_reducible exact LeO.refl _)
      | (with_reducible exact LeO.none _)
      | (with_reducible refine LeO.ite ?_ ?_)
      | (with_reducible refine LeO.bind ?_ (fun _ => ?_))
      | exact ih0 _ _ _ _
      | exact LeO.none _
      | refine LeO.ite ?_ ?_
      | refine LeO.bind ?_ (fun _ => ?_)
theorem verb_strange.mono : ∀ a0 k, LeO (verb_strange.f k a0) (verb_strange.f (k + 1) a0) := by
  intro a0 k
  have ih0 := verb_strange.mono_l k
  unfold verb_strange.f
  repeat' first
      | (with_reducible exact ih0 _ _ _ _)
      | (with_reducible exact LeO.refl _)
      | (with_reducible exact LeO.none _)
      | (with_reducible refine LeO.ite ?_ ?_)
      | (with_reducible refine LeO.bind ?_ (fun _ => ?_))
      | exact ih0 _ _ _ _
      | exact LeO.none _
      | refine LeO.ite ?_ ?_
      | refine LeO.bind ?_ (fun _ => ?_)
set_option maxHeartbeats 8000000 in
set_option maxRecDepth 100000 in
theorem verb_strange.calls (k : Nat) (a0 : ByteArray) (r : Bool) (w : World) (h : verb_strange.f k a0 = some r) :
    Calls Tryd.prog 21 #[.string a0] w fun e w' => e = .returned (.bool r) ∧ Below w.heap.size w w' := by
  have HB := Aside0.mk (Below.refl w.heap.size w)
  have H : ((verb_after.f a0 (⟨#[97, 117, 116, 104, 32]⟩ : ByteArray)).bind fun bt156 => (verb_strange.l0 k bt156.1 bt156.2 (bt156.1.size : Int) 0)) = some r := h
  clear h
  replace H := Option.bind_eq_some_iff.mp H
  obtain ⟨⟨t156, t157⟩, A20, H⟩ := H
  replace H : (verb_strange.l0 k t156 t157 (t156.size : Int) 0) = some r := H
  have A2 := Aside0.mk A20
  clear A20
  have H' := Aside0.mk H
  clear H
  go_enter Tryd.func21, Tryd.ntmps21
  go_wp2_with (first | ((with_reducible refine gate_callee (f := 35) rfl ?_); refine goesL_ (some 9) rfl rfl Tryd.func35 (by kernel_rfl) rfl #[.string a0, .string (⟨#[97, 117, 116, 104, 32]⟩ : ByteArray)] rfl (by (try simp only [List.map_toArray, List.map_cons, List.map_nil]); first | done | rfl | (simp only [List.length_drop, List.length_take]; rfl)) ?_; (with_reducible refine (verb_after.calls a0 (⟨#[97, 117, 116, 104, 32]⟩ : ByteArray) t156 t157 _ A2.out).mono ?_); rintro e w3 ⟨rfl, hb⟩; refine ⟨_, rfl, ?_⟩; have n0_ := Aside0.mk (below_step (by repeat (first | (with_reducible first | exact HB.out | apply below_alloc | apply pw_below_drewN | apply below_drew1) | exact HB.out)) hb); clear HB; have HB := n0_; clear n0_; (try clear hb); (try clear hb2); (try clear hk); (try clear hi)))
  go_loopg [14] k (fun kq v14 w' => ∃ (x14_1 : Int), v14 = .int .i64 x14_1 ∧ Aside0 (verb_strange.l0 kq t156 t157 (t156.size : Int) x14_1 = some r) ∧ Aside0 (kq ≤ k) ∧ Aside0 (Below w.heap.size w w'))
  case atStart => exact ⟨(0), (by first | rfl | (simp; done) | (simp [*]; done)), H', ⟨Nat.le_refl _⟩, ⟨by repeat (first | (with_reducible first | exact HB.out | apply below_alloc | apply pw_below_drewN | apply below_drew1) | exact HB.out)⟩⟩
  case round =>
    clear H'
    try clear c2
    try clear p2
    try clear c3
    obtain ⟨x14_1, rfl, HA, HK1, HB⟩ := hrel
    cases gk with
    | zero => exact absurd HA.out (by simp [verb_strange.l0])
    | succ k1 =>
      have H := HA.out
      clear HA
      simp only [verb_strange.l0] at H
      by_cases c4 : x14_1 < (t156.size : Int)
      · rw [if_pos c4] at H
        have c4b0 : decide (x14_1 < (t156.size : Int)) = true := decide_eq_true c4
        clear c4
        by_cases c5 : 0 ≤ x14_1
        · rw [if_pos c5] at H
          have c5b0 : decide (0 ≤ x14_1) = true := decide_eq_true c5
          clear c5
          by_cases c6 : x14_1 < (t156.size : Int)
          · rw [if_pos c6] at H
            have c6b0 : decide (x14_1 < (t156.size : Int)) = true := decide_eq_true c6
            clear c6
            by_cases c8 : (bt t156 x14_1) ≥ 97
            · rw [if_pos c8] at H
              have c8b0 : decide (97 ≤ (bt t156 x14_1)) = true := decide_eq_true c8
              clear c8
              by_cases c9 : (bt t156 x14_1) ≤ 122
              · rw [if_pos c9] at H
                have c9b0 : decide ((bt t156 x14_1) ≤ 122) = true := decide_eq_true c9
                clear c9
                have H' := Aside0.mk H
                clear H
                have p7 : 0 ≤ (x14_1 : Int) := of_decide_eq_true (by first | (with_reducible assumption) | assumption)
                have q7 : x14_1 < (t156.size : Int) := of_decide_eq_true (by first | (with_reducible assumption) | assumption)
                have hx7 := bt_at t156 x14_1
                replace p7 := eq_true p7
                replace q7 := eq_true q7
                go_wp2
                go_roundg k1
                case measure => have := HK1.out; omega
                case rel => exact ⟨(wrap64 (x14_1 + 1)), (by first | rfl | (simp; done) | (simp [*]; done)), H', ⟨by have := HK1.out; omega⟩, ⟨by repeat (first | (with_reducible first | exact HB.out | apply below_alloc | apply pw_below_drewN | apply below_drew1) | exact HB.out)⟩⟩
              · rw [if_neg c9] at H
                have c9b0 : decide ((bt t156 x14_1) ≤ 122) = false := decide_eq_false c9
                clear c9
                by_cases c10 : (bt t156 x14_1) ≥ 65
                · rw [if_pos c10] at H
                  have c10b0 : decide (65 ≤ (bt t156 x14_1)) = true := decide_eq_true c10
                  clear c10
                  by_cases c11 : (bt t156 x14_1) ≤ 90
                  · rw [if_pos c11] at H
                    have c11b0 : decide ((bt t156 x14_1) ≤ 90) = true := decide_eq_true c11
                    clear c11
                    have H' := Aside0.mk H
                    clear H
                    have p7 : 0 ≤ (x14_1 : Int) := of_decide_eq_true (by first | (with_reducible assumption) | assumption)
                    have q7 : x14_1 < (t156.size : Int) := of_decide_eq_true (by first | (with_reducible assumption) | assumption)
                    have hx7 := bt_at t156 x14_1
                    replace p7 := eq_true p7
                    replace q7 := eq_true q7
                    go_wp2
                    go_roundg k1
                    case measure => have := HK1.out; omega
                    case rel => exact ⟨(wrap64 (x14_1 + 1)), (by first | rfl | (simp; done) | (simp [*]; done)), H', ⟨by have := HK1.out; omega⟩, ⟨by repeat (first | (with_reducible first | exact HB.out | apply below_alloc | apply pw_below_drewN | apply below_drew1) | exact HB.out)⟩⟩
                  · rw [if_neg c11] at H
                    have c11b0 : decide ((bt t156 x14_1) ≤ 90) = false := decide_eq_false c11
                    clear c11
                    by_cases c12 : (bt t156 x14_1) ≥ 48
                    · rw [if_pos c12] at H
                      have c12b0 : decide (48 ≤ (bt t156 x14_1)) = true := decide_eq_true c12
                      clear c12
                      by_cases c13 : (bt t156 x14_1) ≤ 57
                      · rw [if_pos c13] at H
                        have c13b0 : decide ((bt t156 x14_1) ≤ 57) = true := decide_eq_true c13
                        clear c13
                        have H' := Aside0.mk H
                        clear H
                        have p7 : 0 ≤ (x14_1 : Int) := of_decide_eq_true (by first | (with_reducible assumption) | assumption)
                        have q7 : x14_1 < (t156.size : Int) := of_decide_eq_true (by first | (with_reducible assumption) | assumption)
                        have hx7 := bt_at t156 x14_1
                        replace p7 := eq_true p7
                        replace q7 := eq_true q7
                        go_wp2
                        go_roundg k1
                        case measure => have := HK1.out; omega
                        case rel => exact ⟨(wrap64 (x14_1 + 1)), (by first | rfl | (simp; done) | (simp [*]; done)), H', ⟨by have := HK1.out; omega⟩, ⟨by repeat (first | (with_reducible first | exact HB.out | apply below_alloc | apply pw_below_drewN | apply below_drew1) | exact HB.out)⟩⟩
                      · rw [if_neg c13] at H
                        have c13b0 : decide ((bt t156 x14_1) ≤ 57) = false := decide_eq_false c13
                        clear c13
                        by_cases c14 : ((bt t156 x14_1) = 45)
                        · rw [if_pos c14] at H
                          have c14b0 : ((bt t156 x14_1) == 45) = true := beq_iff_eq.mpr c14
                          have c14b1 : ((bt t156 x14_1) != 45) = false := bne_eq_false_iff_eq.mpr c14
                          clear c14
                          have H' := Aside0.mk H
                          clear H
                          have p7 : 0 ≤ (x14_1 : Int) := of_decide_eq_true (by first | (with_reducible assumption) | assumption)
                          have q7 : x14_1 < (t156.size : Int) := of_decide_eq_true (by first | (with_reducible assumption) | assumption)
                          have hx7 := bt_at t156 x14_1
                          replace p7 := eq_true p7
                          replace q7 := eq_true q7
                          go_wp2
                          go_roundg k1
                          case measure => have := HK1.out; omega
                          case rel => exact ⟨(wrap64 (x14_1 + 1)), (by first | rfl | (simp; done) | (simp [*]; done)), H', ⟨by have := HK1.out; omega⟩, ⟨by repeat (first | (with_reducible first | exact HB.out | apply below_alloc | apply pw_below_drewN | apply below_drew1) | exact HB.out)⟩⟩
                        · rw [if_neg c14] at H
                          have c14b0 : ((bt t156 x14_1) == 45) = false := beq_eq_false_iff_ne.mpr c14
                          have c14b1 : ((bt t156 x14_1) != 45) = true := bne_iff_ne.mpr c14
                          obtain rfl := Option.some.inj H
                          have p7 : 0 ≤ (x14_1 : Int) := of_decide_eq_true (by first | (with_reducible assumption) | assumption)
                          have q7 : x14_1 < (t156.size : Int) := of_decide_eq_true (by first | (with_reducible assumption) | assumption)
                          have hx7 := bt_at t156 x14_1
                          replace p7 := eq_true p7
                          replace q7 := eq_true q7
                          go_wp2
                          go_ret
                          exact ⟨by first | rfl | (simp [errW_none, errW_some] <;> rfl) | (simp [*, errW_none, errW_some] <;> rfl), by repeat (first | (with_reducible first | exact HB.out | apply below_alloc | apply pw_below_drewN | apply below_drew1) | exact HB.out)⟩
                    · rw [if_neg c12] at H
                      have c12b0 : decide (48 ≤ (bt t156 x14_1)) = false := decide_eq_false c12
                      clear c12
                      by_cases c15 : ((bt t156 x14_1) = 45)
                      · rw [if_pos c15] at H
                        have c15b0 : ((bt t156 x14_1) == 45) = true := beq_iff_eq.mpr c15
                        have c15b1 : ((bt t156 x14_1) != 45) = false := bne_eq_false_iff_eq.mpr c15
                        clear c15
                        have H' := Aside0.mk H
                        clear H
                        have p7 : 0 ≤ (x14_1 : Int) := of_decide_eq_true (by first | (with_reducible assumption) | assumption)
                        have q7 : x14_1 < (t156.size : Int) := of_decide_eq_true (by first | (with_reducible assumption) | assumption)
                        have hx7 := bt_at t156 x14_1
                        replace p7 := eq_true p7
                        replace q7 := eq_true q7
                        go_wp2
                        go_roundg k1
                        case measure => have := HK1.out; omega
                        case rel => exact ⟨(wrap64 (x14_1 + 1)), (by first | rfl | (simp; done) | (simp [*]; done)), H', ⟨by have := HK1.out; omega⟩, ⟨by repeat (first | (with_reducible first | exact HB.out | apply below_alloc | apply pw_below_drewN | apply below_drew1) | exact HB.out)⟩⟩
                      · rw [if_neg c15] at H
                        have c15b0 : ((bt t156 x14_1) == 45) = false := beq_eq_false_iff_ne.mpr c15
                        have c15b1 : ((bt t156 x14_1) != 45) = true := bne_iff_ne.mpr c15
                        obtain rfl := Option.some.inj H
                        have p7 : 0 ≤ (x14_1 : Int) := of_decide_eq_true (by first | (with_reducible assumption) | assumption)
                        have q7 : x14_1 < (t156.size : Int) := of_decide_eq_true (by first | (with_reducible assumption) | assumption)
                        have hx7 := bt_at t156 x14_1
                        replace p7 := eq_true p7
                        replace q7 := eq_true q7
                        go_wp2
                        go_ret
                        exact ⟨by first | rfl | (simp [errW_none, errW_some] <;> rfl) | (simp [*, errW_none, errW_some] <;> rfl), by repeat (first | (with_reducible first | exact HB.out | apply below_alloc | apply pw_below_drewN | apply below_drew1) | exact HB.out)⟩
                · rw [if_neg c10] at H
                  have c10b0 : decide (65 ≤ (bt t156 x14_1)) = false := decide_eq_false c10
                  clear c10
                  by_cases c16 : (bt t156 x14_1) ≥ 48
                  · rw [if_pos c16] at H
                    have c16b0 : decide (48 ≤ (bt t156 x14_1)) = true := decide_eq_true c16
                    clear c16
                    by_cases c17 : (bt t156 x14_1) ≤ 57
                    · rw [if_pos c17] at H
                      have c17b0 : decide ((bt t156 x14_1) ≤ 57) = true := decide_eq_true c17
                      clear c17
                      have H' := Aside0.mk H
                      clear H
                      have p7 : 0 ≤ (x14_1 : Int) := of_decide_eq_true (by first | (with_reducible assumption) | assumption)
                      have q7 : x14_1 < (t156.size : Int) := of_decide_eq_true (by first | (with_reducible assumption) | assumption)
                      have hx7 := bt_at t156 x14_1
                      replace p7 := eq_true p7
                      replace q7 := eq_true q7
                      go_wp2
                      go_roundg k1
                      case measure => have := HK1.out; omega
                      case rel => exact ⟨(wrap64 (x14_1 + 1)), (by first | rfl | (simp; done) | (simp [*]; done)), H', ⟨by have := HK1.out; omega⟩, ⟨by repeat (first | (with_reducible first | exact HB.out | apply below_alloc | apply pw_below_drewN | apply below_drew1) | exact HB.out)⟩⟩
                    · rw [if_neg c17] at H
                      have c17b0 : decide ((bt t156 x14_1) ≤ 57) = false := decide_eq_false c17
                      clear c17
                      by_cases c18 : ((bt t156 x14_1) = 45)
                      · rw [if_pos c18] at H
                        have c18b0 : ((bt t156 x14_1) == 45) = true := beq_iff_eq.mpr c18
                        have c18b1 : ((bt t156 x14_1) != 45) = false := bne_eq_false_iff_eq.mpr c18
                        clear c18
                        have H' := Aside0.mk H
                        clear H
                        have p7 : 0 ≤ (x14_1 : Int) := of_decide_eq_true (by first | (with_reducible assumption) | assumption)
                        have q7 : x14_1 < (t156.size : Int) := of_decide_eq_true (by first | (with_reducible assumption) | assumption)
                        have hx7 := bt_at t156 x14_1
                        replace p7 := eq_true p7
                        replace q7 := eq_true q7
                        go_wp2
                        go_roundg k1
                        case measure => have := HK1.out; omega
                        case rel => exact ⟨(wrap64 (x14_1 + 1)), (by first | rfl | (simp; done) | (simp [*]; done)), H', ⟨by have := HK1.out; omega⟩, ⟨by repeat (first | (with_reducible first | exact HB.out | apply below_alloc | apply pw_below_drewN | apply below_drew1) | exact HB.out)⟩⟩
                      · rw [if_neg c18] at H
                        have c18b0 : ((bt t156 x14_1) == 45) = false := beq_eq_false_iff_ne.mpr c18
                        have c18b1 : ((bt t156 x14_1) != 45) = true := bne_iff_ne.mpr c18
                        obtain rfl := Option.some.inj H
                        have p7 : 0 ≤ (x14_1 : Int) := of_decide_eq_true (by first | (with_reducible assumption) | assumption)
                        have q7 : x14_1 < (t156.size : Int) := of_decide_eq_true (by first | (with_reducible assumption) | assumption)
                        have hx7 := bt_at t156 x14_1
                        replace p7 := eq_true p7
                        replace q7 := eq_true q7
                        go_wp2
                        go_ret
                        exact ⟨by first | rfl | (simp [errW_none, errW_some] <;> rfl) | (simp [*, errW_none, errW_some] <;> rfl), by repeat (first | (with_reducible first | exact HB.out | apply below_alloc | apply pw_below_drewN | apply below_drew1) | exact HB.out)⟩
                  · rw [if_neg c16] at H
                    have c16b0 : decide (48 ≤ (bt t156 x14_1)) = false := decide_eq_false c16
                    clear c16
                    by_cases c19 : ((bt t156 x14_1) = 45)
                    · rw [if_pos c19] at H
                      have c19b0 : ((bt t156 x14_1) == 45) = true := beq_iff_eq.mpr c19
                      have c19b1 : ((bt t156 x14_1) != 45) = false := bne_eq_false_iff_eq.mpr c19
                      clear c19
                      have H' := Aside0.mk H
                      clear H
                      have p7 : 0 ≤ (x14_1 : Int) := of_decide_eq_true (by first | (with_reducible assumption) | assumption)
                      have q7 : x14_1 < (t156.size : Int) := of_decide_eq_true (by first | (with_reducible assumption) | assumption)
                      have hx7 := bt_at t156 x14_1
                      replace p7 := eq_true p7
                      replace q7 := eq_true q7
                      go_wp2
                      go_roundg k1
                      case measure => have := HK1.out; omega
                      case rel => exact ⟨(wrap64 (x14_1 + 1)), (by first | rfl | (simp; done) | (simp [*]; done)), H', ⟨by have := HK1.out; omega⟩, ⟨by repeat (first | (with_reducible first | exact HB.out | apply below_alloc | apply pw_below_drewN | apply below_drew1) | exact HB.out)⟩⟩
                    · rw [if_neg c19] at H
                      have c19b0 : ((bt t156 x14_1) == 45) = false := beq_eq_false_iff_ne.mpr c19
                      have c19b1 : ((bt t156 x14_1) != 45) = true := bne_iff_ne.mpr c19
                      obtain rfl := Option.some.inj H
                      have p7 : 0 ≤ (x14_1 : Int) := of_decide_eq_true (by first | (with_reducible assumption) | assumption)
                      have q7 : x14_1 < (t156.size : Int) := of_decide_eq_true (by first | (with_reducible assumption) | assumption)
                      have hx7 := bt_at t156 x14_1
                      replace p7 := eq_true p7
                      replace q7 := eq_true q7
                      go_wp2
                      go_ret
                      exact ⟨by first | rfl | (simp [errW_none, errW_some] <;> rfl) | (simp [*, errW_none, errW_some] <;> rfl), by repeat (first | (with_reducible first | exact HB.out | apply below_alloc | apply pw_below_drewN | apply below_drew1) | exact HB.out)⟩
            · rw [if_neg c8] at H
              have c8b0 : decide (97 ≤ (bt t156 x14_1)) = false := decide_eq_false c8
              clear c8
              by_cases c20 : (bt t156 x14_1) ≥ 65
              · rw [if_pos c20] at H
                have c20b0 : decide (65 ≤ (bt t156 x14_1)) = true := decide_eq_true c20
                clear c20
                by_cases c21 : (bt t156 x14_1) ≤ 90
                · rw [if_pos c21] at H
                  have c21b0 : decide ((bt t156 x14_1) ≤ 90) = true := decide_eq_true c21
                  clear c21
                  have H' := Aside0.mk H
                  clear H
                  have p7 : 0 ≤ (x14_1 : Int) := of_decide_eq_true (by first | (with_reducible assumption) | assumption)
                  have q7 : x14_1 < (t156.size : Int) := of_decide_eq_true (by first | (with_reducible assumption) | assumption)
                  have hx7 := bt_at t156 x14_1
                  replace p7 := eq_true p7
                  replace q7 := eq_true q7
                  go_wp2
                  go_roundg k1
                  case measure => have := HK1.out; omega
                  case rel => exact ⟨(wrap64 (x14_1 + 1)), (by first | rfl | (simp; done) | (simp [*]; done)), H', ⟨by have := HK1.out; omega⟩, ⟨by repeat (first | (with_reducible first | exact HB.out | apply below_alloc | apply pw_below_drewN | apply below_drew1) | exact HB.out)⟩⟩
                · rw [if_neg c21] at H
                  have c21b0 : decide ((bt t156 x14_1) ≤ 90) = false := decide_eq_false c21
                  clear c21
                  by_cases c22 : (bt t156 x14_1) ≥ 48
                  · rw [if_pos c22] at H
                    have c22b0 : decide (48 ≤ (bt t156 x14_1)) = true := decide_eq_true c22
                    clear c22
                    by_cases c23 : (bt t156 x14_1) ≤ 57
                    · rw [if_pos c23] at H
                      have c23b0 : decide ((bt t156 x14_1) ≤ 57) = true := decide_eq_true c23
                      clear c23
                      have H' := Aside0.mk H
                      clear H
                      have p7 : 0 ≤ (x14_1 : Int) := of_decide_eq_true (by first | (with_reducible assumption) | assumption)
                      have q7 : x14_1 < (t156.size : Int) := of_decide_eq_true (by first | (with_reducible assumption) | assumption)
                      have hx7 := bt_at t156 x14_1
                      replace p7 := eq_true p7
                      replace q7 := eq_true q7
                      go_wp2
                      go_roundg k1
                      case measure => have := HK1.out; omega
                      case rel => exact ⟨(wrap64 (x14_1 + 1)), (by first | rfl | (simp; done) | (simp [*]; done)), H', ⟨by have := HK1.out; omega⟩, ⟨by repeat (first | (with_reducible first | exact HB.out | apply below_alloc | apply pw_below_drewN | apply below_drew1) | exact HB.out)⟩⟩
                    · rw [if_neg c23] at H
                      have c23b0 : decide ((bt t156 x14_1) ≤ 57) = false := decide_eq_false c23
                      clear c23
                      by_cases c24 : ((bt t156 x14_1) = 45)
                      · rw [if_pos c24] at H
                        have c24b0 : ((bt t156 x14_1) == 45) = true := beq_iff_eq.mpr c24
                        have c24b1 : ((bt t156 x14_1) != 45) = false := bne_eq_false_iff_eq.mpr c24
                        clear c24
                        have H' := Aside0.mk H
                        clear H
                        have p7 : 0 ≤ (x14_1 : Int) := of_decide_eq_true (by first | (with_reducible assumption) | assumption)
                        have q7 : x14_1 < (t156.size : Int) := of_decide_eq_true (by first | (with_reducible assumption) | assumption)
                        have hx7 := bt_at t156 x14_1
                        replace p7 := eq_true p7
                        replace q7 := eq_true q7
                        go_wp2
                        go_roundg k1
                        case measure => have := HK1.out; omega
                        case rel => exact ⟨(wrap64 (x14_1 + 1)), (by first | rfl | (simp; done) | (simp [*]; done)), H', ⟨by have := HK1.out; omega⟩, ⟨by repeat (first | (with_reducible first | exact HB.out | apply below_alloc | apply pw_below_drewN | apply below_drew1) | exact HB.out)⟩⟩
                      · rw [if_neg c24] at H
                        have c24b0 : ((bt t156 x14_1) == 45) = false := beq_eq_false_iff_ne.mpr c24
                        have c24b1 : ((bt t156 x14_1) != 45) = true := bne_iff_ne.mpr c24
                        obtain rfl := Option.some.inj H
                        have p7 : 0 ≤ (x14_1 : Int) := of_decide_eq_true (by first | (with_reducible assumption) | assumption)
                        have q7 : x14_1 < (t156.size : Int) := of_decide_eq_true (by first | (with_reducible assumption) | assumption)
                        have hx7 := bt_at t156 x14_1
                        replace p7 := eq_true p7
                        replace q7 := eq_true q7
                        go_wp2
                        go_ret
                        exact ⟨by first | rfl | (simp [errW_none, errW_some] <;> rfl) | (simp [*, errW_none, errW_some] <;> rfl), by repeat (first | (with_reducible first | exact HB.out | apply below_alloc | apply pw_below_drewN | apply below_drew1) | exact HB.out)⟩
                  · rw [if_neg c22] at H
                    have c22b0 : decide (48 ≤ (bt t156 x14_1)) = false := decide_eq_false c22
                    clear c22
                    by_cases c25 : ((bt t156 x14_1) = 45)
                    · rw [if_pos c25] at H
                      have c25b0 : ((bt t156 x14_1) == 45) = true := beq_iff_eq.mpr c25
                      have c25b1 : ((bt t156 x14_1) != 45) = false := bne_eq_false_iff_eq.mpr c25
                      clear c25
                      have H' := Aside0.mk H
                      clear H
                      have p7 : 0 ≤ (x14_1 : Int) := of_decide_eq_true (by first | (with_reducible assumption) | assumption)
                      have q7 : x14_1 < (t156.size : Int) := of_decide_eq_true (by first | (with_reducible assumption) | assumption)
                      have hx7 := bt_at t156 x14_1
                      replace p7 := eq_true p7
                      replace q7 := eq_true q7
                      go_wp2
                      go_roundg k1
                      case measure => have := HK1.out; omega
                      case rel => exact ⟨(wrap64 (x14_1 + 1)), (by first | rfl | (simp; done) | (simp [*]; done)), H', ⟨by have := HK1.out; omega⟩, ⟨by repeat (first | (with_reducible first | exact HB.out | apply below_alloc | apply pw_below_drewN | apply below_drew1) | exact HB.out)⟩⟩
                    · rw [if_neg c25] at H
                      have c25b0 : ((bt t156 x14_1) == 45) = false := beq_eq_false_iff_ne.mpr c25
                      have c25b1 : ((bt t156 x14_1) != 45) = true := bne_iff_ne.mpr c25
                      obtain rfl := Option.some.inj H
                      have p7 : 0 ≤ (x14_1 : Int) := of_decide_eq_true (by first | (with_reducible assumption) | assumption)
                      have q7 : x14_1 < (t156.size : Int) := of_decide_eq_true (by first | (with_reducible assumption) | assumption)
                      have hx7 := bt_at t156 x14_1
                      replace p7 := eq_true p7
                      replace q7 := eq_true q7
                      go_wp2
                      go_ret
                      exact ⟨by first | rfl | (simp [errW_none, errW_some] <;> rfl) | (simp [*, errW_none, errW_some] <;> rfl), by repeat (first | (with_reducible first | exact HB.out | apply below_alloc | apply pw_below_drewN | apply below_drew1) | exact HB.out)⟩
              · rw [if_neg c20] at H
                have c20b0 : decide (65 ≤ (bt t156 x14_1)) = false := decide_eq_false c20
                clear c20
                by_cases c26 : (bt t156 x14_1) ≥ 48
                · rw [if_pos c26] at H
                  have c26b0 : decide (48 ≤ (bt t156 x14_1)) = true := decide_eq_true c26
                  clear c26
                  by_cases c27 : (bt t156 x14_1) ≤ 57
                  · rw [if_pos c27] at H
                    have c27b0 : decide ((bt t156 x14_1) ≤ 57) = true := decide_eq_true c27
                    clear c27
                    have H' := Aside0.mk H
                    clear H
                    have p7 : 0 ≤ (x14_1 : Int) := of_decide_eq_true (by first | (with_reducible assumption) | assumption)
                    have q7 : x14_1 < (t156.size : Int) := of_decide_eq_true (by first | (with_reducible assumption) | assumption)
                    have hx7 := bt_at t156 x14_1
                    replace p7 := eq_true p7
                    replace q7 := eq_true q7
                    go_wp2
                    go_roundg k1
                    case measure => have := HK1.out; omega
                    case rel => exact ⟨(wrap64 (x14_1 + 1)), (by first | rfl | (simp; done) | (simp [*]; done)), H', ⟨by have := HK1.out; omega⟩, ⟨by repeat (first | (with_reducible first | exact HB.out | apply below_alloc | apply pw_below_drewN | apply below_drew1) | exact HB.out)⟩⟩
                  · rw [if_neg c27] at H
                    have c27b0 : decide ((bt t156 x14_1) ≤ 57) = false := decide_eq_false c27
                    clear c27
                    by_cases c28 : ((bt t156 x14_1) = 45)
                    · rw [if_pos c28] at H
                      have c28b0 : ((bt t156 x14_1) == 45) = true := beq_iff_eq.mpr c28
                      have c28b1 : ((bt t156 x14_1) != 45) = false := bne_eq_false_iff_eq.mpr c28
                      clear c28
                      have H' := Aside0.mk H
                      clear H
                      have p7 : 0 ≤ (x14_1 : Int) := of_decide_eq_true (by first | (with_reducible assumption) | assumption)
                      have q7 : x14_1 < (t156.size : Int) := of_decide_eq_true (by first | (with_reducible assumption) | assumption)
                      have hx7 := bt_at t156 x14_1
                      replace p7 := eq_true p7
                      replace q7 := eq_true q7
                      go_wp2
                      go_roundg k1
                      case measure => have := HK1.out; omega
                      case rel => exact ⟨(wrap64 (x14_1 + 1)), (by first | rfl | (simp; done) | (simp [*]; done)), H', ⟨by have := HK1.out; omega⟩, ⟨by repeat (first | (with_reducible first | exact HB.out | apply below_alloc | apply pw_below_drewN | apply below_drew1) | exact HB.out)⟩⟩
                    · rw [if_neg c28] at H
                      have c28b0 : ((bt t156 x14_1) == 45) = false := beq_eq_false_iff_ne.mpr c28
                      have c28b1 : ((bt t156 x14_1) != 45) = true := bne_iff_ne.mpr c28
                      obtain rfl := Option.some.inj H
                      have p7 : 0 ≤ (x14_1 : Int) := of_decide_eq_true (by first | (with_reducible assumption) | assumption)
                      have q7 : x14_1 < (t156.size : Int) := of_decide_eq_true (by first | (with_reducible assumption) | assumption)
                      have hx7 := bt_at t156 x14_1
                      replace p7 := eq_true p7
                      replace q7 := eq_true q7
                      go_wp2
                      go_ret
                      exact ⟨by first | rfl | (simp [errW_none, errW_some] <;> rfl) | (simp [*, errW_none, errW_some] <;> rfl), by repeat (first | (with_reducible first | exact HB.out | apply below_alloc | apply pw_below_drewN | apply below_drew1) | exact HB.out)⟩
                · rw [if_neg c26] at H
                  have c26b0 : decide (48 ≤ (bt t156 x14_1)) = false := decide_eq_false c26
                  clear c26
                  by_cases c29 : ((bt t156 x14_1) = 45)
                  · rw [if_pos c29] at H
                    have c29b0 : ((bt t156 x14_1) == 45) = true := beq_iff_eq.mpr c29
                    have c29b1 : ((bt t156 x14_1) != 45) = false := bne_eq_false_iff_eq.mpr c29
                    clear c29
                    have H' := Aside0.mk H
                    clear H
                    have p7 : 0 ≤ (x14_1 : Int) := of_decide_eq_true (by first | (with_reducible assumption) | assumption)
                    have q7 : x14_1 < (t156.size : Int) := of_decide_eq_true (by first | (with_reducible assumption) | assumption)
                    have hx7 := bt_at t156 x14_1
                    replace p7 := eq_true p7
                    replace q7 := eq_true q7
                    go_wp2
                    go_roundg k1
                    case measure => have := HK1.out; omega
                    case rel => exact ⟨(wrap64 (x14_1 + 1)), (by first | rfl | (simp; done) | (simp [*]; done)), H', ⟨by have := HK1.out; omega⟩, ⟨by repeat (first | (with_reducible first | exact HB.out | apply below_alloc | apply pw_below_drewN | apply below_drew1) | exact HB.out)⟩⟩
                  · rw [if_neg c29] at H
                    have c29b0 : ((bt t156 x14_1) == 45) = false := beq_eq_false_iff_ne.mpr c29
                    have c29b1 : ((bt t156 x14_1) != 45) = true := bne_iff_ne.mpr c29
                    obtain rfl := Option.some.inj H
                    have p7 : 0 ≤ (x14_1 : Int) := of_decide_eq_true (by first | (with_reducible assumption) | assumption)
                    have q7 : x14_1 < (t156.size : Int) := of_decide_eq_true (by first | (with_reducible assumption) | assumption)
                    have hx7 := bt_at t156 x14_1
                    replace p7 := eq_true p7
                    replace q7 := eq_true q7
                    go_wp2
                    go_ret
                    exact ⟨by first | rfl | (simp [errW_none, errW_some] <;> rfl) | (simp [*, errW_none, errW_some] <;> rfl), by repeat (first | (with_reducible first | exact HB.out | apply below_alloc | apply pw_below_drewN | apply below_drew1) | exact HB.out)⟩
          · rw [if_neg c6] at H
            exact absurd H (by simp)
        · rw [if_neg c5] at H
          exact absurd H (by simp)
      · rw [if_neg c4] at H
        have c4b0 : decide (x14_1 < (t156.size : Int)) = false := decide_eq_false c4
        clear c4
        by_cases c30 : t157 = true
        · subst c30
          have H1 : (some (!t156.toList.isEmpty)) = some r := by rw [if_pos rfl] at H; exact H
          clear H
          have H := H1
          clear H1
          obtain rfl := Option.some.inj H
          go_wp2
          go_ret
          exact ⟨by first | rfl | (simp [errW_none, errW_some] <;> rfl) | (simp [*, errW_none, errW_some] <;> rfl), by repeat (first | (with_reducible first | exact HB.out | apply below_alloc | apply pw_below_drewN | apply below_drew1) | exact HB.out)⟩
        · replace c30 := Bool.eq_false_iff.mpr c30
          subst c30
          have H1 : (some false) = some r := by rw [if_neg (show ¬ (false = true) by decide)] at H; exact H
          clear H
          have H := H1
          clear H1
          obtain rfl := Option.some.inj H
          go_wp2
          go_ret
          exact ⟨by first | rfl | (simp [errW_none, errW_some] <;> rfl) | (simp [*, errW_none, errW_some] <;> rfl), by repeat (first | (with_reducible first | exact HB.out | apply below_alloc | apply pw_below_drewN | apply below_drew1) | exact HB.out)⟩
end Go.Proofs.YthcdjgekmfnmnaaDoor.PVerb
end
section
namespace Go.Proofs.YthcdjgekmfnmnaaDoor.PVerb
open Go.RowKit Go.Proofs.YthcdjgekmfnmnaaDoorW.PrintWords Go.Proofs.YthcdjgekmfnmnaaDoorW.PrintLast Go.Proofs.YthcdjgekmfnmnaaDoorW.PrintMore
attribute [local go_sem] max2_int min2_int max_two min_two max_three min_three max_four min_four
set_option linter.unusedVariables false
set_option linter.unusedSimpArgs false
mutual
def verb_Parse.l0 : Nat → ByteArray → Int → Int → Option (Int × ByteArray × Bool × ByteArray × ByteArray × (List (S46)) × Int)
  | 0, _, _, _ => none
  | k + 1, x0, x16, x17 => if x17 < x16 then (if 0 ≤ x17 then (if x17 < (x0.size : Int) then (if (bt x0 x17) < 32 then (some (0, (⟨#[]⟩ : ByteArray), false, (⟨#[]⟩ : ByteArray), (⟨#[]⟩ : ByteArray), ([] : List (S46)), 500)) else (if (bt x0 x17) > 126 then (some (0, (⟨#[]⟩ : ByteArray), false, (⟨#[]⟩ : ByteArray), (⟨#[]⟩ : ByteArray), ([] : List (S46)), 500)) else (verb_Parse.l0 k x0 x16 (wrap64 (x17 + 1))))) else (none)) else (none)) else ((strings_Cut.f x0 (⟨#[32]⟩ : ByteArray)).bind fun bt159 => ((path_Fold.f bt159.1).bind fun t162 => (if t162.toList = ([] : List UInt8) then (verb_Parse.j1 k x0 true) else ((strings_Split.f (⟨#[101, 104, 108, 111, 32, 104, 101, 108, 111, 32, 109, 97, 105, 108, 32, 114, 99, 112, 116, 32, 100, 97, 116, 97, 32, 114, 115, 101, 116, 32, 113, 117, 105, 116, 32, 110, 111, 111, 112, 32, 118, 114, 102, 121, 32, 101, 116, 114, 110, 32, 97, 117, 116, 104, 32, 97, 116, 114, 110]⟩ : ByteArray) (⟨#[32]⟩ : ByteArray)).bind fun t163 => ((slices_Contains_string_string.f k t163 t162).bind fun t166 => (verb_Parse.j1 k x0 (!t166)))))))
def verb_Parse.j1 : Nat → ByteArray → Bool → Option (Int × ByteArray × Bool × ByteArray × ByteArray × (List (S46)) × Int)
  | 0, _, _ => none
  | k + 1, x0, x47 => if x47 = true then (some (0, (⟨#[]⟩ : ByteArray), false, (⟨#[]⟩ : ByteArray), (⟨#[]⟩ : ByteArray), ([] : List (S46)), 500)) else ((verb_read.f x0).bind fun bt167 => (if bt167.2.2.2.2.2.2 = true then (some (bt167.1, bt167.2.1, bt167.2.2.1, bt167.2.2.2.1, bt167.2.2.2.2.1, bt167.2.2.2.2.2.1, 0)) else ((verb_strange.f k x0).bind fun t177 => (if t177 = true then (some (0, (⟨#[]⟩ : ByteArray), false, (⟨#[]⟩ : ByteArray), (⟨#[]⟩ : ByteArray), ([] : List (S46)), 504)) else (some (0, (⟨#[]⟩ : ByteArray), false, (⟨#[]⟩ : ByteArray), (⟨#[]⟩ : ByteArray), ([] : List (S46)), 501))))))
end
def verb_Parse.f (k : Nat) (a0 : ByteArray) : Option (Int × ByteArray × Bool × ByteArray × ByteArray × (List (S46)) × Int) := if (a0.size : Int) > 510 then (some (0, (⟨#[]⟩ : ByteArray), false, (⟨#[]⟩ : ByteArray), (⟨#[]⟩ : ByteArray), ([] : List (S46)), 500)) else (verb_Parse.l0 k a0 (a0.size : Int) 0)
theorem verb_Parse.mono_l : ∀ k, (∀ y0 y1 y2, LeO (verb_Parse.l0 k y0 y1 y2) (verb_Parse.l0 (k + 1) y0 y1 y2)) ∧ (∀ y0 y1, LeO (verb_Parse.j1 k y0 y1) (verb_Parse.j1 (k + 1) y0 y1))
  | 0 => ⟨fun _ _ _ r h => by simp [verb_Parse.l0] at h, fun _ _ r h => by simp [verb_Parse.j1] at h⟩
  | k + 1 => by
    obtain ⟨ih0, ih1⟩ := verb_Parse.mono_l k
    refine ⟨?_, ?_⟩
    · intro y0 y1 y2
      unfold verb_Parse.l0
      repeat' first
      | (with_reducible exact ih0 _ _ _)
      | (with_reducible exact ih1 _ _)
      | (with_reducible exact slices_Contains_string_string.mono _ _ _)
      | (with_reducible exact verb_strange.mono _ _)
      | (with_reducible exact LeO.refl _)
      | (with_reducible exact LeO.none _)
      | (with_reducible refine LeO.ite ?_ ?_)
      | (with_reducible refine LeO.bind ?_ (fun _ => ?_))
      | exact ih0 _ _ _
      | exact ih1 _ _
      | exact slices_Contains_string_string.mono _ _ _
      | exact verb_strange.mono _ _
      | exact LeO.none _
      | refine LeO.ite ?_ ?_
      | refine LeO.bind ?_ (fun _ => ?_)
    · intro y0 y1
      unfold verb_Parse.j1
      repeat' first
      | (with_reducible exact ih0 _ _ _)
      | (with_reducible exact ih1 _ _)
      | (with_reducible exact slices_Contains_string_string.mono _ _ _)
      | (with_reducible exact verb_strange.mono _ _)
      | (with_reducible exact LeO.refl _)
      | (with_reducible exact LeO.none _)
      | (with_reducible refine LeO.ite ?_ ?_)
      | (with_reducible refine LeO.bind ?_ (fun _ => ?_))
      | exact ih0 _ _ _
      | exact ih1 _ _
      | exact slices_Contains_string_string.mono _ _ _
      | exact verb_strange.mono _ _
      | exact LeO.none _
      | refine LeO.ite ?_ ?_
      | refine LeO.bind ?_ (fun _ => ?_)
theorem verb_Parse.mono : ∀ a0 k, LeO (verb_Parse.f k a0) (verb_Parse.f (k + 1) a0) := by
  intro a0 k
  obtain ⟨ih0, ih1⟩ := verb_Parse.mono_l k
  unfold verb_Parse.f
  repeat' first
      | (with_reducible exact ih0 _ _ _)
      | (with_reducible exact ih1 _ _)
      | (with_reducible exact slices_Contains_string_string.mono _ _ _)
      | (with_reducible exact verb_strange.mono _ _)
      | (with_reducible exact LeO.refl _)
      | (with_reducible exact LeO.none _)
      | (with_reducible refine LeO.ite ?_ ?_)
      | (with_reducible refine LeO.bind ?_ (fun _ => ?_))
      | exact ih0 _ _ _
      | exact ih1 _ _
      | exact slices_Contains_string_string.mono _ _ _
      | exact verb_strange.mono _ _
      | exact LeO.none _
      | refine LeO.ite ?_ ?_
      | refine LeO.bind ?_ (fun _ => ?_)
set_option maxHeartbeats 8000000 in
set_option maxRecDepth 100000 in
theorem verb_Parse.calls (k : Nat) (a0 : ByteArray) (r1 : Int) (r2 : ByteArray) (r3 : Bool) (r4 : ByteArray) (r5 : ByteArray) (r6 : List (S46)) (r7 : Int) (w : World) (hG : Glob w) (h : verb_Parse.f k a0 = some (r1, r2, r3, r4, r5, r6, r7)) :
    Calls Tryd.prog 10 #[.string a0] w fun e w' => ∃ v5_ : Value, e = .returned (.tuple #[.agg #[.int .i64 r1, .string r2, .bool r3, .string r4, .string r5, v5_], .int .i64 r7]) ∧ Kd.R k46 46 w' w.heap.size (fun _ => True) v5_ r6 ∧ Below w.heap.size w w' := by
  have hu26 := Tryd.underlying26
  have HB := Aside0.mk (Below.refl w.heap.size w)
  have HG := Aside0.mk hG
  clear hG
  have H : (if (a0.size : Int) > 510 then (some (0, (⟨#[]⟩ : ByteArray), false, (⟨#[]⟩ : ByteArray), (⟨#[]⟩ : ByteArray), ([] : List (S46)), 500)) else (verb_Parse.l0 k a0 (a0.size : Int) 0)) = some (r1, r2, r3, r4, r5, r6, r7) := h
  clear h
  by_cases c2 : (a0.size : Int) > 510
  · rw [if_pos c2] at H
    have c2b0 : decide (510 < (a0.size : Int)) = true := decide_eq_true c2
    have c2b1 : decide (510 < a0.size) = true := decide_eq_true (by omega)
    clear c2
    simp only [Option.some.injEq, Prod.mk.injEq] at H
    obtain ⟨rfl, rfl, rfl, rfl, rfl, rfl, rfl⟩ := H
    go_enter Tryd.func10, Tryd.ntmps10
    go_wp2_with (first | ((with_reducible refine gate_dst (N := 2) rfl ?_); refine box_event ?hg (N := 2) ?hd (cs := #[.int .i64 0, .string (⟨#[]⟩ : ByteArray), .bool false, .string (⟨#[]⟩ : ByteArray), .string (⟨#[]⟩ : ByteArray), .slice none 0 0]) (t := 26) ?hr ?_; (case hd => rfl); (case hg => rfl); (case hr => first | (go_simp; done) | (go_simp; rfl)); intro gb158 hg w3 hbox hb; have n0_ := Aside0.mk (below_step (by repeat (first | (with_reducible first | exact HB.out | apply below_alloc | apply pw_below_drewN | apply below_drew1) | exact HB.out)) hb); have n1_ := Aside0.mk (hbox); have n2_ := Aside0.mk ((by rw [hg]; exact (below_size (by repeat (first | (with_reducible first | exact HB.out | apply below_alloc | apply pw_below_drewN | apply below_drew1) | exact HB.out))) : w.heap.size ≤ gb158)); have n3_ := Aside0.mk ((by rw [hg]; exact (below_size (by repeat (first | (with_reducible first | exact HB.out | apply below_alloc | apply pw_below_drewN | apply below_drew1) | exact HB.out))) : w.heap.size ≤ gb158)); clear HB; have HB := n0_; have BK158 := n1_; have GW158 := n2_; have GE158 := n3_; clear n0_ n1_ n2_ n3_; clear hb hbox hg; have hcz4_0 : w3.cell? ⟨gb158, 0, none⟩ = some (.int .i64 0) := (blk_cell BK158.out 0).trans rfl; have hcz4_1 : w3.cell? ⟨gb158, 1, none⟩ = some (.string (⟨#[]⟩ : ByteArray)) := (blk_cell BK158.out 1).trans rfl; have hcz4_2 : w3.cell? ⟨gb158, 2, none⟩ = some (.bool false) := (blk_cell BK158.out 2).trans rfl; have hcz4_3 : w3.cell? ⟨gb158, 3, none⟩ = some (.string (⟨#[]⟩ : ByteArray)) := (blk_cell BK158.out 3).trans rfl; have hcz4_4 : w3.cell? ⟨gb158, 4, none⟩ = some (.string (⟨#[]⟩ : ByteArray)) := (blk_cell BK158.out 4).trans rfl; have hcz4_5 : w3.cell? ⟨gb158, 5, none⟩ = some (.slice none 0 0) := (blk_cell BK158.out 5).trans rfl; have hfz4_0 := blk_frozen BK158.out 0; have hfz4_1 := blk_frozen BK158.out 1; have hfz4_2 := blk_frozen BK158.out 2; have hfz4_3 := blk_frozen BK158.out 3; have hfz4_4 := blk_frozen BK158.out 4; have hfz4_5 := blk_frozen BK158.out 5))
    refine bodyPost_ret (results_ct rfl _ _ gb158 26 #[.int .i64 0, .string (⟨#[]⟩ : ByteArray), .bool false, .string (⟨#[]⟩ : ByteArray), .string (⟨#[]⟩ : ByteArray), .slice none 0 0] (0, 0) _ rfl (by (with_reducible repeat (first | refine blk_drewN ?_ _ | refine blk_drew ?_ | refine blk_alloc ?_ _)); refine blk_put (cs := #[.int .i64 0, .string (⟨#[]⟩ : ByteArray), .bool false, .string (⟨#[]⟩ : ByteArray), .string (⟨#[]⟩ : ByteArray), .slice none 0 0]) ?_ 5 _ rfl; (with_reducible repeat (first | refine blk_drewN ?_ _ | refine blk_drew ?_ | refine blk_alloc ?_ _)); refine blk_put (cs := #[.int .i64 0, .string (⟨#[]⟩ : ByteArray), .bool false, .string (⟨#[]⟩ : ByteArray), .string (⟨#[]⟩ : ByteArray), .slice none 0 0]) ?_ 4 _ rfl; (with_reducible repeat (first | refine blk_drewN ?_ _ | refine blk_drew ?_ | refine blk_alloc ?_ _)); refine blk_put (cs := #[.int .i64 0, .string (⟨#[]⟩ : ByteArray), .bool false, .string (⟨#[]⟩ : ByteArray), .string (⟨#[]⟩ : ByteArray), .slice none 0 0]) ?_ 3 _ rfl; (with_reducible repeat (first | refine blk_drewN ?_ _ | refine blk_drew ?_ | refine blk_alloc ?_ _)); refine blk_put (cs := #[.int .i64 0, .string (⟨#[]⟩ : ByteArray), .bool false, .string (⟨#[]⟩ : ByteArray), .string (⟨#[]⟩ : ByteArray), .slice none 0 0]) ?_ 2 _ rfl; (with_reducible repeat (first | refine blk_drewN ?_ _ | refine blk_drew ?_ | refine blk_alloc ?_ _)); refine blk_put (cs := #[.int .i64 0, .string (⟨#[]⟩ : ByteArray), .bool false, .string (⟨#[]⟩ : ByteArray), .string (⟨#[]⟩ : ByteArray), .slice none 0 0]) ?_ 1 _ rfl; (with_reducible repeat (first | refine blk_drewN ?_ _ | refine blk_drew ?_ | refine blk_alloc ?_ _)); refine blk_put (cs := #[.int .i64 0, .string (⟨#[]⟩ : ByteArray), .bool false, .string (⟨#[]⟩ : ByteArray), .string (⟨#[]⟩ : ByteArray), .slice none 0 0]) ?_ 0 _ rfl; (with_reducible repeat (first | refine blk_drewN ?_ _ | refine blk_drew ?_ | refine blk_alloc ?_ _)); exact BK158.out) Tryd.underlying26 rfl (by kernel_rfl)) rfl ?_
    exact ⟨_, by first | rfl | (simp [errW_none, errW_some] <;> rfl) | (simp [*, errW_none, errW_some] <;> rfl), by first | exact Kd.R_nil _ _ _ _ _ | exact Kd.N_nil _ _ _ _ _ | exact Kd.V_nil _ _ _ _ _ | exact Kd.Q_nil _ _ _ _ _ | exact Kd.S_nil _ _ _ _ _, by repeat (first | (with_reducible first | exact HB.out | apply below_alloc | apply pw_below_drewN | apply below_drew1 | refine below_set ?_ GE158.out) | exact HB.out)⟩
  · rw [if_neg c2] at H
    have c2b0 : decide (510 < (a0.size : Int)) = false := decide_eq_false c2
    have c2b1 : decide (510 < a0.size) = false := decide_eq_false (by omega)
    clear c2
    have H' := Aside0.mk H
    clear H
    go_enter Tryd.func10, Tryd.ntmps10
    go_wp2_with (first | ((with_reducible refine gate_dst (N := 2) rfl ?_); refine box_event ?hg (N := 2) ?hd (cs := #[.int .i64 0, .string (⟨#[]⟩ : ByteArray), .bool false, .string (⟨#[]⟩ : ByteArray), .string (⟨#[]⟩ : ByteArray), .slice none 0 0]) (t := 26) ?hr ?_; (case hd => rfl); (case hg => rfl); (case hr => first | (go_simp; done) | (go_simp; rfl)); intro gb158 hg w5 hbox hb; have n0_ := Aside0.mk (below_step (by repeat (first | (with_reducible first | exact HB.out | apply below_alloc | apply pw_below_drewN | apply below_drew1) | exact HB.out)) hb); have n1_ := Aside0.mk (hbox); have n2_ := Aside0.mk ((by rw [hg]; exact (below_size (by repeat (first | (with_reducible first | exact HB.out | apply below_alloc | apply pw_below_drewN | apply below_drew1) | exact HB.out))) : w.heap.size ≤ gb158)); have n3_ := Aside0.mk ((by rw [hg]; exact (below_size (by repeat (first | (with_reducible first | exact HB.out | apply below_alloc | apply pw_below_drewN | apply below_drew1) | exact HB.out))) : w.heap.size ≤ gb158)); clear HB; have HB := n0_; have BK158 := n1_; have GW158 := n2_; have GE158 := n3_; clear n0_ n1_ n2_ n3_; clear hb hbox hg))
    go_loopg [17] k (fun kq v17 w' => ∃ (x17_1 : Int) (x159000_1 : Int) (x159001_1 : ByteArray) (x159002_1 : Bool) (x159003_1 : ByteArray) (x159004_1 : ByteArray), v17 = .int .i64 x17_1 ∧ Aside0 (verb_Parse.l0 kq a0 (a0.size : Int) x17_1 = some (r1, r2, r3, r4, r5, r6, r7)) ∧ Aside0 (kq ≤ k) ∧ Aside0 (w'.heap[gb158]? = some (.cells #[.int .i64 x159000_1, .string x159001_1, .bool x159002_1, .string x159003_1, .string x159004_1, (.slice none 0 0)] 26 (0, 0))) ∧ Aside0 (Below w.heap.size w w'))
    case atStart => exact ⟨(0), (0), ((⟨#[]⟩ : ByteArray)), (false), ((⟨#[]⟩ : ByteArray)), ((⟨#[]⟩ : ByteArray)), (by first | rfl | (simp; done) | (simp [*]; done)), H', ⟨Nat.le_refl _⟩, ⟨by (with_reducible repeat (first | refine blk_drewN ?_ _ | refine blk_drew ?_ | refine blk_alloc ?_ _)); exact BK158.out⟩, ⟨by repeat (first | (with_reducible first | exact HB.out | apply below_alloc | apply pw_below_drewN | apply below_drew1 | refine below_set ?_ GE158.out) | exact HB.out)⟩⟩
    case round =>
      clear H'
      try clear c1
      try clear c2
      try clear c2b0
      try clear c2b1
      try clear p2
      try clear hcz4_0
      try clear hcz4_1
      try clear hcz4_2
      try clear hcz4_3
      try clear hcz4_4
      try clear hcz4_5
      try clear hfz4_0
      try clear hfz4_1
      try clear hfz4_2
      try clear hfz4_3
      try clear hfz4_4
      try clear hfz4_5
      obtain ⟨x17_1, x159000_1, x159001_1, x159002_1, x159003_1, x159004_1, rfl, HA, HK1, BK158, HB⟩ := hrel
      cases gk with
      | zero => exact absurd HA.out (by simp [verb_Parse.l0])
      | succ k1 =>
        have H := HA.out
        clear HA
        simp only [verb_Parse.l0] at H
        by_cases c6 : x17_1 < (a0.size : Int)
        · rw [if_pos c6] at H
          have c6b0 : decide (x17_1 < (a0.size : Int)) = true := decide_eq_true c6
          clear c6
          by_cases c7 : 0 ≤ x17_1
          · rw [if_pos c7] at H
            have c7b0 : decide (0 ≤ x17_1) = true := decide_eq_true c7
            clear c7
            by_cases c8 : x17_1 < (a0.size : Int)
            · rw [if_pos c8] at H
              have c8b0 : decide (x17_1 < (a0.size : Int)) = true := decide_eq_true c8
              clear c8
              by_cases c10 : (bt a0 x17_1) < 32
              · rw [if_pos c10] at H
                have c10b0 : decide ((bt a0 x17_1) < 32) = true := decide_eq_true c10
                clear c10
                simp only [Option.some.injEq, Prod.mk.injEq] at H
                obtain ⟨rfl, rfl, rfl, rfl, rfl, rfl, rfl⟩ := H
                have p9 : 0 ≤ (x17_1 : Int) := of_decide_eq_true (by first | (with_reducible assumption) | assumption)
                have q9 : x17_1 < (a0.size : Int) := of_decide_eq_true (by first | (with_reducible assumption) | assumption)
                have hx9 := bt_at a0 x17_1
                replace p9 := eq_true p9
                replace q9 := eq_true q9
                have hcz11_0 : wr.cell? ⟨gb158, 0, none⟩ = some (.int .i64 x159000_1) := (blk_cell BK158.out 0).trans rfl
                have hcz11_1 : wr.cell? ⟨gb158, 1, none⟩ = some (.string x159001_1) := (blk_cell BK158.out 1).trans rfl
                have hcz11_2 : wr.cell? ⟨gb158, 2, none⟩ = some (.bool x159002_1) := (blk_cell BK158.out 2).trans rfl
                have hcz11_3 : wr.cell? ⟨gb158, 3, none⟩ = some (.string x159003_1) := (blk_cell BK158.out 3).trans rfl
                have hcz11_4 : wr.cell? ⟨gb158, 4, none⟩ = some (.string x159004_1) := (blk_cell BK158.out 4).trans rfl
                have hcz11_5 : wr.cell? ⟨gb158, 5, none⟩ = some (.slice none 0 0) := (blk_cell BK158.out 5).trans rfl
                have hfz11_0 := blk_frozen BK158.out 0
                have hfz11_1 := blk_frozen BK158.out 1
                have hfz11_2 := blk_frozen BK158.out 2
                have hfz11_3 := blk_frozen BK158.out 3
                have hfz11_4 := blk_frozen BK158.out 4
                have hfz11_5 := blk_frozen BK158.out 5
                go_wp2
                refine bodyPost_ret (results_ct rfl _ _ gb158 26 #[.int .i64 0, .string (⟨#[]⟩ : ByteArray), .bool false, .string (⟨#[]⟩ : ByteArray), .string (⟨#[]⟩ : ByteArray), .slice none 0 0] (0, 0) _ rfl (by (with_reducible repeat (first | refine blk_drewN ?_ _ | refine blk_drew ?_ | refine blk_alloc ?_ _)); refine blk_put (cs := #[.int .i64 0, .string (⟨#[]⟩ : ByteArray), .bool false, .string (⟨#[]⟩ : ByteArray), .string (⟨#[]⟩ : ByteArray), .slice none 0 0]) ?_ 5 _ rfl; (with_reducible repeat (first | refine blk_drewN ?_ _ | refine blk_drew ?_ | refine blk_alloc ?_ _)); refine blk_put (cs := #[.int .i64 0, .string (⟨#[]⟩ : ByteArray), .bool false, .string (⟨#[]⟩ : ByteArray), .string x159004_1, .slice none 0 0]) ?_ 4 _ rfl; (with_reducible repeat (first | refine blk_drewN ?_ _ | refine blk_drew ?_ | refine blk_alloc ?_ _)); refine blk_put (cs := #[.int .i64 0, .string (⟨#[]⟩ : ByteArray), .bool false, .string x159003_1, .string x159004_1, .slice none 0 0]) ?_ 3 _ rfl; (with_reducible repeat (first | refine blk_drewN ?_ _ | refine blk_drew ?_ | refine blk_alloc ?_ _)); refine blk_put (cs := #[.int .i64 0, .string (⟨#[]⟩ : ByteArray), .bool x159002_1, .string x159003_1, .string x159004_1, .slice none 0 0]) ?_ 2 _ rfl; (with_reducible repeat (first | refine blk_drewN ?_ _ | refine blk_drew ?_ | refine blk_alloc ?_ _)); refine blk_put (cs := #[.int .i64 0, .string x159001_1, .bool x159002_1, .string x159003_1, .string x159004_1, .slice none 0 0]) ?_ 1 _ rfl; (with_reducible repeat (first | refine blk_drewN ?_ _ | refine blk_drew ?_ | refine blk_alloc ?_ _)); refine blk_put (cs := #[.int .i64 x159000_1, .string x159001_1, .bool x159002_1, .string x159003_1, .string x159004_1, .slice none 0 0]) ?_ 0 _ rfl; (with_reducible repeat (first | refine blk_drewN ?_ _ | refine blk_drew ?_ | refine blk_alloc ?_ _)); exact BK158.out) Tryd.underlying26 rfl (by kernel_rfl)) rfl ?_
                exact ⟨_, by first | rfl | (simp [errW_none, errW_some] <;> rfl) | (simp [*, errW_none, errW_some] <;> rfl), by first | exact Kd.R_nil _ _ _ _ _ | exact Kd.N_nil _ _ _ _ _ | exact Kd.V_nil _ _ _ _ _ | exact Kd.Q_nil _ _ _ _ _ | exact Kd.S_nil _ _ _ _ _, by repeat (first | (with_reducible first | exact HB.out | apply below_alloc | apply pw_below_drewN | apply below_drew1 | refine below_set ?_ GE158.out) | exact HB.out)⟩
              · rw [if_neg c10] at H
                have c10b0 : decide ((bt a0 x17_1) < 32) = false := decide_eq_false c10
                clear c10
                by_cases c13 : (bt a0 x17_1) > 126
                · rw [if_pos c13] at H
                  have c13b0 : decide (126 < (bt a0 x17_1)) = true := decide_eq_true c13
                  clear c13
                  simp only [Option.some.injEq, Prod.mk.injEq] at H
                  obtain ⟨rfl, rfl, rfl, rfl, rfl, rfl, rfl⟩ := H
                  have p9 : 0 ≤ (x17_1 : Int) := of_decide_eq_true (by first | (with_reducible assumption) | assumption)
                  have q9 : x17_1 < (a0.size : Int) := of_decide_eq_true (by first | (with_reducible assumption) | assumption)
                  have hx9 := bt_at a0 x17_1
                  replace p9 := eq_true p9
                  replace q9 := eq_true q9
                  have p12 : 0 ≤ (x17_1 : Int) := of_decide_eq_true (by first | (with_reducible assumption) | assumption)
                  have q12 : x17_1 < (a0.size : Int) := of_decide_eq_true (by first | (with_reducible assumption) | assumption)
                  have hx12 := bt_at a0 x17_1
                  replace p12 := eq_true p12
                  replace q12 := eq_true q12
                  have hcz14_0 : wr.cell? ⟨gb158, 0, none⟩ = some (.int .i64 x159000_1) := (blk_cell BK158.out 0).trans rfl
                  have hcz14_1 : wr.cell? ⟨gb158, 1, none⟩ = some (.string x159001_1) := (blk_cell BK158.out 1).trans rfl
                  have hcz14_2 : wr.cell? ⟨gb158, 2, none⟩ = some (.bool x159002_1) := (blk_cell BK158.out 2).trans rfl
                  have hcz14_3 : wr.cell? ⟨gb158, 3, none⟩ = some (.string x159003_1) := (blk_cell BK158.out 3).trans rfl
                  have hcz14_4 : wr.cell? ⟨gb158, 4, none⟩ = some (.string x159004_1) := (blk_cell BK158.out 4).trans rfl
                  have hcz14_5 : wr.cell? ⟨gb158, 5, none⟩ = some (.slice none 0 0) := (blk_cell BK158.out 5).trans rfl
                  have hfz14_0 := blk_frozen BK158.out 0
                  have hfz14_1 := blk_frozen BK158.out 1
                  have hfz14_2 := blk_frozen BK158.out 2
                  have hfz14_3 := blk_frozen BK158.out 3
                  have hfz14_4 := blk_frozen BK158.out 4
                  have hfz14_5 := blk_frozen BK158.out 5
                  go_wp2
                  refine bodyPost_ret (results_ct rfl _ _ gb158 26 #[.int .i64 0, .string (⟨#[]⟩ : ByteArray), .bool false, .string (⟨#[]⟩ : ByteArray), .string (⟨#[]⟩ : ByteArray), .slice none 0 0] (0, 0) _ rfl (by (with_reducible repeat (first | refine blk_drewN ?_ _ | refine blk_drew ?_ | refine blk_alloc ?_ _)); refine blk_put (cs := #[.int .i64 0, .string (⟨#[]⟩ : ByteArray), .bool false, .string (⟨#[]⟩ : ByteArray), .string (⟨#[]⟩ : ByteArray), .slice none 0 0]) ?_ 5 _ rfl; (with_reducible repeat (first | refine blk_drewN ?_ _ | refine blk_drew ?_ | refine blk_alloc ?_ _)); refine blk_put (cs := #[.int .i64 0, .string (⟨#[]⟩ : ByteArray), .bool false, .string (⟨#[]⟩ : ByteArray), .string x159004_1, .slice none 0 0]) ?_ 4 _ rfl; (with_reducible repeat (first | refine blk_drewN ?_ _ | refine blk_drew ?_ | refine blk_alloc ?_ _)); refine blk_put (cs := #[.int .i64 0, .string (⟨#[]⟩ : ByteArray), .bool false, .string x159003_1, .string x159004_1, .slice none 0 0]) ?_ 3 _ rfl; (with_reducible repeat (first | refine blk_drewN ?_ _ | refine blk_drew ?_ | refine blk_alloc ?_ _)); refine blk_put (cs := #[.int .i64 0, .string (⟨#[]⟩ : ByteArray), .bool x159002_1, .string x159003_1, .string x159004_1, .slice none 0 0]) ?_ 2 _ rfl; (with_reducible repeat (first | refine blk_drewN ?_ _ | refine blk_drew ?_ | refine blk_alloc ?_ _)); refine blk_put (cs := #[.int .i64 0, .string x159001_1, .bool x159002_1, .string x159003_1, .string x159004_1, .slice none 0 0]) ?_ 1 _ rfl; (with_reducible repeat (first | refine blk_drewN ?_ _ | refine blk_drew ?_ | refine blk_alloc ?_ _)); refine blk_put (cs := #[.int .i64 x159000_1, .string x159001_1, .bool x159002_1, .string x159003_1, .string x159004_1, .slice none 0 0]) ?_ 0 _ rfl; (with_reducible repeat (first | refine blk_drewN ?_ _ | refine blk_drew ?_ | refine blk_alloc ?_ _)); exact BK158.out) Tryd.underlying26 rfl (by kernel_rfl)) rfl ?_
                  exact ⟨_, by first | rfl | (simp [errW_none, errW_some] <;> rfl) | (simp [*, errW_none, errW_some] <;> rfl), by first | exact Kd.R_nil _ _ _ _ _ | exact Kd.N_nil _ _ _ _ _ | exact Kd.V_nil _ _ _ _ _ | exact Kd.Q_nil _ _ _ _ _ | exact Kd.S_nil _ _ _ _ _, by repeat (first | (with_reducible first | exact HB.out | apply below_alloc | apply pw_below_drewN | apply below_drew1 | refine below_set ?_ GE158.out) | exact HB.out)⟩
                · rw [if_neg c13] at H
                  have c13b0 : decide (126 < (bt a0 x17_1)) = false := decide_eq_false c13
                  clear c13
                  have H' := Aside0.mk H
                  clear H
                  have p9 : 0 ≤ (x17_1 : Int) := of_decide_eq_true (by first | (with_reducible assumption) | assumption)
                  have q9 : x17_1 < (a0.size : Int) := of_decide_eq_true (by first | (with_reducible assumption) | assumption)
                  have hx9 := bt_at a0 x17_1
                  replace p9 := eq_true p9
                  replace q9 := eq_true q9
                  have p12 : 0 ≤ (x17_1 : Int) := of_decide_eq_true (by first | (with_reducible assumption) | assumption)
                  have q12 : x17_1 < (a0.size : Int) := of_decide_eq_true (by first | (with_reducible assumption) | assumption)
                  have hx12 := bt_at a0 x17_1
                  replace p12 := eq_true p12
                  replace q12 := eq_true q12
                  go_wp2
                  go_roundg k1
                  case measure => have := HK1.out; omega
                  case rel => exact ⟨(wrap64 (x17_1 + 1)), (x159000_1), (x159001_1), (x159002_1), (x159003_1), (x159004_1), (by first | rfl | (simp; done) | (simp [*]; done)), H', ⟨by have := HK1.out; omega⟩, ⟨by (with_reducible repeat (first | refine blk_drewN ?_ _ | refine blk_drew ?_ | refine blk_alloc ?_ _)); exact BK158.out⟩, ⟨by repeat (first | (with_reducible first | exact HB.out | apply below_alloc | apply pw_below_drewN | apply below_drew1 | refine below_set ?_ GE158.out) | exact HB.out)⟩⟩
            · rw [if_neg c8] at H
              exact absurd H (by simp)
          · rw [if_neg c7] at H
            exact absurd H (by simp)
        · rw [if_neg c6] at H
          have c6b0 : decide (x17_1 < (a0.size : Int)) = false := decide_eq_false c6
          clear c6
          replace H := Option.bind_eq_some_iff.mp H
          obtain ⟨⟨t159, t160, t161⟩, A150, H⟩ := H
          replace H : ((path_Fold.f t159).bind fun t162 => (if t162.toList = ([] : List UInt8) then (verb_Parse.j1 k1 a0 true) else ((strings_Split.f (⟨#[101, 104, 108, 111, 32, 104, 101, 108, 111, 32, 109, 97, 105, 108, 32, 114, 99, 112, 116, 32, 100, 97, 116, 97, 32, 114, 115, 101, 116, 32, 113, 117, 105, 116, 32, 110, 111, 111, 112, 32, 118, 114, 102, 121, 32, 101, 116, 114, 110, 32, 97, 117, 116, 104, 32, 97, 116, 114, 110]⟩ : ByteArray) (⟨#[32]⟩ : ByteArray)).bind fun t163 => ((slices_Contains_string_string.f k1 t163 t162).bind fun t166 => (verb_Parse.j1 k1 a0 (!t166)))))) = some (r1, r2, r3, r4, r5, r6, r7) := H
          have A15 := Aside0.mk A150
          clear A150
          replace H := Option.bind_eq_some_iff.mp H
          obtain ⟨t162, A160, H⟩ := H
          replace H : (if t162.toList = ([] : List UInt8) then (verb_Parse.j1 k1 a0 true) else ((strings_Split.f (⟨#[101, 104, 108, 111, 32, 104, 101, 108, 111, 32, 109, 97, 105, 108, 32, 114, 99, 112, 116, 32, 100, 97, 116, 97, 32, 114, 115, 101, 116, 32, 113, 117, 105, 116, 32, 110, 111, 111, 112, 32, 118, 114, 102, 121, 32, 101, 116, 114, 110, 32, 97, 117, 116, 104, 32, 97, 116, 114, 110]⟩ : ByteArray) (⟨#[32]⟩ : ByteArray)).bind fun t163 => ((slices_Contains_string_string.f k1 t163 t162).bind fun t166 => (verb_Parse.j1 k1 a0 (!t166))))) = some (r1, r2, r3, r4, r5, r6, r7) := H
          have A16 := Aside0.mk A160
          clear A160
          have HC17 := Aside0.mk H
          clear H
          go_upto_region 11 with (first | ((with_reducible refine gate_callee (f := 16) rfl ?_); refine goesL_ (some 34) rfl rfl Tryd.func16 (by kernel_rfl) rfl #[.string a0, .string (⟨#[32]⟩ : ByteArray)] rfl (by (try simp only [List.map_toArray, List.map_cons, List.map_nil]); first | done | rfl | (simp only [List.length_drop, List.length_take]; rfl)) ?_; (with_reducible refine (strings_Cut.calls a0 (⟨#[32]⟩ : ByteArray) t159 t160 t161 _ ?side1 A15.out).mono ?_); (case side1 => exact Glob.below HG.out (by repeat (first | (with_reducible first | exact HB.out | apply below_alloc | apply pw_below_drewN | apply below_drew1 | refine below_set ?_ GE158.out) | exact HB.out))); rintro e w18 ⟨rfl, hb⟩; refine ⟨_, rfl, ?_⟩; have n0_ := Aside0.mk (blk_below (g := gb158) (o := .cells #[.int .i64 x159000_1, .string x159001_1, .bool x159002_1, .string x159003_1, .string x159004_1, .slice none 0 0] 26 (0, 0)) (by (with_reducible repeat (first | refine blk_drewN ?_ _ | refine blk_drew ?_ | refine blk_alloc ?_ _)); exact BK158.out) hb); have n1_ := Aside0.mk (below_step (by repeat (first | (with_reducible first | exact HB.out | apply below_alloc | apply pw_below_drewN | apply below_drew1 | refine below_set ?_ GE158.out) | exact HB.out)) hb); clear BK158; clear HB; have BK158 := n0_; have HB := n1_; clear n0_ n1_; (try clear hb); (try clear hb2); (try clear hk); (try clear hi)) | ((with_reducible refine gate_callee (f := 17) rfl ?_); refine goesL_ (some 39) rfl rfl Tryd.func17 (by kernel_rfl) rfl #[.string t159] rfl (by (try simp only [List.map_toArray, List.map_cons, List.map_nil]); first | done | rfl | (simp only [List.length_drop, List.length_take]; rfl)) ?_; (with_reducible refine (path_Fold.calls t159 t162 _ A16.out).mono ?_); rintro e w19 ⟨rfl, hb⟩; refine ⟨_, rfl, ?_⟩; have n0_ := Aside0.mk (blk_below (g := gb158) (o := .cells #[.int .i64 x159000_1, .string x159001_1, .bool x159002_1, .string x159003_1, .string x159004_1, .slice none 0 0] 26 (0, 0)) (by (with_reducible repeat (first | refine blk_drewN ?_ _ | refine blk_drew ?_ | refine blk_alloc ?_ _)); exact BK158.out) hb); have n1_ := Aside0.mk (below_step (by repeat (first | (with_reducible first | exact HB.out | apply below_alloc | apply pw_below_drewN | apply below_drew1 | refine below_set ?_ GE158.out) | exact HB.out)) hb); clear BK158; clear HB; have BK158 := n0_; have HB := n1_; clear n0_ n1_; (try clear hb); (try clear hb2); (try clear hk); (try clear hi)))
          (try simp only [Act.put, List.setIfInBounds_toArray, List.set_cons_zero, List.set_cons_succ])
          go_cut [47] (fun v47 wc => ∃ (kq : Nat) (x47_16 : Bool), v47 = .bool x47_16 ∧ Aside0 (verb_Parse.j1 kq a0 x47_16 = some (r1, r2, r3, r4, r5, r6, r7)) ∧ Aside0 (kq ≤ k1) ∧ Aside0 (wc.heap[gb158]? = some (.cells #[.int .i64 x159000_1, .string x159001_1, .bool x159002_1, .string x159003_1, .string x159004_1, (.slice none 0 0)] 26 (0, 0))) ∧ Aside0 (Below w.heap.size w wc))
          case first =>
            have H := HC17.out
            clear HC17
            by_cases c20 : t162.toList = ([] : List UInt8)
            · rw [if_pos c20] at H
              have c20b0 : (t162.toList == ([] : List UInt8)) = true := beq_iff_eq.mpr c20
              have c20b1 : (t162.toList != ([] : List UInt8)) = false := bne_eq_false_iff_eq.mpr c20
              clear c20
              (first | rw [c20b0] | (simp only [i64_w, i32_w]; rw [c20b0]) | skip)
              have H' := Aside0.mk H
              clear H
              go_wp2
              go_meet
              case rel => exact ⟨_, (true), (by first | rfl | (simp; done) | (simp [*]; done)), H', ⟨by have := HK1.out; first | omega | exact Nat.le_refl _⟩, ⟨by (with_reducible repeat (first | refine blk_drewN ?_ _ | refine blk_drew ?_ | refine blk_alloc ?_ _)); exact BK158.out⟩, ⟨by repeat (first | (with_reducible first | exact HB.out | apply below_alloc | apply pw_below_drewN | apply below_drew1 | refine below_set ?_ GE158.out) | exact HB.out)⟩⟩
            · rw [if_neg c20] at H
              have c20b0 : (t162.toList == ([] : List UInt8)) = false := beq_eq_false_iff_ne.mpr c20
              have c20b1 : (t162.toList != ([] : List UInt8)) = true := bne_iff_ne.mpr c20
              (first | rw [c20b0] | (simp only [i64_w, i32_w]; rw [c20b0]) | skip)
              replace H := Option.bind_eq_some_iff.mp H
              obtain ⟨t163, A210, H⟩ := H
              replace H : ((slices_Contains_string_string.f k1 t163 t162).bind fun t166 => (verb_Parse.j1 k1 a0 (!t166))) = some (r1, r2, r3, r4, r5, r6, r7) := H
              have A21 := Aside0.mk A210
              clear A210
              replace H := Option.bind_eq_some_iff.mp H
              obtain ⟨t166, A220, H⟩ := H
              replace H : (verb_Parse.j1 k1 a0 (!t166)) = some (r1, r2, r3, r4, r5, r6, r7) := H
              have A22 := Aside0.mk A220
              clear A220
              have H' := Aside0.mk H
              clear H
              go_wp2_with (first | (go_at_call 19; (with_reducible refine (strings_Split.calls (⟨#[101, 104, 108, 111, 32, 104, 101, 108, 111, 32, 109, 97, 105, 108, 32, 114, 99, 112, 116, 32, 100, 97, 116, 97, 32, 114, 115, 101, 116, 32, 113, 117, 105, 116, 32, 110, 111, 111, 112, 32, 118, 114, 102, 121, 32, 101, 116, 114, 110, 32, 97, 117, 116, 104, 32, 97, 116, 114, 110]⟩ : ByteArray) (⟨#[32]⟩ : ByteArray) t163 _ ?side1 A21.out).mono ?_); (case side1 => exact Glob.below HG.out (by repeat (first | (with_reducible first | exact HB.out | apply below_alloc | apply pw_below_drewN | apply below_drew1 | refine below_set ?_ GE158.out) | exact HB.out))); rintro e w23 ⟨v164, rfl, ho0, hb⟩; have n0_ := Aside0.mk (Kd.R_lower ho0 (below_size (by repeat (first | (with_reducible first | exact HB.out | apply below_alloc | apply pw_below_drewN | apply below_drew1 | refine below_set ?_ GE158.out) | exact HB.out)))); have n1_ := Aside0.mk (blk_below (g := gb158) (o := .cells #[.int .i64 x159000_1, .string x159001_1, .bool x159002_1, .string x159003_1, .string x159004_1, .slice none 0 0] 26 (0, 0)) (by (with_reducible repeat (first | refine blk_drewN ?_ _ | refine blk_drew ?_ | refine blk_alloc ?_ _)); exact BK158.out) hb); have n2_ := Aside0.mk (below_step (by repeat (first | (with_reducible first | exact HB.out | apply below_alloc | apply pw_below_drewN | apply below_drew1 | refine below_set ?_ GE158.out) | exact HB.out)) hb); clear BK158; clear HB; have HO165 := n0_; have BK158 := n1_; have HB := n2_; clear n0_ n1_ n2_; (try clear hb); (try clear hb2); (try clear hk); (try clear hi); (try clear ho0); obtain ⟨Ao24, co24, eo24⟩ := Kd.R_slice HO165.out; subst eo24) | (go_at_call 18; (with_reducible refine (slices_Contains_string_string.calls k1 _ _ t163 t162 t166 _ ?side1 ?side2 A22.out).mono ?_); (case side1 => repeat (first | exact (Kd.R_reads' HO165.out).2.2 | (with_reducible refine Kd.C_alloc ?_ _) | (with_reducible refine Kd.C_drewN ?_ _) | (with_reducible refine Kd.C_drew ?_))); (case side2 => exact (Kd.R_reads' HO165.out).2.1); rintro e w' ⟨rfl, ⟨nd, rfl⟩⟩))
              go_meet
              case rel => exact ⟨_, (!t166), (by first | rfl | (simp; done) | (simp [*]; done)), H', ⟨by have := HK1.out; first | omega | exact Nat.le_refl _⟩, ⟨by (with_reducible repeat (first | refine blk_drewN ?_ _ | refine blk_drew ?_ | refine blk_alloc ?_ _)); exact BK158.out⟩, ⟨by repeat (first | (with_reducible first | exact HB.out | apply below_alloc | apply pw_below_drewN | apply below_drew1 | refine below_set ?_ GE158.out) | exact HB.out)⟩⟩
          case rest =>
            clear HC17
            try clear c1
            try clear p1
            try clear q1
            try clear hx1
            try clear c2
            try clear c2b0
            try clear c2b1
            try clear p2
            try clear c6
            try clear c6b0
            try clear p6
            try clear c7
            try clear c7b0
            try clear c8
            try clear c8b0
            try clear p9
            try clear q9
            try clear hx9
            try clear c10
            try clear c10b0
            try clear p12
            try clear q12
            try clear hx12
            try clear c13
            try clear c13b0
            try clear c16
            try clear c17
            try clear c20
            try clear c20b0
            try clear c20b1
            try clear hcz11_0
            try clear hcz11_1
            try clear hcz11_2
            try clear hcz11_3
            try clear hcz11_4
            try clear hcz11_5
            try clear hcz14_0
            try clear hcz14_1
            try clear hcz14_2
            try clear hcz14_3
            try clear hcz14_4
            try clear hcz14_5
            try clear hcz4_0
            try clear hcz4_1
            try clear hcz4_2
            try clear hcz4_3
            try clear hcz4_4
            try clear hcz4_5
            try clear hfz11_0
            try clear hfz11_1
            try clear hfz11_2
            try clear hfz11_3
            try clear hfz11_4
            try clear hfz11_5
            try clear hfz14_0
            try clear hfz14_1
            try clear hfz14_2
            try clear hfz14_3
            try clear hfz14_4
            try clear hfz14_5
            try clear hfz4_0
            try clear hfz4_1
            try clear hfz4_2
            try clear hfz4_3
            try clear hfz4_4
            try clear hfz4_5
            try clear p12
            try clear p2
            try clear p9
            try clear q12
            try clear q9
            obtain ⟨kq, x47_16, rfl, HA, HJ16, BK158, HB⟩ := hcut
            cases kq with
            | zero => exact absurd HA.out (by simp [verb_Parse.j1])
            | succ kj16 =>
              have H := HA.out
              clear HA
              simp only [verb_Parse.j1] at H
              by_cases c25 : x47_16 = true
              · subst c25
                have H1 : (some (0, (⟨#[]⟩ : ByteArray), false, (⟨#[]⟩ : ByteArray), (⟨#[]⟩ : ByteArray), ([] : List (S46)), 500)) = some (r1, r2, r3, r4, r5, r6, r7) := by rw [if_pos rfl] at H; exact H
                clear H
                have H := H1
                clear H1
                simp only [Option.some.injEq, Prod.mk.injEq] at H
                obtain ⟨rfl, rfl, rfl, rfl, rfl, rfl, rfl⟩ := H
                have hcz26_0 : wc.cell? ⟨gb158, 0, none⟩ = some (.int .i64 x159000_1) := (blk_cell BK158.out 0).trans rfl
                have hcz26_1 : wc.cell? ⟨gb158, 1, none⟩ = some (.string x159001_1) := (blk_cell BK158.out 1).trans rfl
                have hcz26_2 : wc.cell? ⟨gb158, 2, none⟩ = some (.bool x159002_1) := (blk_cell BK158.out 2).trans rfl
                have hcz26_3 : wc.cell? ⟨gb158, 3, none⟩ = some (.string x159003_1) := (blk_cell BK158.out 3).trans rfl
                have hcz26_4 : wc.cell? ⟨gb158, 4, none⟩ = some (.string x159004_1) := (blk_cell BK158.out 4).trans rfl
                have hcz26_5 : wc.cell? ⟨gb158, 5, none⟩ = some (.slice none 0 0) := (blk_cell BK158.out 5).trans rfl
                have hfz26_0 := blk_frozen BK158.out 0
                have hfz26_1 := blk_frozen BK158.out 1
                have hfz26_2 := blk_frozen BK158.out 2
                have hfz26_3 := blk_frozen BK158.out 3
                have hfz26_4 := blk_frozen BK158.out 4
                have hfz26_5 := blk_frozen BK158.out 5
                go_wp2
                refine bodyPost_ret (results_ct rfl _ _ gb158 26 #[.int .i64 0, .string (⟨#[]⟩ : ByteArray), .bool false, .string (⟨#[]⟩ : ByteArray), .string (⟨#[]⟩ : ByteArray), .slice none 0 0] (0, 0) _ rfl (by (with_reducible repeat (first | refine blk_drewN ?_ _ | refine blk_drew ?_ | refine blk_alloc ?_ _)); refine blk_put (cs := #[.int .i64 0, .string (⟨#[]⟩ : ByteArray), .bool false, .string (⟨#[]⟩ : ByteArray), .string (⟨#[]⟩ : ByteArray), .slice none 0 0]) ?_ 5 _ rfl; (with_reducible repeat (first | refine blk_drewN ?_ _ | refine blk_drew ?_ | refine blk_alloc ?_ _)); refine blk_put (cs := #[.int .i64 0, .string (⟨#[]⟩ : ByteArray), .bool false, .string (⟨#[]⟩ : ByteArray), .string x159004_1, .slice none 0 0]) ?_ 4 _ rfl; (with_reducible repeat (first | refine blk_drewN ?_ _ | refine blk_drew ?_ | refine blk_alloc ?_ _)); refine blk_put (cs := #[.int .i64 0, .string (⟨#[]⟩ : ByteArray), .bool false, .string x159003_1, .string x159004_1, .slice none 0 0]) ?_ 3 _ rfl; (with_reducible repeat (first | refine blk_drewN ?_ _ | refine blk_drew ?_ | refine blk_alloc ?_ _)); refine blk_put (cs := #[.int .i64 0, .string (⟨#[]⟩ : ByteArray), .bool x159002_1, .string x159003_1, .string x159004_1, .slice none 0 0]) ?_ 2 _ rfl; (with_reducible repeat (first | refine blk_drewN ?_ _ | refine blk_drew ?_ | refine blk_alloc ?_ _)); refine blk_put (cs := #[.int .i64 0, .string x159001_1, .bool x159002_1, .string x159003_1, .string x159004_1, .slice none 0 0]) ?_ 1 _ rfl; (with_reducible repeat (first | refine blk_drewN ?_ _ | refine blk_drew ?_ | refine blk_alloc ?_ _)); refine blk_put (cs := #[.int .i64 x159000_1, .string x159001_1, .bool x159002_1, .string x159003_1, .string x159004_1, .slice none 0 0]) ?_ 0 _ rfl; (with_reducible repeat (first | refine blk_drewN ?_ _ | refine blk_drew ?_ | refine blk_alloc ?_ _)); exact BK158.out) Tryd.underlying26 rfl (by kernel_rfl)) rfl ?_
                exact ⟨_, by first | rfl | (simp [errW_none, errW_some] <;> rfl) | (simp [*, errW_none, errW_some] <;> rfl), by first | exact Kd.R_nil _ _ _ _ _ | exact Kd.N_nil _ _ _ _ _ | exact Kd.V_nil _ _ _ _ _ | exact Kd.Q_nil _ _ _ _ _ | exact Kd.S_nil _ _ _ _ _, by repeat (first | (with_reducible first | exact HB.out | apply below_alloc | apply pw_below_drewN | apply below_drew1 | refine below_set ?_ GE158.out) | exact HB.out)⟩
              · replace c25 := Bool.eq_false_iff.mpr c25
                subst c25
                have H1 : ((verb_read.f a0).bind fun bt167 => (if bt167.2.2.2.2.2.2 = true then (some (bt167.1, bt167.2.1, bt167.2.2.1, bt167.2.2.2.1, bt167.2.2.2.2.1, bt167.2.2.2.2.2.1, 0)) else ((verb_strange.f kj16 a0).bind fun t177 => (if t177 = true then (some (0, (⟨#[]⟩ : ByteArray), false, (⟨#[]⟩ : ByteArray), (⟨#[]⟩ : ByteArray), ([] : List (S46)), 504)) else (some (0, (⟨#[]⟩ : ByteArray), false, (⟨#[]⟩ : ByteArray), (⟨#[]⟩ : ByteArray), ([] : List (S46)), 501)))))) = some (r1, r2, r3, r4, r5, r6, r7) := by rw [if_neg (show ¬ (false = true) by decide)] at H; exact H
                clear H
                have H := H1
                clear H1
                replace H := Option.bind_eq_some_iff.mp H
                obtain ⟨⟨t167, t168, t169, t170, t171, t172, t175⟩, A270, H⟩ := H
                replace H : (if t175 = true then (some (t167, t168, t169, t170, t171, t172, 0)) else ((verb_strange.f kj16 a0).bind fun t177 => (if t177 = true then (some (0, (⟨#[]⟩ : ByteArray), false, (⟨#[]⟩ : ByteArray), (⟨#[]⟩ : ByteArray), ([] : List (S46)), 504)) else (some (0, (⟨#[]⟩ : ByteArray), false, (⟨#[]⟩ : ByteArray), (⟨#[]⟩ : ByteArray), ([] : List (S46)), 501))))) = some (r1, r2, r3, r4, r5, r6, r7) := H
                have A27 := Aside0.mk A270
                clear A270
                by_cases c28 : t175 = true
                · subst c28
                  have H1 : (some (t167, t168, t169, t170, t171, t172, 0)) = some (r1, r2, r3, r4, r5, r6, r7) := by rw [if_pos rfl] at H; exact H
                  clear H
                  have H := H1
                  clear H1
                  simp only [Option.some.injEq, Prod.mk.injEq] at H
                  obtain ⟨rfl, rfl, rfl, rfl, rfl, rfl, rfl⟩ := H
                  go_wp2_with (first | ((with_reducible refine gate_callee (f := 20) rfl ?_); refine goesL_ (some 51) rfl rfl Tryd.func20 (by kernel_rfl) rfl #[.string a0] rfl (by (try simp only [List.map_toArray, List.map_cons, List.map_nil]); first | done | rfl | (simp only [List.length_drop, List.length_take]; rfl)) ?_; (with_reducible refine (verb_read.calls a0 t167 t168 t169 t170 t171 t172 true _ ?side1 A27.out).mono ?_); (case side1 => exact Glob.below HG.out (by repeat (first | (with_reducible first | exact HB.out | apply below_alloc | apply pw_below_drewN | apply below_drew1 | refine below_set ?_ GE158.out) | exact HB.out))); rintro e w29 ⟨v173, rfl, ho0, hb⟩; refine ⟨_, rfl, ?_⟩; have n0_ := Aside0.mk (Kd.R_lower ho0 (below_size (by repeat (first | (with_reducible first | exact HB.out | apply below_alloc | apply pw_below_drewN | apply below_drew1 | refine below_set ?_ GE158.out) | exact HB.out)))); have n1_ := Aside0.mk (blk_below (g := gb158) (o := .cells #[.int .i64 x159000_1, .string x159001_1, .bool x159002_1, .string x159003_1, .string x159004_1, .slice none 0 0] 26 (0, 0)) (by (with_reducible repeat (first | refine blk_drewN ?_ _ | refine blk_drew ?_ | refine blk_alloc ?_ _)); exact BK158.out) hb); have n2_ := Aside0.mk (below_step (by repeat (first | (with_reducible first | exact HB.out | apply below_alloc | apply pw_below_drewN | apply below_drew1 | refine below_set ?_ GE158.out) | exact HB.out)) hb); clear BK158; clear HB; have HO174 := n0_; have BK158 := n1_; have HB := n2_; clear n0_ n1_ n2_; (try clear hb); (try clear hb2); (try clear hk); (try clear hi); (try clear ho0)) | ((with_reducible refine gate_dst (N := 9) rfl ?_); refine box_event ?hg (N := 9) ?hd (cs := #[.int .i64 0, .string (⟨#[]⟩ : ByteArray), .bool false, .string (⟨#[]⟩ : ByteArray), .string (⟨#[]⟩ : ByteArray), .slice none 0 0]) (t := 26) ?hr ?_; (case hd => rfl); (case hg => rfl); (case hr => first | (go_simp; done) | (go_simp; rfl)); intro gb176 hg w30 hbox hb; have n0_ := Aside0.mk (Kd.R_below (by (with_reducible repeat (first | apply Kd.R_alloc | apply Kd.R_drewN | apply Kd.R_drew)); exact HO174.out) hb); have n1_ := Aside0.mk (blk_below (g := gb158) (o := .cells #[.int .i64 x159000_1, .string x159001_1, .bool x159002_1, .string x159003_1, .string x159004_1, .slice none 0 0] 26 (0, 0)) (by (with_reducible repeat (first | refine blk_drewN ?_ _ | refine blk_drew ?_ | refine blk_alloc ?_ _)); exact BK158.out) hb); have n2_ := Aside0.mk (below_step (by repeat (first | (with_reducible first | exact HB.out | apply below_alloc | apply pw_below_drewN | apply below_drew1 | refine below_set ?_ GE158.out) | exact HB.out)) hb); have n3_ := Aside0.mk (hbox); have n4_ := Aside0.mk ((by rw [hg]; exact (below_size (by repeat (first | (with_reducible first | exact HB.out | apply below_alloc | apply pw_below_drewN | apply below_drew1 | refine below_set ?_ GE158.out) | exact HB.out))) : w.heap.size ≤ gb176)); have n5_ := Aside0.mk ((by rw [hg]; exact (below_size (by repeat (first | (with_reducible first | exact HB.out | apply below_alloc | apply pw_below_drewN | apply below_drew1 | refine below_set ?_ GE158.out) | exact HB.out))) : w.heap.size ≤ gb176)); have n6_ := Aside0.mk ((by rw [hg]; exact Nat.ne_of_lt (blk_lt (g := gb158) (o := .cells #[.int .i64 x159000_1, .string x159001_1, .bool x159002_1, .string x159003_1, .string x159004_1, .slice none 0 0] 26 (0, 0)) (by (with_reducible repeat (first | refine blk_drewN ?_ _ | refine blk_drew ?_ | refine blk_alloc ?_ _)); exact BK158.out)) : gb158 ≠ gb176)); have n7_ := Aside0.mk ((by rw [hg]; exact Nat.ne_of_gt (blk_lt (g := gb158) (o := .cells #[.int .i64 x159000_1, .string x159001_1, .bool x159002_1, .string x159003_1, .string x159004_1, .slice none 0 0] 26 (0, 0)) (by (with_reducible repeat (first | refine blk_drewN ?_ _ | refine blk_drew ?_ | refine blk_alloc ?_ _)); exact BK158.out)) : gb176 ≠ gb158)); clear HO174; clear BK158; clear HB; have HO174 := n0_; have BK158 := n1_; have HB := n2_; have BK176 := n3_; have GW176 := n4_; have GE176 := n5_; have NB158_176 := n6_; have NB176_158 := n7_; clear n0_ n1_ n2_ n3_ n4_ n5_ n6_ n7_; clear hb hbox hg; have hnb31 := NB176_158.out; have hnc31 := NB158_176.out; have hcz32_0 : w30.cell? ⟨gb176, 0, none⟩ = some (.int .i64 0) := (blk_cell BK176.out 0).trans rfl; have hcz32_1 : w30.cell? ⟨gb176, 1, none⟩ = some (.string (⟨#[]⟩ : ByteArray)) := (blk_cell BK176.out 1).trans rfl; have hcz32_2 : w30.cell? ⟨gb176, 2, none⟩ = some (.bool false) := (blk_cell BK176.out 2).trans rfl; have hcz32_3 : w30.cell? ⟨gb176, 3, none⟩ = some (.string (⟨#[]⟩ : ByteArray)) := (blk_cell BK176.out 3).trans rfl; have hcz32_4 : w30.cell? ⟨gb176, 4, none⟩ = some (.string (⟨#[]⟩ : ByteArray)) := (blk_cell BK176.out 4).trans rfl; have hcz32_5 : w30.cell? ⟨gb176, 5, none⟩ = some (.slice none 0 0) := (blk_cell BK176.out 5).trans rfl; have hfz32_0 := blk_frozen BK176.out 0; have hfz32_1 := blk_frozen BK176.out 1; have hfz32_2 := blk_frozen BK176.out 2; have hfz32_3 := blk_frozen BK176.out 3; have hfz32_4 := blk_frozen BK176.out 4; have hfz32_5 := blk_frozen BK176.out 5; obtain ⟨Ao33, co33, eo33⟩ := Kd.R_slice HO174.out; subst eo33; have hcz34_0 : w30.cell? ⟨gb158, 0, none⟩ = some (.int .i64 x159000_1) := (blk_cell BK158.out 0).trans rfl; have hcz34_1 : w30.cell? ⟨gb158, 1, none⟩ = some (.string x159001_1) := (blk_cell BK158.out 1).trans rfl; have hcz34_2 : w30.cell? ⟨gb158, 2, none⟩ = some (.bool x159002_1) := (blk_cell BK158.out 2).trans rfl; have hcz34_3 : w30.cell? ⟨gb158, 3, none⟩ = some (.string x159003_1) := (blk_cell BK158.out 3).trans rfl; have hcz34_4 : w30.cell? ⟨gb158, 4, none⟩ = some (.string x159004_1) := (blk_cell BK158.out 4).trans rfl; have hcz34_5 : w30.cell? ⟨gb158, 5, none⟩ = some (.slice none 0 0) := (blk_cell BK158.out 5).trans rfl; have hfz34_0 := blk_frozen BK158.out 0; have hfz34_1 := blk_frozen BK158.out 1; have hfz34_2 := blk_frozen BK158.out 2; have hfz34_3 := blk_frozen BK158.out 3; have hfz34_4 := blk_frozen BK158.out 4; have hfz34_5 := blk_frozen BK158.out 5))
                  refine bodyPost_ret (results_ct rfl _ _ gb158 26 #[.int .i64 t167, .string t168, .bool t169, .string t170, .string t171, .slice Ao33 t172.length co33] (0, 0) _ rfl (by (with_reducible repeat (first | refine blk_drewN ?_ _ | refine blk_drew ?_ | refine blk_alloc ?_ _)); refine blk_put (cs := #[.int .i64 t167, .string t168, .bool t169, .string t170, .string t171, .slice none 0 0]) ?_ 5 _ rfl; (with_reducible repeat (first | refine blk_drewN ?_ _ | refine blk_drew ?_ | refine blk_alloc ?_ _)); refine blk_put (cs := #[.int .i64 t167, .string t168, .bool t169, .string t170, .string x159004_1, .slice none 0 0]) ?_ 4 _ rfl; (with_reducible repeat (first | refine blk_drewN ?_ _ | refine blk_drew ?_ | refine blk_alloc ?_ _)); refine blk_put (cs := #[.int .i64 t167, .string t168, .bool t169, .string x159003_1, .string x159004_1, .slice none 0 0]) ?_ 3 _ rfl; (with_reducible repeat (first | refine blk_drewN ?_ _ | refine blk_drew ?_ | refine blk_alloc ?_ _)); refine blk_put (cs := #[.int .i64 t167, .string t168, .bool x159002_1, .string x159003_1, .string x159004_1, .slice none 0 0]) ?_ 2 _ rfl; (with_reducible repeat (first | refine blk_drewN ?_ _ | refine blk_drew ?_ | refine blk_alloc ?_ _)); refine blk_put (cs := #[.int .i64 t167, .string x159001_1, .bool x159002_1, .string x159003_1, .string x159004_1, .slice none 0 0]) ?_ 1 _ rfl; (with_reducible repeat (first | refine blk_drewN ?_ _ | refine blk_drew ?_ | refine blk_alloc ?_ _)); refine blk_put (cs := #[.int .i64 x159000_1, .string x159001_1, .bool x159002_1, .string x159003_1, .string x159004_1, .slice none 0 0]) ?_ 0 _ rfl; (with_reducible repeat (first | refine blk_drewN ?_ _ | refine blk_drew ?_ | refine blk_alloc ?_ _)); refine blk_far ?_ NB158_176.out _; (with_reducible repeat (first | refine blk_drewN ?_ _ | refine blk_drew ?_ | refine blk_alloc ?_ _)); refine blk_far ?_ NB158_176.out _; (with_reducible repeat (first | refine blk_drewN ?_ _ | refine blk_drew ?_ | refine blk_alloc ?_ _)); refine blk_far ?_ NB158_176.out _; (with_reducible repeat (first | refine blk_drewN ?_ _ | refine blk_drew ?_ | refine blk_alloc ?_ _)); refine blk_far ?_ NB158_176.out _; (with_reducible repeat (first | refine blk_drewN ?_ _ | refine blk_drew ?_ | refine blk_alloc ?_ _)); refine blk_far ?_ NB158_176.out _; (with_reducible repeat (first | refine blk_drewN ?_ _ | refine blk_drew ?_ | refine blk_alloc ?_ _)); refine blk_far ?_ NB158_176.out _; (with_reducible repeat (first | refine blk_drewN ?_ _ | refine blk_drew ?_ | refine blk_alloc ?_ _)); exact BK158.out) Tryd.underlying26 rfl (by kernel_rfl)) rfl ?_
                  exact ⟨_, by first | rfl | (simp [errW_none, errW_some] <;> rfl) | (simp [*, errW_none, errW_some] <;> rfl), by (with_reducible repeat (first | apply Kd.R_alloc | apply Kd.R_drewN | apply Kd.R_drew)); exact Kd.R_mono (Kd.R_far (p := ⟨gb158, 5, none⟩) (Kd.R_far (p := ⟨gb158, 4, none⟩) (Kd.R_far (p := ⟨gb158, 3, none⟩) (Kd.R_far (p := ⟨gb158, 2, none⟩) (Kd.R_far (p := ⟨gb158, 1, none⟩) (Kd.R_far (p := ⟨gb158, 0, none⟩) (Kd.R_far (p := ⟨gb176, 5, none⟩) (Kd.R_far (p := ⟨gb176, 4, none⟩) (Kd.R_far (p := ⟨gb176, 3, none⟩) (Kd.R_far (p := ⟨gb176, 2, none⟩) (Kd.R_far (p := ⟨gb176, 1, none⟩) (Kd.R_far (p := ⟨gb176, 0, none⟩) (Kd.R_types (Kd.R_types HO174.out BK176.out (by decide)) BK158.out (by decide)) (fun _ hk => hk.1.2) (.int .i64 t167)) (fun _ hk => hk.1.2) (.string t168)) (fun _ hk => hk.1.2) (.bool t169)) (fun _ hk => hk.1.2) (.string t170)) (fun _ hk => hk.1.2) (.string t171)) (fun _ hk => hk.1.2) (.slice Ao33 t172.length co33)) (fun _ hk => hk.2) (.int .i64 t167)) (fun _ hk => hk.2) (.string t168)) (fun _ hk => hk.2) (.bool t169)) (fun _ hk => hk.2) (.string t170)) (fun _ hk => hk.2) (.string t171)) (fun _ hk => hk.2) (.slice Ao33 t172.length co33)) (fun _ hk => trivial), by repeat (first | (with_reducible first | exact HB.out | apply below_alloc | apply pw_below_drewN | apply below_drew1 | refine below_set ?_ GE158.out | refine below_set ?_ GE176.out) | exact HB.out)⟩
                · replace c28 := Bool.eq_false_iff.mpr c28
                  subst c28
                  have H1 : ((verb_strange.f kj16 a0).bind fun t177 => (if t177 = true then (some (0, (⟨#[]⟩ : ByteArray), false, (⟨#[]⟩ : ByteArray), (⟨#[]⟩ : ByteArray), ([] : List (S46)), 504)) else (some (0, (⟨#[]⟩ : ByteArray), false, (⟨#[]⟩ : ByteArray), (⟨#[]⟩ : ByteArray), ([] : List (S46)), 501)))) = some (r1, r2, r3, r4, r5, r6, r7) := by rw [if_neg (show ¬ (false = true) by decide)] at H; exact H
                  clear H
                  have H := H1
                  clear H1
                  replace H := Option.bind_eq_some_iff.mp H
                  obtain ⟨t177, A350, H⟩ := H
                  replace H : (if t177 = true then (some (0, (⟨#[]⟩ : ByteArray), false, (⟨#[]⟩ : ByteArray), (⟨#[]⟩ : ByteArray), ([] : List (S46)), 504)) else (some (0, (⟨#[]⟩ : ByteArray), false, (⟨#[]⟩ : ByteArray), (⟨#[]⟩ : ByteArray), ([] : List (S46)), 501))) = some (r1, r2, r3, r4, r5, r6, r7) := H
                  have A35 := Aside0.mk A350
                  clear A350
                  by_cases c36 : t177 = true
                  · subst c36
                    have H1 : (some (0, (⟨#[]⟩ : ByteArray), false, (⟨#[]⟩ : ByteArray), (⟨#[]⟩ : ByteArray), ([] : List (S46)), 504)) = some (r1, r2, r3, r4, r5, r6, r7) := by rw [if_pos rfl] at H; exact H
                    clear H
                    have H := H1
                    clear H1
                    simp only [Option.some.injEq, Prod.mk.injEq] at H
                    obtain ⟨rfl, rfl, rfl, rfl, rfl, rfl, rfl⟩ := H
                    go_wp2_with (first | ((with_reducible refine gate_callee (f := 20) rfl ?_); refine goesL_ (some 51) rfl rfl Tryd.func20 (by kernel_rfl) rfl #[.string a0] rfl (by (try simp only [List.map_toArray, List.map_cons, List.map_nil]); first | done | rfl | (simp only [List.length_drop, List.length_take]; rfl)) ?_; (with_reducible refine (verb_read.calls a0 t167 t168 t169 t170 t171 t172 false _ ?side1 A27.out).mono ?_); (case side1 => exact Glob.below HG.out (by repeat (first | (with_reducible first | exact HB.out | apply below_alloc | apply pw_below_drewN | apply below_drew1 | refine below_set ?_ GE158.out) | exact HB.out))); rintro e w37 ⟨v173, rfl, ho0, hb⟩; refine ⟨_, rfl, ?_⟩; have n0_ := Aside0.mk (Kd.R_lower ho0 (below_size (by repeat (first | (with_reducible first | exact HB.out | apply below_alloc | apply pw_below_drewN | apply below_drew1 | refine below_set ?_ GE158.out) | exact HB.out)))); have n1_ := Aside0.mk (blk_below (g := gb158) (o := .cells #[.int .i64 x159000_1, .string x159001_1, .bool x159002_1, .string x159003_1, .string x159004_1, .slice none 0 0] 26 (0, 0)) (by (with_reducible repeat (first | refine blk_drewN ?_ _ | refine blk_drew ?_ | refine blk_alloc ?_ _)); exact BK158.out) hb); have n2_ := Aside0.mk (below_step (by repeat (first | (with_reducible first | exact HB.out | apply below_alloc | apply pw_below_drewN | apply below_drew1 | refine below_set ?_ GE158.out) | exact HB.out)) hb); clear BK158; clear HB; have HO174 := n0_; have BK158 := n1_; have HB := n2_; clear n0_ n1_ n2_; (try clear hb); (try clear hb2); (try clear hk); (try clear hi); (try clear ho0)) | ((with_reducible refine gate_dst (N := 9) rfl ?_); refine box_event ?hg (N := 9) ?hd (cs := #[.int .i64 0, .string (⟨#[]⟩ : ByteArray), .bool false, .string (⟨#[]⟩ : ByteArray), .string (⟨#[]⟩ : ByteArray), .slice none 0 0]) (t := 26) ?hr ?_; (case hd => rfl); (case hg => rfl); (case hr => first | (go_simp; done) | (go_simp; rfl)); intro gb176 hg w38 hbox hb; have n0_ := Aside0.mk (Kd.R_below (by (with_reducible repeat (first | apply Kd.R_alloc | apply Kd.R_drewN | apply Kd.R_drew)); exact HO174.out) hb); have n1_ := Aside0.mk (blk_below (g := gb158) (o := .cells #[.int .i64 x159000_1, .string x159001_1, .bool x159002_1, .string x159003_1, .string x159004_1, .slice none 0 0] 26 (0, 0)) (by (with_reducible repeat (first | refine blk_drewN ?_ _ | refine blk_drew ?_ | refine blk_alloc ?_ _)); exact BK158.out) hb); have n2_ := Aside0.mk (below_step (by repeat (first | (with_reducible first | exact HB.out | apply below_alloc | apply pw_below_drewN | apply below_drew1 | refine below_set ?_ GE158.out) | exact HB.out)) hb); have n3_ := Aside0.mk (hbox); have n4_ := Aside0.mk ((by rw [hg]; exact (below_size (by repeat (first | (with_reducible first | exact HB.out | apply below_alloc | apply pw_below_drewN | apply below_drew1 | refine below_set ?_ GE158.out) | exact HB.out))) : w.heap.size ≤ gb176)); have n5_ := Aside0.mk ((by rw [hg]; exact (below_size (by repeat (first | (with_reducible first | exact HB.out | apply below_alloc | apply pw_below_drewN | apply below_drew1 | refine below_set ?_ GE158.out) | exact HB.out))) : w.heap.size ≤ gb176)); have n6_ := Aside0.mk ((by rw [hg]; exact Nat.ne_of_lt (blk_lt (g := gb158) (o := .cells #[.int .i64 x159000_1, .string x159001_1, .bool x159002_1, .string x159003_1, .string x159004_1, .slice none 0 0] 26 (0, 0)) (by (with_reducible repeat (first | refine blk_drewN ?_ _ | refine blk_drew ?_ | refine blk_alloc ?_ _)); exact BK158.out)) : gb158 ≠ gb176)); have n7_ := Aside0.mk ((by rw [hg]; exact Nat.ne_of_gt (blk_lt (g := gb158) (o := .cells #[.int .i64 x159000_1, .string x159001_1, .bool x159002_1, .string x159003_1, .string x159004_1, .slice none 0 0] 26 (0, 0)) (by (with_reducible repeat (first | refine blk_drewN ?_ _ | refine blk_drew ?_ | refine blk_alloc ?_ _)); exact BK158.out)) : gb176 ≠ gb158)); clear HO174; clear BK158; clear HB; have HO174 := n0_; have BK158 := n1_; have HB := n2_; have BK176 := n3_; have GW176 := n4_; have GE176 := n5_; have NB158_176 := n6_; have NB176_158 := n7_; clear n0_ n1_ n2_ n3_ n4_ n5_ n6_ n7_; clear hb hbox hg; have hnb39 := NB176_158.out; have hnc39 := NB158_176.out; have hcz40_0 : w38.cell? ⟨gb176, 0, none⟩ = some (.int .i64 0) := (blk_cell BK176.out 0).trans rfl; have hcz40_1 : w38.cell? ⟨gb176, 1, none⟩ = some (.string (⟨#[]⟩ : ByteArray)) := (blk_cell BK176.out 1).trans rfl; have hcz40_2 : w38.cell? ⟨gb176, 2, none⟩ = some (.bool false) := (blk_cell BK176.out 2).trans rfl; have hcz40_3 : w38.cell? ⟨gb176, 3, none⟩ = some (.string (⟨#[]⟩ : ByteArray)) := (blk_cell BK176.out 3).trans rfl; have hcz40_4 : w38.cell? ⟨gb176, 4, none⟩ = some (.string (⟨#[]⟩ : ByteArray)) := (blk_cell BK176.out 4).trans rfl; have hcz40_5 : w38.cell? ⟨gb176, 5, none⟩ = some (.slice none 0 0) := (blk_cell BK176.out 5).trans rfl; have hfz40_0 := blk_frozen BK176.out 0; have hfz40_1 := blk_frozen BK176.out 1; have hfz40_2 := blk_frozen BK176.out 2; have hfz40_3 := blk_frozen BK176.out 3; have hfz40_4 := blk_frozen BK176.out 4; have hfz40_5 := blk_frozen BK176.out 5; obtain ⟨Ao41, co41, eo41⟩ := Kd.R_slice HO174.out; subst eo41) | ((with_reducible refine gate_callee (f := 21) rfl ?_); refine goesL_ (some 59) rfl rfl Tryd.func21 (by kernel_rfl) rfl #[.string a0] rfl (by (try simp only [List.map_toArray, List.map_cons, List.map_nil]); first | done | rfl | (simp only [List.length_drop, List.length_take]; rfl)) ?_; (with_reducible refine (verb_strange.calls kj16 a0 true _ A35.out).mono ?_); rintro e w42 ⟨rfl, hb⟩; refine ⟨_, rfl, ?_⟩; have n0_ := Aside0.mk (Kd.R_below (by (with_reducible repeat (first | apply Kd.R_alloc | apply Kd.R_drewN | apply Kd.R_drew)); exact (Kd.R_mono (Kd.R_far (p := ⟨gb176, 5, none⟩) (Kd.R_far (p := ⟨gb176, 4, none⟩) (Kd.R_far (p := ⟨gb176, 3, none⟩) (Kd.R_far (p := ⟨gb176, 2, none⟩) (Kd.R_far (p := ⟨gb176, 1, none⟩) (Kd.R_far (p := ⟨gb176, 0, none⟩) (Kd.R_types HO174.out BK176.out (by decide)) (fun _ hk => hk.2) (.int .i64 t167)) (fun _ hk => hk.2) (.string t168)) (fun _ hk => hk.2) (.bool t169)) (fun _ hk => hk.2) (.string t170)) (fun _ hk => hk.2) (.string t171)) (fun _ hk => hk.2) (.slice Ao41 t172.length co41)) (fun _ h_ => h_.1))) hb); have n1_ := Aside0.mk (blk_below (g := gb158) (o := .cells #[.int .i64 x159000_1, .string x159001_1, .bool x159002_1, .string x159003_1, .string x159004_1, .slice none 0 0] 26 (0, 0)) (by (with_reducible repeat (first | refine blk_drewN ?_ _ | refine blk_drew ?_ | refine blk_alloc ?_ _)); refine blk_far ?_ NB158_176.out _; (with_reducible repeat (first | refine blk_drewN ?_ _ | refine blk_drew ?_ | refine blk_alloc ?_ _)); refine blk_far ?_ NB158_176.out _; (with_reducible repeat (first | refine blk_drewN ?_ _ | refine blk_drew ?_ | refine blk_alloc ?_ _)); refine blk_far ?_ NB158_176.out _; (with_reducible repeat (first | refine blk_drewN ?_ _ | refine blk_drew ?_ | refine blk_alloc ?_ _)); refine blk_far ?_ NB158_176.out _; (with_reducible repeat (first | refine blk_drewN ?_ _ | refine blk_drew ?_ | refine blk_alloc ?_ _)); refine blk_far ?_ NB158_176.out _; (with_reducible repeat (first | refine blk_drewN ?_ _ | refine blk_drew ?_ | refine blk_alloc ?_ _)); refine blk_far ?_ NB158_176.out _; (with_reducible repeat (first | refine blk_drewN ?_ _ | refine blk_drew ?_ | refine blk_alloc ?_ _)); exact BK158.out) hb); have n2_ := Aside0.mk (blk_below (g := gb176) (o := .cells #[.int .i64 t167, .string t168, .bool t169, .string t170, .string t171, .slice Ao41 t172.length co41] 26 (0, 0)) (by (with_reducible repeat (first | refine blk_drewN ?_ _ | refine blk_drew ?_ | refine blk_alloc ?_ _)); refine blk_put (cs := #[.int .i64 t167, .string t168, .bool t169, .string t170, .string t171, .slice none 0 0]) ?_ 5 _ rfl; (with_reducible repeat (first | refine blk_drewN ?_ _ | refine blk_drew ?_ | refine blk_alloc ?_ _)); refine blk_put (cs := #[.int .i64 t167, .string t168, .bool t169, .string t170, .string (⟨#[]⟩ : ByteArray), .slice none 0 0]) ?_ 4 _ rfl; (with_reducible repeat (first | refine blk_drewN ?_ _ | refine blk_drew ?_ | refine blk_alloc ?_ _)); refine blk_put (cs := #[.int .i64 t167, .string t168, .bool t169, .string (⟨#[]⟩ : ByteArray), .string (⟨#[]⟩ : ByteArray), .slice none 0 0]) ?_ 3 _ rfl; (with_reducible repeat (first | refine blk_drewN ?_ _ | refine blk_drew ?_ | refine blk_alloc ?_ _)); refine blk_put (cs := #[.int .i64 t167, .string t168, .bool false, .string (⟨#[]⟩ : ByteArray), .string (⟨#[]⟩ : ByteArray), .slice none 0 0]) ?_ 2 _ rfl; (with_reducible repeat (first | refine blk_drewN ?_ _ | refine blk_drew ?_ | refine blk_alloc ?_ _)); refine blk_put (cs := #[.int .i64 t167, .string (⟨#[]⟩ : ByteArray), .bool false, .string (⟨#[]⟩ : ByteArray), .string (⟨#[]⟩ : ByteArray), .slice none 0 0]) ?_ 1 _ rfl; (with_reducible repeat (first | refine blk_drewN ?_ _ | refine blk_drew ?_ | refine blk_alloc ?_ _)); refine blk_put (cs := #[.int .i64 0, .string (⟨#[]⟩ : ByteArray), .bool false, .string (⟨#[]⟩ : ByteArray), .string (⟨#[]⟩ : ByteArray), .slice none 0 0]) ?_ 0 _ rfl; (with_reducible repeat (first | refine blk_drewN ?_ _ | refine blk_drew ?_ | refine blk_alloc ?_ _)); exact BK176.out) hb); have n3_ := Aside0.mk (below_step (by repeat (first | (with_reducible first | exact HB.out | apply below_alloc | apply pw_below_drewN | apply below_drew1 | refine below_set ?_ GE158.out | refine below_set ?_ GE176.out) | exact HB.out)) hb); clear HO174; clear BK158; clear BK176; clear HB; have HO174 := n0_; have BK158 := n1_; have BK176 := n2_; have HB := n3_; clear n0_ n1_ n2_ n3_; (try clear hb); (try clear hb2); (try clear hk); (try clear hi); have hcz43_0 : w42.cell? ⟨gb158, 0, none⟩ = some (.int .i64 x159000_1) := (blk_cell BK158.out 0).trans rfl; have hcz43_1 : w42.cell? ⟨gb158, 1, none⟩ = some (.string x159001_1) := (blk_cell BK158.out 1).trans rfl; have hcz43_2 : w42.cell? ⟨gb158, 2, none⟩ = some (.bool x159002_1) := (blk_cell BK158.out 2).trans rfl; have hcz43_3 : w42.cell? ⟨gb158, 3, none⟩ = some (.string x159003_1) := (blk_cell BK158.out 3).trans rfl; have hcz43_4 : w42.cell? ⟨gb158, 4, none⟩ = some (.string x159004_1) := (blk_cell BK158.out 4).trans rfl; have hcz43_5 : w42.cell? ⟨gb158, 5, none⟩ = some (.slice none 0 0) := (blk_cell BK158.out 5).trans rfl; have hfz43_0 := blk_frozen BK158.out 0; have hfz43_1 := blk_frozen BK158.out 1; have hfz43_2 := blk_frozen BK158.out 2; have hfz43_3 := blk_frozen BK158.out 3; have hfz43_4 := blk_frozen BK158.out 4; have hfz43_5 := blk_frozen BK158.out 5))
                    refine bodyPost_ret (results_ct rfl _ _ gb158 26 #[.int .i64 0, .string (⟨#[]⟩ : ByteArray), .bool false, .string (⟨#[]⟩ : ByteArray), .string (⟨#[]⟩ : ByteArray), .slice none 0 0] (0, 0) _ rfl (by (with_reducible repeat (first | refine blk_drewN ?_ _ | refine blk_drew ?_ | refine blk_alloc ?_ _)); refine blk_put (cs := #[.int .i64 0, .string (⟨#[]⟩ : ByteArray), .bool false, .string (⟨#[]⟩ : ByteArray), .string (⟨#[]⟩ : ByteArray), .slice none 0 0]) ?_ 5 _ rfl; (with_reducible repeat (first | refine blk_drewN ?_ _ | refine blk_drew ?_ | refine blk_alloc ?_ _)); refine blk_put (cs := #[.int .i64 0, .string (⟨#[]⟩ : ByteArray), .bool false, .string (⟨#[]⟩ : ByteArray), .string x159004_1, .slice none 0 0]) ?_ 4 _ rfl; (with_reducible repeat (first | refine blk_drewN ?_ _ | refine blk_drew ?_ | refine blk_alloc ?_ _)); refine blk_put (cs := #[.int .i64 0, .string (⟨#[]⟩ : ByteArray), .bool false, .string x159003_1, .string x159004_1, .slice none 0 0]) ?_ 3 _ rfl; (with_reducible repeat (first | refine blk_drewN ?_ _ | refine blk_drew ?_ | refine blk_alloc ?_ _)); refine blk_put (cs := #[.int .i64 0, .string (⟨#[]⟩ : ByteArray), .bool x159002_1, .string x159003_1, .string x159004_1, .slice none 0 0]) ?_ 2 _ rfl; (with_reducible repeat (first | refine blk_drewN ?_ _ | refine blk_drew ?_ | refine blk_alloc ?_ _)); refine blk_put (cs := #[.int .i64 0, .string x159001_1, .bool x159002_1, .string x159003_1, .string x159004_1, .slice none 0 0]) ?_ 1 _ rfl; (with_reducible repeat (first | refine blk_drewN ?_ _ | refine blk_drew ?_ | refine blk_alloc ?_ _)); refine blk_put (cs := #[.int .i64 x159000_1, .string x159001_1, .bool x159002_1, .string x159003_1, .string x159004_1, .slice none 0 0]) ?_ 0 _ rfl; (with_reducible repeat (first | refine blk_drewN ?_ _ | refine blk_drew ?_ | refine blk_alloc ?_ _)); exact BK158.out) Tryd.underlying26 rfl (by kernel_rfl)) rfl ?_
                    exact ⟨_, by first | rfl | (simp [errW_none, errW_some] <;> rfl) | (simp [*, errW_none, errW_some] <;> rfl), by first | exact Kd.R_nil _ _ _ _ _ | exact Kd.N_nil _ _ _ _ _ | exact Kd.V_nil _ _ _ _ _ | exact Kd.Q_nil _ _ _ _ _ | exact Kd.S_nil _ _ _ _ _, by repeat (first | (with_reducible first | exact HB.out | apply below_alloc | apply pw_below_drewN | apply below_drew1 | refine below_set ?_ GE158.out | refine below_set ?_ GE176.out) | exact HB.out)⟩
                  · replace c36 := Bool.eq_false_iff.mpr c36
                    subst c36
                    have H1 : (some (0, (⟨#[]⟩ : ByteArray), false, (⟨#[]⟩ : ByteArray), (⟨#[]⟩ : ByteArray), ([] : List (S46)), 501)) = some (r1, r2, r3, r4, r5, r6, r7) := by rw [if_neg (show ¬ (false = true) by decide)] at H; exact H
                    clear H
                    have H := H1
                    clear H1
                    simp only [Option.some.injEq, Prod.mk.injEq] at H
                    obtain ⟨rfl, rfl, rfl, rfl, rfl, rfl, rfl⟩ := H
                    go_wp2_with (first | ((with_reducible refine gate_callee (f := 20) rfl ?_); refine goesL_ (some 51) rfl rfl Tryd.func20 (by kernel_rfl) rfl #[.string a0] rfl (by (try simp only [List.map_toArray, List.map_cons, List.map_nil]); first | done | rfl | (simp only [List.length_drop, List.length_take]; rfl)) ?_; (with_reducible refine (verb_read.calls a0 t167 t168 t169 t170 t171 t172 false _ ?side1 A27.out).mono ?_); (case side1 => exact Glob.below HG.out (by repeat (first | (with_reducible first | exact HB.out | apply below_alloc | apply pw_below_drewN | apply below_drew1 | refine below_set ?_ GE158.out) | exact HB.out))); rintro e w44 ⟨v173, rfl, ho0, hb⟩; refine ⟨_, rfl, ?_⟩; have n0_ := Aside0.mk (Kd.R_lower ho0 (below_size (by repeat (first | (with_reducible first | exact HB.out | apply below_alloc | apply pw_below_drewN | apply below_drew1 | refine below_set ?_ GE158.out) | exact HB.out)))); have n1_ := Aside0.mk (blk_below (g := gb158) (o := .cells #[.int .i64 x159000_1, .string x159001_1, .bool x159002_1, .string x159003_1, .string x159004_1, .slice none 0 0] 26 (0, 0)) (by (with_reducible repeat (first | refine blk_drewN ?_ _ | refine blk_drew ?_ | refine blk_alloc ?_ _)); exact BK158.out) hb); have n2_ := Aside0.mk (below_step (by repeat (first | (with_reducible first | exact HB.out | apply below_alloc | apply pw_below_drewN | apply below_drew1 | refine below_set ?_ GE158.out) | exact HB.out)) hb); clear BK158; clear HB; have HO174 := n0_; have BK158 := n1_; have HB := n2_; clear n0_ n1_ n2_; (try clear hb); (try clear hb2); (try clear hk); (try clear hi); (try clear ho0)) | ((with_reducible refine gate_dst (N := 9) rfl ?_); refine box_event ?hg (N := 9) ?hd (cs := #[.int .i64 0, .string (⟨#[]⟩ : ByteArray), .bool false, .string (⟨#[]⟩ : ByteArray), .string (⟨#[]⟩ : ByteArray), .slice none 0 0]) (t := 26) ?hr ?_; (case hd => rfl); (case hg => rfl); (case hr => first | (go_simp; done) | (go_simp; rfl)); intro gb176 hg w45 hbox hb; have n0_ := Aside0.mk (Kd.R_below (by (with_reducible repeat (first | apply Kd.R_alloc | apply Kd.R_drewN | apply Kd.R_drew)); exact HO174.out) hb); have n1_ := Aside0.mk (blk_below (g := gb158) (o := .cells #[.int .i64 x159000_1, .string x159001_1, .bool x159002_1, .string x159003_1, .string x159004_1, .slice none 0 0] 26 (0, 0)) (by (with_reducible repeat (first | refine blk_drewN ?_ _ | refine blk_drew ?_ | refine blk_alloc ?_ _)); exact BK158.out) hb); have n2_ := Aside0.mk (below_step (by repeat (first | (with_reducible first | exact HB.out | apply below_alloc | apply pw_below_drewN | apply below_drew1 | refine below_set ?_ GE158.out) | exact HB.out)) hb); have n3_ := Aside0.mk (hbox); have n4_ := Aside0.mk ((by rw [hg]; exact (below_size (by repeat (first | (with_reducible first | exact HB.out | apply below_alloc | apply pw_below_drewN | apply below_drew1 | refine below_set ?_ GE158.out) | exact HB.out))) : w.heap.size ≤ gb176)); have n5_ := Aside0.mk ((by rw [hg]; exact (below_size (by repeat (first | (with_reducible first | exact HB.out | apply below_alloc | apply pw_below_drewN | apply below_drew1 | refine below_set ?_ GE158.out) | exact HB.out))) : w.heap.size ≤ gb176)); have n6_ := Aside0.mk ((by rw [hg]; exact Nat.ne_of_lt (blk_lt (g := gb158) (o := .cells #[.int .i64 x159000_1, .string x159001_1, .bool x159002_1, .string x159003_1, .string x159004_1, .slice none 0 0] 26 (0, 0)) (by (with_reducible repeat (first | refine blk_drewN ?_ _ | refine blk_drew ?_ | refine blk_alloc ?_ _)); exact BK158.out)) : gb158 ≠ gb176)); have n7_ := Aside0.mk ((by rw [hg]; exact Nat.ne_of_gt (blk_lt (g := gb158) (o := .cells #[.int .i64 x159000_1, .string x159001_1, .bool x159002_1, .string x159003_1, .string x159004_1, .slice none 0 0] 26 (0, 0)) (by (with_reducible repeat (first | refine blk_drewN ?_ _ | refine blk_drew ?_ | refine blk_alloc ?_ _)); exact BK158.out)) : gb176 ≠ gb158)); clear HO174; clear BK158; clear HB; have HO174 := n0_; have BK158 := n1_; have HB := n2_; have BK176 := n3_; have GW176 := n4_; have GE176 := n5_; have NB158_176 := n6_; have NB176_158 := n7_; clear n0_ n1_ n2_ n3_ n4_ n5_ n6_ n7_; clear hb hbox hg; have hnb46 := NB176_158.out; have hnc46 := NB158_176.out; have hcz47_0 : w45.cell? ⟨gb176, 0, none⟩ = some (.int .i64 0) := (blk_cell BK176.out 0).trans rfl; have hcz47_1 : w45.cell? ⟨gb176, 1, none⟩ = some (.string (⟨#[]⟩ : ByteArray)) := (blk_cell BK176.out 1).trans rfl; have hcz47_2 : w45.cell? ⟨gb176, 2, none⟩ = some (.bool false) := (blk_cell BK176.out 2).trans rfl; have hcz47_3 : w45.cell? ⟨gb176, 3, none⟩ = some (.string (⟨#[]⟩ : ByteArray)) := (blk_cell BK176.out 3).trans rfl; have hcz47_4 : w45.cell? ⟨gb176, 4, none⟩ = some (.string (⟨#[]⟩ : ByteArray)) := (blk_cell BK176.out 4).trans rfl; have hcz47_5 : w45.cell? ⟨gb176, 5, none⟩ = some (.slice none 0 0) := (blk_cell BK176.out 5).trans rfl; have hfz47_0 := blk_frozen BK176.out 0; have hfz47_1 := blk_frozen BK176.out 1; have hfz47_2 := blk_frozen BK176.out 2; have hfz47_3 := blk_frozen BK176.out 3; have hfz47_4 := blk_frozen BK176.out 4; have hfz47_5 := blk_frozen BK176.out 5; obtain ⟨Ao48, co48, eo48⟩ := Kd.R_slice HO174.out; subst eo48) | ((with_reducible refine gate_callee (f := 21) rfl ?_); refine goesL_ (some 59) rfl rfl Tryd.func21 (by kernel_rfl) rfl #[.string a0] rfl (by (try simp only [List.map_toArray, List.map_cons, List.map_nil]); first | done | rfl | (simp only [List.length_drop, List.length_take]; rfl)) ?_; (with_reducible refine (verb_strange.calls kj16 a0 false _ A35.out).mono ?_); rintro e w49 ⟨rfl, hb⟩; refine ⟨_, rfl, ?_⟩; have n0_ := Aside0.mk (Kd.R_below (by (with_reducible repeat (first | apply Kd.R_alloc | apply Kd.R_drewN | apply Kd.R_drew)); exact (Kd.R_mono (Kd.R_far (p := ⟨gb176, 5, none⟩) (Kd.R_far (p := ⟨gb176, 4, none⟩) (Kd.R_far (p := ⟨gb176, 3, none⟩) (Kd.R_far (p := ⟨gb176, 2, none⟩) (Kd.R_far (p := ⟨gb176, 1, none⟩) (Kd.R_far (p := ⟨gb176, 0, none⟩) (Kd.R_types HO174.out BK176.out (by decide)) (fun _ hk => hk.2) (.int .i64 t167)) (fun _ hk => hk.2) (.string t168)) (fun _ hk => hk.2) (.bool t169)) (fun _ hk => hk.2) (.string t170)) (fun _ hk => hk.2) (.string t171)) (fun _ hk => hk.2) (.slice Ao48 t172.length co48)) (fun _ h_ => h_.1))) hb); have n1_ := Aside0.mk (blk_below (g := gb158) (o := .cells #[.int .i64 x159000_1, .string x159001_1, .bool x159002_1, .string x159003_1, .string x159004_1, .slice none 0 0] 26 (0, 0)) (by (with_reducible repeat (first | refine blk_drewN ?_ _ | refine blk_drew ?_ | refine blk_alloc ?_ _)); refine blk_far ?_ NB158_176.out _; (with_reducible repeat (first | refine blk_drewN ?_ _ | refine blk_drew ?_ | refine blk_alloc ?_ _)); refine blk_far ?_ NB158_176.out _; (with_reducible repeat (first | refine blk_drewN ?_ _ | refine blk_drew ?_ | refine blk_alloc ?_ _)); refine blk_far ?_ NB158_176.out _; (with_reducible repeat (first | refine blk_drewN ?_ _ | refine blk_drew ?_ | refine blk_alloc ?_ _)); refine blk_far ?_ NB158_176.out _; (with_reducible repeat (first | refine blk_drewN ?_ _ | refine blk_drew ?_ | refine blk_alloc ?_ _)); refine blk_far ?_ NB158_176.out _; (with_reducible repeat (first | refine blk_drewN ?_ _ | refine blk_drew ?_ | refine blk_alloc ?_ _)); refine blk_far ?_ NB158_176.out _; (with_reducible repeat (first | refine blk_drewN ?_ _ | refine blk_drew ?_ | refine blk_alloc ?_ _)); exact BK158.out) hb); have n2_ := Aside0.mk (blk_below (g := gb176) (o := .cells #[.int .i64 t167, .string t168, .bool t169, .string t170, .string t171, .slice Ao48 t172.length co48] 26 (0, 0)) (by (with_reducible repeat (first | refine blk_drewN ?_ _ | refine blk_drew ?_ | refine blk_alloc ?_ _)); refine blk_put (cs := #[.int .i64 t167, .string t168, .bool t169, .string t170, .string t171, .slice none 0 0]) ?_ 5 _ rfl; (with_reducible repeat (first | refine blk_drewN ?_ _ | refine blk_drew ?_ | refine blk_alloc ?_ _)); refine blk_put (cs := #[.int .i64 t167, .string t168, .bool t169, .string t170, .string (⟨#[]⟩ : ByteArray), .slice none 0 0]) ?_ 4 _ rfl; (with_reducible repeat (first | refine blk_drewN ?_ _ | refine blk_drew ?_ | refine blk_alloc ?_ _)); refine blk_put (cs := #[.int .i64 t167, .string t168, .bool t169, .string (⟨#[]⟩ : ByteArray), .string (⟨#[]⟩ : ByteArray), .slice none 0 0]) ?_ 3 _ rfl; (with_reducible repeat (first | refine blk_drewN ?_ _ | refine blk_drew ?_ | refine blk_alloc ?_ _)); refine blk_put (cs := #[.int .i64 t167, .string t168, .bool false, .string (⟨#[]⟩ : ByteArray), .string (⟨#[]⟩ : ByteArray), .slice none 0 0]) ?_ 2 _ rfl; (with_reducible repeat (first | refine blk_drewN ?_ _ | refine blk_drew ?_ | refine blk_alloc ?_ _)); refine blk_put (cs := #[.int .i64 t167, .string (⟨#[]⟩ : ByteArray), .bool false, .string (⟨#[]⟩ : ByteArray), .string (⟨#[]⟩ : ByteArray), .slice none 0 0]) ?_ 1 _ rfl; (with_reducible repeat (first | refine blk_drewN ?_ _ | refine blk_drew ?_ | refine blk_alloc ?_ _)); refine blk_put (cs := #[.int .i64 0, .string (⟨#[]⟩ : ByteArray), .bool false, .string (⟨#[]⟩ : ByteArray), .string (⟨#[]⟩ : ByteArray), .slice none 0 0]) ?_ 0 _ rfl; (with_reducible repeat (first | refine blk_drewN ?_ _ | refine blk_drew ?_ | refine blk_alloc ?_ _)); exact BK176.out) hb); have n3_ := Aside0.mk (below_step (by repeat (first | (with_reducible first | exact HB.out | apply below_alloc | apply pw_below_drewN | apply below_drew1 | refine below_set ?_ GE158.out | refine below_set ?_ GE176.out) | exact HB.out)) hb); clear HO174; clear BK158; clear BK176; clear HB; have HO174 := n0_; have BK158 := n1_; have BK176 := n2_; have HB := n3_; clear n0_ n1_ n2_ n3_; (try clear hb); (try clear hb2); (try clear hk); (try clear hi); have hcz50_0 : w49.cell? ⟨gb158, 0, none⟩ = some (.int .i64 x159000_1) := (blk_cell BK158.out 0).trans rfl; have hcz50_1 : w49.cell? ⟨gb158, 1, none⟩ = some (.string x159001_1) := (blk_cell BK158.out 1).trans rfl; have hcz50_2 : w49.cell? ⟨gb158, 2, none⟩ = some (.bool x159002_1) := (blk_cell BK158.out 2).trans rfl; have hcz50_3 : w49.cell? ⟨gb158, 3, none⟩ = some (.string x159003_1) := (blk_cell BK158.out 3).trans rfl; have hcz50_4 : w49.cell? ⟨gb158, 4, none⟩ = some (.string x159004_1) := (blk_cell BK158.out 4).trans rfl; have hcz50_5 : w49.cell? ⟨gb158, 5, none⟩ = some (.slice none 0 0) := (blk_cell BK158.out 5).trans rfl; have hfz50_0 := blk_frozen BK158.out 0; have hfz50_1 := blk_frozen BK158.out 1; have hfz50_2 := blk_frozen BK158.out 2; have hfz50_3 := blk_frozen BK158.out 3; have hfz50_4 := blk_frozen BK158.out 4; have hfz50_5 := blk_frozen BK158.out 5))
                    refine bodyPost_ret (results_ct rfl _ _ gb158 26 #[.int .i64 0, .string (⟨#[]⟩ : ByteArray), .bool false, .string (⟨#[]⟩ : ByteArray), .string (⟨#[]⟩ : ByteArray), .slice none 0 0] (0, 0) _ rfl (by (with_reducible repeat (first | refine blk_drewN ?_ _ | refine blk_drew ?_ | refine blk_alloc ?_ _)); refine blk_put (cs := #[.int .i64 0, .string (⟨#[]⟩ : ByteArray), .bool false, .string (⟨#[]⟩ : ByteArray), .string (⟨#[]⟩ : ByteArray), .slice none 0 0]) ?_ 5 _ rfl; (with_reducible repeat (first | refine blk_drewN ?_ _ | refine blk_drew ?_ | refine blk_alloc ?_ _)); refine blk_put (cs := #[.int .i64 0, .string (⟨#[]⟩ : ByteArray), .bool false, .string (⟨#[]⟩ : ByteArray), .string x159004_1, .slice none 0 0]) ?_ 4 _ rfl; (with_reducible repeat (first | refine blk_drewN ?_ _ | refine blk_drew ?_ | refine blk_alloc ?_ _)); refine blk_put (cs := #[.int .i64 0, .string (⟨#[]⟩ : ByteArray), .bool false, .string x159003_1, .string x159004_1, .slice none 0 0]) ?_ 3 _ rfl; (with_reducible repeat (first | refine blk_drewN ?_ _ | refine blk_drew ?_ | refine blk_alloc ?_ _)); refine blk_put (cs := #[.int .i64 0, .string (⟨#[]⟩ : ByteArray), .bool x159002_1, .string x159003_1, .string x159004_1, .slice none 0 0]) ?_ 2 _ rfl; (with_reducible repeat (first | refine blk_drewN ?_ _ | refine blk_drew ?_ | refine blk_alloc ?_ _)); refine blk_put (cs := #[.int .i64 0, .string x159001_1, .bool x159002_1, .string x159003_1, .string x159004_1, .slice none 0 0]) ?_ 1 _ rfl; (with_reducible repeat (first | refine blk_drewN ?_ _ | refine blk_drew ?_ | refine blk_alloc ?_ _)); refine blk_put (cs := #[.int .i64 x159000_1, .string x159001_1, .bool x159002_1, .string x159003_1, .string x159004_1, .slice none 0 0]) ?_ 0 _ rfl; (with_reducible repeat (first | refine blk_drewN ?_ _ | refine blk_drew ?_ | refine blk_alloc ?_ _)); exact BK158.out) Tryd.underlying26 rfl (by kernel_rfl)) rfl ?_
                    exact ⟨_, by first | rfl | (simp [errW_none, errW_some] <;> rfl) | (simp [*, errW_none, errW_some] <;> rfl), by first | exact Kd.R_nil _ _ _ _ _ | exact Kd.N_nil _ _ _ _ _ | exact Kd.V_nil _ _ _ _ _ | exact Kd.Q_nil _ _ _ _ _ | exact Kd.S_nil _ _ _ _ _, by repeat (first | (with_reducible first | exact HB.out | apply below_alloc | apply pw_below_drewN | apply below_drew1 | refine below_set ?_ GE158.out | refine below_set ?_ GE176.out) | exact HB.out)⟩
end Go.Proofs.YthcdjgekmfnmnaaDoor.PVerb
end
section
namespace Go.Proofs.YthcdjgekmfnmnaaDoor.PVerb
open Go.RowKit Go.Proofs.YthcdjgekmfnmnaaDoorW.PrintWords Go.Proofs.YthcdjgekmfnmnaaDoorW.PrintLast Go.Proofs.YthcdjgekmfnmnaaDoorW.PrintMore
attribute [local go_sem] max2_int min2_int max_two min_two max_three min_three max_four min_four
set_option linter.unusedVariables false
set_option linter.unusedSimpArgs false
theorem eqA23 (d : Nat) (w : World) (x0 y0 : Bool) (x1 y1 : ByteArray) (x2 y2 : ByteArray) :
    (Op.equalIn (d + 2) 23 (.agg #[.bool x0, .string x1, .string x2]) (.agg #[.bool y0, .string y1, .string y2])).run Tryd.prog w = .ok (x0 == y0 && (x1.toList == y1.toList && (x2.toList == y2.toList))) w := by
  refine eqA_of Tryd.underlying23 (by kernel_rfl) ?_
  refine eqf_cons (by rfl) (by go_simp; rfl) (by go_simp; rfl) (by go_simp) ?_
  refine eqf_cons (by rfl) (by go_simp; rfl) (by go_simp; rfl) (by go_simp) ?_
  exact eqf_last (by rfl) (by go_simp; rfl) (by go_simp; rfl) (by go_simp)
end Go.Proofs.YthcdjgekmfnmnaaDoor.PVerb
end
section
namespace Go.Proofs.YthcdjgekmfnmnaaDoor.PVerb
open Go.RowKit Go.Proofs.YthcdjgekmfnmnaaDoorW.PrintWords Go.Proofs.YthcdjgekmfnmnaaDoorW.PrintLast Go.Proofs.YthcdjgekmfnmnaaDoorW.PrintMore
attribute [local go_sem] max2_int min2_int max_two min_two max_three min_three max_four min_four
set_option linter.unusedVariables false
set_option linter.unusedSimpArgs false
theorem eqA46 (d : Nat) (w : World) (x0 y0 : ByteArray) (x1 y1 : ByteArray) :
    (Op.equalIn (d + 2) 46 (.agg #[.string x0, .string x1]) (.agg #[.string y0, .string y1])).run Tryd.prog w = .ok (x0.toList == y0.toList && (x1.toList == y1.toList)) w := by
  refine eqA_of Tryd.underlying46 (by kernel_rfl) ?_
  refine eqf_cons (by rfl) (by go_simp; rfl) (by go_simp; rfl) (by go_simp) ?_
  exact eqf_last (by rfl) (by go_simp; rfl) (by go_simp; rfl) (by go_simp)
end Go.Proofs.YthcdjgekmfnmnaaDoor.PVerb
end
section
namespace Go.Proofs.YthcdjgekmfnmnaaDoor.PVerb
open Go.RowKit Go.Proofs.YthcdjgekmfnmnaaDoorW.PrintWords Go.Proofs.YthcdjgekmfnmnaaDoorW.PrintLast Go.Proofs.YthcdjgekmfnmnaaDoorW.PrintMore
attribute [local go_sem] max2_int min2_int max_two min_two max_three min_three max_four min_four
set_option linter.unusedVariables false
set_option linter.unusedSimpArgs false
def textL (null : Bool) (loc dom : List UInt8) : List UInt8 := if null then [60, 62] else 60 :: loc ++ 64 :: dom ++ [62]
theorem text_bytes (l d : ByteArray) : (((⟨#[60]⟩ ++ l) ++ ⟨#[64]⟩) ++ d) ++ ⟨#[62]⟩ = bs (textL false l.data.toList d.data.toList) := by
  rw [← bs_of (_ ++ _)]
  congr 1
  simp [textL, ByteArray.toList_data_append]
set_option maxHeartbeats 1000000 in
set_option maxRecDepth 100000 in
theorem text_walk (a0_0 : Bool) (a0_1 a0_2 : ByteArray) (w : World) (hG : Glob w) (h1 : a0_1.size < 2147483648) (h2 : a0_2.size < 2147483648) (b : Bool) (hb : checkL a0_0 a0_1.data.toList a0_2.data.toList = b) :
    Calls Tryd.prog 27 #[.agg #[.bool a0_0, .string a0_1, .string a0_2]] w fun e w' => e = .returned (.tuple #[.string (if b then bs (textL a0_0 a0_1.data.toList a0_2.data.toList) else bs []), .int .i64 (if b then 0 else 5)]) ∧ Below w.heap.size w w' := by
  have HC := Aside0.mk (fun W hg => path_Check.calls a0_0 a0_1 a0_2 (if b then 0 else 5) W hg (by rw [path_Check.f, if_pos ⟨h1, h2⟩, hb]))
  clear hb
  have HGA := Aside0.mk hG
  clear hG
  have hb0 : Below w.heap.size w (w.alloc (.cells #[.bool a0_0, .string a0_1, .string a0_2] 23)) := (Below.refl _ w).alloc (Nat.le_refl _) _
  cases b
  · go_enter Tryd.func27, Tryd.ntmps27
    go_wp2_with fail
    refine (HC.out _ (HGA.out.below hb0)).mono ?_
    rintro e w1 ⟨rfl, hb1⟩
    have hbb := Aside0.mk (below_step hb0 hb1)
    clear hb1
    go_wp2
    go_ret2
    exact ⟨rfl, hbb.out⟩
  · cases a0_0
    · have HT := Aside0.mk (text_bytes a0_1 a0_2)
      have e1 : (1 : Nat) + a0_1.size ≤ 9223372036854775807 := by omega
      have hlt : w.heap.size < (w.alloc (.cells #[.bool false, .string a0_1, .string a0_2] 23)).heap.size := by simp
      show Calls Tryd.prog 27 _ w fun e w' => e = .returned (.tuple #[.string (bs (textL false a0_1.data.toList a0_2.data.toList)), .int .i64 0]) ∧ Below w.heap.size w w'
      rw [← HT.out]
      go_enter Tryd.func27, Tryd.ntmps27
      go_wp2_with fail
      refine (HC.out _ (HGA.out.below hb0)).mono ?_
      rintro e w1 ⟨rfl, hb1⟩
      have hbb := Aside0.mk (below_step hb0 hb1)
      have c0 := (hb1.cell (p := ⟨w.heap.size, 0, none⟩) hlt).trans (show _ = some (.bool false) by simp)
      have c1 := (hb1.cell (p := ⟨w.heap.size, 1, none⟩) hlt).trans (show _ = some (.string a0_1) by simp)
      have c2 := (hb1.cell (p := ⟨w.heap.size, 2, none⟩) hlt).trans (show _ = some (.string a0_2) by simp)
      clear hb1
      go_wp2
      go_ret2
      exact ⟨rfl, hbb.out⟩
    · have hlt : w.heap.size < (w.alloc (.cells #[.bool true, .string a0_1, .string a0_2] 23)).heap.size := by simp
      go_enter Tryd.func27, Tryd.ntmps27
      go_wp2_with fail
      refine (HC.out _ (HGA.out.below hb0)).mono ?_
      rintro e w1 ⟨rfl, hb1⟩
      have hbb := Aside0.mk (below_step hb0 hb1)
      have c0 := (hb1.cell (p := ⟨w.heap.size, 0, none⟩) hlt).trans (show _ = some (.bool true) by simp)
      clear hb1
      go_wp2
      go_ret2
      exact ⟨rfl, hbb.out⟩
def path_Text.f (a0_0 : Bool) (a0_1 a0_2 : ByteArray) : Option (ByteArray × Int) :=
  if a0_1.size < 2147483648 ∧ a0_2.size < 2147483648 then some (if checkL a0_0 a0_1.data.toList a0_2.data.toList then (bs (textL a0_0 a0_1.data.toList a0_2.data.toList), 0) else (bs [], 5)) else none
theorem path_Text.calls (a0_0 : Bool) (a0_1 a0_2 : ByteArray) (r1 : ByteArray) (r2 : Int) (w : World) (hG : Glob w) (h : path_Text.f a0_0 a0_1 a0_2 = some (r1, r2)) :
    Calls Tryd.prog 27 #[.agg #[.bool a0_0, .string a0_1, .string a0_2]] w fun e w' => e = .returned (.tuple #[.string r1, .int .i64 r2]) ∧ Below w.heap.size w w' := by
  unfold path_Text.f at h
  split at h
  · rename_i hs
    have hw := text_walk a0_0 a0_1 a0_2 w hG hs.1 hs.2 _ rfl
    cases hb : checkL a0_0 a0_1.data.toList a0_2.data.toList
    · rw [hb] at h hw
      simp only [Option.some.injEq] at h
      obtain ⟨rfl, rfl⟩ := Prod.mk.inj h
      exact hw
    · rw [hb] at h hw
      simp only [Option.some.injEq] at h
      obtain ⟨rfl, rfl⟩ := Prod.mk.inj h
      exact hw
  · cases h
end Go.Proofs.YthcdjgekmfnmnaaDoor.PVerb
end
section
namespace Go.Proofs.YthcdjgekmfnmnaaDoor.PVerb
open Go.RowKit Go.Proofs.YthcdjgekmfnmnaaDoorW.PrintWords Go.Proofs.YthcdjgekmfnmnaaDoorW.PrintLast Go.Proofs.YthcdjgekmfnmnaaDoorW.PrintMore
attribute [local go_sem] max2_int min2_int max_two min_two max_three min_three max_four min_four
set_option linter.unusedVariables false
set_option linter.unusedSimpArgs false
open Go.Maps (string_keyed int_keyed keyOf_int_mk)
open Go.WideMaps
def headL (kind : Int) (t b : List UInt8) : List UInt8 :=
  if kind = 1 then [69, 72, 76, 79, 32] ++ t
  else if kind = 2 then [77, 65, 73, 76, 32, 70, 82, 79, 77, 58] ++ b
  else if kind = 3 then [82, 67, 80, 84, 32, 84, 79, 58] ++ b
  else if kind = 4 then [68, 65, 84, 65]
  else if kind = 5 then [82, 83, 69, 84]
  else if kind = 6 then [86, 82, 70, 89, 32] ++ t
  else if kind = 7 then [78, 79, 79, 80]
  else if kind = 8 then [81, 85, 73, 84]
  else if kind = 9 then [69, 84, 82, 78, 32] ++ t
  else if kind = 10 then [65, 85, 84, 72, 32, 67, 82, 65, 77, 45, 77, 68, 53]
  else if kind = 11 then [65, 84, 82, 78]
  else []
def parL (p : S46) : List UInt8 := 32 :: p.f0.data.toList ++ 61 :: p.f1.data.toList
def lineL (kind : Int) (t b : List UInt8) (ps : List S46) : List UInt8 :=
  headL kind t b ++ (if kind = 11 ∧ t ≠ [] then 32 :: t else []) ++ ps.flatMap parL
def verb_line.f (a0_0 : Int) (a0_1 : ByteArray) (a0_2 : Bool) (a0_3 a0_4 : ByteArray) (l0_5 : List S46) : Option ByteArray :=
  if a0_1.size < 2147483648 ∧ l0_5.length < 100000 ∧ (∀ p ∈ l0_5, p.f0.size < 2147483648 ∧ p.f1.size < 2147483648) ∧ (Lit.int .i64 a0_0).wf = true then
    (path_Text.f a0_2 a0_3 a0_4).bind fun b => if b.1.size < 8589934592 then some (bs (lineL a0_0 a0_1.data.toList b.1.data.toList l0_5)) else none else none
def lineD (a0_1 tb : ByteArray) : DataW Unit := (DataW.put (DataW.put (DataW.put (DataW.put (DataW.put (DataW.put (DataW.put (DataW.put (DataW.put (DataW.put (DataW.put (.map [] : DataW Unit) (.int .i64 1) (.lit (.string ((⟨#[69, 72, 76, 79, 32]⟩ : ByteArray) ++ a0_1).data.toList))) (.int .i64 2) (.lit (.string ((⟨#[77, 65, 73, 76, 32, 70, 82, 79, 77, 58]⟩ : ByteArray) ++ tb).data.toList))) (.int .i64 3) (.lit (.string ((⟨#[82, 67, 80, 84, 32, 84, 79, 58]⟩ : ByteArray) ++ tb).data.toList))) (.int .i64 4) (.lit (.string ((⟨#[68, 65, 84, 65]⟩ : ByteArray)).data.toList))) (.int .i64 5) (.lit (.string ((⟨#[82, 83, 69, 84]⟩ : ByteArray)).data.toList))) (.int .i64 6) (.lit (.string ((⟨#[86, 82, 70, 89, 32]⟩ : ByteArray) ++ a0_1).data.toList))) (.int .i64 7) (.lit (.string ((⟨#[78, 79, 79, 80]⟩ : ByteArray)).data.toList))) (.int .i64 8) (.lit (.string ((⟨#[81, 85, 73, 84]⟩ : ByteArray)).data.toList))) (.int .i64 9) (.lit (.string ((⟨#[69, 84, 82, 78, 32]⟩ : ByteArray) ++ a0_1).data.toList))) (.int .i64 10) (.lit (.string ((⟨#[65, 85, 84, 72, 32, 67, 82, 65, 77, 45, 77, 68, 53]⟩ : ByteArray)).data.toList))) (.int .i64 11) (.lit (.string ((⟨#[65, 84, 82, 78]⟩ : ByteArray)).data.toList)))
theorem atputi {D : DataW Unit} {k : Int} {v : List UInt8} (hD : Maps.IsMap D) (l : Int) (z : DataW Unit) : (D.put (.int .i64 k) (.lit (.string v))).atKey (.int .i64 l) z = if l = k then .lit (.string v) else D.atKey (.int .i64 l) z := by
  by_cases h : l = k
  · subst h; rw [if_pos rfl]; exact Maps.atKey_put_same hD (show WideAt.IsKeyLit (.int .i64 l) from trivial) _ _
  · rw [if_neg h]; exact Maps.atKey_put_other (by simpa using h) _ _
theorem line_at (a0_1 tb : ByteArray) (kind : Int) : (lineD a0_1 tb).atKey (.int .i64 kind) (.lit (.string [])) = .lit (.string (headL kind a0_1.data.toList tb.data.toList)) := by
  have m0 : Maps.IsMap (.map [] : DataW Unit) := Maps.isMap_empty
  have m1 := m0.put (.int .i64 1) (.lit (.string ((⟨#[69, 72, 76, 79, 32]⟩ : ByteArray) ++ a0_1).data.toList))
  have m2 := m1.put (.int .i64 2) (.lit (.string ((⟨#[77, 65, 73, 76, 32, 70, 82, 79, 77, 58]⟩ : ByteArray) ++ tb).data.toList))
  have m3 := m2.put (.int .i64 3) (.lit (.string ((⟨#[82, 67, 80, 84, 32, 84, 79, 58]⟩ : ByteArray) ++ tb).data.toList))
  have m4 := m3.put (.int .i64 4) (.lit (.string ((⟨#[68, 65, 84, 65]⟩ : ByteArray)).data.toList))
  have m5 := m4.put (.int .i64 5) (.lit (.string ((⟨#[82, 83, 69, 84]⟩ : ByteArray)).data.toList))
  have m6 := m5.put (.int .i64 6) (.lit (.string ((⟨#[86, 82, 70, 89, 32]⟩ : ByteArray) ++ a0_1).data.toList))
  have m7 := m6.put (.int .i64 7) (.lit (.string ((⟨#[78, 79, 79, 80]⟩ : ByteArray)).data.toList))
  have m8 := m7.put (.int .i64 8) (.lit (.string ((⟨#[81, 85, 73, 84]⟩ : ByteArray)).data.toList))
  have m9 := m8.put (.int .i64 9) (.lit (.string ((⟨#[69, 84, 82, 78, 32]⟩ : ByteArray) ++ a0_1).data.toList))
  have m10 := m9.put (.int .i64 10) (.lit (.string ((⟨#[65, 85, 84, 72, 32, 67, 82, 65, 77, 45, 77, 68, 53]⟩ : ByteArray)).data.toList))
  unfold lineD headL
  rw [atputi m10, atputi m9, atputi m8, atputi m7, atputi m6, atputi m5, atputi m4, atputi m3, atputi m2, atputi m1, atputi m0]
  by_cases h0 : kind = 1
  · subst h0; simp [ByteArray.toList_data_append]
  by_cases h1 : kind = 2
  · subst h1; simp [ByteArray.toList_data_append]
  by_cases h2 : kind = 3
  · subst h2; simp [ByteArray.toList_data_append]
  by_cases h3 : kind = 4
  · subst h3; simp [ByteArray.toList_data_append]
  by_cases h4 : kind = 5
  · subst h4; simp [ByteArray.toList_data_append]
  by_cases h5 : kind = 6
  · subst h5; simp [ByteArray.toList_data_append]
  by_cases h6 : kind = 7
  · subst h6; simp [ByteArray.toList_data_append]
  by_cases h7 : kind = 8
  · subst h7; simp [ByteArray.toList_data_append]
  by_cases h8 : kind = 9
  · subst h8; simp [ByteArray.toList_data_append]
  by_cases h9 : kind = 10
  · subst h9; simp [ByteArray.toList_data_append]
  by_cases h10 : kind = 11
  · subst h10; simp [ByteArray.toList_data_append]
  simp only [h0, h1, h2, h3, h4, h5, h6, h7, h8, h9, h10, if_false]
  rfl
theorem sz2 {a b : ByteArray} (ha : a.size ≤ 100) (hb : b.size < 8589934592) : (a ++ b).size ≤ maxLen := by rw [ByteArray.size_append]; unfold maxLen; omega
theorem zero9 (w : World) : (zeroValue 9).run Tryd.prog w = .ok (.string ⟨#[]⟩) w := by kernel_rfl
theorem parL_length (p : S46) (h : p.f0.size < 2147483648 ∧ p.f1.size < 2147483648) : (parL p).length ≤ 8589934592 := by
  unfold parL
  simp only [List.length_append, List.length_cons, data_size]
  omega
theorem flat_length (l : List S46) (h : ∀ p ∈ l, p.f0.size < 2147483648 ∧ p.f1.size < 2147483648) : (l.flatMap parL).length ≤ l.length * 8589934592 := by
  induction l with
  | nil => simp
  | cons p l ih =>
    have h1 := parL_length p (h p (by simp))
    have h2 := ih (fun q hq => h q (by simp [hq]))
    rw [List.flatMap_cons, List.length_append, List.length_cons, Nat.succ_mul]
    omega
theorem headL_length (kind : Int) (t b : List UInt8) : (headL kind t b).length ≤ 20 + t.length + b.length := by
  unfold headL
  repeat' split
  all_goals simp
  all_goals omega
theorem bs_app (a b : List UInt8) : bs a ++ bs b = bs (a ++ b) := by
  rw [← bs_of (bs a ++ bs b), ByteArray.toList_data_append]; rfl
theorem par_bytes (s : List UInt8) (p : S46) : bs s ++ ((((⟨#[32]⟩ : ByteArray) ++ p.f0) ++ ⟨#[61]⟩) ++ p.f1) = bs (s ++ parL p) := by
  rw [← bs_app]
  congr 1
  rw [← bs_of (_ ++ _)]
  congr 1
  simp [parL, ByteArray.toList_data_append]
theorem take_flat (l : List S46) (k : Nat) (h : k < l.length) : (l.take (k + 1)).flatMap parL = (l.take k).flatMap parL ++ parL l[k] := by
  rw [List.take_succ_eq_append_getElem h, List.flatMap_append]; simp
theorem line_hd {D : DataW Unit} {k : Lit} {l : List UInt8} {hd : ByteArray} {ps : List MemPlace} (e1 : D.atKey k (.lit (.string [])) = .lit (.string l)) (h : ((D.atKey k (.lit (.string (⟨#[]⟩ : ByteArray).data.toList)), ps) : DataW Unit × List MemPlace) = (.lit (.string hd.data.toList), [])) : hd = bs l := by
  have e2 := (Prod.mk.inj h).1
  have e3 := e1.symm.trans e2
  injection e3 with e3
  injection e3 with e3
  rw [← bs_of hd, e3]
set_option maxHeartbeats 8000000 in
set_option maxRecDepth 100000 in
theorem line_walk (a0_0 : Int) (a0_1 : ByteArray) (a0_2 : Bool) (a0_3 a0_4 : ByteArray) (A0_5 : Option Addr) (c0_5 : Nat) (l0_5 : List S46) (tb : ByteArray) (te : Int) (w : World) (hG : Glob w) (hr0_5 : Kd.C k46 w A0_5 l0_5.length l0_5)
    (h1 : a0_1.size < 2147483648) (h2 : l0_5.length < 100000) (h3 : ∀ p ∈ l0_5, p.f0.size < 2147483648 ∧ p.f1.size < 2147483648) (h4 : (Lit.int .i64 a0_0).wf = true) (ht : path_Text.f a0_2 a0_3 a0_4 = some (tb, te)) (h5 : tb.size < 8589934592) :
    Calls Tryd.prog 14 #[.agg #[.int .i64 a0_0, .string a0_1, .bool a0_2, .string a0_3, .string a0_4, .slice A0_5 l0_5.length c0_5]] w fun e w' => e = .returned (.string (bs (lineL a0_0 a0_1.data.toList tb.data.toList l0_5))) ∧ Below w.heap.size w w' := by
  have hu := Tryd.underlying46
  have hu2 := Tryd.underlying26
  have hu3 := Tryd.underlying23
  have hmm := @run_makeMap Tryd.prog
  have K : Maps.Keyed Tryd.prog 3 := int_keyed Tryd.underlying3
  have HR := Aside0.mk hr0_5
  have HT := Aside0.mk (fun (W : World) (hg : Glob W) => path_Text.calls a0_2 a0_3 a0_4 tb te W hg ht)
  have HGG := Aside0.mk hG
  have H3 := Aside0.mk h3
  clear hr0_5 ht hG h3
  have HB0 := Aside0.mk ((Below.refl _ w).alloc (Nat.le_refl _) (.cells #[.int .i64 a0_0, .string a0_1, .bool a0_2, .string a0_3, .string a0_4, .slice A0_5 l0_5.length c0_5] 26))
  have HK0 := Aside0.mk (heap_alloc_new w (.cells #[.int .i64 a0_0, .string a0_1, .bool a0_2, .string a0_3, .string a0_4, .slice A0_5 l0_5.length c0_5] 26))
  go_enter Tryd.func14, Tryd.ntmps14
  go_wp2_with fail
  refine (HT.out _ (HGG.out.below HB0.out)).mono ?_
  rintro e w1 ⟨rfl, hb⟩
  have HB1 := Aside0.mk (below_step HB0.out hb)
  have hk1 := blk_grown HK0.out (grown_of_below hb none) (by simp)
  clear hb HB0 HK0 HT
  have hlt1 : w.heap.size < w1.heap.size := blk_lt hk1
  have hne : some w.heap.size ≠ some w1.heap.size := by simp; omega
  have o0 := World.ownsMap_made (H := Unit) w1 Tryd.prog 3 (plainElem Tryd.prog 9)
  have l0 := blk_alloc hk1 (.map #[] 0)
  have c0 := (blk_cell l0 1)
  obtain ⟨m1, r1, o1, g1⟩ := o0.update K Tryd.underlying61 (by decide) (key := .int .i64 1) (val := .string ((⟨#[69, 72, 76, 79, 32]⟩ : ByteArray) ++ a0_1)) (keyOf_int_mk Tryd.underlying3 (by decide)) (plainElem_string Tryd.underlying9 (sz2 (by decide) (by omega)))
  have l1 := blk_grown l0 g1 hne
  obtain ⟨m2, r2, o2, g2⟩ := o1.update K Tryd.underlying61 (by decide) (key := .int .i64 2) (val := .string ((⟨#[77, 65, 73, 76, 32, 70, 82, 79, 77, 58]⟩ : ByteArray) ++ tb)) (keyOf_int_mk Tryd.underlying3 (by decide)) (plainElem_string Tryd.underlying9 (sz2 (by decide) h5))
  have l2 := blk_grown l1 g2 hne
  obtain ⟨m3, r3, o3, g3⟩ := o2.update K Tryd.underlying61 (by decide) (key := .int .i64 3) (val := .string ((⟨#[82, 67, 80, 84, 32, 84, 79, 58]⟩ : ByteArray) ++ tb)) (keyOf_int_mk Tryd.underlying3 (by decide)) (plainElem_string Tryd.underlying9 (sz2 (by decide) h5))
  have l3 := blk_grown l2 g3 hne
  obtain ⟨m4, r4, o4, g4⟩ := o3.update K Tryd.underlying61 (by decide) (key := .int .i64 4) (val := .string ((⟨#[68, 65, 84, 65]⟩ : ByteArray))) (keyOf_int_mk Tryd.underlying3 (by decide)) (plainElem_string Tryd.underlying9 (by decide))
  have l4 := blk_grown l3 g4 hne
  obtain ⟨m5, r5, o5, g5⟩ := o4.update K Tryd.underlying61 (by decide) (key := .int .i64 5) (val := .string ((⟨#[82, 83, 69, 84]⟩ : ByteArray))) (keyOf_int_mk Tryd.underlying3 (by decide)) (plainElem_string Tryd.underlying9 (by decide))
  have l5 := blk_grown l4 g5 hne
  obtain ⟨m6, r6, o6, g6⟩ := o5.update K Tryd.underlying61 (by decide) (key := .int .i64 6) (val := .string ((⟨#[86, 82, 70, 89, 32]⟩ : ByteArray) ++ a0_1)) (keyOf_int_mk Tryd.underlying3 (by decide)) (plainElem_string Tryd.underlying9 (sz2 (by decide) (by omega)))
  have l6 := blk_grown l5 g6 hne
  obtain ⟨m7, r7, o7, g7⟩ := o6.update K Tryd.underlying61 (by decide) (key := .int .i64 7) (val := .string ((⟨#[78, 79, 79, 80]⟩ : ByteArray))) (keyOf_int_mk Tryd.underlying3 (by decide)) (plainElem_string Tryd.underlying9 (by decide))
  have l7 := blk_grown l6 g7 hne
  obtain ⟨m8, r8, o8, g8⟩ := o7.update K Tryd.underlying61 (by decide) (key := .int .i64 8) (val := .string ((⟨#[81, 85, 73, 84]⟩ : ByteArray))) (keyOf_int_mk Tryd.underlying3 (by decide)) (plainElem_string Tryd.underlying9 (by decide))
  have l8 := blk_grown l7 g8 hne
  obtain ⟨m9, r9, o9, g9⟩ := o8.update K Tryd.underlying61 (by decide) (key := .int .i64 9) (val := .string ((⟨#[69, 84, 82, 78, 32]⟩ : ByteArray) ++ a0_1)) (keyOf_int_mk Tryd.underlying3 (by decide)) (plainElem_string Tryd.underlying9 (sz2 (by decide) (by omega)))
  have l9 := blk_grown l8 g9 hne
  obtain ⟨m10, r10, o10, g10⟩ := o9.update K Tryd.underlying61 (by decide) (key := .int .i64 10) (val := .string ((⟨#[65, 85, 84, 72, 32, 67, 82, 65, 77, 45, 77, 68, 53]⟩ : ByteArray))) (keyOf_int_mk Tryd.underlying3 (by decide)) (plainElem_string Tryd.underlying9 (by decide))
  have l10 := blk_grown l9 g10 hne
  obtain ⟨m11, r11, o11, g11⟩ := o10.update K Tryd.underlying61 (by decide) (key := .int .i64 11) (val := .string ((⟨#[65, 84, 82, 78]⟩ : ByteArray))) (keyOf_int_mk Tryd.underlying3 (by decide)) (plainElem_string Tryd.underlying9 (by decide))
  have l11 := blk_grown l10 g11 hne
  have c5 := blk_cell l5 1
  have c8 := blk_cell l8 1
  have ck := blk_cell l11 0
  have ct := blk_cell l11 1
  have cs := blk_cell l11 5
  have oD : m11.ownsMap Tryd.prog 3 (plainElem Tryd.prog 9) w1.heap.size _ (lineD a0_1 tb) := o11
  obtain ⟨v, ps, hrun, hR⟩ := oD.lookup (z := .string ⟨#[]⟩) K Tryd.underlying61 (zero9 m11) (plainElem_string Tryd.underlying9 (by decide)) (key := .int .i64 a0_0) (keyOf_int_mk Tryd.underlying3 h4)
  obtain ⟨hd, rfl, hhd, _⟩ := plainElem_string_inv Tryd.underlying9 hR
  have hb : w.heap.size ≤ w1.heap.size := by omega
  have b0 : Below w.heap.size w (w1.alloc (.map #[] 0)) := HB1.out.alloc hb _
  have b1 := b0.grown g1 (by simp; omega) (by intro k hk; cases hk; exact hb)
  have b2 := b1.grown g2 b1.size (by intro k hk; cases hk; exact hb)
  have b3 := b2.grown g3 b2.size (by intro k hk; cases hk; exact hb)
  have b4 := b3.grown g4 b3.size (by intro k hk; cases hk; exact hb)
  have b5 := b4.grown g5 b4.size (by intro k hk; cases hk; exact hb)
  have b6 := b5.grown g6 b5.size (by intro k hk; cases hk; exact hb)
  have b7 := b6.grown g7 b6.size (by intro k hk; cases hk; exact hb)
  have b8 := b7.grown g8 b7.size (by intro k hk; cases hk; exact hb)
  have b9 := b8.grown g9 b8.size (by intro k hk; cases hk; exact hb)
  have b10 := b9.grown g10 b9.size (by intro k hk; cases hk; exact hb)
  have b11 := b10.grown g11 b10.size (by intro k hk; cases hk; exact hb)
  have HBM := Aside0.mk b11
  clear o0 o1 o2 o3 o4 o5 o6 o7 o8 o9 o10 o11 oD g1 g2 g3 g4 g5 g6 g7 g8 g9 g10 g11 l0 l1 l2 l3 l4 l5 l6 l7 l8 l9 l10 l11 b0 b1 b2 b3 b4 b5 b6 b7 b8 b9 b10 b11 hR hk1 HB1
  have HHD := Aside0.mk (line_hd (line_at a0_1 tb a0_0) hhd)
  clear hhd
  have e5 : 5 + a0_1.size ≤ 9223372036854775807 := by omega
  have e10 : 10 + tb.size ≤ 9223372036854775807 := by omega
  have e8 : 8 + tb.size ≤ 9223372036854775807 := by omega
  have hpl : hd.size ≤ 20000000000 := by
    rw [HHD.out, bs_size]
    have := headL_length a0_0 a0_1.data.toList tb.data.toList
    rw [data_size, data_size] at this
    omega
  have e11 : hd.size + (1 + a0_1.size) ≤ 9223372036854775807 := by omega
  have e1t : 1 + a0_1.size ≤ 9223372036854775807 := by omega
  clear K hb
  by_cases hk : a0_0 = 11 ∧ a0_1.data.toList ≠ []
  · obtain ⟨pre, hpre⟩ : ∃ pre, pre = headL a0_0 a0_1.data.toList tb.data.toList ++ (32 :: a0_1.data.toList) := ⟨_, rfl⟩
    have HPP := Aside0.mk (show pre ++ l0_5.flatMap parL = lineL a0_0 a0_1.data.toList tb.data.toList l0_5 by unfold lineL; rw [if_pos hk, hpre])
    have HS := Aside0.mk (show hd ++ ((⟨#[32]⟩ : ByteArray) ++ a0_1) = bs pre by rw [HHD.out, hpre, ← bs_app]; congr 1)
    have HPL := Aside0.mk (show pre.length ≤ 40000000000 by
      rw [hpre, List.length_append]
      have := headL_length a0_0 a0_1.data.toList tb.data.toList
      simp only [List.length_cons]
      rw [data_size, data_size] at *
      omega)
    have hk1 : (a0_0 == 11) = true := by simpa using hk.1
    have hne : a0_1.toList.isEmpty = false := by rw [toList_data]; simpa using hk.2
    clear hk hpre HHD
    go_wp2
    go_loopg [5, 48] l0_5.length (fun gg v5 v48 wr => ∃ k : Nat, k ≤ l0_5.length ∧ l0_5.length - k ≤ gg ∧ v48 = .int .i64 k ∧ v5 = .string (bs (pre ++ (l0_5.take k).flatMap parL)) ∧ Aside0 (Below w.heap.size w wr))
    case atStart => exact ⟨0, Nat.zero_le _, by omega, rfl, by rw [HS.out]; simp, HBM⟩
    case round =>
      obtain ⟨k, hk, hg, rfl, rfl, HB⟩ := hrel
      clear HBM
      by_cases hlt : k < l0_5.length
      · have hltz : (k : Int) < (l0_5.length : Int) := by omega
        obtain ⟨ad, ea, hx, hx2⟩ := at_T46 (Kd.C_below HR.out HB.out) (k : Int) (by omega) hltz
        cases ea
        rw [rdP_get hlt, Int.toNat_natCast] at hx hx2
        have hps := H3.out l0_5[k] (List.getElem_mem hlt)
        have hsz : (bs (pre ++ (l0_5.take k).flatMap parL)).size ≤ 1000000000000000 := by
          rw [bs_size, List.length_append]
          have := flat_length (l0_5.take k) (fun p hp => H3.out p (List.mem_of_mem_take hp))
          have hl2 : (l0_5.take k).length ≤ 100000 := by rw [List.length_take]; omega
          have hpre := HPL.out
          omega
        have HN := Aside0.mk (par_bytes (pre ++ (l0_5.take k).flatMap parL) l0_5[k])
        have HTK := Aside0.mk (take_flat l0_5 k hlt)
        generalize l0_5[k] = p at hx hx2 hps HN HTK
        generalize hS : bs (pre ++ (l0_5.take k).flatMap parL) = S at *
        have HSS := Aside0.mk hS
        clear hS
        obtain ⟨hp0, hp1⟩ := hps
        have n1 : 1 + p.f0.size ≤ 9223372036854775807 := by omega
        have n2 : 1 + p.f0.size + 1 ≤ 9223372036854775807 := by omega
        have n3 : 1 + p.f0.size + 1 + p.f1.size ≤ 9223372036854775807 := by omega
        have n4 : S.size + (1 + p.f0.size + 1 + p.f1.size) ≤ 9223372036854775807 := by omega
        go_wp2_with fail
        go_roundg (l0_5.length - (k + 1))
        case measure => omega
        case rel => exact ⟨k + 1, by omega, by omega, by go_num, by rw [HN.out, HTK.out, List.append_assoc], ⟨below_alloc HB.out _⟩⟩
      · have hltz : ¬ (k : Int) < (l0_5.length : Int) := by omega
        have HK := Aside0.mk (show l0_5.take k = l0_5 from List.take_of_length_le (by omega))
        rw [HK.out]
        go_wp2_with fail
        go_ret
        refine ⟨?_, HB.out⟩
        rw [← HPP.out]
        rfl
  · obtain ⟨pre, hpre⟩ : ∃ pre, pre = headL a0_0 a0_1.data.toList tb.data.toList := ⟨_, rfl⟩
    have HPP := Aside0.mk (show pre ++ l0_5.flatMap parL = lineL a0_0 a0_1.data.toList tb.data.toList l0_5 by unfold lineL; rw [if_neg hk, hpre, List.append_nil])
    have HS := Aside0.mk (show hd = bs pre by rw [HHD.out, hpre])
    have HPL := Aside0.mk (show pre.length ≤ 40000000000 by
      rw [hpre]
      have := headL_length a0_0 a0_1.data.toList tb.data.toList
      rw [data_size, data_size] at *
      omega)
    clear hpre HHD
    by_cases hk1 : a0_0 = 11
    · have hk2 : (a0_0 == 11) = true := by simpa using hk1
      have hne : a0_1.toList.isEmpty = true := by
        rw [toList_data]
        cases hu1 : a0_1.data.toList with
        | nil => rfl
        | cons _ _ => exact absurd ⟨hk1, by rw [hu1]; simp⟩ hk
      clear hk hk1
      go_wp2
      go_loopg [5, 48] l0_5.length (fun gg v5 v48 wr => ∃ k : Nat, k ≤ l0_5.length ∧ l0_5.length - k ≤ gg ∧ v48 = .int .i64 k ∧ v5 = .string (bs (pre ++ (l0_5.take k).flatMap parL)) ∧ Aside0 (Below w.heap.size w wr))
      case atStart => exact ⟨0, Nat.zero_le _, by omega, rfl, by rw [HS.out]; simp, HBM⟩
      case round =>
        obtain ⟨k, hk, hg, rfl, rfl, HB⟩ := hrel
        clear HBM
        by_cases hlt : k < l0_5.length
        · have hltz : (k : Int) < (l0_5.length : Int) := by omega
          obtain ⟨ad, ea, hx, hx2⟩ := at_T46 (Kd.C_below HR.out HB.out) (k : Int) (by omega) hltz
          cases ea
          rw [rdP_get hlt, Int.toNat_natCast] at hx hx2
          have hps := H3.out l0_5[k] (List.getElem_mem hlt)
          have hsz : (bs (pre ++ (l0_5.take k).flatMap parL)).size ≤ 1000000000000000 := by
            rw [bs_size, List.length_append]
            have := flat_length (l0_5.take k) (fun p hp => H3.out p (List.mem_of_mem_take hp))
            have hl2 : (l0_5.take k).length ≤ 100000 := by rw [List.length_take]; omega
            have hpre := HPL.out
            omega
          have HN := Aside0.mk (par_bytes (pre ++ (l0_5.take k).flatMap parL) l0_5[k])
          have HTK := Aside0.mk (take_flat l0_5 k hlt)
          generalize l0_5[k] = p at hx hx2 hps HN HTK
          generalize hS : bs (pre ++ (l0_5.take k).flatMap parL) = S at *
          have HSS := Aside0.mk hS
          clear hS
          obtain ⟨hp0, hp1⟩ := hps
          have n1 : 1 + p.f0.size ≤ 9223372036854775807 := by omega
          have n2 : 1 + p.f0.size + 1 ≤ 9223372036854775807 := by omega
          have n3 : 1 + p.f0.size + 1 + p.f1.size ≤ 9223372036854775807 := by omega
          have n4 : S.size + (1 + p.f0.size + 1 + p.f1.size) ≤ 9223372036854775807 := by omega
          go_wp2_with fail
          go_roundg (l0_5.length - (k + 1))
          case measure => omega
          case rel => exact ⟨k + 1, by omega, by omega, by go_num, by rw [HN.out, HTK.out, List.append_assoc], ⟨below_alloc HB.out _⟩⟩
        · have hltz : ¬ (k : Int) < (l0_5.length : Int) := by omega
          have HK := Aside0.mk (show l0_5.take k = l0_5 from List.take_of_length_le (by omega))
          rw [HK.out]
          go_wp2_with fail
          go_ret
          refine ⟨?_, HB.out⟩
          rw [← HPP.out]
          rfl
    · have hk2 : (a0_0 == 11) = false := by simpa using hk1
      clear hk hk1
      go_wp2
      go_loopg [5, 48] l0_5.length (fun gg v5 v48 wr => ∃ k : Nat, k ≤ l0_5.length ∧ l0_5.length - k ≤ gg ∧ v48 = .int .i64 k ∧ v5 = .string (bs (pre ++ (l0_5.take k).flatMap parL)) ∧ Aside0 (Below w.heap.size w wr))
      case atStart => exact ⟨0, Nat.zero_le _, by omega, rfl, by rw [HS.out]; simp, HBM⟩
      case round =>
        obtain ⟨k, hk, hg, rfl, rfl, HB⟩ := hrel
        clear HBM
        by_cases hlt : k < l0_5.length
        · have hltz : (k : Int) < (l0_5.length : Int) := by omega
          obtain ⟨ad, ea, hx, hx2⟩ := at_T46 (Kd.C_below HR.out HB.out) (k : Int) (by omega) hltz
          cases ea
          rw [rdP_get hlt, Int.toNat_natCast] at hx hx2
          have hps := H3.out l0_5[k] (List.getElem_mem hlt)
          have hsz : (bs (pre ++ (l0_5.take k).flatMap parL)).size ≤ 1000000000000000 := by
            rw [bs_size, List.length_append]
            have := flat_length (l0_5.take k) (fun p hp => H3.out p (List.mem_of_mem_take hp))
            have hl2 : (l0_5.take k).length ≤ 100000 := by rw [List.length_take]; omega
            have hpre := HPL.out
            omega
          have HN := Aside0.mk (par_bytes (pre ++ (l0_5.take k).flatMap parL) l0_5[k])
          have HTK := Aside0.mk (take_flat l0_5 k hlt)
          generalize l0_5[k] = p at hx hx2 hps HN HTK
          generalize hS : bs (pre ++ (l0_5.take k).flatMap parL) = S at *
          have HSS := Aside0.mk hS
          clear hS
          obtain ⟨hp0, hp1⟩ := hps
          have n1 : 1 + p.f0.size ≤ 9223372036854775807 := by omega
          have n2 : 1 + p.f0.size + 1 ≤ 9223372036854775807 := by omega
          have n3 : 1 + p.f0.size + 1 + p.f1.size ≤ 9223372036854775807 := by omega
          have n4 : S.size + (1 + p.f0.size + 1 + p.f1.size) ≤ 9223372036854775807 := by omega
          go_wp2_with fail
          go_roundg (l0_5.length - (k + 1))
          case measure => omega
          case rel => exact ⟨k + 1, by omega, by omega, by go_num, by rw [HN.out, HTK.out, List.append_assoc], ⟨below_alloc HB.out _⟩⟩
        · have hltz : ¬ (k : Int) < (l0_5.length : Int) := by omega
          have HK := Aside0.mk (show l0_5.take k = l0_5 from List.take_of_length_le (by omega))
          rw [HK.out]
          go_wp2_with fail
          go_ret
          refine ⟨?_, HB.out⟩
          rw [← HPP.out]
          rfl
theorem verb_line.calls (a0_0 : Int) (a0_1 : ByteArray) (a0_2 : Bool) (a0_3 a0_4 : ByteArray) (A0_5 : Option Addr) (c0_5 : Nat) (l0_5 : List S46) (r : ByteArray) (w : World) (hG : Glob w) (hr0_5 : Kd.C k46 w A0_5 l0_5.length l0_5) (hc0_5 : l0_5.length ≤ c0_5) (h : verb_line.f a0_0 a0_1 a0_2 a0_3 a0_4 l0_5 = some r) :
    Calls Tryd.prog 14 #[.agg #[.int .i64 a0_0, .string a0_1, .bool a0_2, .string a0_3, .string a0_4, .slice A0_5 l0_5.length c0_5]] w fun e w' => e = .returned (.string r) ∧ Below w.heap.size w w' := by
  unfold verb_line.f at h
  split at h
  · rename_i hs
    obtain ⟨⟨tb, te⟩, ht, h⟩ := Option.bind_eq_some_iff.mp h
    simp only at h
    split at h
    · rename_i h5
      simp only [Option.some.injEq] at h
      subst h
      exact line_walk a0_0 a0_1 a0_2 a0_3 a0_4 A0_5 c0_5 l0_5 tb te w hG hr0_5 hs.1 hs.2.1 hs.2.2.1 hs.2.2.2 ht h5
    · cases h
  · cases h
end Go.Proofs.YthcdjgekmfnmnaaDoor.PVerb
end
