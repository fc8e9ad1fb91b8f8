/- Parts of the proof, put together by program. -/
import Derived.Test.YthcdjgekmfnmnaaGreatDoorK1
import Derived.Test.YthcdjgekmfnmnaaGreatDoorProg
import Derived.Below
import Derived.Deep.Draws
import Derived.Deep.AppendLies
import Derived.Maps.AppendAt
import Derived.OwnWalk
import Derived.Laws.BytesArg
import Derived.Laws.MakeOwn
import Derived.Laws.OwnMore
import Derived.Deep.OwnRows
import Derived.Tactics
import Derived.Lib.ConvBytes
import Derived.Laws.Slices
import Derived.WalkKit
import Derived.KernelRfl
import Derived.RowKit3
import Derived.Deep.LoopGhost
import Derived.Deep.QuietTactic
import Derived.BigQuiet
import Derived.WideLaws
import Derived.Deep.DeepCutAuto
import Derived.Deep.CutBlock
import Derived.Deep.RegionHeld3
import Derived.Laws.Rows
import Derived.Lib.AppendStr
import Derived.ArgAppend
import Derived.Laws.IdiomCopy
import Derived.OrdersHeld
import Derived.Laws.BitsLemmas
import Derived.RowKit
import Derived.Carry
import Derived.Maps.Own
import Derived.Maps.OwnSet
import Derived.Maps.Views
import Derived.Maps.StringElems
import Derived.StringKeys
import Derived.Laws.EntriesVeiled
section
namespace Go.Proofs.YthcdjgekmfnmnaaGreatDoor.PVerb
open Go.RowKit Go.Proofs.YthcdjgekmfnmnaaGreatDoorW.PrintWords Go.Proofs.YthcdjgekmfnmnaaGreatDoorW.PrintLast Go.Proofs.YthcdjgekmfnmnaaGreatDoorW.PrintMore
attribute [local go_sem] max2_int min2_int max_two min_two max_three min_three max_four min_four
set_option linter.unusedVariables false
set_option linter.unusedSimpArgs false
def errW : Option Int → Value
 | none => .nilIface
 | some c => .iface 0 (.int .i64 c)
theorem errW_none : errW none = .nilIface := rfl
theorem errW_some (c : Int) : errW (some c) = .iface 0 (.int .i64 c) := rfl
theorem info9 : (Tryz.prog.info? 9).map (fun i => (i.zero, i.size, i.bytes)) = some (some (.string ⟨#[]⟩), 1, 16) := by kernel_rfl
structure S47 where
 f0 : ByteArray
 f1 : ByteArray
def z47 : S47 := ⟨(⟨#[]⟩ : ByteArray), (⟨#[]⟩ : ByteArray)⟩
def k47 : Kd S47 := Kd.iso (Kd.pair Kd.string Kd.string) (fun x : S47 => (x.f0, x.f1))
theorem k47_open {w : World} {x : S47} {cs : List Value} (h : k47.K w x cs) : cs = [.string x.f0, .string x.f1] := by
 obtain ⟨_, _, rfl, rfl, rfl⟩ := h
 exact rfl
theorem k47_mkM (w : World) (base : Nat) (ok : Nat → Prop) (x : S47)  : k47.M w base ok x [.string x.f0, .string x.f1] := ⟨[.string x.f0], [.string x.f1], rfl, rfl, rfl⟩
def rd_T47 (xs : List S47) (i : Int) : S47 := xs.getD i.toNat z47
theorem at_T47 {w : World} {A : Option Addr} {n : Nat} {xs : List S47} (h : Kd.C k47 w A n xs) (i : Int) (h0 : 0 ≤ i) (h1 : i < n) : ∃ ad , A = some ad ∧ w.cell? (ad.add (i.toNat * 2)) = some (.string (rd_T47 xs i).f0) ∧ w.cell? ⟨(ad.add (i.toNat * 2)).block, (ad.add (i.toNat * 2)).off + 1, none⟩ = some (.string (rd_T47 xs i).f1) := by
 obtain ⟨ad, c, e, _, hK, hc0⟩ := Kd.C_get h z47 i h0 h1
 have hc : ∀ j u, c[j]? = some u → w.cell? (ad.add (i.toNat * 2 + j)) = some u := hc0
 obtain rfl := k47_open hK
 exact ⟨ad, e, hc 0 _ rfl, by rw [← add_field _ _ 1 (by omega)]; exact hc 1 _ rfl⟩
structure S23 where
 f0 : Bool
 f1 : ByteArray
 f2 : ByteArray
structure S26 where
 f0 : Int
 f1 : ByteArray
 f2 : S23
 f3 : (List S47)
end Go.Proofs.YthcdjgekmfnmnaaGreatDoor.PVerb
end
section
namespace Go.Proofs.YthcdjgekmfnmnaaGreatDoor.PVerb
open Go.RowKit Go.Proofs.YthcdjgekmfnmnaaGreatDoorW.PrintWords Go.Proofs.YthcdjgekmfnmnaaGreatDoorW.PrintLast Go.Proofs.YthcdjgekmfnmnaaGreatDoorW.PrintMore
attribute [local go_sem] max2_int min2_int max_two min_two max_three min_three max_four min_four
set_option linter.unusedVariables false
set_option linter.unusedSimpArgs false
def strings_Cut.f (a0 a1 : ByteArray) : Option (ByteArray × ByteArray × Bool) :=
  if a0.size < 4294967281 then some (bs (Lib.cut a0.data.toList a1.data.toList).1, bs (Lib.cut a0.data.toList a1.data.toList).2.1, (Lib.cut a0.data.toList a1.data.toList).2.2) else none
theorem strings_Cut.calls (a0 a1 : ByteArray) (r1 r2 : ByteArray) (r3 : Bool) (w : World) (hG : Glob w) (h : strings_Cut.f a0 a1 = some (r1, r2, r3)) :
    Calls Tryz.prog 18 #[.string a0, .string a1] w fun e w' => e = .returned (.tuple #[.string r1, .string r2, .bool r3]) ∧ Below w.heap.size w w' := by
  unfold strings_Cut.f at h
  split at h
  · rename_i hs
    simp only [Option.some.injEq, Prod.mk.injEq] at h
    obtain ⟨rfl, rfl, rfl⟩ := h
    obtain ⟨m, hm⟩ := hG.ml
    refine (Tryz.strings_Cut a0 a1 m w hs hm).mono ?_
    rintro e w' ⟨rfl, n, rfl⟩
    exact ⟨rfl, pw_below_drewN (Below.refl _ _) n⟩
  · cases h
end Go.Proofs.YthcdjgekmfnmnaaGreatDoor.PVerb
end
section
namespace Go.Proofs.YthcdjgekmfnmnaaGreatDoor.PVerb
open Go.RowKit Go.Proofs.YthcdjgekmfnmnaaGreatDoorW.PrintWords Go.Proofs.YthcdjgekmfnmnaaGreatDoorW.PrintLast Go.Proofs.YthcdjgekmfnmnaaGreatDoorW.PrintMore
attribute [local go_sem] max2_int min2_int max_two min_two max_three min_three max_four min_four
set_option linter.unusedVariables false
set_option linter.unusedSimpArgs false
def foldAt (l : List UInt8) (k j : Nat) : Int := if j < k then ((foldC (l.getD j 0)).toNat : Int) else ((l.getD j 0).toNat : Int)
structure FoldRow (B : Nat) (l : List UInt8) (wr : World) (k : Nat) : Prop where
  cells : ∀ j, j < l.length → wr.cell? ⟨B, j, none⟩ = some (.int .u8 (foldAt l k j))
  free : ∀ j, j < l.length → wr.frozen? ⟨B, j, none⟩ = false
theorem foldAt_keep (l : List UInt8) (k j : Nat) (h : foldC (l.getD k 0) = l.getD k 0) : foldAt l (k + 1) j = foldAt l k j := by
  unfold foldAt
  by_cases h1 : j < k
  · rw [if_pos h1, if_pos (by omega)]
  · by_cases h2 : j = k
    · subst h2; rw [if_pos (by omega), if_neg h1, h]
    · rw [if_neg (by omega), if_neg h1]
theorem FoldRow.keep {B : Nat} {l : List UInt8} {wr : World} {k : Nat} (h : FoldRow B l wr k) (hc : foldC (l.getD k 0) = l.getD k 0) : FoldRow B l wr (k + 1) :=
  ⟨fun j hj => by rw [foldAt_keep l k j hc]; exact h.cells j hj, h.free⟩
theorem FoldRow.put {B : Nat} {l : List UInt8} {wr : World} {k : Nat} (h : FoldRow B l wr k) (hk : k < l.length) (x : Int) (hx : x = ((foldC (l.getD k 0)).toNat : Int)) :
    FoldRow B l (wr.setCell ⟨B, k, none⟩ (.int .u8 x)) (k + 1) := by
  refine ⟨fun j hj => ?_, fun j hj => ?_⟩
  · by_cases e : j = k
    · subst e
      rw [World.cell?_setCell_same _ _ _ (h.cells j hj)]
      unfold foldAt
      rw [if_pos (by omega), hx]
    · rw [World.cell?_setCell_other _ _ _ _ (by intro he; injection he with _ he; exact e he.symm)]
      rw [h.cells j hj]
      unfold foldAt
      by_cases h1 : j < k
      · rw [if_pos h1, if_pos (by omega)]
      · rw [if_neg h1, if_neg (by omega)]
  · rw [World.frozen?_setCell]; exact h.free j hj
set_option maxHeartbeats 1000000 in
set_option maxRecDepth 100000 in
theorem path_Fold.walk (a0 : ByteArray) (w : World) (hs : a0.size < 4294967281) :
    Calls Tryz.prog 19 #[.string a0] w fun e w' => e = .returned (.string (bs (foldL a0.data.toList))) ∧ Below w.heap.size w w' := by
  have kc := fun W => Lib.run_convert_string_bytes (P := Tryz.prog) W 9 62 5 a0 Tryz.underlying9 Tryz.underlying62 Tryz.underlying5
  have hsz : a0.data.toList.length = a0.size := data_size a0
  have HSZ := Lib.hid hsz; clear hsz
  have R0 : FoldRow w.heap.size a0.data.toList (Lib.bytesWorld w 5 a0) 0 := by
    refine ⟨fun j hj => ?_, fun j hj => ?_⟩
    · rw [Lib.bytesWorld_cell w 5 a0 j (by rw [← HSZ.out]; exact hj)]; rfl
    · have hb : j < a0.size := by rw [← HSZ.out]; exact hj
      simp only [World.frozen?, Lib.bytesWorld_at_new]
      have : a0.size ≤ (Lib.bytesCells w 5 a0).size := by simp [Lib.bytesCells]
      simp; omega
  have B0 : Below w.heap.size w (Lib.bytesWorld w 5 a0) := Lib.bytesWorld_below w 5 a0
  go_enter Tryz.func19, Tryz.ntmps19
  go_wp2
  go_loopw [4, 5, 10] (fun i c t wr => ∃ k : Nat, k ≤ a0.size ∧ t = .int .i64 k ∧ FoldRow w.heap.size a0.data.toList wr k ∧ Below w.heap.size w wr) (fun i c t wr => a0.size - (intOf t).toNat)
  case atStart => exact ⟨0, Nat.zero_le _, rfl, R0, B0⟩
  case round =>
    obtain ⟨k, hk, rfl, hR, hB⟩ := hrel
    by_cases hlt : k < a0.size
    · have hkl : k < a0.data.toList.length := by rw [HSZ.out]; exact hlt
      have hcell := hR.cells k hkl
      have hfree := hR.free k hkl
      have hx : foldAt a0.data.toList k k = ((a0.data.toList.getD k 0).toNat : Int) := by unfold foldAt; rw [if_neg (by omega)]
      have hb : (a0.data.toList.getD k 0).toNat < 256 := (a0.data.toList.getD k 0).toNat_lt
      rw [hx] at hcell
      clear hx
      by_cases hu : 65 ≤ (a0.data.toList.getD k 0).toNat ∧ (a0.data.toList.getD k 0).toNat ≤ 90
      · have hput := hR.put hkl (((a0.data.toList.getD k 0).toNat : Int) + 97 - 65) (by
          unfold foldC
          rw [if_pos (by simp only [UInt8.le_iff_toNat_le]; exact hu), UInt8.toNat_add]
          have : (32 : UInt8).toNat = 32 := rfl
          rw [this]; omega)
        have HP := Lib.hid hput; clear hput
        have HB2 := Lib.hid (hB.setCell (p := ⟨w.heap.size, k, none⟩) (Nat.le_refl _) (.int .u8 (((a0.data.toList.getD k 0).toNat : Int) + 97 - 65)))
        obtain ⟨hu1, hu2⟩ := hu
        generalize (a0.data.toList.getD k 0).toNat = x at *
        go_wp2
        go_roundw
        case rel => exact ⟨k + 1, by omega, by go_num, HP.out, HB2.out⟩
        case measure => simp [intOf]; omega
      · have hkeep := hR.keep (by unfold foldC; rw [if_neg (by simp only [UInt8.le_iff_toNat_le]; exact hu)])
        have HP := Lib.hid hkeep; clear hkeep
        by_cases hu1 : 65 ≤ (a0.data.toList.getD k 0).toNat
        all_goals
          generalize (a0.data.toList.getD k 0).toNat = x at *
          have hu2 : ¬ (65 ≤ (x : Int) ∧ (x : Int) ≤ 90) := by omega
          go_wp2
          all_goals first
            | (exfalso; omega)
            | (go_roundw
               case rel => exact ⟨k + 1, by omega, by go_num, HP.out, hB⟩
               case measure => simp [intOf]; omega)
    · have hk' : k = a0.size := by omega
      have hcv := run_convert_bytes_arg (P := Tryz.prog) wr 62 5 Tryz.underlying62 Tryz.underlying5 w.heap.size 0 a0.size (grownCap w a0.size 0 5) ((foldL a0.data.toList).map fun c => (c.toNat : Int)) (by simp [foldL]) (fun i hi => by
        have hil : i < a0.data.toList.length := by rw [HSZ.out]; exact hi
        rw [Nat.zero_add, hR.cells i hil]
        unfold foldAt
        rw [if_pos (by omega)]
        simp [foldL, List.getD_eq_getElem?_getD, List.getElem?_eq_getElem hil]) 9 Tryz.underlying9
      have hst : strOfNums ((foldL a0.data.toList).map fun c => (c.toNat : Int)) = bs (foldL a0.data.toList) := by
        unfold strOfNums bs
        congr 2
        rw [List.map_map]
        conv => rhs; rw [← List.map_id (foldL a0.data.toList)]
        apply List.map_congr_left
        intro c _
        simp
      rw [hst] at hcv
      clear hk' hst
      go_wp2
      go_ret
      exact ⟨rfl, hB⟩
def path_Fold.f (a0 : ByteArray) : Option ByteArray := if a0.size < 4294967281 then some (bs (foldL a0.data.toList)) else none
theorem path_Fold.calls (a0 : ByteArray) (r : ByteArray) (w : World) (h : path_Fold.f a0 = some r) :
    Calls Tryz.prog 19 #[.string a0] w fun e w' => e = .returned (.string r) ∧ Below w.heap.size w w' := by
  unfold path_Fold.f at h
  split at h
  · rename_i hs
    simp only [Option.some.injEq] at h
    subst h
    exact path_Fold.walk a0 w hs
  · cases h
end Go.Proofs.YthcdjgekmfnmnaaGreatDoor.PVerb
end
section
namespace Go.Proofs.YthcdjgekmfnmnaaGreatDoor.PVerb
open Go.RowKit Go.Proofs.YthcdjgekmfnmnaaGreatDoorW.PrintWords Go.Proofs.YthcdjgekmfnmnaaGreatDoorW.PrintLast Go.Proofs.YthcdjgekmfnmnaaGreatDoorW.PrintMore
attribute [local go_sem] max2_int min2_int max_two min_two max_three min_three max_four min_four
set_option linter.unusedVariables false
set_option linter.unusedSimpArgs false
def slices_Index_string_string.l0 : Nat → List ByteArray → ByteArray → Int → Int → Option (Int)
 | 0, _, _, _, _ => none
 | k + 1, x0, x1, x7, x8 => if x8 < x7 then (if 0 ≤ x8 then (if x8 < (x0.length : Int) then (if x1.toList = (rdOf ByteArray.empty x0 x8).toList then (some x8) else (slices_Index_string_string.l0 k x0 x1 x7 (wrap64 (x8 + 1)))) else (none)) else (none)) else (some (-1))
def slices_Index_string_string.f (k : Nat) (l0 : List ByteArray) (a1 : ByteArray) : Option (Int) := slices_Index_string_string.l0 k l0 a1 (l0.length : Int) 0
theorem slices_Index_string_string.mono_l : ∀ k, (∀ y0 y1 y2 y3, LeO (slices_Index_string_string.l0 k y0 y1 y2 y3) (slices_Index_string_string.l0 (k + 1) y0 y1 y2 y3))
 | 0 => fun _ _ _ _ r h => by simp [slices_Index_string_string.l0] at h
 | k + 1 => by
  have ih0 := slices_Index_string_string.mono_l k
  ·
   intro y0 y1 y2 y3
   unfold slices_Index_string_string.l0
   repeat' first
   | (with_reducible exact ih0 _ _ _ _)
   | (with_reducible exact LeO.refl _)
   | (with_reducible exact LeO.none _)
   | (with_reducible refine LeO.ite ?_ ?_)
   | (with_reducible refine LeO.bind ?_ (fun _ => ?_))
   | exact ih0 _ _ _ _
   | exact LeO.none _
   | refine LeO.ite ?_ ?_
   | refine LeO.bind ?_ (fun _ => ?_)
theorem slices_Index_string_string.mono : ∀ a0 a1 k, LeO (slices_Index_string_string.f k a0 a1) (slices_Index_string_string.f (k + 1) a0 a1) := by
 intro a0 a1 k
 have ih0 := slices_Index_string_string.mono_l k
 unfold slices_Index_string_string.f
 repeat' first
   | (with_reducible exact ih0 _ _ _ _)
   | (with_reducible exact LeO.refl _)
   | (with_reducible exact LeO.none _)
   | (with_reducible refine LeO.ite ?_ ?_)
   | (with_reducible refine LeO.bind ?_ (fun _ => ?_))
   | exact ih0 _ _ _ _
   | exact LeO.none _
   | refine LeO.ite ?_ ?_
   | refine LeO.bind ?_ (fun _ => ?_)
set_option maxHeartbeats 8000000 in
set_option maxRecDepth 100000 in
theorem slices_Index_string_string.calls (k : Nat) (A0 : Option Addr) (c0 : Nat) (l0 : List ByteArray) (a1 : ByteArray) (r : Int) (w : World) (hr0 : Kd.C Kd.string w A0 l0.length l0) (hc0 : l0.length ≤ c0) (h : slices_Index_string_string.f k l0 a1 = some r) :
  Calls Tryz.prog 38 #[.slice A0 l0.length c0, .string a1] w fun e w' => e = .returned (.int .i64 r) ∧ Drawn0 w w' := by
 have HR0 := Aside0.mk hr0
 have HC0 := Aside0.mk hc0
 clear hr0 hc0
 have H : (slices_Index_string_string.l0 k l0 a1 (l0.length : Int) 0) = some r := h
 clear h
 have H' := Aside0.mk H
 clear H
 go_enter Tryz.func38, Tryz.ntmps38
 go_wp2
 go_loopg [8] k (fun kq v8 w' => ∃ (x8_1 : Int), v8 = .int .i64 x8_1 ∧ Aside0 (slices_Index_string_string.l0 kq l0 a1 (l0.length : Int) x8_1 = some r) ∧ Aside0 (kq ≤ k) ∧ Drawn0 w w')
 case atStart => exact ⟨(0), (by first | rfl | (simp; done) | (simp [*]; done)), H', ⟨Nat.le_refl _⟩, by repeat (first | exact Drawn0.refl _ | apply Drawn0.step)⟩
 case round =>
  clear H'
  try clear p2
  obtain ⟨x8_1, rfl, HA, HK1, ⟨m1, rfl⟩⟩ := hrel
  cases gk with
  | zero => exact absurd HA.out (by simp [slices_Index_string_string.l0])
  | succ k1 =>
   have H := HA.out
   clear HA
   simp only [slices_Index_string_string.l0] at H
   by_cases c3 : x8_1 < (l0.length : Int)
   ·
    rw [if_pos c3] at H
    have c3b0 : decide (x8_1 < (l0.length : Int)) = true := decide_eq_true c3
    clear c3
    by_cases c4 : 0 ≤ x8_1
    ·
     rw [if_pos c4] at H
     have c4b0 : decide (0 ≤ x8_1) = true := decide_eq_true c4
     clear c4
     by_cases c5 : x8_1 < (l0.length : Int)
     ·
      rw [if_pos c5] at H
      have c5b0 : decide (x8_1 < (l0.length : Int)) = true := decide_eq_true c5
      clear c5
      by_cases c6 : a1.toList = (rdOf ByteArray.empty l0 x8_1).toList
      ·
       rw [if_pos c6] at H
       have c6b0 : (a1.toList == (rdOf ByteArray.empty l0 x8_1).toList) = true := beq_iff_eq.mpr c6
       have c6b1 : (a1.toList != (rdOf ByteArray.empty l0 x8_1).toList) = false := bne_eq_false_iff_eq.mpr c6
       clear c6
       obtain rfl := Option.some.inj H
       have p104 : 0 ≤ (x8_1 : Int) := of_decide_eq_true sA
       have q104 : x8_1 < (l0.length : Int) := of_decide_eq_true sA
       obtain ⟨ad104, e104, hx104_0⟩ := Kd.at_string HR0.out x8_1 p104 q104
       cases e104
       replace p104 := eq_true p104
       replace q104 := eq_true q104
       go_wp2
       go_ret
       exact ⟨by first | rfl | (simp; done) | (simp [*]; done), by repeat (first | exact Drawn0.refl _ | apply Drawn0.step)⟩
      ·
       rw [if_neg c6] at H
       have c6b0 : (a1.toList == (rdOf ByteArray.empty l0 x8_1).toList) = false := beq_eq_false_iff_ne.mpr c6
       have c6b1 : (a1.toList != (rdOf ByteArray.empty l0 x8_1).toList) = true := bne_iff_ne.mpr c6
       have H' := Aside0.mk H
       clear H
       have p104 : 0 ≤ (x8_1 : Int) := of_decide_eq_true sA
       have q104 : x8_1 < (l0.length : Int) := of_decide_eq_true sA
       obtain ⟨ad104, e104, hx104_0⟩ := Kd.at_string HR0.out x8_1 p104 q104
       cases e104
       replace p104 := eq_true p104
       replace q104 := eq_true q104
       go_wp2
       go_roundg k1
       case measure => have := HK1.out; omega
       case rel => exact ⟨(wrap64 (x8_1 + 1)), (by first | rfl | (simp; done) | (simp [*]; done)), H', ⟨by have := HK1.out; omega⟩, by repeat (first | exact Drawn0.refl _ | apply Drawn0.step)⟩
     ·
      rw [if_neg c5] at H
      exact absurd H (by simp)
    ·
     rw [if_neg c4] at H
     exact absurd H (by simp)
   ·
    rw [if_neg c3] at H
    have c3b0 : decide (x8_1 < (l0.length : Int)) = false := decide_eq_false c3
    clear c3
    obtain rfl := Option.some.inj H
    go_wp2
    go_ret
    exact ⟨by first | rfl | (simp; done) | (simp [*]; done), by repeat (first | exact Drawn0.refl _ | apply Drawn0.step)⟩
def slices_Contains_string_string.f (k : Nat) (l0 : List ByteArray) (a1 : ByteArray) : Option (Bool) := (slices_Index_string_string.f k l0 a1).bind fun t105 => (some (decide (t105 ≥ 0)))
theorem slices_Contains_string_string.mono : ∀ a0 a1 k, LeO (slices_Contains_string_string.f k a0 a1) (slices_Contains_string_string.f (k + 1) a0 a1) := by
 intro a0 a1 k
 unfold slices_Contains_string_string.f
 repeat' first
   | (with_reducible exact slices_Index_string_string.mono _ _ _)
   | (with_reducible exact LeO.refl _)
   | (with_reducible exact LeO.none _)
   | (with_reducible refine LeO.ite ?_ ?_)
   | (with_reducible refine LeO.bind ?_ (fun _ => ?_))
   | exact slices_Index_string_string.mono _ _ _
   | exact LeO.none _
   | refine LeO.ite ?_ ?_
   | refine LeO.bind ?_ (fun _ => ?_)
set_option maxHeartbeats 8000000 in
set_option maxRecDepth 100000 in
theorem slices_Contains_string_string.calls (k : Nat) (A0 : Option Addr) (c0 : Nat) (l0 : List ByteArray) (a1 : ByteArray) (r : Bool) (w : World) (hr0 : Kd.C Kd.string w A0 l0.length l0) (hc0 : l0.length ≤ c0) (h : slices_Contains_string_string.f k l0 a1 = some r) :
  Calls Tryz.prog 20 #[.slice A0 l0.length c0, .string a1] w fun e w' => e = .returned (.bool r) ∧ Drawn0 w w' := by
 have HR0 := Aside0.mk hr0
 have HC0 := Aside0.mk hc0
 clear hr0 hc0
 have H : ((slices_Index_string_string.f k l0 a1).bind fun t105 => (some (decide (t105 ≥ 0)))) = some r := h
 clear h
 replace H := Option.bind_eq_some_iff.mp H
 obtain ⟨t105, A30, H⟩ := H
 try dsimp -simprocs only at H
 have A3 := Aside0.mk A30
 clear A30
 obtain rfl := Option.some.inj H
 go_enter Tryz.func20, Tryz.ntmps20
 go_wp2_with (first | ((with_reducible refine gate_callee (f := 38) rfl ?_); refine goesL_ (some 7) rfl rfl Tryz.func38 (by kernel_rfl) rfl #[.slice A0 l0.length c0, .string a1] rfl sM ?_; (with_reducible refine (slices_Index_string_string.calls k _ _ l0 a1 t105 _ ?side1 ?side2 A3.out).mono ?_); (case side1 => repeat (first | exact HR0.out | (with_reducible refine Kd.C_alloc ?_ _) | (with_reducible refine Kd.C_drewN ?_ _) | (with_reducible refine Kd.C_drew ?_))); (case side2 => exact HC0.out); rintro e w' ⟨rfl, ⟨nd, rfl⟩⟩; refine ⟨_, rfl, ?_⟩))
 go_ret
 exact ⟨by first | rfl | (simp; done) | (simp [*]; done), by repeat (first | exact Drawn0.refl _ | apply Drawn0.step)⟩
end Go.Proofs.YthcdjgekmfnmnaaGreatDoor.PVerb
end
section
namespace Go.Proofs.YthcdjgekmfnmnaaGreatDoor.PVerb
open Go.RowKit Go.Proofs.YthcdjgekmfnmnaaGreatDoorW.PrintWords Go.Proofs.YthcdjgekmfnmnaaGreatDoorW.PrintLast Go.Proofs.YthcdjgekmfnmnaaGreatDoorW.PrintMore
attribute [local go_sem] max2_int min2_int max_two min_two max_three min_three max_four min_four
set_option linter.unusedVariables false
set_option linter.unusedSimpArgs false
theorem splitRow (w : World) (t : Nat) (r : List ByteArray) (n : Nat) (hn : n = r.length) (hm : n ≤ 9223372036854775807) :
    Kd.R Kd.string t (w.alloc (.cells (r.map Value.string).toArray t)) w.heap.size (fun _ => True) (.slice (some ⟨w.heap.size, 0, none⟩) n n) r := by
  subst hn
  exact Kd.R_of_own (enc := Value.string) (own_lit_of w w.heap.size t r (Nat.le_refl _) hm) (fun _ _ => trivial)
def strings_Split.f (a0 a1 : ByteArray) : Option (List ByteArray) :=
  if a0.size < 4294967281 ∧ a1.size = 1 then some ((pieces (a1.data.toList.headD 0) a0.data.toList).map bs) else none
theorem strings_Split.calls (a0 a1 : ByteArray) (r : List ByteArray) (w : World) (hG : Glob w) (h : strings_Split.f a0 a1 = some r) :
    Calls Tryz.prog 21 #[.string a0, .string a1] w fun e w' => ∃ v0_ : Value, e = .returned (v0_) ∧ Kd.R Kd.string 9 w' w.heap.size (fun _ => True) v0_ r ∧ Below w.heap.size w w' := by
  unfold strings_Split.f at h
  split at h
  · rename_i hs
    obtain ⟨hs, h1⟩ := hs
    have h2 := h1
    obtain ⟨c, rfl⟩ := Lib.one_byte a1 h2
    clear h2
    simp only [Option.some.injEq] at h
    have hp : Lib.splitB ⟨#[c]⟩ 0 (Lib.countB a0 ⟨#[c]⟩) a0 = r := by
      rw [← map_bs (Lib.splitB _ _ _ _), Lib.splitB_data, ← h]
      congr 1
      exact (congrArg (fun n => Lib.splitK [c] 0 n a0.data.toList) (Lib.count_one c a0.data.toList)).trans (split_pieces c a0.data.toList)
    have hl : r.length = Lib.countB a0 ⟨#[c]⟩ + 1 := by rw [← hp]; exact Lib.splitB_all _ (by show 1 ≤ 1; omega) 0 _ _ rfl
    have hcnt : Lib.countB a0 ⟨#[c]⟩ ≤ a0.size := Lib.countB_le _ (by show 1 ≤ 1; omega) a0.size a0 (Nat.le_refl _)
    obtain ⟨m, hm⟩ := hG.ml
    refine (Tryz.strings_Split a0 ⟨#[c]⟩ m w hs hm (by show 1 ≤ 1; omega)).mono ?_
    rintro e w' ⟨rfl, rfl⟩
    refine ⟨_, rfl, ?_, ((Below.refl _ _).alloc (Nat.le_refl _) _)⟩
    rw [hp]
    exact splitRow w 9 r _ hl.symm (by omega)
  · cases h
end Go.Proofs.YthcdjgekmfnmnaaGreatDoor.PVerb
end
section
namespace Go.Proofs.YthcdjgekmfnmnaaGreatDoor.PVerb
open Go.RowKit Go.Proofs.YthcdjgekmfnmnaaGreatDoorW.PrintWords Go.Proofs.YthcdjgekmfnmnaaGreatDoorW.PrintLast Go.Proofs.YthcdjgekmfnmnaaGreatDoorW.PrintMore
attribute [local go_sem] max2_int min2_int max_two min_two max_three min_three max_four min_four
set_option linter.unusedVariables false
set_option linter.unusedSimpArgs false
open Go.Maps (string_keyed)
open Go.WideMaps
def aloneD : DataW Unit := (DataW.put (DataW.put (DataW.put (DataW.put (DataW.put (DataW.put (.map [] : DataW Unit) (.string [100, 97, 116, 97]) (.lit (.int .i64 4))) (.string [114, 115, 101, 116]) (.lit (.int .i64 5))) (.string [113, 117, 105, 116]) (.lit (.int .i64 8))) (.string [110, 111, 111, 112]) (.lit (.int .i64 7))) (.string [97, 116, 114, 110]) (.lit (.int .i64 11))) (.string [97, 117, 116, 104, 32, 99, 114, 97, 109, 45, 109, 100, 53]) (.lit (.int .i64 10)))
theorem hasput {D : DataW Unit} {k : List UInt8} {v : Int} (hD : Maps.IsMap D) (l : List UInt8) : Maps.has (D.put (.string k) (.lit (.int .i64 v))) (.string l) = if l = k then true else Maps.has D (.string l) := by
  by_cases h : l = k
  · subst h; rw [if_pos rfl]; exact Maps.has_put_same hD (show WideAt.IsKeyLit (.string l) from trivial) _
  · rw [if_neg h]; exact Maps.has_put_other (by simpa using h) _
theorem atput {D : DataW Unit} {k : List UInt8} {v : Int} (hD : Maps.IsMap D) (l : List UInt8) (z : DataW Unit) : (D.put (.string k) (.lit (.int .i64 v))).atKey (.string l) z = if l = k then .lit (.int .i64 v) else D.atKey (.string l) z := by
  by_cases h : l = k
  · subst h; rw [if_pos rfl]; exact Maps.atKey_put_same hD (show WideAt.IsKeyLit (.string l) from trivial) _ _
  · rw [if_neg h]; exact Maps.atKey_put_other (by simpa using h) _ _
theorem alone_has (a : List UInt8) : Maps.has aloneD (.string (foldL a)) = (aloneL a).isSome ∧ aloneD.atKey (.string (foldL a)) (.lit (.int .i64 0)) = .lit (.int .i64 ((aloneL a).getD 0)) := by
  have m0 : Maps.IsMap (.map [] : DataW Unit) := Maps.isMap_empty
  have m1 := m0.put (.string [100, 97, 116, 97]) (.lit (.int .i64 4))
  have m2 := m1.put (.string [114, 115, 101, 116]) (.lit (.int .i64 5))
  have m3 := m2.put (.string [113, 117, 105, 116]) (.lit (.int .i64 8))
  have m4 := m3.put (.string [110, 111, 111, 112]) (.lit (.int .i64 7))
  have m5 := m4.put (.string [97, 116, 114, 110]) (.lit (.int .i64 11))
  unfold aloneD aloneL
  rw [hasput m5, hasput m4, hasput m3, hasput m2, hasput m1, hasput m0, atput m5, atput m4, atput m3, atput m2, atput m1, atput m0]
  generalize foldL a = f
  by_cases h0 : f = [100, 97, 116, 97]
  · subst h0; exact ⟨by decide, rfl⟩
  by_cases h1 : f = [114, 115, 101, 116]
  · subst h1; exact ⟨by decide, rfl⟩
  by_cases h2 : f = [113, 117, 105, 116]
  · subst h2; exact ⟨by decide, rfl⟩
  by_cases h3 : f = [110, 111, 111, 112]
  · subst h3; exact ⟨by decide, rfl⟩
  by_cases h4 : f = [97, 116, 114, 110]
  · subst h4; exact ⟨by decide, rfl⟩
  by_cases h5 : f = [97, 117, 116, 104, 32, 99, 114, 97, 109, 45, 109, 100, 53]
  · subst h5; exact ⟨by decide, rfl⟩
  simp only [h0, h1, h2, h3, h4, h5, if_false]
  exact ⟨rfl, rfl⟩
theorem zero3 (w : World) : (zeroValue 3).run Tryz.prog w = .ok (.int .i64 0) w := by kernel_rfl
set_option maxHeartbeats 1000000 in
set_option maxRecDepth 100000 in
theorem verb_alone.walk (a0 : ByteArray) (w : World) (hs : a0.size < 4294967281) (c0 : Int) (b : Bool) (hc0 : (aloneL a0.data.toList).getD 0 = c0) (hb0 : (aloneL a0.data.toList).isSome = b) :
    Calls Tryz.prog 40 #[.string a0] w fun e w' => e = .returned (.tuple #[.agg #[.int .i64 c0, .string (bs []), .bool false, .string (bs []), .string (bs []), .slice none 0 0], .bool b]) ∧ Below w.heap.size w w' := by
  have hmm := @run_makeMap Tryz.prog
  have K : Maps.Keyed Tryz.prog 9 := string_keyed Tryz.underlying9
  obtain ⟨W, hW⟩ : ∃ W, W = (w.alloc (.cells #[.int .i64 0, .string ⟨#[]⟩, .bool false, .string ⟨#[]⟩, .string ⟨#[]⟩, .slice none 0 0] 26)) := ⟨_, rfl⟩
  have hWs : W.heap.size = w.heap.size + 1 := by rw [hW]; simp
  have hWB : Below w.heap.size w W := by rw [hW]; exact (Below.refl _ w).alloc (Nat.le_refl _) _
  have o0 := World.ownsMap_made (H := Unit) W Tryz.prog 9 (plainElem Tryz.prog 3)
  rw [hWs] at o0
  obtain ⟨w1, r1, o1, g1⟩ := o0.update K Tryz.underlying79 (by decide) (key := .string ⟨#[100, 97, 116, 97]⟩) (val := .int .i64 4) (keyOf_string_mk Tryz.underlying9 (by decide)) (plainElem_int Tryz.underlying3 (by decide))
  obtain ⟨w2, r2, o2, g2⟩ := o1.update K Tryz.underlying79 (by decide) (key := .string ⟨#[114, 115, 101, 116]⟩) (val := .int .i64 5) (keyOf_string_mk Tryz.underlying9 (by decide)) (plainElem_int Tryz.underlying3 (by decide))
  obtain ⟨w3, r3, o3, g3⟩ := o2.update K Tryz.underlying79 (by decide) (key := .string ⟨#[113, 117, 105, 116]⟩) (val := .int .i64 8) (keyOf_string_mk Tryz.underlying9 (by decide)) (plainElem_int Tryz.underlying3 (by decide))
  obtain ⟨w4, r4, o4, g4⟩ := o3.update K Tryz.underlying79 (by decide) (key := .string ⟨#[110, 111, 111, 112]⟩) (val := .int .i64 7) (keyOf_string_mk Tryz.underlying9 (by decide)) (plainElem_int Tryz.underlying3 (by decide))
  obtain ⟨w5, r5, o5, g5⟩ := o4.update K Tryz.underlying79 (by decide) (key := .string ⟨#[97, 116, 114, 110]⟩) (val := .int .i64 11) (keyOf_string_mk Tryz.underlying9 (by decide)) (plainElem_int Tryz.underlying3 (by decide))
  obtain ⟨w6, r6, o6, g6⟩ := o5.update K Tryz.underlying79 (by decide) (key := .string ⟨#[97, 117, 116, 104, 32, 99, 114, 97, 109, 45, 109, 100, 53]⟩) (val := .int .i64 10) (keyOf_string_mk Tryz.underlying9 (by decide)) (plainElem_int Tryz.underlying3 (by decide))
  have hB6 : Below w.heap.size w w6 := by
    have hb : w.heap.size ≤ w.heap.size + 1 := by omega
    have b0 : Below w.heap.size w (W.alloc (.map #[] 0)) := hWB.alloc (by rw [hWs]; omega) _
    have b1 := b0.grown g1 (by simp; omega) (by intro k hk; cases hk; exact hb)
    have b2 := b1.grown g2 b1.size (by intro k hk; cases hk; exact hb)
    have b3 := b2.grown g3 b2.size (by intro k hk; cases hk; exact hb)
    have b4 := b3.grown g4 b3.size (by intro k hk; cases hk; exact hb)
    have b5 := b4.grown g5 b4.size (by intro k hk; cases hk; exact hb)
    exact b5.grown g6 b5.size (by intro k hk; cases hk; exact hb)
  have hM := o6
  have BK0 : W.heap[w.heap.size]? = some (.cells #[.int .i64 0, .string ⟨#[]⟩, .bool false, .string ⟨#[]⟩, .string ⟨#[]⟩, .slice none 0 0] 26 (0, 0)) := by rw [hW]; exact heap_alloc_new w _
  have BK6 : w6.heap[w.heap.size]? = some (.cells #[.int .i64 0, .string ⟨#[]⟩, .bool false, .string ⟨#[]⟩, .string ⟨#[]⟩, .slice none 0 0] 26 (0, 0)) := by
    have hne : some w.heap.size ≠ some (w.heap.size + 1) := by simp
    have l1 : (W.alloc (.map #[] 0)).heap[w.heap.size]? = some (.cells #[.int .i64 0, .string ⟨#[]⟩, .bool false, .string ⟨#[]⟩, .string ⟨#[]⟩, .slice none 0 0] 26 (0, 0)) := by
      refine blk_alloc BK0 _
    exact blk_grown (blk_grown (blk_grown (blk_grown (blk_grown (blk_grown l1 g1 hne) g2 hne) g3 hne) g4 hne) g5 hne) g6 hne
  have HF := Aside0.mk (path_Fold.walk a0 w6 hs)
  have HO := Aside0.mk (fun (w7 : World) (hb : Below w6.heap.size w6 w7) => (o6.kept (grown_of_below hb none) (by simp)).look_ok (z := .int .i64 0) K Tryz.underlying79 (zero3 w7) (plainElem_int Tryz.underlying3 (by decide))
    (key := .string (bs (foldL a0.data.toList))) (keyOf_string_mk Tryz.underlying9 (by rw [bs_size]; unfold maxLen; simp only [foldL, List.length_map]; rw [data_size]; omega)))
  have HAS := Aside0.mk (alone_has a0.data.toList)
  have hWh := Aside0.mk hW
  clear o0 o1 o2 o3 o4 o5 o6 g1 g2 g3 g4 g5 g6 hM BK0 hWs hWB
  have HBB := Aside0.mk hB6
  have HBK := Aside0.mk BK6
  clear hB6 BK6 hW
  generalize hfd : bs (foldL a0.data.toList) = fd at HF HO
  have HFD := Aside0.mk hfd
  clear hfd
  rw [hWh.out] at r1
  go_enter Tryz.func40, Tryz.ntmps40
  go_wp2_with fail
  refine HF.out.mono ?_
  rintro e w7 ⟨rfl, hb7⟩
  obtain ⟨v, ps, hrun, hR⟩ := HO.out w7 hb7
  have e1 : (bs (foldL a0.data.toList)).data.toList = fd.data.toList := by rw [HFD.out]
  obtain ⟨c, rfl, hc, _⟩ := plainElem_int_inv Tryz.underlying3 hR
  have hB7 := Aside0.mk (below_step HBB.out hb7)
  have BK7 := blk_grown HBK.out (grown_of_below hb7 none) (by simp)
  clear hb7 HF HO HBK HBB
  have hA := HAS.out
  rw [bs_data] at e1
  rw [e1] at hA
  rw [hc0, hb0] at hA
  have hh : Maps.has aloneD (.string fd.data.toList) = b := hA.1
  have hc2 : c = c0 := by
    have h3 := hA.2
    have h4 := (Prod.mk.inj hc).1
    unfold aloneD at h3
    rw [h3] at h4
    injection h4 with h4
    injection h4 with _ h4
    exact h4.symm
  unfold aloneD at hh
  rw [hh] at hrun
  subst hc2
  have z0 := blk_cell BK7 0
  have z1 := blk_cell BK7 1
  have z2 := blk_cell BK7 2
  have z3 := blk_cell BK7 3
  have z4 := blk_cell BK7 4
  have z5 := blk_cell BK7 5
  have f0 := blk_frozen BK7 0
  have f1 := blk_frozen BK7 1
  have f2 := blk_frozen BK7 2
  have f3 := blk_frozen BK7 3
  have f4 := blk_frozen BK7 4
  have f5 := blk_frozen BK7 5
  have HBK7 := Aside0.mk BK7
  clear BK7 hh hA e1 hc hR
  clear hc0 hb0 HAS HFD
  go_wp2
  refine bodyPost_ret (results_ct rfl _ _ w.heap.size 26 #[.int .i64 c, .string ⟨#[]⟩, .bool false, .string ⟨#[]⟩, .string ⟨#[]⟩, .slice none 0 0] (0, 0) _ rfl (by (with_reducible repeat (first | refine blk_drewN ?_ _ | refine blk_drew ?_ | refine blk_alloc ?_ _)); refine blk_put (cs := #[.int .i64 c, .string ⟨#[]⟩, .bool false, .string ⟨#[]⟩, .string ⟨#[]⟩, .slice none 0 0]) ?_ 5 _ rfl; (with_reducible repeat (first | refine blk_drewN ?_ _ | refine blk_drew ?_ | refine blk_alloc ?_ _)); refine blk_put (cs := #[.int .i64 c, .string ⟨#[]⟩, .bool false, .string ⟨#[]⟩, .string ⟨#[]⟩, .slice none 0 0]) ?_ 4 _ rfl; (with_reducible repeat (first | refine blk_drewN ?_ _ | refine blk_drew ?_ | refine blk_alloc ?_ _)); refine blk_put (cs := #[.int .i64 c, .string ⟨#[]⟩, .bool false, .string ⟨#[]⟩, .string ⟨#[]⟩, .slice none 0 0]) ?_ 3 _ rfl; (with_reducible repeat (first | refine blk_drewN ?_ _ | refine blk_drew ?_ | refine blk_alloc ?_ _)); refine blk_put (cs := #[.int .i64 c, .string ⟨#[]⟩, .bool false, .string ⟨#[]⟩, .string ⟨#[]⟩, .slice none 0 0]) ?_ 2 _ rfl; (with_reducible repeat (first | refine blk_drewN ?_ _ | refine blk_drew ?_ | refine blk_alloc ?_ _)); refine blk_put (cs := #[.int .i64 c, .string ⟨#[]⟩, .bool false, .string ⟨#[]⟩, .string ⟨#[]⟩, .slice none 0 0]) ?_ 1 _ rfl; (with_reducible repeat (first | refine blk_drewN ?_ _ | refine blk_drew ?_ | refine blk_alloc ?_ _)); refine blk_put (cs := #[.int .i64 0, .string ⟨#[]⟩, .bool false, .string ⟨#[]⟩, .string ⟨#[]⟩, .slice none 0 0]) ?_ 0 _ rfl; (with_reducible repeat (first | refine blk_drewN ?_ _ | refine blk_drew ?_ | refine blk_alloc ?_ _)); exact HBK7.out) Tryz.underlying26 rfl (by kernel_rfl)) rfl ?_
  refine ⟨rfl, ?_⟩
  repeat (refine below_set ?_ (Nat.le_refl _))
  exact hB7.out
def verb_alone.f (a0 : ByteArray) : Option (Int × ByteArray × Bool × ByteArray × ByteArray × List S47 × Bool) :=
  if a0.size < 4294967281 then some ((aloneL a0.data.toList).getD 0, bs [], false, bs [], bs [], [], (aloneL a0.data.toList).isSome) else none
theorem verb_alone.calls (a0 : ByteArray) (r1 : Int) (r2 : ByteArray) (r3 : Bool) (r4 r5 : ByteArray) (r6 : List S47) (r7 : Bool) (w : World) (h : verb_alone.f a0 = some (r1, r2, r3, r4, r5, r6, r7)) :
    Calls Tryz.prog 40 #[.string a0] w fun e w' => ∃ v5_ : Value, e = .returned (.tuple #[.agg #[.int .i64 r1, .string r2, .bool r3, .string r4, .string r5, v5_], .bool r7]) ∧ Kd.R k47 47 w' w.heap.size (fun _ => True) v5_ r6 ∧ Below w.heap.size w w' := by
  unfold verb_alone.f at h
  split at h
  · rename_i hs
    simp only [Option.some.injEq, Prod.mk.injEq] at h
    obtain ⟨rfl, rfl, rfl, rfl, rfl, rfl, rfl⟩ := h
    refine (verb_alone.walk a0 w hs _ _ rfl rfl).mono ?_
    rintro e w' ⟨rfl, hb⟩
    exact ⟨_, rfl, Kd.R_nil _ _ _ _ _, hb⟩
  · cases h
end Go.Proofs.YthcdjgekmfnmnaaGreatDoor.PVerb
end
section
namespace Go.Proofs.YthcdjgekmfnmnaaGreatDoor.PVerb
open Go.RowKit Go.Proofs.YthcdjgekmfnmnaaGreatDoorW.PrintWords Go.Proofs.YthcdjgekmfnmnaaGreatDoorW.PrintLast Go.Proofs.YthcdjgekmfnmnaaGreatDoorW.PrintMore
attribute [local go_sem] max2_int min2_int max_two min_two max_three min_three max_four min_four
set_option linter.unusedVariables false
set_option linter.unusedSimpArgs false
def path_plain.f (a0 : Int) : Option (Bool) := if a0 ≥ 97 then (if a0 ≤ 122 then (some true) else (if a0 ≥ 65 then (if a0 ≤ 90 then (some true) else (if a0 ≥ 48 then (some (decide (a0 ≤ 57))) else (some false))) else (if a0 ≥ 48 then (some (decide (a0 ≤ 57))) else (some false)))) else (if a0 ≥ 65 then (if a0 ≤ 90 then (some true) else (if a0 ≥ 48 then (some (decide (a0 ≤ 57))) else (some false))) else (if a0 ≥ 48 then (some (decide (a0 ≤ 57))) else (some false)))
set_option maxHeartbeats 8000000 in
set_option maxRecDepth 100000 in
theorem path_plain.calls (a0 : Int) (r : Bool) (w : World) (h : path_plain.f a0 = some r) :
  Calls Tryz.prog 84 #[.int .u8 a0] w fun e w' => e = .returned (.bool r) ∧ Drawn0 w w' := by
 have H : (if a0 ≥ 97 then (if a0 ≤ 122 then (some true) else (if a0 ≥ 65 then (if a0 ≤ 90 then (some true) else (if a0 ≥ 48 then (some (decide (a0 ≤ 57))) else (some false))) else (if a0 ≥ 48 then (some (decide (a0 ≤ 57))) else (some false)))) else (if a0 ≥ 65 then (if a0 ≤ 90 then (some true) else (if a0 ≥ 48 then (some (decide (a0 ≤ 57))) else (some false))) else (if a0 ≥ 48 then (some (decide (a0 ≤ 57))) else (some false)))) = some r := h
 clear h
 by_cases c2 : a0 ≥ 97
 ·
  rw [if_pos c2] at H
  have c2b0 : decide (97 ≤ a0) = true := decide_eq_true c2
  clear c2
  by_cases c3 : a0 ≤ 122
  ·
   rw [if_pos c3] at H
   have c3b0 : decide (a0 ≤ 122) = true := decide_eq_true c3
   clear c3
   obtain rfl := Option.some.inj H
   go_enter Tryz.func84, Tryz.ntmps84
   go_wp2
   go_ret
   exact ⟨by first | rfl | (simp; done) | (simp [*]; done), by repeat (first | exact Drawn0.refl _ | apply Drawn0.step)⟩
  ·
   rw [if_neg c3] at H
   have c3b0 : decide (a0 ≤ 122) = false := decide_eq_false c3
   clear c3
   by_cases c4 : a0 ≥ 65
   ·
    rw [if_pos c4] at H
    have c4b0 : decide (65 ≤ a0) = true := decide_eq_true c4
    clear c4
    by_cases c5 : a0 ≤ 90
    ·
     rw [if_pos c5] at H
     have c5b0 : decide (a0 ≤ 90) = true := decide_eq_true c5
     clear c5
     obtain rfl := Option.some.inj H
     go_enter Tryz.func84, Tryz.ntmps84
     go_wp2
     go_ret
     exact ⟨by first | rfl | (simp; done) | (simp [*]; done), by repeat (first | exact Drawn0.refl _ | apply Drawn0.step)⟩
    ·
     rw [if_neg c5] at H
     have c5b0 : decide (a0 ≤ 90) = false := decide_eq_false c5
     clear c5
     by_cases c6 : a0 ≥ 48
     ·
      rw [if_pos c6] at H
      have c6b0 : decide (48 ≤ a0) = true := decide_eq_true c6
      clear c6
      obtain rfl := Option.some.inj H
      go_enter Tryz.func84, Tryz.ntmps84
      go_wp2
      go_ret
      exact ⟨by first | rfl | (simp; done) | (simp [*]; done), by repeat (first | exact Drawn0.refl _ | apply Drawn0.step)⟩
     ·
      rw [if_neg c6] at H
      have c6b0 : decide (48 ≤ a0) = false := decide_eq_false c6
      clear c6
      obtain rfl := Option.some.inj H
      go_enter Tryz.func84, Tryz.ntmps84
      go_wp2
      go_ret
      exact ⟨by first | rfl | (simp; done) | (simp [*]; done), by repeat (first | exact Drawn0.refl _ | apply Drawn0.step)⟩
   ·
    rw [if_neg c4] at H
    have c4b0 : decide (65 ≤ a0) = false := decide_eq_false c4
    clear c4
    by_cases c7 : a0 ≥ 48
    ·
     rw [if_pos c7] at H
     have c7b0 : decide (48 ≤ a0) = true := decide_eq_true c7
     clear c7
     obtain rfl := Option.some.inj H
     go_enter Tryz.func84, Tryz.ntmps84
     go_wp2
     go_ret
     exact ⟨by first | rfl | (simp; done) | (simp [*]; done), by repeat (first | exact Drawn0.refl _ | apply Drawn0.step)⟩
    ·
     rw [if_neg c7] at H
     have c7b0 : decide (48 ≤ a0) = false := decide_eq_false c7
     clear c7
     obtain rfl := Option.some.inj H
     go_enter Tryz.func84, Tryz.ntmps84
     go_wp2
     go_ret
     exact ⟨by first | rfl | (simp; done) | (simp [*]; done), by repeat (first | exact Drawn0.refl _ | apply Drawn0.step)⟩
 ·
  rw [if_neg c2] at H
  have c2b0 : decide (97 ≤ a0) = false := decide_eq_false c2
  clear c2
  by_cases c8 : a0 ≥ 65
  ·
   rw [if_pos c8] at H
   have c8b0 : decide (65 ≤ a0) = true := decide_eq_true c8
   clear c8
   by_cases c9 : a0 ≤ 90
   ·
    rw [if_pos c9] at H
    have c9b0 : decide (a0 ≤ 90) = true := decide_eq_true c9
    clear c9
    obtain rfl := Option.some.inj H
    go_enter Tryz.func84, Tryz.ntmps84
    go_wp2
    go_ret
    exact ⟨by first | rfl | (simp; done) | (simp [*]; done), by repeat (first | exact Drawn0.refl _ | apply Drawn0.step)⟩
   ·
    rw [if_neg c9] at H
    have c9b0 : decide (a0 ≤ 90) = false := decide_eq_false c9
    clear c9
    by_cases c10 : a0 ≥ 48
    ·
     rw [if_pos c10] at H
     have c10b0 : decide (48 ≤ a0) = true := decide_eq_true c10
     clear c10
     obtain rfl := Option.some.inj H
     go_enter Tryz.func84, Tryz.ntmps84
     go_wp2
     go_ret
     exact ⟨by first | rfl | (simp; done) | (simp [*]; done), by repeat (first | exact Drawn0.refl _ | apply Drawn0.step)⟩
    ·
     rw [if_neg c10] at H
     have c10b0 : decide (48 ≤ a0) = false := decide_eq_false c10
     clear c10
     obtain rfl := Option.some.inj H
     go_enter Tryz.func84, Tryz.ntmps84
     go_wp2
     go_ret
     exact ⟨by first | rfl | (simp; done) | (simp [*]; done), by repeat (first | exact Drawn0.refl _ | apply Drawn0.step)⟩
  ·
   rw [if_neg c8] at H
   have c8b0 : decide (65 ≤ a0) = false := decide_eq_false c8
   clear c8
   by_cases c11 : a0 ≥ 48
   ·
    rw [if_pos c11] at H
    have c11b0 : decide (48 ≤ a0) = true := decide_eq_true c11
    clear c11
    obtain rfl := Option.some.inj H
    go_enter Tryz.func84, Tryz.ntmps84
    go_wp2
    go_ret
    exact ⟨by first | rfl | (simp; done) | (simp [*]; done), by repeat (first | exact Drawn0.refl _ | apply Drawn0.step)⟩
   ·
    rw [if_neg c11] at H
    have c11b0 : decide (48 ≤ a0) = false := decide_eq_false c11
    clear c11
    obtain rfl := Option.some.inj H
    go_enter Tryz.func84, Tryz.ntmps84
    go_wp2
    go_ret
    exact ⟨by first | rfl | (simp; done) | (simp [*]; done), by repeat (first | exact Drawn0.refl _ | apply Drawn0.step)⟩
def path_label.l0 : Nat → ByteArray → Int → Int → Option (Bool)
 | 0, _, _, _ => none
 | k + 1, x0, x5, x6 => if x6 < x5 then (if 0 ≤ x6 then (if x6 < (x0.size : Int) then ((path_plain.f (bt x0 x6)).bind fun t106 => (if t106 = true then (path_label.l0 k x0 x5 (wrap64 (x6 + 1))) else (if (bt x0 x6) = 45 then (path_label.l0 k x0 x5 (wrap64 (x6 + 1))) else (some false)))) else (none)) else (none)) else (if x0.toList = ([] : List UInt8) then (some false) else (if (x0.size : Int) ≤ 63 then (if 0 < (x0.size : Int) then (if (bt x0 0) = 45 then (some false) else (if 0 ≤ (wrap64 ((x0.size : Int) - 1)) then (if (wrap64 ((x0.size : Int) - 1)) < (x0.size : Int) then (some ((bt x0 (wrap64 ((x0.size : Int) - 1))) != 45)) else (none)) else (none))) else (none)) else (some false)))
def path_label.f (k : Nat) (a0 : ByteArray) : Option (Bool) := path_label.l0 k a0 (a0.size : Int) 0
set_option maxHeartbeats 8000000 in
set_option maxRecDepth 100000 in
theorem path_label.calls (k : Nat) (a0 : ByteArray) (r : Bool) (w : World) (h : path_label.f k a0 = some r) :
  Calls Tryz.prog 70 #[.string a0] w fun e w' => e = .returned (.bool r) ∧ Drawn0 w w' := by
 have H : (path_label.l0 k a0 (a0.size : Int) 0) = some r := h
 clear h
 have H' := Aside0.mk H
 clear H
 go_enter Tryz.func70, Tryz.ntmps70
 go_wp2
 go_loopg [6] k (fun kq v6 w' => ∃ (x6_1 : Int), v6 = .int .i64 x6_1 ∧ Aside0 (path_label.l0 kq a0 (a0.size : Int) x6_1 = some r) ∧ Aside0 (kq ≤ k) ∧ Drawn0 w w')
 case atStart => exact ⟨(0), (by first | rfl | (simp; done) | (simp [*]; done)), H', ⟨Nat.le_refl _⟩, by repeat (first | exact Drawn0.refl _ | apply Drawn0.step)⟩
 case round =>
  clear H'
  obtain ⟨x6_1, rfl, HA, HK1, ⟨m1, rfl⟩⟩ := hrel
  cases gk with
  | zero => exact absurd HA.out (by simp [path_label.l0])
  | succ k1 =>
   have H := HA.out
   clear HA
   simp only [path_label.l0] at H
   by_cases c2 : x6_1 < (a0.size : Int)
   ·
    rw [if_pos c2] at H
    have c2b0 : decide (x6_1 < (a0.size : Int)) = true := decide_eq_true c2
    clear c2
    by_cases c3 : 0 ≤ x6_1
    ·
     rw [if_pos c3] at H
     have c3b0 : decide (0 ≤ x6_1) = true := decide_eq_true c3
     clear c3
     by_cases c4 : x6_1 < (a0.size : Int)
     ·
      rw [if_pos c4] at H
      have c4b0 : decide (x6_1 < (a0.size : Int)) = true := decide_eq_true c4
      clear c4
      replace H := Option.bind_eq_some_iff.mp H
      obtain ⟨t106, A60, H⟩ := H
      try dsimp -simprocs only at H
      have A6 := Aside0.mk A60
      clear A60
      by_cases c7 : t106 = true
      ·
       subst c7
       rw [if_pos rfl] at H
       try dsimp -simprocs only at H
       have H' := Aside0.mk H
       clear H
       have p5 : 0 ≤ (x6_1 : Int) := of_decide_eq_true sA
       have q5 : x6_1 < (a0.size : Int) := of_decide_eq_true sA
       have hx5 := bt_at a0 x6_1
       replace p5 := eq_true p5
       replace q5 := eq_true q5
       go_wp2_with (first | ((with_reducible refine gate_callee (f := 84) rfl ?_); refine goesL_ (some 12) rfl rfl Tryz.func84 (by kernel_rfl) rfl #[.int .u8 (bt a0 x6_1)] rfl sM ?_; (with_reducible refine (path_plain.calls (bt a0 x6_1) true _ A6.out).mono ?_); rintro e w' ⟨rfl, ⟨nd, rfl⟩⟩; refine ⟨_, rfl, ?_⟩))
       go_roundg k1
       case measure => have := HK1.out; omega
       case rel => exact ⟨(wrap64 (x6_1 + 1)), (by first | rfl | (simp; done) | (simp [*]; done)), H', ⟨by have := HK1.out; omega⟩, by repeat (first | exact Drawn0.refl _ | apply Drawn0.step)⟩
      ·
       replace c7 := Bool.eq_false_iff.mpr c7
       subst c7
       rw [if_neg (show ¬ (false = true) by decide)] at H
       try dsimp -simprocs only at H
       by_cases c9 : (bt a0 x6_1) = 45
       ·
        rw [if_pos c9] at H
        have c9b0 : ((bt a0 x6_1) == 45) = true := beq_iff_eq.mpr c9
        have c9b1 : ((bt a0 x6_1) != 45) = false := bne_eq_false_iff_eq.mpr c9
        clear c9
        have H' := Aside0.mk H
        clear H
        have p5 : 0 ≤ (x6_1 : Int) := of_decide_eq_true sA
        have q5 : x6_1 < (a0.size : Int) := of_decide_eq_true sA
        have hx5 := bt_at a0 x6_1
        replace p5 := eq_true p5
        replace q5 := eq_true q5
        go_wp2_with (first | ((with_reducible refine gate_callee (f := 84) rfl ?_); refine goesL_ (some 12) rfl rfl Tryz.func84 (by kernel_rfl) rfl #[.int .u8 (bt a0 x6_1)] rfl sM ?_; (with_reducible refine (path_plain.calls (bt a0 x6_1) false _ A6.out).mono ?_); rintro e w' ⟨rfl, ⟨nd, rfl⟩⟩; refine ⟨_, rfl, ?_⟩; have p8 : 0 ≤ (x6_1 : Int) := of_decide_eq_true sA; have q8 : x6_1 < (a0.size : Int) := of_decide_eq_true sA; have hx8 := bt_at a0 x6_1; replace p8 := eq_true p8; replace q8 := eq_true q8))
        go_roundg k1
        case measure => have := HK1.out; omega
        case rel => exact ⟨(wrap64 (x6_1 + 1)), (by first | rfl | (simp; done) | (simp [*]; done)), H', ⟨by have := HK1.out; omega⟩, by repeat (first | exact Drawn0.refl _ | apply Drawn0.step)⟩
       ·
        rw [if_neg c9] at H
        have c9b0 : ((bt a0 x6_1) == 45) = false := beq_eq_false_iff_ne.mpr c9
        have c9b1 : ((bt a0 x6_1) != 45) = true := bne_iff_ne.mpr c9
        obtain rfl := Option.some.inj H
        have p5 : 0 ≤ (x6_1 : Int) := of_decide_eq_true sA
        have q5 : x6_1 < (a0.size : Int) := of_decide_eq_true sA
        have hx5 := bt_at a0 x6_1
        replace p5 := eq_true p5
        replace q5 := eq_true q5
        go_wp2_with (first | ((with_reducible refine gate_callee (f := 84) rfl ?_); refine goesL_ (some 12) rfl rfl Tryz.func84 (by kernel_rfl) rfl #[.int .u8 (bt a0 x6_1)] rfl sM ?_; (with_reducible refine (path_plain.calls (bt a0 x6_1) false _ A6.out).mono ?_); rintro e w' ⟨rfl, ⟨nd, rfl⟩⟩; refine ⟨_, rfl, ?_⟩; have p8 : 0 ≤ (x6_1 : Int) := of_decide_eq_true sA; have q8 : x6_1 < (a0.size : Int) := of_decide_eq_true sA; have hx8 := bt_at a0 x6_1; replace p8 := eq_true p8; replace q8 := eq_true q8))
        go_ret
        exact ⟨by first | rfl | (simp; done) | (simp [*]; done), by repeat (first | exact Drawn0.refl _ | apply Drawn0.step)⟩
     ·
      rw [if_neg c4] at H
      exact absurd H (by simp)
    ·
     rw [if_neg c3] at H
     exact absurd H (by simp)
   ·
    rw [if_neg c2] at H
    have c2b0 : decide (x6_1 < (a0.size : Int)) = false := decide_eq_false c2
    clear c2
    by_cases c10 : a0.toList = ([] : List UInt8)
    ·
     rw [if_pos c10] at H
     have c10b0 : (a0.toList == ([] : List UInt8)) = true := beq_iff_eq.mpr c10
     have c10b1 : (a0.toList != ([] : List UInt8)) = false := bne_eq_false_iff_eq.mpr c10
     clear c10
     obtain rfl := Option.some.inj H
     go_wp2
     go_ret
     exact ⟨by first | rfl | (simp; done) | (simp [*]; done), by repeat (first | exact Drawn0.refl _ | apply Drawn0.step)⟩
    ·
     rw [if_neg c10] at H
     have c10b0 : (a0.toList == ([] : List UInt8)) = false := beq_eq_false_iff_ne.mpr c10
     have c10b1 : (a0.toList != ([] : List UInt8)) = true := bne_iff_ne.mpr c10
     by_cases c11 : (a0.size : Int) ≤ 63
     ·
      rw [if_pos c11] at H
      have c11b0 : decide ((a0.size : Int) ≤ 63) = true := decide_eq_true c11
      have c11b1 : decide (a0.size ≤ 63) = true := decide_eq_true (by omega)
      clear c11
      by_cases c12 : 0 < (a0.size : Int)
      ·
       rw [if_pos c12] at H
       have c12b0 : decide (0 < (a0.size : Int)) = true := decide_eq_true c12
       have c12b1 : decide (0 < a0.size) = true := decide_eq_true (by omega)
       clear c12
       by_cases c14 : (bt a0 0) = 45
       ·
        rw [if_pos c14] at H
        have c14b0 : ((bt a0 0) == 45) = true := beq_iff_eq.mpr c14
        have c14b1 : ((bt a0 0) != 45) = false := bne_eq_false_iff_eq.mpr c14
        clear c14
        obtain rfl := Option.some.inj H
        have p13 : 0 ≤ (0 : Int) := (by omega)
        have q13 : 0 < a0.size := (by have : (0 : Int) < (a0.size : Int) := of_decide_eq_true sA; omega)
        have hx13 : ∀ h : 0 < a0.size, ((a0[0]'h).toNat : Int) = bt a0 0 := bt_at a0 0
        clear p13
        have qi13 : (0 < (a0.size : Int)) = True := eq_true (of_decide_eq_true sA)
        replace q13 := eq_true q13
        go_wp2
        go_ret
        exact ⟨by first | rfl | (simp; done) | (simp [*]; done), by repeat (first | exact Drawn0.refl _ | apply Drawn0.step)⟩
       ·
        rw [if_neg c14] at H
        have c14b0 : ((bt a0 0) == 45) = false := beq_eq_false_iff_ne.mpr c14
        have c14b1 : ((bt a0 0) != 45) = true := bne_iff_ne.mpr c14
        obtain ⟨ji15, hji15⟩ : ∃ j_ : Int, (wrap64 ((a0.size : Int) - 1)) = j_ := ⟨_, rfl⟩
        replace H : (if 0 ≤ (ji15) then (if (ji15) < (a0.size : Int) then (some ((bt a0 (ji15)) != 45)) else (none)) else (none)) = some r := by first | (rw [hji15] at H; exact H) | (simp only [hji15] at H ⊢; exact H)
        have hji15w : (IntKind.i64.wrap ((a0.size : Int) - 1)) = ji15 := (i64_w _).trans hji15
        by_cases c16 : 0 ≤ (ji15)
        ·
         rw [if_pos c16] at H
         have c16b0 : decide (0 ≤ (ji15)) = true := decide_eq_true c16
         clear c16
         by_cases c17 : (ji15) < (a0.size : Int)
         ·
          rw [if_pos c17] at H
          have c17b0 : decide ((ji15) < (a0.size : Int)) = true := decide_eq_true c17
          clear c17
          obtain rfl := Option.some.inj H
          have p13 : 0 ≤ (0 : Int) := (by omega)
          have q13 : 0 < a0.size := (by have : (0 : Int) < (a0.size : Int) := of_decide_eq_true sA; omega)
          have hx13 : ∀ h : 0 < a0.size, ((a0[0]'h).toNat : Int) = bt a0 0 := bt_at a0 0
          clear p13
          have qi13 : (0 < (a0.size : Int)) = True := eq_true (of_decide_eq_true sA)
          replace q13 := eq_true q13
          have p18 : 0 ≤ ((ji15) : Int) := of_decide_eq_true sA
          have q18 : (ji15) < (a0.size : Int) := of_decide_eq_true sA
          have hx18 := bt_at a0 (ji15)
          replace p18 := eq_true p18
          replace q18 := eq_true q18
          go_wp2
          go_ret
          exact ⟨by first | rfl | (simp; done) | (simp only [← hji15] <;> (first | rfl | simp)) | (simp [*]; done), by repeat (first | exact Drawn0.refl _ | apply Drawn0.step)⟩
         ·
          rw [if_neg c17] at H
          exact absurd H (by simp)
        ·
         rw [if_neg c16] at H
         exact absurd H (by simp)
      ·
       rw [if_neg c12] at H
       exact absurd H (by simp)
     ·
      rw [if_neg c11] at H
      have c11b0 : decide ((a0.size : Int) ≤ 63) = false := decide_eq_false c11
      have c11b1 : decide (a0.size ≤ 63) = false := decide_eq_false (by omega)
      clear c11
      obtain rfl := Option.some.inj H
      go_wp2
      go_ret
      exact ⟨by first | rfl | (simp; done) | (simp [*]; done), by repeat (first | exact Drawn0.refl _ | apply Drawn0.step)⟩
end Go.Proofs.YthcdjgekmfnmnaaGreatDoor.PVerb
end
section
namespace Go.Proofs.YthcdjgekmfnmnaaGreatDoor.PVerb
open Go.RowKit Go.Proofs.YthcdjgekmfnmnaaGreatDoorW.PrintWords Go.Proofs.YthcdjgekmfnmnaaGreatDoorW.PrintLast Go.Proofs.YthcdjgekmfnmnaaGreatDoorW.PrintMore
attribute [local go_sem] max2_int min2_int max_two min_two max_three min_three max_four min_four
set_option linter.unusedVariables false
set_option linter.unusedSimpArgs false
def strings_IndexByte.f (a0 : ByteArray) (a1 : Int) : Option Int := some (Lib.indexByte a0.data.toList a1.toNat.toUInt8)
theorem strings_IndexByte.calls (a0 : ByteArray) (a1 : Int) (r : Int) (w : World) (h : strings_IndexByte.f a0 a1 = some r) :
    Calls Tryz.prog 90 #[.string a0, .int .u8 a1] w fun e w' => e = .returned (.int .i64 r) ∧ Drawn0 w w' := by
  unfold strings_IndexByte.f at h
  simp only [Option.some.injEq] at h
  subst h
  refine (Tryz.strings_IndexByte a0 a1 w).mono ?_
  rintro e w' ⟨rfl, rfl⟩
  exact ⟨rfl, Drawn0.refl _⟩
end Go.Proofs.YthcdjgekmfnmnaaGreatDoor.PVerb
end
section
namespace Go.Proofs.YthcdjgekmfnmnaaGreatDoor.PVerb
open Go.RowKit Go.Proofs.YthcdjgekmfnmnaaGreatDoorW.PrintWords Go.Proofs.YthcdjgekmfnmnaaGreatDoorW.PrintLast Go.Proofs.YthcdjgekmfnmnaaGreatDoorW.PrintMore
attribute [local go_sem] max2_int min2_int max_two min_two max_three min_three max_four min_four
set_option linter.unusedVariables false
set_option linter.unusedSimpArgs false
def path_atom.l0 : Nat → ByteArray → Int → Int → Option (Bool)
 | 0, _, _, _ => none
 | k + 1, x0, x5, x6 => if x6 < x5 then (if 0 ≤ x6 then (if x6 < (x0.size : Int) then ((path_plain.f (bt x0 x6)).bind fun t107 => (if t107 = true then (path_atom.l0 k x0 x5 (wrap64 (x6 + 1))) else ((strings_IndexByte.f (⟨#[33, 35, 36, 37, 38, 39, 42, 43, 45, 47, 61, 63, 94, 95, 96, 123, 124, 125, 126]⟩ : ByteArray) (bt x0 x6)).bind fun t108 => (if t108 < 0 then (some false) else (path_atom.l0 k x0 x5 (wrap64 (x6 + 1))))))) else (none)) else (none)) else (some (!x0.toList.isEmpty))
def path_atom.f (k : Nat) (a0 : ByteArray) : Option (Bool) := path_atom.l0 k a0 (a0.size : Int) 0
set_option maxHeartbeats 8000000 in
set_option maxRecDepth 100000 in
theorem path_atom.calls (k : Nat) (a0 : ByteArray) (r : Bool) (w : World) (h : path_atom.f k a0 = some r) :
  Calls Tryz.prog 78 #[.string a0] w fun e w' => e = .returned (.bool r) ∧ Drawn0 w w' := by
 have H : (path_atom.l0 k a0 (a0.size : Int) 0) = some r := h
 clear h
 have H' := Aside0.mk H
 clear H
 go_enter Tryz.func78, Tryz.ntmps78
 go_wp2
 go_loopg [6] k (fun kq v6 w' => ∃ (x6_1 : Int), v6 = .int .i64 x6_1 ∧ Aside0 (path_atom.l0 kq a0 (a0.size : Int) x6_1 = some r) ∧ Aside0 (kq ≤ k) ∧ Drawn0 w w')
 case atStart => exact ⟨(0), (by first | rfl | (simp; done) | (simp [*]; done)), H', ⟨Nat.le_refl _⟩, by repeat (first | exact Drawn0.refl _ | apply Drawn0.step)⟩
 case round =>
  clear H'
  obtain ⟨x6_1, rfl, HA, HK1, ⟨m1, rfl⟩⟩ := hrel
  cases gk with
  | zero => exact absurd HA.out (by simp [path_atom.l0])
  | succ k1 =>
   have H := HA.out
   clear HA
   simp only [path_atom.l0] at H
   by_cases c2 : x6_1 < (a0.size : Int)
   ·
    rw [if_pos c2] at H
    have c2b0 : decide (x6_1 < (a0.size : Int)) = true := decide_eq_true c2
    clear c2
    by_cases c3 : 0 ≤ x6_1
    ·
     rw [if_pos c3] at H
     have c3b0 : decide (0 ≤ x6_1) = true := decide_eq_true c3
     clear c3
     by_cases c4 : x6_1 < (a0.size : Int)
     ·
      rw [if_pos c4] at H
      have c4b0 : decide (x6_1 < (a0.size : Int)) = true := decide_eq_true c4
      clear c4
      replace H := Option.bind_eq_some_iff.mp H
      obtain ⟨t107, A60, H⟩ := H
      try dsimp -simprocs only at H
      have A6 := Aside0.mk A60
      clear A60
      by_cases c7 : t107 = true
      ·
       subst c7
       rw [if_pos rfl] at H
       try dsimp -simprocs only at H
       have H' := Aside0.mk H
       clear H
       have p5 : 0 ≤ (x6_1 : Int) := of_decide_eq_true sA
       have q5 : x6_1 < (a0.size : Int) := of_decide_eq_true sA
       have hx5 := bt_at a0 x6_1
       replace p5 := eq_true p5
       replace q5 := eq_true q5
       go_wp2_with (first | ((with_reducible refine gate_callee (f := 84) rfl ?_); refine goesL_ (some 12) rfl rfl Tryz.func84 (by kernel_rfl) rfl #[.int .u8 (bt a0 x6_1)] rfl sM ?_; (with_reducible refine (path_plain.calls (bt a0 x6_1) true _ A6.out).mono ?_); rintro e w' ⟨rfl, ⟨nd, rfl⟩⟩; refine ⟨_, rfl, ?_⟩))
       go_roundg k1
       case measure => have := HK1.out; omega
       case rel => exact ⟨(wrap64 (x6_1 + 1)), (by first | rfl | (simp; done) | (simp [*]; done)), H', ⟨by have := HK1.out; omega⟩, by repeat (first | exact Drawn0.refl _ | apply Drawn0.step)⟩
      ·
       replace c7 := Bool.eq_false_iff.mpr c7
       subst c7
       rw [if_neg (show ¬ (false = true) by decide)] at H
       try dsimp -simprocs only at H
       replace H := Option.bind_eq_some_iff.mp H
       obtain ⟨t108, A90, H⟩ := H
       try dsimp -simprocs only at H
       have A9 := Aside0.mk A90
       clear A90
       by_cases c10 : t108 < 0
       ·
        rw [if_pos c10] at H
        have c10b0 : decide (t108 < 0) = true := decide_eq_true c10
        clear c10
        obtain rfl := Option.some.inj H
        have p5 : 0 ≤ (x6_1 : Int) := of_decide_eq_true sA
        have q5 : x6_1 < (a0.size : Int) := of_decide_eq_true sA
        have hx5 := bt_at a0 x6_1
        replace p5 := eq_true p5
        replace q5 := eq_true q5
        go_wp2_with (first | ((with_reducible refine gate_callee (f := 84) rfl ?_); refine goesL_ (some 12) rfl rfl Tryz.func84 (by kernel_rfl) rfl #[.int .u8 (bt a0 x6_1)] rfl sM ?_; (with_reducible refine (path_plain.calls (bt a0 x6_1) false _ A6.out).mono ?_); rintro e w' ⟨rfl, ⟨nd, rfl⟩⟩; refine ⟨_, rfl, ?_⟩; have p8 : 0 ≤ (x6_1 : Int) := of_decide_eq_true sA; have q8 : x6_1 < (a0.size : Int) := of_decide_eq_true sA; have hx8 := bt_at a0 x6_1; replace p8 := eq_true p8; replace q8 := eq_true q8) | (go_at_call 90; (with_reducible refine (strings_IndexByte.calls (⟨#[33, 35, 36, 37, 38, 39, 42, 43, 45, 47, 61, 63, 94, 95, 96, 123, 124, 125, 126]⟩ : ByteArray) (bt a0 x6_1) t108 _ A9.out).mono ?_); rintro e w' ⟨rfl, ⟨nd, rfl⟩⟩))
        go_ret
        exact ⟨by first | rfl | (simp; done) | (simp [*]; done), by repeat (first | exact Drawn0.refl _ | apply Drawn0.step)⟩
       ·
        rw [if_neg c10] at H
        have c10b0 : decide (t108 < 0) = false := decide_eq_false c10
        clear c10
        have H' := Aside0.mk H
        clear H
        have p5 : 0 ≤ (x6_1 : Int) := of_decide_eq_true sA
        have q5 : x6_1 < (a0.size : Int) := of_decide_eq_true sA
        have hx5 := bt_at a0 x6_1
        replace p5 := eq_true p5
        replace q5 := eq_true q5
        go_wp2_with (first | ((with_reducible refine gate_callee (f := 84) rfl ?_); refine goesL_ (some 12) rfl rfl Tryz.func84 (by kernel_rfl) rfl #[.int .u8 (bt a0 x6_1)] rfl sM ?_; (with_reducible refine (path_plain.calls (bt a0 x6_1) false _ A6.out).mono ?_); rintro e w' ⟨rfl, ⟨nd, rfl⟩⟩; refine ⟨_, rfl, ?_⟩; have p8 : 0 ≤ (x6_1 : Int) := of_decide_eq_true sA; have q8 : x6_1 < (a0.size : Int) := of_decide_eq_true sA; have hx8 := bt_at a0 x6_1; replace p8 := eq_true p8; replace q8 := eq_true q8) | (go_at_call 90; (with_reducible refine (strings_IndexByte.calls (⟨#[33, 35, 36, 37, 38, 39, 42, 43, 45, 47, 61, 63, 94, 95, 96, 123, 124, 125, 126]⟩ : ByteArray) (bt a0 x6_1) t108 _ A9.out).mono ?_); rintro e w' ⟨rfl, ⟨nd, rfl⟩⟩))
        go_roundg k1
        case measure => have := HK1.out; omega
        case rel => exact ⟨(wrap64 (x6_1 + 1)), (by first | rfl | (simp; done) | (simp [*]; done)), H', ⟨by have := HK1.out; omega⟩, by repeat (first | exact Drawn0.refl _ | apply Drawn0.step)⟩
     ·
      rw [if_neg c4] at H
      exact absurd H (by simp)
    ·
     rw [if_neg c3] at H
     exact absurd H (by simp)
   ·
    rw [if_neg c2] at H
    have c2b0 : decide (x6_1 < (a0.size : Int)) = false := decide_eq_false c2
    clear c2
    obtain rfl := Option.some.inj H
    go_wp2
    go_ret
    exact ⟨by first | rfl | (simp; done) | (simp [*]; done), by repeat (first | exact Drawn0.refl _ | apply Drawn0.step)⟩
end Go.Proofs.YthcdjgekmfnmnaaGreatDoor.PVerb
end
section
namespace Go.Proofs.YthcdjgekmfnmnaaGreatDoor.PVerb
open Go.RowKit Go.Proofs.YthcdjgekmfnmnaaGreatDoorW.PrintWords Go.Proofs.YthcdjgekmfnmnaaGreatDoorW.PrintLast Go.Proofs.YthcdjgekmfnmnaaGreatDoorW.PrintMore
attribute [local go_sem] max2_int min2_int max_two min_two max_three min_three max_four min_four
set_option linter.unusedVariables false
set_option linter.unusedSimpArgs false
theorem bt_get (s : ByteArray) (i : Nat) (h : i < s.data.toList.length) : bt s (i : Int) = ((s.data.toList[i]'h).toNat : Int) := by
  have h' : (i : Int).toNat < s.size := by rw [Int.toNat_natCast, ← data_size]; exact h
  rw [← bt_at s (i : Int) h']
  rfl
theorem wrap_small {n : Int} (h0 : -9223372036854775808 ≤ n) (h1 : n ≤ 9223372036854775807) : wrap64 n = n := by unfold wrap64; omega
theorem plain_fin : ∀ c : Fin 256, path_plain.f (c.val : Int) = some (plainC (UInt8.ofNat c.val)) := by decide +kernel
theorem plain_eq (c : UInt8) : path_plain.f (c.toNat : Int) = some (plainC c) := by
  have := plain_fin ⟨c.toNat, c.toNat_lt⟩
  simpa using this
def labelEnd (l : List UInt8) : Bool := !l.isEmpty && decide (l.length ≤ 63) && !(l.head? == some 45) && !(l.getLast? == some 45)
theorem label_l0 (s : ByteArray) (hs : s.size < 4611686018427387904) : ∀ (d k i : Nat), s.size - i = d → i ≤ s.size → d < k →
    path_label.l0 k s (s.size : Int) (i : Int) = some ((s.data.toList.drop i).all (fun c => plainC c || c == 45) && labelEnd s.data.toList) := by
  have hsz := data_size s
  intro d
  induction d with
  | zero =>
    intro k i hd hi hk
    obtain ⟨k, rfl⟩ : ∃ m, k = m + 1 := ⟨k - 1, by omega⟩
    have hie : i = s.data.toList.length := by omega
    rw [path_label.l0, if_neg (by omega), List.drop_of_length_le (by omega), List.all_nil, Bool.true_and]
    by_cases h0 : s.data.toList = []
    · rw [if_pos (by rw [toList_data]; exact h0)]; simp [labelEnd, h0]
    · rw [if_neg (by rw [toList_data]; exact h0)]
      have hpos : 0 < s.data.toList.length := List.length_pos_iff.2 h0
      by_cases h63 : s.data.toList.length ≤ 63
      · rw [if_pos (by omega), if_pos (by omega)]
        have b0 := bt_get s 0 hpos
        have hh : s.data.toList.head? = some (s.data.toList[0]'hpos) := by rw [List.head?_eq_getElem?, List.getElem?_eq_getElem hpos]
        have hl : s.data.toList.getLast? = some (s.data.toList[s.data.toList.length - 1]'(by omega)) := by rw [List.getLast?_eq_getElem?, List.getElem?_eq_getElem]
        have e45 : ∀ c : UInt8, (c.toNat : Int) = 45 ↔ c = 45 := fun c => by
          constructor
          · intro h; apply UInt8.toNat_inj.1; show c.toNat = 45; omega
          · intro h; subst h; rfl
        have hie : s.data.toList.isEmpty = false := by simpa using h0
        by_cases hc : s.data.toList[0]'hpos = 45
        · rw [if_pos (by have := b0; simp only [Int.natCast_zero] at this; rw [this]; exact (e45 _).2 hc)]
          simp [labelEnd, hh, hc]
        · rw [if_neg (by have := b0; simp only [Int.natCast_zero] at this; rw [this]; exact fun h => hc ((e45 _).1 h))]
          have ew : wrap64 ((s.size : Int) - 1) = ((s.data.toList.length - 1 : Nat) : Int) := by rw [wrap_small (by omega) (by omega)]; omega
          rw [ew, if_pos (by omega), if_pos (by omega), bt_get s _ (by omega)]
          unfold labelEnd
          rw [hh, hl, hie]
          have : (((s.data.toList[s.data.toList.length - 1]'(by omega)).toNat : Int) != 45) = !(some (s.data.toList[s.data.toList.length - 1]'(by omega)) == some (45 : UInt8)) := by
            rw [Bool.eq_iff_iff]
            simp [e45]
          have hc2 : (some (s.data.toList[0]'hpos) == some (45 : UInt8)) = false := beq_eq_false_iff_ne.2 (fun h => hc (Option.some.inj h))
          rw [this, hc2, decide_eq_true h63]
          simp only [Bool.not_false, Bool.and_true, Bool.true_and]
      · rw [if_neg (by omega)]; simp only [labelEnd, decide_eq_false h63, Bool.and_false, Bool.false_and]
  | succ d ih =>
    intro k i hd hi hk
    obtain ⟨k, rfl⟩ : ∃ m, k = m + 1 := ⟨k - 1, by omega⟩
    have hil : i < s.data.toList.length := by omega
    rw [path_label.l0, if_pos (by omega), if_pos (by omega), if_pos (by omega), bt_get s i hil, plain_eq, Option.bind_some, List.drop_eq_getElem_cons hil, List.all_cons]
    have ew : wrap64 ((i : Int) + 1) = ((i + 1 : Nat) : Int) := by rw [wrap_small (by omega) (by omega)]; omega
    have hr := ih k (i + 1) (by omega) (by omega) (by omega)
    rw [ew, hr]
    generalize s.data.toList[i] = c
    by_cases hp : plainC c = true
    · rw [if_pos hp]; simp [hp]
    · rw [if_neg hp]
      by_cases h45 : c = 45
      · subst h45; rw [if_pos (by rfl)]; simp
      · rw [if_neg (fun h => h45 (UInt8.toNat_inj.1 (by show c.toNat = 45; omega)))]
        simp [hp, h45]
theorem label_eq (s : ByteArray) (hs : s.size < 4611686018427387904) : path_label.f (s.size + 1) s = some (labelL s.data.toList) := by
  have h := label_l0 s hs s.size (s.size + 1) 0 (by omega) (by omega) (by omega)
  unfold path_label.f
  simp only [Int.natCast_zero] at h
  rw [h]
  simp [labelL, labelEnd, Bool.and_assoc]
theorem atom_idx (c : UInt8) : strings_IndexByte.f ⟨#[33, 35, 36, 37, 38, 39, 42, 43, 45, 47, 61, 63, 94, 95, 96, 123, 124, 125, 126]⟩ (c.toNat : Int) = some (Lib.indexByte marksL c) := by
  unfold strings_IndexByte.f
  have : ((c.toNat : Int).toNat).toUInt8 = c := by simp
  rw [this]; rfl
theorem indexByte_mem (l : List UInt8) (c : UInt8) : Lib.indexByte l c < 0 ↔ l.contains c = false := by
  induction l with
  | nil => simp [Lib.indexByte]
  | cons b l ih =>
    have := Lib.indexByte_ge l c
    unfold Lib.indexByte
    by_cases h : b = c
    · subst h; simp
    · rw [if_neg (by simpa using h)]
      have h2 : (b :: l).contains c = l.contains c := by simp [Ne.symm h]
      rw [h2, ← ih]
      by_cases e : Lib.indexByte l c = -1
      · simp [e]
      · rw [if_neg (by simpa using e)]; omega
theorem atom_l0 (s : ByteArray) (hs : s.size < 4611686018427387904) : ∀ (d k i : Nat), s.size - i = d → i ≤ s.size → d < k →
    path_atom.l0 k s (s.size : Int) (i : Int) = some ((s.data.toList.drop i).all (fun c => plainC c || marksL.contains c) && !s.data.toList.isEmpty) := by
  have hsz := data_size s
  intro d
  induction d with
  | zero =>
    intro k i hd hi hk
    obtain ⟨k, rfl⟩ : ∃ m, k = m + 1 := ⟨k - 1, by omega⟩
    rw [path_atom.l0, if_neg (by omega), List.drop_of_length_le (by omega), List.all_nil, Bool.true_and, toList_data]
  | succ d ih =>
    intro k i hd hi hk
    obtain ⟨k, rfl⟩ : ∃ m, k = m + 1 := ⟨k - 1, by omega⟩
    have hil : i < s.data.toList.length := by omega
    rw [path_atom.l0, if_pos (by omega), if_pos (by omega), if_pos (by omega), bt_get s i hil, plain_eq, Option.bind_some, List.drop_eq_getElem_cons hil, List.all_cons]
    have ew : wrap64 ((i : Int) + 1) = ((i + 1 : Nat) : Int) := by rw [wrap_small (by omega) (by omega)]; omega
    have hr := ih k (i + 1) (by omega) (by omega) (by omega)
    rw [ew, hr]
    generalize s.data.toList[i] = c
    by_cases hp : plainC c = true
    · rw [if_pos hp]; simp [hp]
    · rw [if_neg hp, atom_idx, Option.bind_some]
      by_cases hm : marksL.contains c = true
      · rw [if_neg (by rw [indexByte_mem, hm]; decide)]; simp only [hm, Bool.or_true, Bool.true_and]
      · rw [if_pos (by rw [indexByte_mem]; simpa using hm)]
        have hp' : plainC c = false := by simpa using hp
        have hm' : marksL.contains c = false := by simpa using hm
        rw [hp', hm']; rfl
theorem atom_eq (s : ByteArray) (hs : s.size < 4611686018427387904) : path_atom.f (s.size + 1) s = some (atomL s.data.toList) := by
  have h := atom_l0 s hs s.size (s.size + 1) 0 (by omega) (by omega) (by omega)
  unfold path_atom.f
  simp only [Int.natCast_zero] at h
  rw [h]; rfl
theorem pieces_size (c : UInt8) : ∀ (l p : List UInt8), p ∈ pieces c l → p.length ≤ l.length
  | [], p, h => by simp [pieces] at h; simp [h]
  | b :: r, p, h => by
    have ih := pieces_size c r
    unfold pieces at h
    split at h
    · rcases List.mem_cons.1 h with h | h
      · simp [h]
      · have := ih p h; simp; omega
    · split at h
      · simp at h; simp [h]
      · rename_i q qs hq
        rcases List.mem_cons.1 h with h | h
        · subst h; have := ih q (by rw [hq]; simp); simp; omega
        · have := ih p (by rw [hq]; simp [h]); simp; omega
theorem pieces_length (c : UInt8) : ∀ l : List UInt8, (pieces c l).length ≤ l.length + 1
  | [] => by simp [pieces]
  | b :: r => by
    have ih := pieces_length c r
    unfold pieces
    split
    · simp; omega
    · split <;> rename_i h
      · simp
      · rw [h] at ih; simp at ih ⊢; omega
set_option maxHeartbeats 1000000 in
set_option maxRecDepth 100000 in
theorem parts1_label (B : Nat) (W : World) (x : ByteArray) (hx : x.size < 4294967281) (hc : W.cell? ⟨B, 0, none⟩ = some (.func (.func 70) #[] #[])) :
    Calls Tryz.prog 83 #[.string x, .pointer (some ⟨B, 0, none⟩)] W fun e w' => e = .returned (.bool (!labelL x.data.toList)) ∧ Below W.heap.size W w' := by
  have HC := Aside0.mk (fun W => path_label.calls (x.size + 1) x _ W (label_eq x (by omega)))
  generalize labelL x.data.toList = r at *
  go_enter Tryz.func83, Tryz.ntmps83
  go_wp2_with (go_at_call 70; refine (HC.out _).mono ?_; rintro e w' ⟨rfl, ⟨n, rfl⟩⟩)
  go_ret
  exact ⟨rfl, pw_below_drewN (Below.refl _ _) n⟩
set_option maxHeartbeats 1000000 in
set_option maxRecDepth 100000 in
theorem parts1_atom (B : Nat) (W : World) (x : ByteArray) (hx : x.size < 4294967281) (hc : W.cell? ⟨B, 0, none⟩ = some (.func (.func 78) #[] #[])) :
    Calls Tryz.prog 83 #[.string x, .pointer (some ⟨B, 0, none⟩)] W fun e w' => e = .returned (.bool (!atomL x.data.toList)) ∧ Below W.heap.size W w' := by
  have HC := Aside0.mk (fun W => path_atom.calls (x.size + 1) x _ W (atom_eq x (by omega)))
  generalize atomL x.data.toList = r at *
  go_enter Tryz.func83, Tryz.ntmps83
  go_wp2_with (go_at_call 78; refine (HC.out _).mono ?_; rintro e w' ⟨rfl, ⟨n, rfl⟩⟩)
  go_ret
  exact ⟨rfl, pw_below_drewN (Below.refl _ _) n⟩
theorem any_not {l : List (List UInt8)} (p : List UInt8 → Bool) : (!(l.map bs).any fun x => !p x.data.toList) = l.all p := by
  induction l with
  | nil => rfl
  | cons a l ih =>
    rw [List.map_cons, List.any_cons, List.all_cons, ← ih, bs_data]
    cases p a <;> simp
set_option maxHeartbeats 1000000 in
set_option maxRecDepth 100000 in
theorem parts_walk (g : Nat) (p : List UInt8 → Bool) (most : Nat) (hmost : most < 1000)
    (hp : ∀ (B : Nat) (W : World) (x : ByteArray), x.size < 4294967281 → W.cell? ⟨B, 0, none⟩ = some (.func (.func g) #[] #[]) →
      Calls Tryz.prog 83 #[.string x, .pointer (some ⟨B, 0, none⟩)] W fun e w' => e = .returned (.bool (!p x.data.toList)) ∧ Below W.heap.size W w')
    (s : ByteArray) (w : World) (hG : Glob w) (hs : s.size < 4294967281) :
    Calls Tryz.prog 69 #[.string s, .int .i64 most, .func (.func g) #[] #[]] w fun e w' => e = .returned (.bool (decide (s.size ≤ most) && (pieces 46 s.data.toList).all p)) ∧ Below w.heap.size w w' := by
  have hb0 : Below w.heap.size w (w.alloc (.cells #[.func (.func g) #[] #[]] 55)) := (Below.refl _ w).alloc (Nat.le_refl _) _
  have hlt : w.heap.size < (w.alloc (.cells #[.func (.func g) #[] #[]] 55)).heap.size := by simp
  have hc0 : (w.alloc (.cells #[.func (.func g) #[] #[]] 55)).cell? ⟨w.heap.size, 0, none⟩ = some (.func (.func g) #[] #[]) := by simp
  by_cases hm : s.size ≤ most
  · have hd := decide_eq_true hm
    rw [hd, Bool.true_and]
    have hdi : decide ((s.size : Int) ≤ (most : Int)) = true := decide_eq_true (by omega)
    have eg : ∀ args w, (callFunc 83 args).run Tryz.prog w = .ok (.enter 83 args) w := enters_of Tryz.func83 (by kernel_rfl) rfl
    have HS := Aside0.mk (strings_Split.calls s ⟨#[46]⟩ ((pieces 46 s.data.toList).map bs) (w.alloc (.cells #[.func (.func g) #[] #[]] 55)) (hG.below hb0) (by rw [strings_Split.f, if_pos ⟨hs, rfl⟩]; rfl))
    have HF := Aside0.mk (fun (W : World) (A : Option Addr) (c : Nat) (hb : Below (w.alloc (.cells #[.func (.func g) #[] #[]] 55)).heap.size (w.alloc (.cells #[.func (.func g) #[] #[]] 55)) W) (hr : Kd.C Kd.string W A ((pieces 46 s.data.toList).map bs).length ((pieces 46 s.data.toList).map bs)) =>
      containsFunc_strs 83 #[.pointer (some ⟨w.heap.size, 0, none⟩)] eg (fun x => !p x.data.toList) W A c ((pieces 46 s.data.toList).map bs) hr
        (by have := pieces_length 46 s.data.toList; rw [data_size] at this; rw [List.length_map]; omega)
        (fun W' x hx hb' => by
          obtain ⟨y, hy, rfl⟩ := List.mem_map.1 hx
          have hlen := pieces_size 46 _ _ hy
          rw [data_size] at hlen
          have hWc : W'.cell? ⟨w.heap.size, 0, none⟩ = some (.func (.func g) #[] #[]) :=
            (hb'.cell (p := ⟨w.heap.size, 0, none⟩) (Nat.lt_of_lt_of_le hlt hb.size)).trans ((hb.cell (p := ⟨w.heap.size, 0, none⟩) hlt).trans hc0)
          refine (hp w.heap.size W' (bs y) (by rw [bs_size]; omega) hWc).mono ?_
          rintro e w' ⟨he, hw⟩
          exact ⟨he, below_step hb' hw⟩))
    have HA := Aside0.mk (any_not (l := pieces 46 s.data.toList) p)
    clear hp hG
    generalize (pieces 46 s.data.toList).map bs = l at *
    have HA2 := HA.out
    rw [← HA2]
    clear HA2 HA
    generalize l.any (fun x => !p x.data.toList) = b at *
    generalize (pieces 46 s.data.toList) = ll at *
    go_enter Tryz.func69, Tryz.ntmps69
    go_wp2_with fail
    refine HS.out.mono ?_
    rintro e w1 ⟨v, rfl, hR, hb1⟩
    obtain ⟨A, c, rfl, hl, hC⟩ := Kd.R_reads hR
    have hF2 := HF.out w1 A c hb1 hC
    have HB := Aside0.mk (below_step hb0 hb1)
    clear hR hC hb1 HF HS
    go_wp2_with fail
    refine hF2.mono ?_
    rintro e w2 ⟨rfl, hb2⟩
    have HB2 := Aside0.mk (below_step HB.out hb2)
    clear hb2
    go_wp2
    go_ret
    exact ⟨rfl, HB2.out⟩
  · have hd := decide_eq_false hm
    rw [hd, Bool.false_and]
    have hdi : decide ((s.size : Int) ≤ (most : Int)) = false := decide_eq_false (by omega)
    go_enter Tryz.func69, Tryz.ntmps69
    go_wp2
    go_ret
    exact ⟨rfl, hb0⟩
theorem domain_walk (s : ByteArray) (w : World) (hG : Glob w) (hs : s.size < 4294967281) :
    Calls Tryz.prog 56 #[.string s] w fun e w' => e = .returned (.bool (domainL s.data.toList)) ∧ Below w.heap.size w w' := by
  have HC := Aside0.mk (parts_walk 70 labelL 255 (by decide) (fun B W x hx hc => parts1_label B W x hx hc) s w hG hs)
  rw [← data_size] at HC
  have e : domainL s.data.toList = (decide (s.data.toList.length ≤ 255) && (pieces 46 s.data.toList).all labelL) := rfl
  rw [← e] at HC
  clear e
  generalize domainL s.data.toList = r at *
  go_enter Tryz.func56, Tryz.ntmps56
  go_wp2_with fail
  refine HC.out.mono ?_
  rintro e w1 ⟨rfl, hb⟩
  go_wp2
  go_ret
  exact ⟨rfl, hb⟩
theorem local_walk (s : ByteArray) (w : World) (hG : Glob w) (hs : s.size < 4294967281) :
    Calls Tryz.prog 69 #[.string s, .int .i64 64, .func (.func 78) #[] #[]] w fun e w' => e = .returned (.bool (localL s.data.toList)) ∧ Below w.heap.size w w' := by
  have HC := parts_walk 78 atomL 64 (by decide) (fun B W x hx hc => parts1_atom B W x hx hc) s w hG hs
  rw [← data_size] at HC
  exact HC
def path_Domain.f (a0 : ByteArray) : Option Bool := if a0.size < 4294967281 then some (domainL a0.data.toList) else none
theorem path_Domain.calls (a0 : ByteArray) (r : Bool) (w : World) (hG : Glob w) (h : path_Domain.f a0 = some r) :
    Calls Tryz.prog 56 #[.string a0] w fun e w' => e = .returned (.bool r) ∧ Below w.heap.size w w' := by
  unfold path_Domain.f at h
  split at h
  · rename_i hs
    simp only [Option.some.injEq] at h
    subst h
    exact domain_walk a0 w hG hs
  · cases h
end Go.Proofs.YthcdjgekmfnmnaaGreatDoor.PVerb
end
section
namespace Go.Proofs.YthcdjgekmfnmnaaGreatDoor.PVerb
open Go.RowKit Go.Proofs.YthcdjgekmfnmnaaGreatDoorW.PrintWords Go.Proofs.YthcdjgekmfnmnaaGreatDoorW.PrintLast Go.Proofs.YthcdjgekmfnmnaaGreatDoorW.PrintMore
attribute [local go_sem] max2_int min2_int max_two min_two max_three min_three max_four min_four
set_option linter.unusedVariables false
set_option linter.unusedSimpArgs false
def verb_named.f (a0 : Int) (a1 : ByteArray) : Option (Int × ByteArray × Bool × ByteArray × ByteArray × (List (S47)) × Bool) := (path_Domain.f a1).bind fun t110 => (if t110 = true then (some (a0, a1, false, (⟨#[]⟩ : ByteArray), (⟨#[]⟩ : ByteArray), ([] : List (S47)), true)) else (some (0, (⟨#[]⟩ : ByteArray), false, (⟨#[]⟩ : ByteArray), (⟨#[]⟩ : ByteArray), ([] : List (S47)), false)))
set_option maxHeartbeats 8000000 in
set_option maxRecDepth 100000 in
theorem verb_named.calls (a0 : Int) (a1 : ByteArray) (r1 : Int) (r2 : ByteArray) (r3 : Bool) (r4 : ByteArray) (r5 : ByteArray) (r6 : List (S47)) (r7 : Bool) (w : World) (hG : Glob w) (h : verb_named.f a0 a1 = some (r1, r2, r3, r4, r5, r6, r7)) :
  Calls Tryz.prog 41 #[.int .i64 a0, .string a1] w fun e w' => ∃ v5_ : Value, e = .returned (.tuple #[.agg #[.int .i64 r1, .string r2, .bool r3, .string r4, .string r5, v5_], .bool r7]) ∧ Kd.R k47 47 w' w.heap.size (fun _ => True) v5_ r6 ∧ Below w.heap.size w w' := by
 have hu26 := Tryz.underlying26
 have HB := Aside0.mk (Below.refl w.heap.size w)
 have HG := Aside0.mk hG
 clear hG
 have H : ((path_Domain.f a1).bind fun t110 => (if t110 = true then (some (a0, a1, false, (⟨#[]⟩ : ByteArray), (⟨#[]⟩ : ByteArray), ([] : List (S47)), true)) else (some (0, (⟨#[]⟩ : ByteArray), false, (⟨#[]⟩ : ByteArray), (⟨#[]⟩ : ByteArray), ([] : List (S47)), false)))) = some (r1, r2, r3, r4, r5, r6, r7) := h
 clear h
 replace H := Option.bind_eq_some_iff.mp H
 obtain ⟨t110, A30, H⟩ := H
 try dsimp -simprocs only at H
 have A3 := Aside0.mk A30
 clear A30
 by_cases c4 : t110 = true
 ·
  subst c4
  rw [if_pos rfl] at H
  try dsimp -simprocs only at H
  simp only [Option.some.injEq, Prod.mk.injEq] at H
  obtain ⟨rfl, rfl, rfl, rfl, rfl, rfl, rfl⟩ := H
  go_enter Tryz.func41, Tryz.ntmps41
  go_wp2_with (first | ((with_reducible refine gate_dst (N := 4) rfl ?_); refine box_event ?hg (N := 4) ?hd (cs := #[.int .i64 0, .string ⟨#[]⟩, .bool false, .string ⟨#[]⟩, .string ⟨#[]⟩, .slice none 0 0]) (t := 26) ?hr ?_; (case hd => rfl); (case hg => rfl); (case hr => first | (go_simp; done) | (go_simp; rfl)); intro gb109 hg w5 hbox hb; have BK109 := Aside0.mk (hbox); have GW109 := Aside0.mk ((by rw [hg]; exact (below_size (sB HB.out)) : w.heap.size ≤ gb109)); have GE109 := Aside0.mk ((by rw [hg]; exact (below_size (sB HB.out)) : w.heap.size ≤ gb109)); replace HB := Aside0.mk (below_step (sB HB.out) hb); clear hb hbox hg) | ((with_reducible refine gate_callee (f := 56) rfl ?_); refine goesL_ (some 7) rfl rfl Tryz.func56 (by kernel_rfl) rfl #[.string a1] rfl sM ?_; (with_reducible refine (path_Domain.calls a1 true _ ?side1 A3.out).mono ?_); (case side1 => exact Glob.below HG.out (sB HB.out)); rintro e w6 ⟨rfl, hb⟩; refine ⟨_, rfl, ?_⟩; replace BK109 := Aside0.mk (blk_below (g := gb109) (o := .cells #[.int .i64 0, .string ⟨#[]⟩, .bool false, .string ⟨#[]⟩, .string ⟨#[]⟩, .slice none 0 0] 26 (0, 0)) (sK BK109.out) hb); replace HB := Aside0.mk (below_step (sB HB.out) hb); (try clear hb); have hcz7_0 := sC BK109.out 0; have hcz7_1 := sC BK109.out 1; have hcz7_2 := sC BK109.out 2; have hcz7_3 := sC BK109.out 3; have hcz7_4 := sC BK109.out 4; have hcz7_5 := sC BK109.out 5; have hfz7_0 := blk_frozen BK109.out 0; have hfz7_1 := blk_frozen BK109.out 1; have hfz7_2 := blk_frozen BK109.out 2; have hfz7_3 := blk_frozen BK109.out 3; have hfz7_4 := blk_frozen BK109.out 4; have hfz7_5 := blk_frozen BK109.out 5))
  refine bodyPost_ret (results_ct rfl _ _ gb109 26 #[.int .i64 a0, .string a1, .bool false, .string ⟨#[]⟩, .string ⟨#[]⟩, .slice none 0 0] (0, 0) _ rfl (by refine sK ?_; refine blk_put (cs := #[.int .i64 a0, .string a1, .bool false, .string ⟨#[]⟩, .string ⟨#[]⟩, .slice none 0 0]) ?_ 5 _ rfl; refine sK ?_; refine blk_put (cs := #[.int .i64 a0, .string a1, .bool false, .string ⟨#[]⟩, .string ⟨#[]⟩, .slice none 0 0]) ?_ 4 _ rfl; refine sK ?_; refine blk_put (cs := #[.int .i64 a0, .string a1, .bool false, .string ⟨#[]⟩, .string ⟨#[]⟩, .slice none 0 0]) ?_ 3 _ rfl; refine sK ?_; refine blk_put (cs := #[.int .i64 a0, .string a1, .bool false, .string ⟨#[]⟩, .string ⟨#[]⟩, .slice none 0 0]) ?_ 2 _ rfl; refine sK ?_; refine blk_put (cs := #[.int .i64 a0, .string ⟨#[]⟩, .bool false, .string ⟨#[]⟩, .string ⟨#[]⟩, .slice none 0 0]) ?_ 1 _ rfl; refine sK ?_; refine blk_put (cs := #[.int .i64 0, .string ⟨#[]⟩, .bool false, .string ⟨#[]⟩, .string ⟨#[]⟩, .slice none 0 0]) ?_ 0 _ rfl; refine sK ?_; exact BK109.out) Tryz.underlying26 rfl (by kernel_rfl)) rfl ?_
  exact ⟨_, by first | rfl | (simp [errW_none, errW_some] <;> rfl) | (simp [*, errW_none, errW_some] <;> rfl), by first | exact Kd.R_nil _ _ _ _ _ | exact Kd.N_nil _ _ _ _ _ | exact Kd.V_nil _ _ _ _ _ | exact Kd.Q_nil _ _ _ _ _ | exact Kd.S_nil _ _ _ _ _, sB HB.out⟩
 ·
  replace c4 := Bool.eq_false_iff.mpr c4
  subst c4
  rw [if_neg (show ¬ (false = true) by decide)] at H
  try dsimp -simprocs only at H
  simp only [Option.some.injEq, Prod.mk.injEq] at H
  obtain ⟨rfl, rfl, rfl, rfl, rfl, rfl, rfl⟩ := H
  go_enter Tryz.func41, Tryz.ntmps41
  go_wp2_with (first | ((with_reducible refine gate_dst (N := 4) rfl ?_); refine box_event ?hg (N := 4) ?hd (cs := #[.int .i64 0, .string ⟨#[]⟩, .bool false, .string ⟨#[]⟩, .string ⟨#[]⟩, .slice none 0 0]) (t := 26) ?hr ?_; (case hd => rfl); (case hg => rfl); (case hr => first | (go_simp; done) | (go_simp; rfl)); intro gb109 hg w8 hbox hb; have BK109 := Aside0.mk (hbox); have GW109 := Aside0.mk ((by rw [hg]; exact (below_size (sB HB.out)) : w.heap.size ≤ gb109)); have GE109 := Aside0.mk ((by rw [hg]; exact (below_size (sB HB.out)) : w.heap.size ≤ gb109)); replace HB := Aside0.mk (below_step (sB HB.out) hb); clear hb hbox hg) | ((with_reducible refine gate_callee (f := 56) rfl ?_); refine goesL_ (some 7) rfl rfl Tryz.func56 (by kernel_rfl) rfl #[.string a1] rfl sM ?_; (with_reducible refine (path_Domain.calls a1 false _ ?side1 A3.out).mono ?_); (case side1 => exact Glob.below HG.out (sB HB.out)); rintro e w9 ⟨rfl, hb⟩; refine ⟨_, rfl, ?_⟩; replace BK109 := Aside0.mk (blk_below (g := gb109) (o := .cells #[.int .i64 0, .string ⟨#[]⟩, .bool false, .string ⟨#[]⟩, .string ⟨#[]⟩, .slice none 0 0] 26 (0, 0)) (sK BK109.out) hb); replace HB := Aside0.mk (below_step (sB HB.out) hb); (try clear hb); have hcz10_0 := sC BK109.out 0; have hcz10_1 := sC BK109.out 1; have hcz10_2 := sC BK109.out 2; have hcz10_3 := sC BK109.out 3; have hcz10_4 := sC BK109.out 4; have hcz10_5 := sC BK109.out 5; have hfz10_0 := blk_frozen BK109.out 0; have hfz10_1 := blk_frozen BK109.out 1; have hfz10_2 := blk_frozen BK109.out 2; have hfz10_3 := blk_frozen BK109.out 3; have hfz10_4 := blk_frozen BK109.out 4; have hfz10_5 := blk_frozen BK109.out 5))
  refine bodyPost_ret (results_ct rfl _ _ gb109 26 #[.int .i64 0, .string ⟨#[]⟩, .bool false, .string ⟨#[]⟩, .string ⟨#[]⟩, .slice none 0 0] (0, 0) _ rfl (by refine sK ?_; refine blk_put (cs := #[.int .i64 0, .string ⟨#[]⟩, .bool false, .string ⟨#[]⟩, .string ⟨#[]⟩, .slice none 0 0]) ?_ 5 _ rfl; refine sK ?_; refine blk_put (cs := #[.int .i64 0, .string ⟨#[]⟩, .bool false, .string ⟨#[]⟩, .string ⟨#[]⟩, .slice none 0 0]) ?_ 4 _ rfl; refine sK ?_; refine blk_put (cs := #[.int .i64 0, .string ⟨#[]⟩, .bool false, .string ⟨#[]⟩, .string ⟨#[]⟩, .slice none 0 0]) ?_ 3 _ rfl; refine sK ?_; refine blk_put (cs := #[.int .i64 0, .string ⟨#[]⟩, .bool false, .string ⟨#[]⟩, .string ⟨#[]⟩, .slice none 0 0]) ?_ 2 _ rfl; refine sK ?_; refine blk_put (cs := #[.int .i64 0, .string ⟨#[]⟩, .bool false, .string ⟨#[]⟩, .string ⟨#[]⟩, .slice none 0 0]) ?_ 1 _ rfl; refine sK ?_; refine blk_put (cs := #[.int .i64 0, .string ⟨#[]⟩, .bool false, .string ⟨#[]⟩, .string ⟨#[]⟩, .slice none 0 0]) ?_ 0 _ rfl; refine sK ?_; exact BK109.out) Tryz.underlying26 rfl (by kernel_rfl)) rfl ?_
  exact ⟨_, by first | rfl | (simp [errW_none, errW_some] <;> rfl) | (simp [*, errW_none, errW_some] <;> rfl), by first | exact Kd.R_nil _ _ _ _ _ | exact Kd.N_nil _ _ _ _ _ | exact Kd.V_nil _ _ _ _ _ | exact Kd.Q_nil _ _ _ _ _ | exact Kd.S_nil _ _ _ _ _, sB HB.out⟩
end Go.Proofs.YthcdjgekmfnmnaaGreatDoor.PVerb
end
section
namespace Go.Proofs.YthcdjgekmfnmnaaGreatDoor.PVerb
open Go.RowKit Go.Proofs.YthcdjgekmfnmnaaGreatDoorW.PrintWords Go.Proofs.YthcdjgekmfnmnaaGreatDoorW.PrintLast Go.Proofs.YthcdjgekmfnmnaaGreatDoorW.PrintMore
attribute [local go_sem] max2_int min2_int max_two min_two max_three min_three max_four min_four
set_option linter.unusedVariables false
set_option linter.unusedSimpArgs false
set_option maxHeartbeats 1000000 in
set_option maxRecDepth 100000 in
theorem check_walk (a0_0 : Bool) (a0_1 a0_2 : ByteArray) (w : World) (hG : Glob w) (h1 : a0_1.size < 2147483648) (h2 : a0_2.size < 2147483648) :
    Calls Tryz.prog 61 #[.agg #[.bool a0_0, .string a0_1, .string a0_2]] w fun e w' => e = .returned (.int .i64 (if checkL a0_0 a0_1.data.toList a0_2.data.toList then 0 else 5)) ∧ Below w.heap.size w w' := by
  have hb0 : Below w.heap.size w (w.alloc (.cells #[.bool a0_0, .string a0_1, .string a0_2] 23)) := (Below.refl _ w).alloc (Nat.le_refl _) _
  have hlt : w.heap.size < (w.alloc (.cells #[.bool a0_0, .string a0_1, .string a0_2] 23)).heap.size := by simp
  cases a0_0
  · have HL := Aside0.mk (fun W hg => local_walk a0_1 W hg (by omega))
    have HD := Aside0.mk (fun W hg => domain_walk a0_2 W hg (by omega))
    have HG := Aside0.mk (hG.below hb0)
    have hcl : checkL false a0_1.data.toList a0_2.data.toList = (localL a0_1.data.toList && domainL a0_2.data.toList) := rfl
    rw [hcl]
    clear hG hcl
    generalize localL a0_1.data.toList = p at *
    generalize domainL a0_2.data.toList = q at *
    cases p
    · go_enter Tryz.func61, Tryz.ntmps61
      go_wp2_with fail
      refine (HL.out _ HG.out).mono ?_
      rintro e w1 ⟨rfl, hb1⟩
      have HB := Aside0.mk (below_step hb0 hb1)
      clear hb1
      go_wp2
      go_ret
      exact ⟨rfl, HB.out⟩
    · go_enter Tryz.func61, Tryz.ntmps61
      go_wp2_with fail
      refine (HL.out _ HG.out).mono ?_
      rintro e w1 ⟨rfl, hb1⟩
      have HB := Aside0.mk (below_step hb0 hb1)
      have HG1 := Aside0.mk (HG.out.below hb1)
      have c2 := (hb1.cell (p := ⟨w.heap.size, 2, none⟩) hlt).trans (show _ = some (.string a0_2) by simp)
      clear hb1
      go_wp2_with fail
      refine (HD.out _ HG1.out).mono ?_
      rintro e w2 ⟨rfl, hb2⟩
      have HB2 := Aside0.mk (below_step HB.out hb2)
      clear hb2
      cases q
      all_goals
        go_wp2
        go_ret
        exact ⟨rfl, HB2.out⟩
  · by_cases h : a0_1.data.toList = [] ∧ a0_2.data.toList = []
    · have hc : checkL true a0_1.data.toList a0_2.data.toList = true := by rw [h.1, h.2]; rfl
      rw [hc]
      have hne : (a0_1 ++ a0_2).toList.isEmpty = true := by rw [toList_data, ByteArray.toList_data_append, h.1, h.2]; rfl
      have hsz : a0_1.size + a0_2.size ≤ 9223372036854775807 := by omega
      clear h hc
      go_enter Tryz.func61, Tryz.ntmps61
      go_wp2
      go_ret
      exact ⟨rfl, hb0⟩
    · have hc : checkL true a0_1.data.toList a0_2.data.toList = false := by
        unfold checkL
        rw [if_pos rfl]
        cases e1 : a0_1.data.toList with
        | cons _ _ => rfl
        | nil => cases e2 : a0_2.data.toList with
          | cons _ _ => rfl
          | nil => exact absurd ⟨e1, e2⟩ h
      rw [hc]
      have hne : (a0_1 ++ a0_2).toList.isEmpty = false := by
        rw [toList_data, ByteArray.toList_data_append]
        cases e1 : a0_1.data.toList with
        | cons _ _ => rfl
        | nil => cases e2 : a0_2.data.toList with
          | cons _ _ => rfl
          | nil => exact absurd ⟨e1, e2⟩ h
      have hsz : a0_1.size + a0_2.size ≤ 9223372036854775807 := by omega
      clear h hc
      go_enter Tryz.func61, Tryz.ntmps61
      go_wp2
      go_ret
      exact ⟨rfl, hb0⟩
def path_Check.f (a0_0 : Bool) (a0_1 a0_2 : ByteArray) : Option Int :=
  if a0_1.size < 2147483648 ∧ a0_2.size < 2147483648 then some (if checkL a0_0 a0_1.data.toList a0_2.data.toList then 0 else 5) else none
theorem path_Check.calls (a0_0 : Bool) (a0_1 a0_2 : ByteArray) (r : Int) (w : World) (hG : Glob w) (h : path_Check.f a0_0 a0_1 a0_2 = some r) :
    Calls Tryz.prog 61 #[.agg #[.bool a0_0, .string a0_1, .string a0_2]] w fun e w' => e = .returned (.int .i64 r) ∧ Below w.heap.size w w' := by
  unfold path_Check.f at h
  split at h
  · rename_i hs
    simp only [Option.some.injEq] at h
    subst h
    exact check_walk a0_0 a0_1 a0_2 w hG hs.1 hs.2
  · cases h
end Go.Proofs.YthcdjgekmfnmnaaGreatDoor.PVerb
end
section
namespace Go.Proofs.YthcdjgekmfnmnaaGreatDoor.PVerb
open Go.RowKit Go.Proofs.YthcdjgekmfnmnaaGreatDoorW.PrintWords Go.Proofs.YthcdjgekmfnmnaaGreatDoorW.PrintLast Go.Proofs.YthcdjgekmfnmnaaGreatDoorW.PrintMore
attribute [local go_sem] max2_int min2_int max_two min_two max_three min_three max_four min_four
set_option linter.unusedVariables false
set_option linter.unusedSimpArgs false
def stringslite_HasPrefix.f (a0 : ByteArray) (a1 : ByteArray) : Option (Bool) := if (a0.size : Int) ≥ (a1.size : Int) then (if 0 ≤ (a1.size : Int) then (if (a1.size : Int) ≤ (a0.size : Int) then (some ((a0.extract 0 ((a1.size : Int) : Int).toNat).toList == a1.toList)) else (none)) else (none)) else (some false)
set_option maxHeartbeats 8000000 in
set_option maxRecDepth 100000 in
theorem stringslite_HasPrefix.calls (a0 : ByteArray) (a1 : ByteArray) (r : Bool) (w : World) (h : stringslite_HasPrefix.f a0 a1 = some r) :
  Calls Tryz.prog 91 #[.string a0, .string a1] w fun e w' => e = .returned (.bool r) ∧ Drawn0 w w' := by
 have H : (if (a0.size : Int) ≥ (a1.size : Int) then (if 0 ≤ (a1.size : Int) then (if (a1.size : Int) ≤ (a0.size : Int) then (some ((a0.extract 0 ((a1.size : Int) : Int).toNat).toList == a1.toList)) else (none)) else (none)) else (some false)) = some r := h
 clear h
 by_cases c3 : (a0.size : Int) ≥ (a1.size : Int)
 ·
  rw [if_pos c3] at H
  have c3b0 : decide ((a1.size : Int) ≤ (a0.size : Int)) = true := decide_eq_true c3
  have c3b1 : decide (a1.size ≤ a0.size) = true := decide_eq_true (Int.ofNat_le.mp c3)
  clear c3
  by_cases c4 : 0 ≤ (a1.size : Int)
  ·
   rw [if_pos c4] at H
   have c4b0 := eq_true c4
   have c4b1 : decide (0 ≤ (a1.size : Int)) = true := decide_eq_true c4
   clear c4
   by_cases c5 : (a1.size : Int) ≤ (a0.size : Int)
   ·
    rw [if_pos c5] at H
    have c5b0 := eq_true c5
    have c5b1 : decide ((a1.size : Int) ≤ (a0.size : Int)) = true := decide_eq_true c5
    clear c5
    obtain rfl := Option.some.inj H
    go_enter Tryz.func91, Tryz.ntmps91
    go_wp2
    go_ret
    exact ⟨by first | rfl | (simp; done) | (simp [*]; done), by repeat (first | exact Drawn0.refl _ | apply Drawn0.step)⟩
   ·
    rw [if_neg c5] at H
    exact absurd H (by simp)
  ·
   rw [if_neg c4] at H
   exact absurd H (by simp)
 ·
  rw [if_neg c3] at H
  have c3b0 : decide ((a1.size : Int) ≤ (a0.size : Int)) = false := decide_eq_false c3
  have c3b1 : decide (a1.size ≤ a0.size) = false := decide_eq_false (fun h => c3 (Int.ofNat_le.mpr h))
  clear c3
  obtain rfl := Option.some.inj H
  go_enter Tryz.func91, Tryz.ntmps91
  go_wp2
  go_ret
  exact ⟨by first | rfl | (simp; done) | (simp [*]; done), by repeat (first | exact Drawn0.refl _ | apply Drawn0.step)⟩
def stringslite_CutPrefix.f (a0 : ByteArray) (a1 : ByteArray) : Option (ByteArray × Bool) := (stringslite_HasPrefix.f a0 a1).bind fun t111 => (if t111 = true then (if 0 ≤ (a1.size : Int) then (if (a1.size : Int) ≤ (a0.size : Int) then (some (a0.extract ((a1.size : Int) : Int).toNat a0.size, true)) else (none)) else (none)) else (some (a0, false)))
set_option maxHeartbeats 8000000 in
set_option maxRecDepth 100000 in
theorem stringslite_CutPrefix.calls (a0 : ByteArray) (a1 : ByteArray) (r1 : ByteArray) (r2 : Bool) (w : World) (h : stringslite_CutPrefix.f a0 a1 = some (r1, r2)) :
  Calls Tryz.prog 85 #[.string a0, .string a1] w fun e w' => e = .returned (.tuple #[.string r1, .bool r2]) ∧ Drawn0 w w' := by
 have H : ((stringslite_HasPrefix.f a0 a1).bind fun t111 => (if t111 = true then (if 0 ≤ (a1.size : Int) then (if (a1.size : Int) ≤ (a0.size : Int) then (some (a0.extract ((a1.size : Int) : Int).toNat a0.size, true)) else (none)) else (none)) else (some (a0, false)))) = some (r1, r2) := h
 clear h
 replace H := Option.bind_eq_some_iff.mp H
 obtain ⟨t111, A30, H⟩ := H
 try dsimp -simprocs only at H
 have A3 := Aside0.mk A30
 clear A30
 by_cases c4 : t111 = true
 ·
  subst c4
  rw [if_pos rfl] at H
  try dsimp -simprocs only at H
  by_cases c5 : 0 ≤ (a1.size : Int)
  ·
   rw [if_pos c5] at H
   have c5b0 := eq_true c5
   have c5b1 : decide (0 ≤ (a1.size : Int)) = true := decide_eq_true c5
   clear c5
   by_cases c6 : (a1.size : Int) ≤ (a0.size : Int)
   ·
    rw [if_pos c6] at H
    have c6b0 := eq_true c6
    have c6b1 : decide ((a1.size : Int) ≤ (a0.size : Int)) = true := decide_eq_true c6
    clear c6
    simp only [Option.some.injEq, Prod.mk.injEq] at H
    obtain ⟨rfl, rfl⟩ := H
    go_enter Tryz.func85, Tryz.ntmps85
    go_wp2_with (first | ((with_reducible refine gate_callee (f := 91) rfl ?_); refine goesL_ (some 8) rfl rfl Tryz.func91 (by kernel_rfl) rfl #[.string a0, .string a1] rfl sM ?_; (with_reducible refine (stringslite_HasPrefix.calls a0 a1 true _ A3.out).mono ?_); rintro e w' ⟨rfl, ⟨nd, rfl⟩⟩; refine ⟨_, rfl, ?_⟩))
    go_ret2
    exact ⟨by first | rfl | (simp; done) | (simp [*]; done), by repeat (first | exact Drawn0.refl _ | apply Drawn0.step)⟩
   ·
    rw [if_neg c6] at H
    exact absurd H (by simp)
  ·
   rw [if_neg c5] at H
   exact absurd H (by simp)
 ·
  replace c4 := Bool.eq_false_iff.mpr c4
  subst c4
  rw [if_neg (show ¬ (false = true) by decide)] at H
  try dsimp -simprocs only at H
  simp only [Option.some.injEq, Prod.mk.injEq] at H
  obtain ⟨rfl, rfl⟩ := H
  go_enter Tryz.func85, Tryz.ntmps85
  go_wp2_with (first | ((with_reducible refine gate_callee (f := 91) rfl ?_); refine goesL_ (some 8) rfl rfl Tryz.func91 (by kernel_rfl) rfl #[.string a0, .string a1] rfl sM ?_; (with_reducible refine (stringslite_HasPrefix.calls a0 a1 false _ A3.out).mono ?_); rintro e w' ⟨rfl, ⟨nd, rfl⟩⟩; refine ⟨_, rfl, ?_⟩))
  go_ret2
  exact ⟨by first | rfl | (simp; done) | (simp [*]; done), by repeat (first | exact Drawn0.refl _ | apply Drawn0.step)⟩
def strings_CutPrefix.f (a0 : ByteArray) (a1 : ByteArray) : Option (ByteArray × Bool) := (stringslite_CutPrefix.f a0 a1).bind fun bt112 => (some (bt112.1, bt112.2))
set_option maxHeartbeats 8000000 in
set_option maxRecDepth 100000 in
theorem strings_CutPrefix.calls (a0 : ByteArray) (a1 : ByteArray) (r1 : ByteArray) (r2 : Bool) (w : World) (h : strings_CutPrefix.f a0 a1 = some (r1, r2)) :
  Calls Tryz.prog 71 #[.string a0, .string a1] w fun e w' => e = .returned (.tuple #[.string r1, .bool r2]) ∧ Drawn0 w w' := by
 have H : ((stringslite_CutPrefix.f a0 a1).bind fun bt112 => (some (bt112.1, bt112.2))) = some (r1, r2) := h
 clear h
 replace H := Option.bind_eq_some_iff.mp H
 obtain ⟨⟨t112, t113⟩, A30, H⟩ := H
 try dsimp -simprocs only at H
 have A3 := Aside0.mk A30
 clear A30
 simp only [Option.some.injEq, Prod.mk.injEq] at H
 obtain ⟨rfl, rfl⟩ := H
 go_enter Tryz.func71, Tryz.ntmps71
 go_wp2_with (first | ((with_reducible refine gate_callee (f := 85) rfl ?_); refine goesL_ (some 8) rfl rfl Tryz.func85 (by kernel_rfl) rfl #[.string a0, .string a1] rfl sM ?_; (with_reducible refine (stringslite_CutPrefix.calls a0 a1 t112 t113 _ A3.out).mono ?_); rintro e w' ⟨rfl, ⟨nd, rfl⟩⟩; refine ⟨_, rfl, ?_⟩))
 go_ret2
 exact ⟨by first | rfl | (simp; done) | (simp [*]; done), by repeat (first | exact Drawn0.refl _ | apply Drawn0.step)⟩
def stringslite_HasSuffix.f (a0 : ByteArray) (a1 : ByteArray) : Option (Bool) := if (a0.size : Int) ≥ (a1.size : Int) then (if 0 ≤ (wrap64 ((a0.size : Int) - (a1.size : Int))) then (if (wrap64 ((a0.size : Int) - (a1.size : Int))) ≤ (a0.size : Int) then (some ((a0.extract ((wrap64 ((a0.size : Int) - (a1.size : Int))) : Int).toNat a0.size).toList == a1.toList)) else (none)) else (none)) else (some false)
set_option maxHeartbeats 8000000 in
set_option maxRecDepth 100000 in
theorem stringslite_HasSuffix.calls (a0 : ByteArray) (a1 : ByteArray) (r : Bool) (w : World) (h : stringslite_HasSuffix.f a0 a1 = some r) :
  Calls Tryz.prog 92 #[.string a0, .string a1] w fun e w' => e = .returned (.bool r) ∧ Drawn0 w w' := by
 have H : (if (a0.size : Int) ≥ (a1.size : Int) then (if 0 ≤ (wrap64 ((a0.size : Int) - (a1.size : Int))) then (if (wrap64 ((a0.size : Int) - (a1.size : Int))) ≤ (a0.size : Int) then (some ((a0.extract ((wrap64 ((a0.size : Int) - (a1.size : Int))) : Int).toNat a0.size).toList == a1.toList)) else (none)) else (none)) else (some false)) = some r := h
 clear h
 by_cases c3 : (a0.size : Int) ≥ (a1.size : Int)
 ·
  rw [if_pos c3] at H
  have c3b0 : decide ((a1.size : Int) ≤ (a0.size : Int)) = true := decide_eq_true c3
  have c3b1 : decide (a1.size ≤ a0.size) = true := decide_eq_true (Int.ofNat_le.mp c3)
  clear c3
  obtain ⟨ji4, hji4⟩ : ∃ j_ : Int, (wrap64 ((a0.size : Int) - (a1.size : Int))) = j_ := ⟨_, rfl⟩
  replace H : (if 0 ≤ (ji4) then (if (ji4) ≤ (a0.size : Int) then (some ((a0.extract ((ji4) : Int).toNat a0.size).toList == a1.toList)) else (none)) else (none)) = some r := by first | (rw [hji4] at H; exact H) | (simp only [hji4] at H ⊢; exact H)
  have hji4w : (IntKind.i64.wrap ((a0.size : Int) - (a1.size : Int))) = ji4 := (i64_w _).trans hji4
  by_cases c5 : 0 ≤ (ji4)
  ·
   rw [if_pos c5] at H
   have c5b0 := eq_true c5
   have c5b1 : decide (0 ≤ (ji4)) = true := decide_eq_true c5
   clear c5
   by_cases c6 : (ji4) ≤ (a0.size : Int)
   ·
    rw [if_pos c6] at H
    have c6b0 := eq_true c6
    have c6b1 : decide ((ji4) ≤ (a0.size : Int)) = true := decide_eq_true c6
    clear c6
    obtain rfl := Option.some.inj H
    go_enter Tryz.func92, Tryz.ntmps92
    go_wp2
    go_ret
    exact ⟨by first | rfl | (simp; done) | (simp only [← hji4] <;> (first | rfl | simp)) | (simp [*]; done), by repeat (first | exact Drawn0.refl _ | apply Drawn0.step)⟩
   ·
    rw [if_neg c6] at H
    exact absurd H (by simp)
  ·
   rw [if_neg c5] at H
   exact absurd H (by simp)
 ·
  rw [if_neg c3] at H
  have c3b0 : decide ((a1.size : Int) ≤ (a0.size : Int)) = false := decide_eq_false c3
  have c3b1 : decide (a1.size ≤ a0.size) = false := decide_eq_false (fun h => c3 (Int.ofNat_le.mpr h))
  clear c3
  obtain rfl := Option.some.inj H
  go_enter Tryz.func92, Tryz.ntmps92
  go_wp2
  go_ret
  exact ⟨by first | rfl | (simp; done) | (simp [*]; done), by repeat (first | exact Drawn0.refl _ | apply Drawn0.step)⟩
def stringslite_CutSuffix.f (a0 : ByteArray) (a1 : ByteArray) : Option (ByteArray × Bool) := (stringslite_HasSuffix.f a0 a1).bind fun t114 => (if t114 = true then (if 0 ≤ (wrap64 ((a0.size : Int) - (a1.size : Int))) then (if (wrap64 ((a0.size : Int) - (a1.size : Int))) ≤ (a0.size : Int) then (some (a0.extract 0 ((wrap64 ((a0.size : Int) - (a1.size : Int))) : Int).toNat, true)) else (none)) else (none)) else (some (a0, false)))
set_option maxHeartbeats 8000000 in
set_option maxRecDepth 100000 in
theorem stringslite_CutSuffix.calls (a0 : ByteArray) (a1 : ByteArray) (r1 : ByteArray) (r2 : Bool) (w : World) (h : stringslite_CutSuffix.f a0 a1 = some (r1, r2)) :
  Calls Tryz.prog 86 #[.string a0, .string a1] w fun e w' => e = .returned (.tuple #[.string r1, .bool r2]) ∧ Drawn0 w w' := by
 have H : ((stringslite_HasSuffix.f a0 a1).bind fun t114 => (if t114 = true then (if 0 ≤ (wrap64 ((a0.size : Int) - (a1.size : Int))) then (if (wrap64 ((a0.size : Int) - (a1.size : Int))) ≤ (a0.size : Int) then (some (a0.extract 0 ((wrap64 ((a0.size : Int) - (a1.size : Int))) : Int).toNat, true)) else (none)) else (none)) else (some (a0, false)))) = some (r1, r2) := h
 clear h
 replace H := Option.bind_eq_some_iff.mp H
 obtain ⟨t114, A30, H⟩ := H
 try dsimp -simprocs only at H
 have A3 := Aside0.mk A30
 clear A30
 by_cases c4 : t114 = true
 ·
  subst c4
  rw [if_pos rfl] at H
  try dsimp -simprocs only at H
  obtain ⟨ji5, hji5⟩ : ∃ j_ : Int, (wrap64 ((a0.size : Int) - (a1.size : Int))) = j_ := ⟨_, rfl⟩
  replace H : (if 0 ≤ (ji5) then (if (ji5) ≤ (a0.size : Int) then (some (a0.extract 0 ((ji5) : Int).toNat, true)) else (none)) else (none)) = some (r1, r2) := by first | (rw [hji5] at H; exact H) | (simp only [hji5] at H ⊢; exact H)
  (try rw [hji5] at A3)
  have hji5w : (IntKind.i64.wrap ((a0.size : Int) - (a1.size : Int))) = ji5 := (i64_w _).trans hji5
  by_cases c6 : 0 ≤ (ji5)
  ·
   rw [if_pos c6] at H
   have c6b0 := eq_true c6
   have c6b1 : decide (0 ≤ (ji5)) = true := decide_eq_true c6
   clear c6
   by_cases c7 : (ji5) ≤ (a0.size : Int)
   ·
    rw [if_pos c7] at H
    have c7b0 := eq_true c7
    have c7b1 : decide ((ji5) ≤ (a0.size : Int)) = true := decide_eq_true c7
    clear c7
    simp only [Option.some.injEq, Prod.mk.injEq] at H
    obtain ⟨rfl, rfl⟩ := H
    go_enter Tryz.func86, Tryz.ntmps86
    go_wp2_with (first | ((with_reducible refine gate_callee (f := 92) rfl ?_); refine goesL_ (some 8) rfl rfl Tryz.func92 (by kernel_rfl) rfl #[.string a0, .string a1] rfl sM ?_; (with_reducible refine (stringslite_HasSuffix.calls a0 a1 true _ A3.out).mono ?_); rintro e w' ⟨rfl, ⟨nd, rfl⟩⟩; refine ⟨_, rfl, ?_⟩))
    go_ret2
    exact ⟨by first | rfl | (simp; done) | (simp only [← hji5] <;> (first | rfl | simp)) | (simp [*]; done), by repeat (first | exact Drawn0.refl _ | apply Drawn0.step)⟩
   ·
    rw [if_neg c7] at H
    exact absurd H (by simp)
  ·
   rw [if_neg c6] at H
   exact absurd H (by simp)
 ·
  replace c4 := Bool.eq_false_iff.mpr c4
  subst c4
  rw [if_neg (show ¬ (false = true) by decide)] at H
  try dsimp -simprocs only at H
  simp only [Option.some.injEq, Prod.mk.injEq] at H
  obtain ⟨rfl, rfl⟩ := H
  go_enter Tryz.func86, Tryz.ntmps86
  go_wp2_with (first | ((with_reducible refine gate_callee (f := 92) rfl ?_); refine goesL_ (some 8) rfl rfl Tryz.func92 (by kernel_rfl) rfl #[.string a0, .string a1] rfl sM ?_; (with_reducible refine (stringslite_HasSuffix.calls a0 a1 false _ A3.out).mono ?_); rintro e w' ⟨rfl, ⟨nd, rfl⟩⟩; refine ⟨_, rfl, ?_⟩))
  go_ret2
  exact ⟨by first | rfl | (simp; done) | (simp [*]; done), by repeat (first | exact Drawn0.refl _ | apply Drawn0.step)⟩
def strings_CutSuffix.f (a0 : ByteArray) (a1 : ByteArray) : Option (ByteArray × Bool) := (stringslite_CutSuffix.f a0 a1).bind fun bt115 => (some (bt115.1, bt115.2))
set_option maxHeartbeats 8000000 in
set_option maxRecDepth 100000 in
theorem strings_CutSuffix.calls (a0 : ByteArray) (a1 : ByteArray) (r1 : ByteArray) (r2 : Bool) (w : World) (h : strings_CutSuffix.f a0 a1 = some (r1, r2)) :
  Calls Tryz.prog 72 #[.string a0, .string a1] w fun e w' => e = .returned (.tuple #[.string r1, .bool r2]) ∧ Drawn0 w w' := by
 have H : ((stringslite_CutSuffix.f a0 a1).bind fun bt115 => (some (bt115.1, bt115.2))) = some (r1, r2) := h
 clear h
 replace H := Option.bind_eq_some_iff.mp H
 obtain ⟨⟨t115, t116⟩, A30, H⟩ := H
 try dsimp -simprocs only at H
 have A3 := Aside0.mk A30
 clear A30
 simp only [Option.some.injEq, Prod.mk.injEq] at H
 obtain ⟨rfl, rfl⟩ := H
 go_enter Tryz.func72, Tryz.ntmps72
 go_wp2_with (first | ((with_reducible refine gate_callee (f := 86) rfl ?_); refine goesL_ (some 8) rfl rfl Tryz.func86 (by kernel_rfl) rfl #[.string a0, .string a1] rfl sM ?_; (with_reducible refine (stringslite_CutSuffix.calls a0 a1 t115 t116 _ A3.out).mono ?_); rintro e w' ⟨rfl, ⟨nd, rfl⟩⟩; refine ⟨_, rfl, ?_⟩))
 go_ret2
 exact ⟨by first | rfl | (simp; done) | (simp [*]; done), by repeat (first | exact Drawn0.refl _ | apply Drawn0.step)⟩
def path_Parse.f (a0 : ByteArray) : Option (Bool × ByteArray × ByteArray × Int) := if a0.toList = ([60, 62] : List UInt8) then (some (true, (⟨#[]⟩ : ByteArray), (⟨#[]⟩ : ByteArray), 0)) else ((strings_CutPrefix.f a0 (⟨#[60]⟩ : ByteArray)).bind fun bt118 => ((strings_CutSuffix.f bt118.1 (⟨#[62]⟩ : ByteArray)).bind fun bt120 => ((strings_Cut.f bt120.1 (⟨#[64]⟩ : ByteArray)).bind fun bt122 => (if bt118.2 = true then (if bt120.2 = true then (if bt122.2.2 = true then ((path_Check.f false bt122.1 bt122.2.1).bind fun t126 => (if t126 = 0 then (some (false, bt122.1, bt122.2.1, 0)) else (some (false, (⟨#[]⟩ : ByteArray), (⟨#[]⟩ : ByteArray), 5)))) else (some (false, (⟨#[]⟩ : ByteArray), (⟨#[]⟩ : ByteArray), 5))) else (some (false, (⟨#[]⟩ : ByteArray), (⟨#[]⟩ : ByteArray), 5))) else (some (false, (⟨#[]⟩ : ByteArray), (⟨#[]⟩ : ByteArray), 5))))))
set_option maxHeartbeats 8000000 in
set_option maxRecDepth 100000 in
theorem path_Parse.calls (a0 : ByteArray) (r1 : Bool) (r2 : ByteArray) (r3 : ByteArray) (r4 : Int) (w : World) (hG : Glob w) (h : path_Parse.f a0 = some (r1, r2, r3, r4)) :
  Calls Tryz.prog 57 #[.string a0] w fun e w' => e = .returned (.tuple #[.agg #[.bool r1, .string r2, .string r3], .int .i64 r4]) ∧ Below w.heap.size w w' := by
 have hu23 := Tryz.underlying23
 have HB := Aside0.mk (Below.refl w.heap.size w)
 have HG := Aside0.mk hG
 clear hG
 have H : (if a0.toList = ([60, 62] : List UInt8) then (some (true, (⟨#[]⟩ : ByteArray), (⟨#[]⟩ : ByteArray), 0)) else ((strings_CutPrefix.f a0 (⟨#[60]⟩ : ByteArray)).bind fun bt118 => ((strings_CutSuffix.f bt118.1 (⟨#[62]⟩ : ByteArray)).bind fun bt120 => ((strings_Cut.f bt120.1 (⟨#[64]⟩ : ByteArray)).bind fun bt122 => (if bt118.2 = true then (if bt120.2 = true then (if bt122.2.2 = true then ((path_Check.f false bt122.1 bt122.2.1).bind fun t126 => (if t126 = 0 then (some (false, bt122.1, bt122.2.1, 0)) else (some (false, (⟨#[]⟩ : ByteArray), (⟨#[]⟩ : ByteArray), 5)))) else (some (false, (⟨#[]⟩ : ByteArray), (⟨#[]⟩ : ByteArray), 5))) else (some (false, (⟨#[]⟩ : ByteArray), (⟨#[]⟩ : ByteArray), 5))) else (some (false, (⟨#[]⟩ : ByteArray), (⟨#[]⟩ : ByteArray), 5))))))) = some (r1, r2, r3, r4) := h
 clear h
 by_cases c2 : a0.toList = ([60, 62] : List UInt8)
 ·
  rw [if_pos c2] at H
  have c2b0 : (a0.toList == ([60, 62] : List UInt8)) = true := beq_iff_eq.mpr c2
  have c2b1 : (a0.toList != ([60, 62] : List UInt8)) = false := bne_eq_false_iff_eq.mpr c2
  clear c2
  simp only [Option.some.injEq, Prod.mk.injEq] at H
  obtain ⟨rfl, rfl, rfl, rfl⟩ := H
  go_enter Tryz.func57, Tryz.ntmps57
  go_wp2_with (first | ((with_reducible refine gate_dst (N := 2) rfl ?_); refine box_event ?hg (N := 2) ?hd (cs := #[.bool false, .string ⟨#[]⟩, .string ⟨#[]⟩]) (t := 23) ?hr ?_; (case hd => rfl); (case hg => rfl); (case hr => first | (go_simp; done) | (go_simp; rfl)); intro gb117 hg w3 hbox hb; have BK117 := Aside0.mk (hbox); have GW117 := Aside0.mk ((by rw [hg]; exact (below_size (sB HB.out)) : w.heap.size ≤ gb117)); have GE117 := Aside0.mk ((by rw [hg]; exact (below_size (sB HB.out)) : w.heap.size ≤ gb117)); replace HB := Aside0.mk (below_step (sB HB.out) hb); clear hb hbox hg; have hcz4_0 := sC BK117.out 0; have hcz4_1 := sC BK117.out 1; have hcz4_2 := sC BK117.out 2; have hfz4_0 := blk_frozen BK117.out 0; have hfz4_1 := blk_frozen BK117.out 1; have hfz4_2 := blk_frozen BK117.out 2))
  refine bodyPost_ret (results_ct rfl _ _ gb117 23 #[.bool true, .string ⟨#[]⟩, .string ⟨#[]⟩] (0, 0) _ rfl (by refine sK ?_; refine blk_put (cs := #[.bool true, .string ⟨#[]⟩, .string ⟨#[]⟩]) ?_ 2 _ rfl; refine sK ?_; refine blk_put (cs := #[.bool true, .string ⟨#[]⟩, .string ⟨#[]⟩]) ?_ 1 _ rfl; refine sK ?_; refine blk_put (cs := #[.bool false, .string ⟨#[]⟩, .string ⟨#[]⟩]) ?_ 0 _ rfl; refine sK ?_; exact BK117.out) Tryz.underlying23 rfl (by kernel_rfl)) rfl ?_
  exact ⟨by first | rfl | (simp [errW_none, errW_some] <;> rfl) | (simp [*, errW_none, errW_some] <;> rfl), sB HB.out⟩
 ·
  rw [if_neg c2] at H
  have c2b0 : (a0.toList == ([60, 62] : List UInt8)) = false := beq_eq_false_iff_ne.mpr c2
  have c2b1 : (a0.toList != ([60, 62] : List UInt8)) = true := bne_iff_ne.mpr c2
  replace H := Option.bind_eq_some_iff.mp H
  obtain ⟨⟨t118, t119⟩, A50, H⟩ := H
  try dsimp -simprocs only at H
  have A5 := Aside0.mk A50
  clear A50
  replace H := Option.bind_eq_some_iff.mp H
  obtain ⟨⟨t120, t121⟩, A60, H⟩ := H
  try dsimp -simprocs only at H
  have A6 := Aside0.mk A60
  clear A60
  replace H := Option.bind_eq_some_iff.mp H
  obtain ⟨⟨t122, t123, t124⟩, A70, H⟩ := H
  try dsimp -simprocs only at H
  have A7 := Aside0.mk A70
  clear A70
  by_cases c8 : t119 = true
  ·
   subst c8
   rw [if_pos rfl] at H
   try dsimp -simprocs only at H
   by_cases c9 : t121 = true
   ·
    subst c9
    rw [if_pos rfl] at H
    try dsimp -simprocs only at H
    by_cases c10 : t124 = true
    ·
     subst c10
     rw [if_pos rfl] at H
     try dsimp -simprocs only at H
     replace H := Option.bind_eq_some_iff.mp H
     obtain ⟨t126, A110, H⟩ := H
     try dsimp -simprocs only at H
     have A11 := Aside0.mk A110
     clear A110
     by_cases c12 : t126 = 0
     ·
      rw [if_pos c12] at H
      have c12b0 : (t126 == 0) = true := beq_iff_eq.mpr c12
      have c12b1 : (t126 != 0) = false := bne_eq_false_iff_eq.mpr c12
      clear c12
      simp only [Option.some.injEq, Prod.mk.injEq] at H
      obtain ⟨rfl, rfl, rfl, rfl⟩ := H
      go_enter Tryz.func57, Tryz.ntmps57
      go_wp2_with (first | ((with_reducible refine gate_dst (N := 2) rfl ?_); refine box_event ?hg (N := 2) ?hd (cs := #[.bool false, .string ⟨#[]⟩, .string ⟨#[]⟩]) (t := 23) ?hr ?_; (case hd => rfl); (case hg => rfl); (case hr => first | (go_simp; done) | (go_simp; rfl)); intro gb117 hg w13 hbox hb; have BK117 := Aside0.mk (hbox); have GW117 := Aside0.mk ((by rw [hg]; exact (below_size (sB HB.out)) : w.heap.size ≤ gb117)); have GE117 := Aside0.mk ((by rw [hg]; exact (below_size (sB HB.out)) : w.heap.size ≤ gb117)); replace HB := Aside0.mk (below_step (sB HB.out) hb); clear hb hbox hg) | ((with_reducible refine gate_callee (f := 71) rfl ?_); refine goesL_ (some 16) rfl rfl Tryz.func71 (by kernel_rfl) rfl #[.string a0, .string ⟨#[60]⟩] rfl sM ?_; (with_reducible refine (strings_CutPrefix.calls a0 (⟨#[60]⟩ : ByteArray) t118 true _ A5.out).mono ?_); rintro e w' ⟨rfl, ⟨nd, rfl⟩⟩; refine ⟨_, rfl, ?_⟩; (try (rw [drewN_self w13]; generalize hq_ : World.drewN w13 _ = w13; have n0_ : Aside0 (w13.heap[gb117]? = some (.cells #[.bool false, .string ⟨#[]⟩, .string ⟨#[]⟩] 23 (0, 0))) := ⟨by rw [← hq_]; exact (sK BK117.out)⟩; have n1_ : Aside0 (Below w.heap.size w w13) := ⟨by rw [← hq_]; exact (sB HB.out)⟩; clear BK117 HB hq_; have BK117 := n0_; have HB := n1_; clear n0_ n1_))) | ((with_reducible refine gate_callee (f := 72) rfl ?_); refine goesL_ (some 21) rfl rfl Tryz.func72 (by kernel_rfl) rfl #[.string t118, .string ⟨#[62]⟩] rfl sM ?_; (with_reducible refine (strings_CutSuffix.calls t118 (⟨#[62]⟩ : ByteArray) t120 true _ A6.out).mono ?_); rintro e w' ⟨rfl, ⟨nd, rfl⟩⟩; refine ⟨_, rfl, ?_⟩; (try (rw [drewN_self w13]; generalize hq_ : World.drewN w13 _ = w13; have n0_ : Aside0 (w13.heap[gb117]? = some (.cells #[.bool false, .string ⟨#[]⟩, .string ⟨#[]⟩] 23 (0, 0))) := ⟨by rw [← hq_]; exact (sK BK117.out)⟩; have n1_ : Aside0 (Below w.heap.size w w13) := ⟨by rw [← hq_]; exact (sB HB.out)⟩; clear BK117 HB hq_; have BK117 := n0_; have HB := n1_; clear n0_ n1_))) | ((with_reducible refine gate_callee (f := 18) rfl ?_); refine goesL_ (some 26) rfl rfl Tryz.func18 (by kernel_rfl) rfl #[.string t120, .string ⟨#[64]⟩] rfl sM ?_; (with_reducible refine (strings_Cut.calls t120 (⟨#[64]⟩ : ByteArray) t122 t123 true _ ?side1 A7.out).mono ?_); (case side1 => exact Glob.below HG.out (sB HB.out)); rintro e w14 ⟨rfl, hb⟩; refine ⟨_, rfl, ?_⟩; replace BK117 := Aside0.mk (blk_below (g := gb117) (o := .cells #[.bool false, .string ⟨#[]⟩, .string ⟨#[]⟩] 23 (0, 0)) (sK BK117.out) hb); replace HB := Aside0.mk (below_step (sB HB.out) hb); (try clear hb)) | ((with_reducible refine gate_dst (N := 10) rfl ?_); refine box_event ?hg (N := 10) ?hd (cs := #[.bool false, .string ⟨#[]⟩, .string ⟨#[]⟩]) (t := 23) ?hr ?_; (case hd => rfl); (case hg => rfl); (case hr => first | (go_simp; done) | (go_simp; rfl)); intro gb125 hg w15 hbox hb; have BK125 := Aside0.mk (hbox); have GW125 := Aside0.mk ((by rw [hg]; exact (below_size (sB HB.out)) : w.heap.size ≤ gb125)); have GE125 := Aside0.mk ((by rw [hg]; exact (below_size (sB HB.out)) : w.heap.size ≤ gb125)); replace HB := Aside0.mk (below_step (sB HB.out) hb); have NB117_125 := Aside0.mk ((by rw [hg]; exact Nat.ne_of_lt (blk_lt (g := gb117) (o := .cells #[.bool false, .string ⟨#[]⟩, .string ⟨#[]⟩] 23 (0, 0)) (sK BK117.out)) : gb117 ≠ gb125)); have NB125_117 := Aside0.mk ((by rw [hg]; exact Nat.ne_of_gt (blk_lt (g := gb117) (o := .cells #[.bool false, .string ⟨#[]⟩, .string ⟨#[]⟩] 23 (0, 0)) (sK BK117.out)) : gb125 ≠ gb117)); replace BK117 := Aside0.mk (blk_below (g := gb117) (o := .cells #[.bool false, .string ⟨#[]⟩, .string ⟨#[]⟩] 23 (0, 0)) (sK BK117.out) hb); clear hb hbox hg; have hnb16 := NB125_117.out; have hnc16 := NB117_125.out; have hcz17_0 := sC BK125.out 0; have hcz17_1 := sC BK125.out 1; have hcz17_2 := sC BK125.out 2; have hfz17_0 := blk_frozen BK125.out 0; have hfz17_1 := blk_frozen BK125.out 1; have hfz17_2 := blk_frozen BK125.out 2) | (go_at_call 61; (with_reducible refine (path_Check.calls false t122 t123 t126 _ ?side1 A11.out).mono ?_); (case side1 => exact Glob.below HG.out (sB HB.out)); rintro e w18 ⟨rfl, hb⟩; replace BK117 := Aside0.mk (blk_below (g := gb117) (o := .cells #[.bool false, .string ⟨#[]⟩, .string ⟨#[]⟩] 23 (0, 0)) (by refine sK ?_; refine blk_far ?_ NB117_125.out _; refine sK ?_; refine blk_far ?_ NB117_125.out _; refine sK ?_; refine blk_far ?_ NB117_125.out _; refine sK ?_; exact BK117.out) hb); replace BK125 := Aside0.mk (blk_below (g := gb125) (o := .cells #[.bool false, .string t122, .string t123] 23 (0, 0)) (by refine sK ?_; refine blk_put (cs := #[.bool false, .string t122, .string ⟨#[]⟩]) ?_ 2 _ rfl; refine sK ?_; refine blk_put (cs := #[.bool false, .string ⟨#[]⟩, .string ⟨#[]⟩]) ?_ 1 _ rfl; refine sK ?_; refine blk_put (cs := #[.bool false, .string ⟨#[]⟩, .string ⟨#[]⟩]) ?_ 0 _ rfl; refine sK ?_; exact BK125.out) hb); replace HB := Aside0.mk (below_step (sB HB.out) hb); (try clear hb); have hcz19_0 := sC BK125.out 0; have hcz19_1 := sC BK125.out 1; have hcz19_2 := sC BK125.out 2; have hfz19_0 := blk_frozen BK125.out 0; have hfz19_1 := blk_frozen BK125.out 1; have hfz19_2 := blk_frozen BK125.out 2; have hcz20_0 := sC BK117.out 0; have hcz20_1 := sC BK117.out 1; have hcz20_2 := sC BK117.out 2; have hfz20_0 := blk_frozen BK117.out 0; have hfz20_1 := blk_frozen BK117.out 1; have hfz20_2 := blk_frozen BK117.out 2))
      refine bodyPost_ret (results_ct rfl _ _ gb117 23 #[.bool false, .string t122, .string t123] (0, 0) _ rfl (by refine sK ?_; refine blk_put (cs := #[.bool false, .string t122, .string ⟨#[]⟩]) ?_ 2 _ rfl; refine sK ?_; refine blk_put (cs := #[.bool false, .string ⟨#[]⟩, .string ⟨#[]⟩]) ?_ 1 _ rfl; refine sK ?_; refine blk_put (cs := #[.bool false, .string ⟨#[]⟩, .string ⟨#[]⟩]) ?_ 0 _ rfl; refine sK ?_; exact BK117.out) Tryz.underlying23 rfl (by kernel_rfl)) rfl ?_
      exact ⟨by first | rfl | (simp [errW_none, errW_some] <;> rfl) | (simp [*, errW_none, errW_some] <;> rfl), sB HB.out⟩
     ·
      rw [if_neg c12] at H
      have c12b0 : (t126 == 0) = false := beq_eq_false_iff_ne.mpr c12
      have c12b1 : (t126 != 0) = true := bne_iff_ne.mpr c12
      simp only [Option.some.injEq, Prod.mk.injEq] at H
      obtain ⟨rfl, rfl, rfl, rfl⟩ := H
      go_enter Tryz.func57, Tryz.ntmps57
      go_wp2_with (first | ((with_reducible refine gate_dst (N := 2) rfl ?_); refine box_event ?hg (N := 2) ?hd (cs := #[.bool false, .string ⟨#[]⟩, .string ⟨#[]⟩]) (t := 23) ?hr ?_; (case hd => rfl); (case hg => rfl); (case hr => first | (go_simp; done) | (go_simp; rfl)); intro gb117 hg w21 hbox hb; have BK117 := Aside0.mk (hbox); have GW117 := Aside0.mk ((by rw [hg]; exact (below_size (sB HB.out)) : w.heap.size ≤ gb117)); have GE117 := Aside0.mk ((by rw [hg]; exact (below_size (sB HB.out)) : w.heap.size ≤ gb117)); replace HB := Aside0.mk (below_step (sB HB.out) hb); clear hb hbox hg) | ((with_reducible refine gate_callee (f := 71) rfl ?_); refine goesL_ (some 16) rfl rfl Tryz.func71 (by kernel_rfl) rfl #[.string a0, .string ⟨#[60]⟩] rfl sM ?_; (with_reducible refine (strings_CutPrefix.calls a0 (⟨#[60]⟩ : ByteArray) t118 true _ A5.out).mono ?_); rintro e w' ⟨rfl, ⟨nd, rfl⟩⟩; refine ⟨_, rfl, ?_⟩; (try (rw [drewN_self w21]; generalize hq_ : World.drewN w21 _ = w21; have n0_ : Aside0 (w21.heap[gb117]? = some (.cells #[.bool false, .string ⟨#[]⟩, .string ⟨#[]⟩] 23 (0, 0))) := ⟨by rw [← hq_]; exact (sK BK117.out)⟩; have n1_ : Aside0 (Below w.heap.size w w21) := ⟨by rw [← hq_]; exact (sB HB.out)⟩; clear BK117 HB hq_; have BK117 := n0_; have HB := n1_; clear n0_ n1_))) | ((with_reducible refine gate_callee (f := 72) rfl ?_); refine goesL_ (some 21) rfl rfl Tryz.func72 (by kernel_rfl) rfl #[.string t118, .string ⟨#[62]⟩] rfl sM ?_; (with_reducible refine (strings_CutSuffix.calls t118 (⟨#[62]⟩ : ByteArray) t120 true _ A6.out).mono ?_); rintro e w' ⟨rfl, ⟨nd, rfl⟩⟩; refine ⟨_, rfl, ?_⟩; (try (rw [drewN_self w21]; generalize hq_ : World.drewN w21 _ = w21; have n0_ : Aside0 (w21.heap[gb117]? = some (.cells #[.bool false, .string ⟨#[]⟩, .string ⟨#[]⟩] 23 (0, 0))) := ⟨by rw [← hq_]; exact (sK BK117.out)⟩; have n1_ : Aside0 (Below w.heap.size w w21) := ⟨by rw [← hq_]; exact (sB HB.out)⟩; clear BK117 HB hq_; have BK117 := n0_; have HB := n1_; clear n0_ n1_))) | ((with_reducible refine gate_callee (f := 18) rfl ?_); refine goesL_ (some 26) rfl rfl Tryz.func18 (by kernel_rfl) rfl #[.string t120, .string ⟨#[64]⟩] rfl sM ?_; (with_reducible refine (strings_Cut.calls t120 (⟨#[64]⟩ : ByteArray) t122 t123 true _ ?side1 A7.out).mono ?_); (case side1 => exact Glob.below HG.out (sB HB.out)); rintro e w22 ⟨rfl, hb⟩; refine ⟨_, rfl, ?_⟩; replace BK117 := Aside0.mk (blk_below (g := gb117) (o := .cells #[.bool false, .string ⟨#[]⟩, .string ⟨#[]⟩] 23 (0, 0)) (sK BK117.out) hb); replace HB := Aside0.mk (below_step (sB HB.out) hb); (try clear hb)) | ((with_reducible refine gate_dst (N := 10) rfl ?_); refine box_event ?hg (N := 10) ?hd (cs := #[.bool false, .string ⟨#[]⟩, .string ⟨#[]⟩]) (t := 23) ?hr ?_; (case hd => rfl); (case hg => rfl); (case hr => first | (go_simp; done) | (go_simp; rfl)); intro gb125 hg w23 hbox hb; have BK125 := Aside0.mk (hbox); have GW125 := Aside0.mk ((by rw [hg]; exact (below_size (sB HB.out)) : w.heap.size ≤ gb125)); have GE125 := Aside0.mk ((by rw [hg]; exact (below_size (sB HB.out)) : w.heap.size ≤ gb125)); replace HB := Aside0.mk (below_step (sB HB.out) hb); have NB117_125 := Aside0.mk ((by rw [hg]; exact Nat.ne_of_lt (blk_lt (g := gb117) (o := .cells #[.bool false, .string ⟨#[]⟩, .string ⟨#[]⟩] 23 (0, 0)) (sK BK117.out)) : gb117 ≠ gb125)); have NB125_117 := Aside0.mk ((by rw [hg]; exact Nat.ne_of_gt (blk_lt (g := gb117) (o := .cells #[.bool false, .string ⟨#[]⟩, .string ⟨#[]⟩] 23 (0, 0)) (sK BK117.out)) : gb125 ≠ gb117)); replace BK117 := Aside0.mk (blk_below (g := gb117) (o := .cells #[.bool false, .string ⟨#[]⟩, .string ⟨#[]⟩] 23 (0, 0)) (sK BK117.out) hb); clear hb hbox hg; have hnb24 := NB125_117.out; have hnc24 := NB117_125.out; have hcz25_0 := sC BK125.out 0; have hcz25_1 := sC BK125.out 1; have hcz25_2 := sC BK125.out 2; have hfz25_0 := blk_frozen BK125.out 0; have hfz25_1 := blk_frozen BK125.out 1; have hfz25_2 := blk_frozen BK125.out 2) | (go_at_call 61; (with_reducible refine (path_Check.calls false t122 t123 t126 _ ?side1 A11.out).mono ?_); (case side1 => exact Glob.below HG.out (sB HB.out)); rintro e w26 ⟨rfl, hb⟩; replace BK117 := Aside0.mk (blk_below (g := gb117) (o := .cells #[.bool false, .string ⟨#[]⟩, .string ⟨#[]⟩] 23 (0, 0)) (by refine sK ?_; refine blk_far ?_ NB117_125.out _; refine sK ?_; refine blk_far ?_ NB117_125.out _; refine sK ?_; refine blk_far ?_ NB117_125.out _; refine sK ?_; exact BK117.out) hb); replace BK125 := Aside0.mk (blk_below (g := gb125) (o := .cells #[.bool false, .string t122, .string t123] 23 (0, 0)) (by refine sK ?_; refine blk_put (cs := #[.bool false, .string t122, .string ⟨#[]⟩]) ?_ 2 _ rfl; refine sK ?_; refine blk_put (cs := #[.bool false, .string ⟨#[]⟩, .string ⟨#[]⟩]) ?_ 1 _ rfl; refine sK ?_; refine blk_put (cs := #[.bool false, .string ⟨#[]⟩, .string ⟨#[]⟩]) ?_ 0 _ rfl; refine sK ?_; exact BK125.out) hb); replace HB := Aside0.mk (below_step (sB HB.out) hb); (try clear hb); have hcz27_0 := sC BK117.out 0; have hcz27_1 := sC BK117.out 1; have hcz27_2 := sC BK117.out 2; have hfz27_0 := blk_frozen BK117.out 0; have hfz27_1 := blk_frozen BK117.out 1; have hfz27_2 := blk_frozen BK117.out 2))
      refine bodyPost_ret (results_ct rfl _ _ gb117 23 #[.bool false, .string ⟨#[]⟩, .string ⟨#[]⟩] (0, 0) _ rfl (by refine sK ?_; refine blk_put (cs := #[.bool false, .string ⟨#[]⟩, .string ⟨#[]⟩]) ?_ 2 _ rfl; refine sK ?_; refine blk_put (cs := #[.bool false, .string ⟨#[]⟩, .string ⟨#[]⟩]) ?_ 1 _ rfl; refine sK ?_; refine blk_put (cs := #[.bool false, .string ⟨#[]⟩, .string ⟨#[]⟩]) ?_ 0 _ rfl; refine sK ?_; exact BK117.out) Tryz.underlying23 rfl (by kernel_rfl)) rfl ?_
      exact ⟨by first | rfl | (simp [errW_none, errW_some] <;> rfl) | (simp [*, errW_none, errW_some] <;> rfl), sB HB.out⟩
    ·
     replace c10 := Bool.eq_false_iff.mpr c10
     subst c10
     rw [if_neg (show ¬ (false = true) by decide)] at H
     try dsimp -simprocs only at H
     simp only [Option.some.injEq, Prod.mk.injEq] at H
     obtain ⟨rfl, rfl, rfl, rfl⟩ := H
     go_enter Tryz.func57, Tryz.ntmps57
     go_wp2_with (first | ((with_reducible refine gate_dst (N := 2) rfl ?_); refine box_event ?hg (N := 2) ?hd (cs := #[.bool false, .string ⟨#[]⟩, .string ⟨#[]⟩]) (t := 23) ?hr ?_; (case hd => rfl); (case hg => rfl); (case hr => first | (go_simp; done) | (go_simp; rfl)); intro gb117 hg w28 hbox hb; have BK117 := Aside0.mk (hbox); have GW117 := Aside0.mk ((by rw [hg]; exact (below_size (sB HB.out)) : w.heap.size ≤ gb117)); have GE117 := Aside0.mk ((by rw [hg]; exact (below_size (sB HB.out)) : w.heap.size ≤ gb117)); replace HB := Aside0.mk (below_step (sB HB.out) hb); clear hb hbox hg) | ((with_reducible refine gate_callee (f := 71) rfl ?_); refine goesL_ (some 16) rfl rfl Tryz.func71 (by kernel_rfl) rfl #[.string a0, .string ⟨#[60]⟩] rfl sM ?_; (with_reducible refine (strings_CutPrefix.calls a0 (⟨#[60]⟩ : ByteArray) t118 true _ A5.out).mono ?_); rintro e w' ⟨rfl, ⟨nd, rfl⟩⟩; refine ⟨_, rfl, ?_⟩; (try (rw [drewN_self w28]; generalize hq_ : World.drewN w28 _ = w28; have n0_ : Aside0 (w28.heap[gb117]? = some (.cells #[.bool false, .string ⟨#[]⟩, .string ⟨#[]⟩] 23 (0, 0))) := ⟨by rw [← hq_]; exact (sK BK117.out)⟩; have n1_ : Aside0 (Below w.heap.size w w28) := ⟨by rw [← hq_]; exact (sB HB.out)⟩; clear BK117 HB hq_; have BK117 := n0_; have HB := n1_; clear n0_ n1_))) | ((with_reducible refine gate_callee (f := 72) rfl ?_); refine goesL_ (some 21) rfl rfl Tryz.func72 (by kernel_rfl) rfl #[.string t118, .string ⟨#[62]⟩] rfl sM ?_; (with_reducible refine (strings_CutSuffix.calls t118 (⟨#[62]⟩ : ByteArray) t120 true _ A6.out).mono ?_); rintro e w' ⟨rfl, ⟨nd, rfl⟩⟩; refine ⟨_, rfl, ?_⟩; (try (rw [drewN_self w28]; generalize hq_ : World.drewN w28 _ = w28; have n0_ : Aside0 (w28.heap[gb117]? = some (.cells #[.bool false, .string ⟨#[]⟩, .string ⟨#[]⟩] 23 (0, 0))) := ⟨by rw [← hq_]; exact (sK BK117.out)⟩; have n1_ : Aside0 (Below w.heap.size w w28) := ⟨by rw [← hq_]; exact (sB HB.out)⟩; clear BK117 HB hq_; have BK117 := n0_; have HB := n1_; clear n0_ n1_))) | ((with_reducible refine gate_callee (f := 18) rfl ?_); refine goesL_ (some 26) rfl rfl Tryz.func18 (by kernel_rfl) rfl #[.string t120, .string ⟨#[64]⟩] rfl sM ?_; (with_reducible refine (strings_Cut.calls t120 (⟨#[64]⟩ : ByteArray) t122 t123 false _ ?side1 A7.out).mono ?_); (case side1 => exact Glob.below HG.out (sB HB.out)); rintro e w29 ⟨rfl, hb⟩; refine ⟨_, rfl, ?_⟩; replace BK117 := Aside0.mk (blk_below (g := gb117) (o := .cells #[.bool false, .string ⟨#[]⟩, .string ⟨#[]⟩] 23 (0, 0)) (sK BK117.out) hb); replace HB := Aside0.mk (below_step (sB HB.out) hb); (try clear hb)) | ((with_reducible refine gate_dst (N := 10) rfl ?_); refine box_event ?hg (N := 10) ?hd (cs := #[.bool false, .string ⟨#[]⟩, .string ⟨#[]⟩]) (t := 23) ?hr ?_; (case hd => rfl); (case hg => rfl); (case hr => first | (go_simp; done) | (go_simp; rfl)); intro gb125 hg w30 hbox hb; have BK125 := Aside0.mk (hbox); have GW125 := Aside0.mk ((by rw [hg]; exact (below_size (sB HB.out)) : w.heap.size ≤ gb125)); have GE125 := Aside0.mk ((by rw [hg]; exact (below_size (sB HB.out)) : w.heap.size ≤ gb125)); replace HB := Aside0.mk (below_step (sB HB.out) hb); have NB117_125 := Aside0.mk ((by rw [hg]; exact Nat.ne_of_lt (blk_lt (g := gb117) (o := .cells #[.bool false, .string ⟨#[]⟩, .string ⟨#[]⟩] 23 (0, 0)) (sK BK117.out)) : gb117 ≠ gb125)); have NB125_117 := Aside0.mk ((by rw [hg]; exact Nat.ne_of_gt (blk_lt (g := gb117) (o := .cells #[.bool false, .string ⟨#[]⟩, .string ⟨#[]⟩] 23 (0, 0)) (sK BK117.out)) : gb125 ≠ gb117)); replace BK117 := Aside0.mk (blk_below (g := gb117) (o := .cells #[.bool false, .string ⟨#[]⟩, .string ⟨#[]⟩] 23 (0, 0)) (sK BK117.out) hb); clear hb hbox hg; have hnb31 := NB125_117.out; have hnc31 := NB117_125.out; have hcz32_0 := sC BK125.out 0; have hcz32_1 := sC BK125.out 1; have hcz32_2 := sC BK125.out 2; have hfz32_0 := blk_frozen BK125.out 0; have hfz32_1 := blk_frozen BK125.out 1; have hfz32_2 := blk_frozen BK125.out 2; have hcz33_0 := sC BK117.out 0; have hcz33_1 := sC BK117.out 1; have hcz33_2 := sC BK117.out 2; have hfz33_0 := blk_frozen BK117.out 0; have hfz33_1 := blk_frozen BK117.out 1; have hfz33_2 := blk_frozen BK117.out 2))
     refine bodyPost_ret (results_ct rfl _ _ gb117 23 #[.bool false, .string ⟨#[]⟩, .string ⟨#[]⟩] (0, 0) _ rfl (by refine sK ?_; refine blk_put (cs := #[.bool false, .string ⟨#[]⟩, .string ⟨#[]⟩]) ?_ 2 _ rfl; refine sK ?_; refine blk_put (cs := #[.bool false, .string ⟨#[]⟩, .string ⟨#[]⟩]) ?_ 1 _ rfl; refine sK ?_; refine blk_put (cs := #[.bool false, .string ⟨#[]⟩, .string ⟨#[]⟩]) ?_ 0 _ rfl; refine sK ?_; refine blk_far ?_ NB117_125.out _; refine sK ?_; refine blk_far ?_ NB117_125.out _; refine sK ?_; refine blk_far ?_ NB117_125.out _; refine sK ?_; exact BK117.out) Tryz.underlying23 rfl (by kernel_rfl)) rfl ?_
     exact ⟨by first | rfl | (simp [errW_none, errW_some] <;> rfl) | (simp [*, errW_none, errW_some] <;> rfl), sB HB.out⟩
   ·
    replace c9 := Bool.eq_false_iff.mpr c9
    subst c9
    rw [if_neg (show ¬ (false = true) by decide)] at H
    try dsimp -simprocs only at H
    simp only [Option.some.injEq, Prod.mk.injEq] at H
    obtain ⟨rfl, rfl, rfl, rfl⟩ := H
    go_enter Tryz.func57, Tryz.ntmps57
    go_wp2_with (first | ((with_reducible refine gate_dst (N := 2) rfl ?_); refine box_event ?hg (N := 2) ?hd (cs := #[.bool false, .string ⟨#[]⟩, .string ⟨#[]⟩]) (t := 23) ?hr ?_; (case hd => rfl); (case hg => rfl); (case hr => first | (go_simp; done) | (go_simp; rfl)); intro gb117 hg w34 hbox hb; have BK117 := Aside0.mk (hbox); have GW117 := Aside0.mk ((by rw [hg]; exact (below_size (sB HB.out)) : w.heap.size ≤ gb117)); have GE117 := Aside0.mk ((by rw [hg]; exact (below_size (sB HB.out)) : w.heap.size ≤ gb117)); replace HB := Aside0.mk (below_step (sB HB.out) hb); clear hb hbox hg) | ((with_reducible refine gate_callee (f := 71) rfl ?_); refine goesL_ (some 16) rfl rfl Tryz.func71 (by kernel_rfl) rfl #[.string a0, .string ⟨#[60]⟩] rfl sM ?_; (with_reducible refine (strings_CutPrefix.calls a0 (⟨#[60]⟩ : ByteArray) t118 true _ A5.out).mono ?_); rintro e w' ⟨rfl, ⟨nd, rfl⟩⟩; refine ⟨_, rfl, ?_⟩; (try (rw [drewN_self w34]; generalize hq_ : World.drewN w34 _ = w34; have n0_ : Aside0 (w34.heap[gb117]? = some (.cells #[.bool false, .string ⟨#[]⟩, .string ⟨#[]⟩] 23 (0, 0))) := ⟨by rw [← hq_]; exact (sK BK117.out)⟩; have n1_ : Aside0 (Below w.heap.size w w34) := ⟨by rw [← hq_]; exact (sB HB.out)⟩; clear BK117 HB hq_; have BK117 := n0_; have HB := n1_; clear n0_ n1_))) | ((with_reducible refine gate_callee (f := 72) rfl ?_); refine goesL_ (some 21) rfl rfl Tryz.func72 (by kernel_rfl) rfl #[.string t118, .string ⟨#[62]⟩] rfl sM ?_; (with_reducible refine (strings_CutSuffix.calls t118 (⟨#[62]⟩ : ByteArray) t120 false _ A6.out).mono ?_); rintro e w' ⟨rfl, ⟨nd, rfl⟩⟩; refine ⟨_, rfl, ?_⟩; (try (rw [drewN_self w34]; generalize hq_ : World.drewN w34 _ = w34; have n0_ : Aside0 (w34.heap[gb117]? = some (.cells #[.bool false, .string ⟨#[]⟩, .string ⟨#[]⟩] 23 (0, 0))) := ⟨by rw [← hq_]; exact (sK BK117.out)⟩; have n1_ : Aside0 (Below w.heap.size w w34) := ⟨by rw [← hq_]; exact (sB HB.out)⟩; clear BK117 HB hq_; have BK117 := n0_; have HB := n1_; clear n0_ n1_))) | ((with_reducible refine gate_callee (f := 18) rfl ?_); refine goesL_ (some 26) rfl rfl Tryz.func18 (by kernel_rfl) rfl #[.string t120, .string ⟨#[64]⟩] rfl sM ?_; (with_reducible refine (strings_Cut.calls t120 (⟨#[64]⟩ : ByteArray) t122 t123 t124 _ ?side1 A7.out).mono ?_); (case side1 => exact Glob.below HG.out (sB HB.out)); rintro e w35 ⟨rfl, hb⟩; refine ⟨_, rfl, ?_⟩; replace BK117 := Aside0.mk (blk_below (g := gb117) (o := .cells #[.bool false, .string ⟨#[]⟩, .string ⟨#[]⟩] 23 (0, 0)) (sK BK117.out) hb); replace HB := Aside0.mk (below_step (sB HB.out) hb); (try clear hb)) | ((with_reducible refine gate_dst (N := 10) rfl ?_); refine box_event ?hg (N := 10) ?hd (cs := #[.bool false, .string ⟨#[]⟩, .string ⟨#[]⟩]) (t := 23) ?hr ?_; (case hd => rfl); (case hg => rfl); (case hr => first | (go_simp; done) | (go_simp; rfl)); intro gb125 hg w36 hbox hb; have BK125 := Aside0.mk (hbox); have GW125 := Aside0.mk ((by rw [hg]; exact (below_size (sB HB.out)) : w.heap.size ≤ gb125)); have GE125 := Aside0.mk ((by rw [hg]; exact (below_size (sB HB.out)) : w.heap.size ≤ gb125)); replace HB := Aside0.mk (below_step (sB HB.out) hb); have NB117_125 := Aside0.mk ((by rw [hg]; exact Nat.ne_of_lt (blk_lt (g := gb117) (o := .cells #[.bool false, .string ⟨#[]⟩, .string ⟨#[]⟩] 23 (0, 0)) (sK BK117.out)) : gb117 ≠ gb125)); have NB125_117 := Aside0.mk ((by rw [hg]; exact Nat.ne_of_gt (blk_lt (g := gb117) (o := .cells #[.bool false, .string ⟨#[]⟩, .string ⟨#[]⟩] 23 (0, 0)) (sK BK117.out)) : gb125 ≠ gb117)); replace BK117 := Aside0.mk (blk_below (g := gb117) (o := .cells #[.bool false, .string ⟨#[]⟩, .string ⟨#[]⟩] 23 (0, 0)) (sK BK117.out) hb); clear hb hbox hg; have hnb37 := NB125_117.out; have hnc37 := NB117_125.out; have hcz38_0 := sC BK125.out 0; have hcz38_1 := sC BK125.out 1; have hcz38_2 := sC BK125.out 2; have hfz38_0 := blk_frozen BK125.out 0; have hfz38_1 := blk_frozen BK125.out 1; have hfz38_2 := blk_frozen BK125.out 2; have hcz39_0 := sC BK117.out 0; have hcz39_1 := sC BK117.out 1; have hcz39_2 := sC BK117.out 2; have hfz39_0 := blk_frozen BK117.out 0; have hfz39_1 := blk_frozen BK117.out 1; have hfz39_2 := blk_frozen BK117.out 2))
    refine bodyPost_ret (results_ct rfl _ _ gb117 23 #[.bool false, .string ⟨#[]⟩, .string ⟨#[]⟩] (0, 0) _ rfl (by refine sK ?_; refine blk_put (cs := #[.bool false, .string ⟨#[]⟩, .string ⟨#[]⟩]) ?_ 2 _ rfl; refine sK ?_; refine blk_put (cs := #[.bool false, .string ⟨#[]⟩, .string ⟨#[]⟩]) ?_ 1 _ rfl; refine sK ?_; refine blk_put (cs := #[.bool false, .string ⟨#[]⟩, .string ⟨#[]⟩]) ?_ 0 _ rfl; refine sK ?_; refine blk_far ?_ NB117_125.out _; refine sK ?_; refine blk_far ?_ NB117_125.out _; refine sK ?_; refine blk_far ?_ NB117_125.out _; refine sK ?_; exact BK117.out) Tryz.underlying23 rfl (by kernel_rfl)) rfl ?_
    exact ⟨by first | rfl | (simp [errW_none, errW_some] <;> rfl) | (simp [*, errW_none, errW_some] <;> rfl), sB HB.out⟩
  ·
   replace c8 := Bool.eq_false_iff.mpr c8
   subst c8
   rw [if_neg (show ¬ (false = true) by decide)] at H
   try dsimp -simprocs only at H
   simp only [Option.some.injEq, Prod.mk.injEq] at H
   obtain ⟨rfl, rfl, rfl, rfl⟩ := H
   go_enter Tryz.func57, Tryz.ntmps57
   go_wp2_with (first | ((with_reducible refine gate_dst (N := 2) rfl ?_); refine box_event ?hg (N := 2) ?hd (cs := #[.bool false, .string ⟨#[]⟩, .string ⟨#[]⟩]) (t := 23) ?hr ?_; (case hd => rfl); (case hg => rfl); (case hr => first | (go_simp; done) | (go_simp; rfl)); intro gb117 hg w40 hbox hb; have BK117 := Aside0.mk (hbox); have GW117 := Aside0.mk ((by rw [hg]; exact (below_size (sB HB.out)) : w.heap.size ≤ gb117)); have GE117 := Aside0.mk ((by rw [hg]; exact (below_size (sB HB.out)) : w.heap.size ≤ gb117)); replace HB := Aside0.mk (below_step (sB HB.out) hb); clear hb hbox hg) | ((with_reducible refine gate_callee (f := 71) rfl ?_); refine goesL_ (some 16) rfl rfl Tryz.func71 (by kernel_rfl) rfl #[.string a0, .string ⟨#[60]⟩] rfl sM ?_; (with_reducible refine (strings_CutPrefix.calls a0 (⟨#[60]⟩ : ByteArray) t118 false _ A5.out).mono ?_); rintro e w' ⟨rfl, ⟨nd, rfl⟩⟩; refine ⟨_, rfl, ?_⟩; (try (rw [drewN_self w40]; generalize hq_ : World.drewN w40 _ = w40; have n0_ : Aside0 (w40.heap[gb117]? = some (.cells #[.bool false, .string ⟨#[]⟩, .string ⟨#[]⟩] 23 (0, 0))) := ⟨by rw [← hq_]; exact (sK BK117.out)⟩; have n1_ : Aside0 (Below w.heap.size w w40) := ⟨by rw [← hq_]; exact (sB HB.out)⟩; clear BK117 HB hq_; have BK117 := n0_; have HB := n1_; clear n0_ n1_))) | ((with_reducible refine gate_callee (f := 72) rfl ?_); refine goesL_ (some 21) rfl rfl Tryz.func72 (by kernel_rfl) rfl #[.string t118, .string ⟨#[62]⟩] rfl sM ?_; (with_reducible refine (strings_CutSuffix.calls t118 (⟨#[62]⟩ : ByteArray) t120 t121 _ A6.out).mono ?_); rintro e w' ⟨rfl, ⟨nd, rfl⟩⟩; refine ⟨_, rfl, ?_⟩; (try (rw [drewN_self w40]; generalize hq_ : World.drewN w40 _ = w40; have n0_ : Aside0 (w40.heap[gb117]? = some (.cells #[.bool false, .string ⟨#[]⟩, .string ⟨#[]⟩] 23 (0, 0))) := ⟨by rw [← hq_]; exact (sK BK117.out)⟩; have n1_ : Aside0 (Below w.heap.size w w40) := ⟨by rw [← hq_]; exact (sB HB.out)⟩; clear BK117 HB hq_; have BK117 := n0_; have HB := n1_; clear n0_ n1_))) | ((with_reducible refine gate_callee (f := 18) rfl ?_); refine goesL_ (some 26) rfl rfl Tryz.func18 (by kernel_rfl) rfl #[.string t120, .string ⟨#[64]⟩] rfl sM ?_; (with_reducible refine (strings_Cut.calls t120 (⟨#[64]⟩ : ByteArray) t122 t123 t124 _ ?side1 A7.out).mono ?_); (case side1 => exact Glob.below HG.out (sB HB.out)); rintro e w41 ⟨rfl, hb⟩; refine ⟨_, rfl, ?_⟩; replace BK117 := Aside0.mk (blk_below (g := gb117) (o := .cells #[.bool false, .string ⟨#[]⟩, .string ⟨#[]⟩] 23 (0, 0)) (sK BK117.out) hb); replace HB := Aside0.mk (below_step (sB HB.out) hb); (try clear hb)) | ((with_reducible refine gate_dst (N := 10) rfl ?_); refine box_event ?hg (N := 10) ?hd (cs := #[.bool false, .string ⟨#[]⟩, .string ⟨#[]⟩]) (t := 23) ?hr ?_; (case hd => rfl); (case hg => rfl); (case hr => first | (go_simp; done) | (go_simp; rfl)); intro gb125 hg w42 hbox hb; have BK125 := Aside0.mk (hbox); have GW125 := Aside0.mk ((by rw [hg]; exact (below_size (sB HB.out)) : w.heap.size ≤ gb125)); have GE125 := Aside0.mk ((by rw [hg]; exact (below_size (sB HB.out)) : w.heap.size ≤ gb125)); replace HB := Aside0.mk (below_step (sB HB.out) hb); have NB117_125 := Aside0.mk ((by rw [hg]; exact Nat.ne_of_lt (blk_lt (g := gb117) (o := .cells #[.bool false, .string ⟨#[]⟩, .string ⟨#[]⟩] 23 (0, 0)) (sK BK117.out)) : gb117 ≠ gb125)); have NB125_117 := Aside0.mk ((by rw [hg]; exact Nat.ne_of_gt (blk_lt (g := gb117) (o := .cells #[.bool false, .string ⟨#[]⟩, .string ⟨#[]⟩] 23 (0, 0)) (sK BK117.out)) : gb125 ≠ gb117)); replace BK117 := Aside0.mk (blk_below (g := gb117) (o := .cells #[.bool false, .string ⟨#[]⟩, .string ⟨#[]⟩] 23 (0, 0)) (sK BK117.out) hb); clear hb hbox hg; have hnb43 := NB125_117.out; have hnc43 := NB117_125.out; have hcz44_0 := sC BK125.out 0; have hcz44_1 := sC BK125.out 1; have hcz44_2 := sC BK125.out 2; have hfz44_0 := blk_frozen BK125.out 0; have hfz44_1 := blk_frozen BK125.out 1; have hfz44_2 := blk_frozen BK125.out 2; have hcz45_0 := sC BK117.out 0; have hcz45_1 := sC BK117.out 1; have hcz45_2 := sC BK117.out 2; have hfz45_0 := blk_frozen BK117.out 0; have hfz45_1 := blk_frozen BK117.out 1; have hfz45_2 := blk_frozen BK117.out 2))
   refine bodyPost_ret (results_ct rfl _ _ gb117 23 #[.bool false, .string ⟨#[]⟩, .string ⟨#[]⟩] (0, 0) _ rfl (by refine sK ?_; refine blk_put (cs := #[.bool false, .string ⟨#[]⟩, .string ⟨#[]⟩]) ?_ 2 _ rfl; refine sK ?_; refine blk_put (cs := #[.bool false, .string ⟨#[]⟩, .string ⟨#[]⟩]) ?_ 1 _ rfl; refine sK ?_; refine blk_put (cs := #[.bool false, .string ⟨#[]⟩, .string ⟨#[]⟩]) ?_ 0 _ rfl; refine sK ?_; refine blk_far ?_ NB117_125.out _; refine sK ?_; refine blk_far ?_ NB117_125.out _; refine sK ?_; refine blk_far ?_ NB117_125.out _; refine sK ?_; exact BK117.out) Tryz.underlying23 rfl (by kernel_rfl)) rfl ?_
   exact ⟨by first | rfl | (simp [errW_none, errW_some] <;> rfl) | (simp [*, errW_none, errW_some] <;> rfl), sB HB.out⟩
end Go.Proofs.YthcdjgekmfnmnaaGreatDoor.PVerb
end
section
namespace Go.Proofs.YthcdjgekmfnmnaaGreatDoor.PVerb
open Go.RowKit Go.Proofs.YthcdjgekmfnmnaaGreatDoorW.PrintWords Go.Proofs.YthcdjgekmfnmnaaGreatDoorW.PrintLast Go.Proofs.YthcdjgekmfnmnaaGreatDoorW.PrintMore
attribute [local go_sem] max2_int min2_int max_two min_two max_three min_three max_four min_four
set_option linter.unusedVariables false
set_option linter.unusedSimpArgs false
def keyIs (s : ByteArray) (p : S47) : Bool := p.f0.data.toList == s.data.toList
theorem rdP_get {l : List S47} {k : Nat} (hk : k < l.length) : rd_T47 l (k : Int) = l[k] := by
  simp [rd_T47, List.getD_eq_getElem?_getD, List.getElem?_eq_getElem hk]
set_option maxHeartbeats 2000000 in
theorem indexFunc_params (g : Nat) (lb : Array Value) (eg : ∀ args w, (callFunc g args).run Tryz.prog w = .ok (.enter g args) w) (p : S47 → Bool) (w : World) (A : Option Addr) (c : Nat) (l : List S47)
    (hr : Kd.C k47 w A l.length l) (hl : l.length < 4611686018427387904)
    (hp : ∀ W x, x ∈ l → Below w.heap.size w W → Calls Tryz.prog g (#[.agg #[.string x.f0, .string x.f1]] ++ lb) W fun e w' => e = .returned (.bool (p x)) ∧ Below w.heap.size w w') :
    Calls Tryz.prog 34 #[.slice A l.length c, .func (.func g) #[] lb] w fun e w' => e = .returned (.int .i64 (firstAt p l)) ∧ Below w.heap.size w w' := by
  have hu := Tryz.underlying47
  have HR := Aside0.mk hr
  have HP := Aside0.mk hp
  clear hr hp
  go_enter Tryz.func34, Tryz.ntmps34
  go_wp2
  go_loopg [5, 8] l.length (fun gg _ s8 wr => ∃ kk : Nat, kk ≤ l.length ∧ l.length - kk ≤ gg ∧ s8 = .int .i64 kk ∧ Aside0 (Below w.heap.size w wr) ∧ Aside0 (∀ j (hj : j < kk) (hl : j < l.length), p l[j] = false))
  case atStart => exact ⟨0, Nat.zero_le _, by omega, rfl, ⟨Below.refl _ w⟩, ⟨fun j hj => absurd hj (Nat.not_lt_zero _)⟩⟩
  case round =>
    obtain ⟨kk, hkk, hg, rfl, BW, A1⟩ := hrel
    by_cases hlt : kk < l.length
    · have hltz : (kk : Int) < (l.length : Int) := by omega
      obtain ⟨ad, ea, hx, hx2⟩ := at_T47 (Kd.C_below HR.out BW.out) (kk : Int) (by omega) hltz
      cases ea
      rw [rdP_get hlt, Int.toNat_natCast] at hx hx2
      have hcall := HP.out wr l[kk] (List.getElem_mem hlt) BW.out
      have HX := Aside0.mk (rfl : l[kk] = l[kk])
      revert HX
      generalize hy : l[kk] = y at hx hx2 hcall
      intro HX
      have HY := Aside0.mk hy
      clear hy HX
      cases hq : p y with
      | true =>
        rw [hq] at hcall
        go_wp2_with (go_at_fn g; refine hcall.mono ?_; rintro e w' ⟨rfl, hb'⟩)
        go_ret
        refine ⟨?_, hb'⟩
        rw [firstAt_hit hlt (by rw [HY.out]; exact hq) (fun j hj => A1.out j hj (by omega))]
        rfl
      | false =>
        rw [hq] at hcall
        go_wp2_with (go_at_fn g; refine hcall.mono ?_; rintro e w' ⟨rfl, hb'⟩)
        go_roundg (l.length - (kk + 1))
        case measure => omega
        case rel =>
          refine ⟨kk + 1, by omega, by omega, by go_num, ⟨hb'⟩, ⟨fun j hj hjl => ?_⟩⟩
          by_cases e : j = kk
          · subst e
            rw [HY.out]; exact hq
          · exact A1.out j (by omega) hjl
    · have hltz : ¬ (kk : Int) < (l.length : Int) := by omega
      have HK := Aside0.mk (show kk = l.length by omega)
      go_wp2
      go_ret
      refine ⟨?_, BW.out⟩
      rw [firstAt_none (fun j hj => A1.out j (by rw [HK.out]; exact hj) hj)]
      rfl
set_option maxHeartbeats 2000000 in
theorem containsFunc_params (g : Nat) (lb : Array Value) (eg : ∀ args w, (callFunc g args).run Tryz.prog w = .ok (.enter g args) w) (p : S47 → Bool) (w : World) (A : Option Addr) (c : Nat) (l : List S47)
    (hr : Kd.C k47 w A l.length l) (hl : l.length < 4611686018427387904)
    (hp : ∀ W x, x ∈ l → Below w.heap.size w W → Calls Tryz.prog g (#[.agg #[.string x.f0, .string x.f1]] ++ lb) W fun e w' => e = .returned (.bool (p x)) ∧ Below w.heap.size w w') :
    Calls Tryz.prog 75 #[.slice A l.length c, .func (.func g) #[] lb] w fun e w' => e = .returned (.bool (l.any p)) ∧ Below w.heap.size w w' := by
  have HC := Aside0.mk (indexFunc_params g lb eg p w A c l hr hl hp)
  have HA := Aside0.mk (firstAt_any p l)
  clear hr hp eg
  generalize firstAt p l = r at HC HA
  have HC2 := HC.out
  go_enter Tryz.func75, Tryz.ntmps75
  go_wp2_with (go_at_call 34; refine HC2.mono ?_; rintro e w' ⟨rfl, hb'⟩)
  go_ret
  refine ⟨?_, hb'⟩
  rw [← HA.out]
  rfl
end Go.Proofs.YthcdjgekmfnmnaaGreatDoor.PVerb
end
section
namespace Go.Proofs.YthcdjgekmfnmnaaGreatDoor.PVerb
open Go.RowKit Go.Proofs.YthcdjgekmfnmnaaGreatDoorW.PrintWords Go.Proofs.YthcdjgekmfnmnaaGreatDoorW.PrintLast Go.Proofs.YthcdjgekmfnmnaaGreatDoorW.PrintMore
attribute [local go_sem] max2_int min2_int max_two min_two max_three min_three max_four min_four
set_option linter.unusedVariables false
set_option linter.unusedSimpArgs false
def eqFold (s x : ByteArray) : Bool := foldL x.data.toList == foldL s.data.toList
set_option maxHeartbeats 2000000 in
set_option maxRecDepth 100000 in
theorem one1 (x s : ByteArray) (B : Nat) (w : World) (hx : x.size < 4294967281) (hs : s.size < 4294967281) (hB : B < w.heap.size) (hc : w.cell? ⟨B, 0, none⟩ = some (.string s)) :
    Calls Tryz.prog 88 #[.string x, .pointer (some ⟨B, 0, none⟩)] w fun e w' => e = .returned (.bool (eqFold s x)) ∧ Below w.heap.size w w' := by
  have hr : eqFold s x = ((bs (foldL x.data.toList)).toList == (bs (foldL s.data.toList)).toList) := by rw [toList_data, toList_data]; rfl
  rw [hr]; clear hr
  have HX := Aside0.mk hx
  have HS := Aside0.mk hs
  clear hx hs
  go_enter Tryz.func88, Tryz.ntmps88
  go_wp2_with fail
  go_region_held3 (fun w' => w'.cell? ⟨B, 0, none⟩ = some (.string s) ∧ Aside0 (Below w.heap.size w w'))
    (first | exact ⟨hc, ⟨below_drew (Below.refl _ _)⟩⟩ | (obtain ⟨h1_, h2_⟩ := ‹(World.cell? _ ⟨B, 0, none⟩ = some (Value.string s)) ∧ Aside0 (Below w.heap.size w _)›; exact ⟨(hb1.cell (p := ⟨B, 0, none⟩) (Nat.lt_of_lt_of_le hB (below_size h2_.out))).trans h1_, ⟨below_step h2_.out hb1⟩⟩) | go_keep)
    ((go_at_call 19; refine (path_Fold.walk _ _ (by first | exact HX.out | exact HS.out)).mono ?_; rintro e w1 ⟨rfl, hb1⟩))
  go_wp2
  go_ret
  exact ⟨rfl, (‹(World.cell? _ ⟨B, 0, none⟩ = some (Value.string s)) ∧ Aside0 (Below w.heap.size w _)›).2.out⟩
theorem find_none {l : List ByteArray} {s : ByteArray} (h : l.findIdx? (eqFold s) = none) : l.find? (eqFold s) = none := by
  rw [List.findIdx?_eq_none_iff] at h
  rw [List.find?_eq_none]
  intro x hx
  rw [h x hx]; decide
theorem find_some {l : List ByteArray} {s : ByteArray} {i : Nat} (h : l.findIdx? (eqFold s) = some i) : ∃ hi : i < l.length, l.find? (eqFold s) = some l[i] := by
  rw [List.findIdx?_eq_some_iff_getElem] at h
  obtain ⟨hi, hp, hb⟩ := h
  refine ⟨hi, ?_⟩
  rw [List.find?_eq_some_iff_getElem]
  exact ⟨hp, i, hi, rfl, fun j hj => by simpa using hb j hj⟩
set_option maxHeartbeats 2000000 in
set_option maxRecDepth 100000 in
theorem verb_one.walk (a0 : ByteArray) (A1 : Option Addr) (c1 : Nat) (l1 : List ByteArray) (w : World) (hr1 : Kd.C Kd.string w A1 l1.length l1) (h1 : a0.size < 4294967281) (h2 : l1.length < 100) (h3 : ∀ x ∈ l1, x.size < 4294967281) :
    Calls Tryz.prog 73 #[.string a0, .slice A1 l1.length c1] w fun e w' => e = .returned (.tuple #[.string ((l1.find? (eqFold a0)).getD (bs [])), .bool (l1.find? (eqFold a0)).isSome]) ∧ Below w.heap.size w w' := by
  have eg : ∀ args w, (callFunc 88 args).run Tryz.prog w = .ok (.enter 88 args) w := enters_of Tryz.func88 (by kernel_rfl) rfl
  have hb0 : Below w.heap.size w (w.alloc (.cells #[.string a0] 9)) := (Below.refl _ w).alloc (Nat.le_refl _) _
  have hcon := indexFunc_strs 88 #[.pointer (some ⟨w.heap.size, 0, none⟩)] eg (eqFold a0) (w.alloc (.cells #[.string a0] 9)) A1 c1 l1 (Kd.C_below hr1 hb0) (by omega)
    (fun W x hx hb => by
      have hlt : w.heap.size < (w.alloc (.cells #[.string a0] 9)).heap.size := by simp
      refine (one1 x a0 w.heap.size W (h3 x hx) h1 (Nat.lt_of_lt_of_le hlt hb.size) ((hb.cell (p := ⟨w.heap.size, 0, none⟩) hlt).trans (by simp))).mono ?_
      rintro e w' ⟨he, hw⟩
      exact ⟨he, hb.trans (hw.mono hb.size)⟩)
  have HR := Aside0.mk hr1
  have HCON := Aside0.mk hcon
  clear hr1 h1 h3 hcon eg
  cases hf : l1.findIdx? (eqFold a0) with
  | none =>
    have e1 : firstAt (eqFold a0) l1 = -1 := by simp [firstAt, hf]
    rw [find_none hf]
    clear hf
    have hc2 := HCON.out
    rw [e1] at hc2
    clear HCON e1
    go_enter Tryz.func73, Tryz.ntmps73
    go_wp2_with (go_at_call 87; refine hc2.mono ?_; rintro e w1 ⟨rfl, hb⟩)
    go_ret2
    exact ⟨rfl, hb0.trans (hb.mono (by simp))⟩
  | some i =>
    have e1 : firstAt (eqFold a0) l1 = (i : Int) := by simp [firstAt, hf]
    obtain ⟨hi, hfi⟩ := find_some hf
    rw [hfi]
    clear hf hfi
    have hc2 := HCON.out
    rw [e1] at hc2
    clear HCON e1
    have hi0 : (0 : Int) ≤ (i : Int) := by omega
    have hi1 : (i : Int) < (l1.length : Int) := by omega
    obtain ⟨ad, ea, hx⟩ := Kd.at_string HR.out (i : Int) (by omega) hi1
    cases ea
    rw [rdOf_get hi, Int.toNat_natCast] at hx
    show Calls Tryz.prog 73 _ w fun e w' => e = .returned (.tuple #[.string l1[i], .bool true]) ∧ Below w.heap.size w w'
    generalize l1[i] = y at hx ⊢
    go_enter Tryz.func73, Tryz.ntmps73
    go_wp2_with (go_at_call 87; refine hc2.mono ?_; rintro e w1 ⟨rfl, hb⟩; have hx1 := pw_cell_below (below_step hb0 hb) hx)
    go_ret2
    exact ⟨rfl, hb0.trans (hb.mono (by simp))⟩
def verb_one.f (a0 : ByteArray) (l1 : List ByteArray) : Option (ByteArray × Bool) :=
  if a0.size < 4294967281 ∧ l1.length < 100 ∧ (∀ x ∈ l1, x.size < 4294967281) then
    some ((l1.find? (eqFold a0)).getD (bs []), (l1.find? (eqFold a0)).isSome) else none
theorem verb_one.calls (a0 : ByteArray) (A1 : Option Addr) (c1 : Nat) (l1 : List ByteArray) (r1 : ByteArray) (r2 : Bool) (w : World) (hr1 : Kd.C Kd.string w A1 l1.length l1) (hc1 : l1.length ≤ c1) (h : verb_one.f a0 l1 = some (r1, r2)) :
    Calls Tryz.prog 73 #[.string a0, .slice A1 l1.length c1] w fun e w' => e = .returned (.tuple #[.string r1, .bool r2]) ∧ Below w.heap.size w w' := by
  unfold verb_one.f at h
  split at h
  · rename_i hs
    simp only [Option.some.injEq, Prod.mk.injEq] at h
    obtain ⟨rfl, rfl⟩ := h
    exact verb_one.walk a0 A1 c1 l1 w hr1 hs.1 hs.2.1 hs.2.2
  · cases h
end Go.Proofs.YthcdjgekmfnmnaaGreatDoor.PVerb
end
section
namespace Go.Proofs.YthcdjgekmfnmnaaGreatDoor.PVerb
open Go.RowKit Go.Proofs.YthcdjgekmfnmnaaGreatDoorW.PrintWords Go.Proofs.YthcdjgekmfnmnaaGreatDoorW.PrintLast Go.Proofs.YthcdjgekmfnmnaaGreatDoorW.PrintMore
attribute [local go_sem] max2_int min2_int max_two min_two max_three min_three max_four min_four
set_option linter.unusedVariables false
set_option linter.unusedSimpArgs false
theorem atoi_ok (a0 : ByteArray) (w : World) (hs : a0.size < 4294967281) (v : Int) (h : Lib.atoiAll a0.data.toList = .ok v) :
    Calls Tryz.prog 93 #[.string a0] w fun e w' => e = .returned (.tuple #[.int .i64 v, .nilIface]) ∧ Below w.heap.size w w' := by
  refine (Tryz.strconv_Atoi_ok a0 (by omega) v h w).mono ?_
  rintro e w' ⟨rfl, rfl | ⟨t, rfl⟩⟩
  · exact ⟨rfl, Below.refl _ _⟩
  · exact ⟨rfl, Lib.bytesWorld_below _ _ _⟩
theorem itoa_any (n : Int) (h0 : -9223372036854775808 ≤ n) (h1 : n ≤ 9223372036854775807) (w : World) (hG : Glob w) :
    Calls Tryz.prog 94 #[.int .i64 n] w fun e w' => e = .returned (.string (bs (Lib.itoa n))) ∧ Below w.heap.size w w' := by
  refine (Tryz.strconv_Itoa n h0 h1 w hG.tab).mono ?_
  rintro e w' ⟨rfl, k, os, rfl⟩
  exact ⟨rfl, below_grown w k os⟩
set_option maxHeartbeats 1000000 in
set_option maxRecDepth 100000 in
theorem num_syntax (a0 : ByteArray) (w : World) (hG : Glob w) (hs : a0.size < 4294967281) (h : Lib.atoiAll a0.data.toList = Go.Lib.NumEnd.syntax) :
    Calls Tryz.prog 89 #[.string a0] w fun e w' => e = .returned (.bool false) ∧ Below w.heap.size w w' := by
  obtain ⟨tp, p, hv⟩ := hG.es
  have HC := Lib.hid (Tryz.strconv_Atoi_syntax_var a0 (by omega) h tp p w hv)
  clear hv h hG
  go_enter Tryz.func89, Tryz.ntmps89
  go_wp2_with (go_at_call 93; refine HC.out.mono ?_; rintro e w' ⟨N, rfl, h1, h2, hb⟩)
  go_ret
  exact ⟨rfl, hb⟩
set_option maxHeartbeats 1000000 in
set_option maxRecDepth 100000 in
theorem num_range (a0 : ByteArray) (w : World) (hG : Glob w) (hs : a0.size < 4294967281) (h : Lib.atoiAll a0.data.toList = .range) :
    Calls Tryz.prog 89 #[.string a0] w fun e w' => e = .returned (.bool false) ∧ Below w.heap.size w w' := by
  obtain ⟨tp, p, hv⟩ := hG.er
  have HC := Lib.hid (Tryz.strconv_Atoi_range_var a0 (by omega) h tp p w hv)
  clear hv h hG
  go_enter Tryz.func89, Tryz.ntmps89
  go_wp2_with (go_at_call 93; refine HC.out.mono ?_; rintro e w' ⟨N, rfl, h1, h2, hb⟩)
  go_ret
  exact ⟨rfl, hb⟩
set_option maxHeartbeats 1000000 in
set_option maxRecDepth 100000 in
theorem num_neg (a0 : ByteArray) (w : World) (hs : a0.size < 4294967281) (v : Int) (h : Lib.atoiAll a0.data.toList = .ok v) (h0 : ¬ 0 ≤ v) :
    Calls Tryz.prog 89 #[.string a0] w fun e w' => e = .returned (.bool false) ∧ Below w.heap.size w w' := by
  have HC := Lib.hid (atoi_ok a0 w hs v h)
  clear h
  go_enter Tryz.func89, Tryz.ntmps89
  go_wp2_with (go_at_call 93; refine HC.out.mono ?_; rintro e w' ⟨rfl, hb⟩)
  go_ret
  exact ⟨rfl, hb⟩
set_option maxHeartbeats 1000000 in
set_option maxRecDepth 100000 in
theorem num_long (a0 : ByteArray) (w : World) (hs : a0.size < 4294967281) (v : Int) (h : Lib.atoiAll a0.data.toList = .ok v) (h0 : 0 ≤ v) (h9 : ¬ a0.size ≤ 9) :
    Calls Tryz.prog 89 #[.string a0] w fun e w' => e = .returned (.bool false) ∧ Below w.heap.size w w' := by
  have HC := Lib.hid (atoi_ok a0 w hs v h)
  clear h
  go_enter Tryz.func89, Tryz.ntmps89
  go_wp2_with (go_at_call 93; refine HC.out.mono ?_; rintro e w' ⟨rfl, hb⟩)
  go_ret
  exact ⟨rfl, hb⟩
set_option maxHeartbeats 1000000 in
set_option maxRecDepth 100000 in
theorem num_ok (a0 : ByteArray) (w : World) (hG : Glob w) (hs : a0.size < 4294967281) (v : Int) (h : Lib.atoiAll a0.data.toList = .ok v) (h0 : 0 ≤ v) (h9 : a0.size ≤ 9) (h1 : v ≤ 9223372036854775807) :
    Calls Tryz.prog 89 #[.string a0] w fun e w' => e = .returned (.bool (Lib.itoa v == a0.data.toList)) ∧ Below w.heap.size w w' := by
  have HC := Lib.hid (atoi_ok a0 w hs v h)
  clear h
  have hr : (Lib.itoa v == a0.data.toList) = ((bs (Lib.itoa v)).toList == a0.toList) := by rw [toList_data, toList_data]; rfl
  rw [hr]; clear hr
  have HI := Lib.hid (fun W hg => itoa_any v (by omega) h1 W hg)
  generalize bs (Lib.itoa v) = r at *
  go_enter Tryz.func89, Tryz.ntmps89
  go_wp2_with (go_at_call 93; refine HC.out.mono ?_; rintro e w1 ⟨rfl, hb⟩)
  refine (HI.out _ (hG.below hb)).mono ?_
  rintro e w2 ⟨rfl, hb2⟩
  go_wp2
  go_ret
  exact ⟨rfl, hb.trans (hb2.mono hb.size)⟩
theorem verb_number.walk (a0 : ByteArray) (w : World) (hG : Glob w) (hs : a0.size < 4294967281) :
    Calls Tryz.prog 89 #[.string a0] w fun e w' => e = .returned (.bool (numL 9 a0.data.toList)) ∧ Below w.heap.size w w' := by
  have hsz := data_size a0
  rw [numL_eq]
  match ha : Lib.atoiAll a0.data.toList with
  | Go.Lib.NumEnd.syntax =>
    have : numB a0.data.toList = false ∨ ¬ a0.data.toList.length ≤ 9 := by
      by_cases hl : a0.data.toList.length ≤ 9
      · left
        cases hb : numB a0.data.toList with
        | false => rfl
        | true => rw [atoi_num hb (by omega)] at ha; cases ha
      · exact .inr hl
    have e : (numB a0.data.toList && decide (a0.data.toList.length ≤ 9)) = false := by rcases this with h | h <;> first | rw [h, Bool.false_and] | rw [decide_eq_false h, Bool.and_false]
    rw [e]; exact num_syntax a0 w hG hs ha
  | .range =>
    have : numB a0.data.toList = false ∨ ¬ a0.data.toList.length ≤ 9 := by
      by_cases hl : a0.data.toList.length ≤ 9
      · left
        cases hb : numB a0.data.toList with
        | false => rfl
        | true => rw [atoi_num hb (by omega)] at ha; cases ha
      · exact .inr hl
    have e : (numB a0.data.toList && decide (a0.data.toList.length ≤ 9)) = false := by rcases this with h | h <;> first | rw [h, Bool.false_and] | rw [decide_eq_false h, Bool.and_false]
    rw [e]; exact num_range a0 w hG hs ha
  | .ok v =>
    by_cases hl : a0.data.toList.length ≤ 9
    · by_cases h0 : 0 ≤ v
      · have e : (numB a0.data.toList && decide (a0.data.toList.length ≤ 9)) = (Lib.itoa v == a0.data.toList) := by
          rw [decide_eq_true hl, Bool.and_true, Bool.eq_iff_iff, beq_iff_eq]
          constructor
          · intro hb
            rw [atoi_num hb (by omega)] at ha
            injection ha with ha
            rw [← ha]; exact itoa_num hb
          · intro hi; exact (num_of_itoa h0 hi).1
        rw [e]; exact num_ok a0 w hG hs v ha h0 (by omega) (Lib.atoiAll_bounds ha).2
      · have e : (numB a0.data.toList && decide (a0.data.toList.length ≤ 9)) = false := by
          cases hb : numB a0.data.toList with
          | false => rfl
          | true => rw [atoi_num hb (by omega)] at ha; injection ha with ha; omega
        rw [e]; exact num_neg a0 w hs v ha h0
    · have e : (numB a0.data.toList && decide (a0.data.toList.length ≤ 9)) = false := by rw [decide_eq_false hl, Bool.and_false]
      rw [e]
      by_cases h0 : 0 ≤ v
      · exact num_long a0 w hs v ha h0 (by omega)
      · exact num_neg a0 w hs v ha h0
def verb_number.f (a0 : ByteArray) : Option Bool := if a0.size < 4294967281 then some (numL 9 a0.data.toList) else none
theorem verb_number.calls (a0 : ByteArray) (r : Bool) (w : World) (hG : Glob w) (h : verb_number.f a0 = some r) :
    Calls Tryz.prog 89 #[.string a0] w fun e w' => e = .returned (.bool r) ∧ Below w.heap.size w w' := by
  unfold verb_number.f at h
  split at h
  · rename_i hs
    simp only [Option.some.injEq] at h
    subst h
    exact verb_number.walk a0 w hG hs
  · cases h
end Go.Proofs.YthcdjgekmfnmnaaGreatDoor.PVerb
end
section
namespace Go.Proofs.YthcdjgekmfnmnaaGreatDoor.PVerb
open Go.RowKit Go.Proofs.YthcdjgekmfnmnaaGreatDoorW.PrintWords Go.Proofs.YthcdjgekmfnmnaaGreatDoorW.PrintLast Go.Proofs.YthcdjgekmfnmnaaGreatDoorW.PrintMore
attribute [local go_sem] max2_int min2_int max_two min_two max_three min_three max_four min_four
set_option linter.unusedVariables false
set_option linter.unusedSimpArgs false
mutual
def verb_value.j0 : Nat → Int → ByteArray → ByteArray → Bool → Option (ByteArray × Bool)
 | 0, _, _, _, _ => none
 | k + 1, x0, x1, x2, x8 => if x8 = true then ((verb_number.f x2).bind fun t127 => (some (x2, t127))) else (if x0 = 2 then (verb_value.j1 k x0 x1 x2 (x1.toList == ([82, 69, 84] : List UInt8))) else (verb_value.j1 k x0 x1 x2 false))
def verb_value.j1 : Nat → Int → ByteArray → ByteArray → Bool → Option (ByteArray × Bool)
 | 0, _, _, _, _ => none
 | k + 1, x0, x1, x2, x18 => if x18 = true then ((verb_one.f x2 (([(⟨#[70, 85, 76, 76]⟩ : ByteArray), (⟨#[72, 68, 82, 83]⟩ : ByteArray)] : List ByteArray))).bind fun bt131 => (some (bt131.1, bt131.2))) else (if x0 = 3 then (if x1.toList = ([78, 79, 84, 73, 70, 89] : List UInt8) then ((verb_one.f x2 (([(⟨#[78, 69, 86, 69, 82]⟩ : ByteArray), (⟨#[70, 65, 73, 76, 85, 82, 69]⟩ : ByteArray)] : List ByteArray))).bind fun bt136 => (some (bt136.1, bt136.2))) else (some ((⟨#[]⟩ : ByteArray), false))) else (some ((⟨#[]⟩ : ByteArray), false)))
end
def verb_value.f (k : Nat) (a0 : Int) (a1 : ByteArray) (a2 : ByteArray) : Option (ByteArray × Bool) := if a0 = 2 then (verb_value.j0 k a0 a1 a2 (a1.toList == ([83, 73, 90, 69] : List UInt8))) else (verb_value.j0 k a0 a1 a2 false)
set_option maxHeartbeats 8000000 in
set_option maxRecDepth 100000 in
theorem verb_value.calls (k : Nat) (a0 : Int) (a1 : ByteArray) (a2 : ByteArray) (r1 : ByteArray) (r2 : Bool) (w : World) (hG : Glob w) (h : verb_value.f k a0 a1 a2 = some (r1, r2)) :
  Calls Tryz.prog 74 #[.int .i64 a0, .string a1, .string a2] w fun e w' => e = .returned (.tuple #[.string r1, .bool r2]) ∧ Below w.heap.size w w' := by
 have HB := Aside0.mk (Below.refl w.heap.size w)
 have HG := Aside0.mk hG
 clear hG
 have H : (if a0 = 2 then (verb_value.j0 k a0 a1 a2 (a1.toList == ([83, 73, 90, 69] : List UInt8))) else (verb_value.j0 k a0 a1 a2 false)) = some (r1, r2) := h
 clear h
 have HC4 := Aside0.mk H
 clear H
 go_enter Tryz.func74, Tryz.ntmps74
 go_upto_region 1 with (fail)
 go_cut [8] (fun v8 wc => ∃ (kq : Nat) (x8_3 : Bool), v8 = .bool x8_3 ∧ Aside0 (verb_value.j0 kq a0 a1 a2 x8_3 = some (r1, r2)) ∧ Aside0 (kq ≤ k) ∧ Aside0 (Below w.heap.size w wc))
 case first =>
  have H := HC4.out
  clear HC4
  by_cases c5 : a0 = 2
  ·
   rw [if_pos c5] at H
   have c5b0 : (a0 == 2) = true := beq_iff_eq.mpr c5
   have c5b1 : (a0 != 2) = false := bne_eq_false_iff_eq.mpr c5
   clear c5
   (first | rw [c5b0] | (simp only [i64_w, i32_w]; rw [c5b0]) | skip)
   have H' := Aside0.mk H
   clear H
   go_wp2
   go_meet
   case rel => exact ⟨_, ((a1.toList == ([83, 73, 90, 69] : List UInt8))), (by first | rfl | (simp; done) | (simp [*]; done)), H', ⟨by first | omega | exact Nat.le_refl _⟩, ⟨sB HB.out⟩⟩
  ·
   rw [if_neg c5] at H
   have c5b0 : (a0 == 2) = false := beq_eq_false_iff_ne.mpr c5
   have c5b1 : (a0 != 2) = true := bne_iff_ne.mpr c5
   (first | rw [c5b0] | (simp only [i64_w, i32_w]; rw [c5b0]) | skip)
   have H' := Aside0.mk H
   clear H
   go_wp2
   go_meet
   case rel => exact ⟨_, (false), (by first | rfl | (simp; done) | (simp [*]; done)), H', ⟨by first | omega | exact Nat.le_refl _⟩, ⟨sB HB.out⟩⟩
 case rest =>
  clear HC4
  try clear p2; try clear c5; try clear c5b0; try clear c5b1
  obtain ⟨kq, x8_3, rfl, HA, HJ3, HB⟩ := hcut
  cases kq with
  | zero => exact absurd HA.out (by simp [verb_value.j0])
  | succ kj3 =>
   have H := HA.out
   clear HA
   simp only [verb_value.j0] at H
   by_cases c6 : x8_3 = true
   ·
    subst c6
    rw [if_pos rfl] at H
    try dsimp -simprocs only at H
    replace H := Option.bind_eq_some_iff.mp H
    obtain ⟨t127, A70, H⟩ := H
    try dsimp -simprocs only at H
    have A7 := Aside0.mk A70
    clear A70
    simp only [Option.some.injEq, Prod.mk.injEq] at H
    obtain ⟨rfl, rfl⟩ := H
    go_wp2_with (first | ((with_reducible refine gate_callee (f := 89) rfl ?_); refine goesL_ (some 17) rfl rfl Tryz.func89 (by kernel_rfl) rfl #[.string a2] rfl sM ?_; (with_reducible refine (verb_number.calls a2 t127 _ ?side1 A7.out).mono ?_); (case side1 => exact Glob.below HG.out (sB HB.out)); rintro e w8 ⟨rfl, hb⟩; refine ⟨_, rfl, ?_⟩; replace HB := Aside0.mk (below_step (sB HB.out) hb); (try clear hb)))
    go_ret2
    exact ⟨by first | rfl | (simp [errW_none, errW_some] <;> rfl) | (simp [*, errW_none, errW_some] <;> rfl), sB HB.out⟩
   ·
    replace c6 := Bool.eq_false_iff.mpr c6
    subst c6
    rw [if_neg (show ¬ (false = true) by decide)] at H
    try dsimp -simprocs only at H
    have HC9 := Aside0.mk H
    clear H
    go_upto_region 3 with (fail)
    go_cut [18] (fun v18 wc => ∃ (kq : Nat) (x18_8 : Bool), v18 = .bool x18_8 ∧ Aside0 (verb_value.j1 kq a0 a1 a2 x18_8 = some (r1, r2)) ∧ Aside0 (kq ≤ kj3) ∧ Aside0 (Below w.heap.size w wc))
    case first =>
     have H := HC9.out
     clear HC9
     by_cases c10 : a0 = 2
     ·
      rw [if_pos c10] at H
      have c10b0 : (a0 == 2) = true := beq_iff_eq.mpr c10
      have c10b1 : (a0 != 2) = false := bne_eq_false_iff_eq.mpr c10
      clear c10
      (first | rw [c10b0] | (simp only [i64_w, i32_w]; rw [c10b0]) | skip)
      have H' := Aside0.mk H
      clear H
      go_wp2
      go_meet
      case rel => exact ⟨_, ((a1.toList == ([82, 69, 84] : List UInt8))), (by first | rfl | (simp; done) | (simp [*]; done)), H', ⟨by have := HJ3.out; first | omega | exact Nat.le_refl _⟩, ⟨sB HB.out⟩⟩
     ·
      rw [if_neg c10] at H
      have c10b0 : (a0 == 2) = false := beq_eq_false_iff_ne.mpr c10
      have c10b1 : (a0 != 2) = true := bne_iff_ne.mpr c10
      (first | rw [c10b0] | (simp only [i64_w, i32_w]; rw [c10b0]) | skip)
      have H' := Aside0.mk H
      clear H
      go_wp2
      go_meet
      case rel => exact ⟨_, (false), (by first | rfl | (simp; done) | (simp [*]; done)), H', ⟨by have := HJ3.out; first | omega | exact Nat.le_refl _⟩, ⟨sB HB.out⟩⟩
    case rest =>
     clear HC9
     try clear c1; try clear p2; try clear c5; try clear c5b0; try clear c5b1; try clear c6; try clear c7; try clear c8; try clear c10; try clear c10b0; try clear c10b1; try clear p2
     obtain ⟨kq, x18_8, rfl, HA, HJ8, HB⟩ := hcut
     cases kq with
     | zero => exact absurd HA.out (by simp [verb_value.j1])
     | succ kj8 =>
      have H := HA.out
      clear HA
      simp only [verb_value.j1] at H
      by_cases c11 : x18_8 = true
      ·
       subst c11
       rw [if_pos rfl] at H
       try dsimp -simprocs only at H
       obtain ⟨y128, hy128⟩ : ∃ y_ : List ByteArray, y_ = (([(⟨#[70, 85, 76, 76]⟩ : ByteArray), (⟨#[72, 68, 82, 83]⟩ : ByteArray)] : List ByteArray)) := ⟨_, rfl⟩
       replace H : ((verb_one.f a2 y128).bind fun bt131 => (some (bt131.1, bt131.2))) = some (r1, r2) := by first | (rw [hy128]; with_reducible exact H) | (have H2_ := (Option.bind_some _ _).symm.trans H; rw [hy128]; with_reducible exact H2_) | (have H2_ := (Option.bind_some _ _).symm.trans H; with_reducible exact H2_) | with_reducible exact H | (rw [hy128]; exact H) | exact H
       have Ny128 := Aside0.mk hy128
       clear hy128
       replace H := Option.bind_eq_some_iff.mp H
       obtain ⟨⟨t131, t132⟩, A120, H⟩ := H
       try dsimp -simprocs only at H
       have A12 := Aside0.mk A120
       clear A120
       simp only [Option.some.injEq, Prod.mk.injEq] at H
       obtain ⟨rfl, rfl⟩ := H
       go_wp2_with (first | ((with_reducible refine gate_dst (N := 26) rfl ?_); refine Kd.R_lit Kd.string _ 9 ?hg (N := 26) ?hd (xs := ([(⟨#[70, 85, 76, 76]⟩ : ByteArray), (⟨#[72, 68, 82, 83]⟩ : ByteArray)] : List ByteArray)) (inner := [.string ⟨#[70, 85, 76, 76]⟩, .string ⟨#[72, 68, 82, 83]⟩]) (ok := fun _ => True) (okp := fun _ => True) ?hr ?hp (fun _ hk => hk) trivial (Below.refl _ _) (Nat.le_refl _) (by simp) ?_; (case hd => rfl); (case hg => rfl); (case hr => first | (go_simp; done) | (go_simp; rfl)); (case hp => exact (Reps.one (show Kd.M Kd.string _ _ _ (⟨#[70, 85, 76, 76]⟩ : ByteArray) [.string ⟨#[70, 85, 76, 76]⟩] from rfl) (Reps.one (show Kd.M Kd.string _ _ _ (⟨#[72, 68, 82, 83]⟩ : ByteArray) [.string ⟨#[72, 68, 82, 83]⟩] from rfl) (Reps.none _ _)))); intro v129 w13 ho14 hb hg_ hnew_; clear hg_ hnew_; (first | rw [← Ny128.out] at ho14 | (simp only [Int.reduceToNat] at ho14; rw [← Ny128.out] at ho14)); have HO130 := Aside0.mk (Kd.R_lower ho14 (below_size (sB HB.out))); replace HB := Aside0.mk (below_step (sB HB.out) hb); clear hb ho14; obtain ⟨Ao15, co15, eo15⟩ := Kd.R_slice HO130.out; subst eo15) | ((with_reducible refine gate_callee (f := 73) rfl ?_); refine goesL_ (some 27) rfl rfl Tryz.func73 (by kernel_rfl) rfl #[.string a2, .slice Ao15 y128.length co15] rfl sM ?_; (with_reducible refine (verb_one.calls a2 _ _ y128 t131 t132 _ ?side1 ?side2 A12.out).mono ?_); (case side1 => repeat (first | exact (Kd.R_reads' HO130.out).2.2 | (with_reducible refine Kd.C_alloc ?_ _) | (with_reducible refine Kd.C_drewN ?_ _) | (with_reducible refine Kd.C_drew ?_))); (case side2 => exact (Kd.R_reads' HO130.out).2.1); rintro e w16 ⟨rfl, hb⟩; refine ⟨_, rfl, ?_⟩; replace HO130 := Aside0.mk (Kd.R_below (sR HO130.out) hb); replace HB := Aside0.mk (below_step (sB HB.out) hb); (try clear hb)))
       go_ret2
       exact ⟨by first | rfl | (simp [errW_none, errW_some] <;> rfl) | (simp [*, errW_none, errW_some] <;> rfl), sB HB.out⟩
      ·
       replace c11 := Bool.eq_false_iff.mpr c11
       subst c11
       rw [if_neg (show ¬ (false = true) by decide)] at H
       try dsimp -simprocs only at H
       by_cases c17 : a0 = 3
       ·
        rw [if_pos c17] at H
        have c17b0 : (a0 == 3) = true := beq_iff_eq.mpr c17
        have c17b1 : (a0 != 3) = false := bne_eq_false_iff_eq.mpr c17
        clear c17
        by_cases c18 : a1.toList = ([78, 79, 84, 73, 70, 89] : List UInt8)
        ·
         rw [if_pos c18] at H
         have c18b0 : (a1.toList == ([78, 79, 84, 73, 70, 89] : List UInt8)) = true := beq_iff_eq.mpr c18
         have c18b1 : (a1.toList != ([78, 79, 84, 73, 70, 89] : List UInt8)) = false := bne_eq_false_iff_eq.mpr c18
         clear c18
         obtain ⟨y133, hy133⟩ : ∃ y_ : List ByteArray, y_ = (([(⟨#[78, 69, 86, 69, 82]⟩ : ByteArray), (⟨#[70, 65, 73, 76, 85, 82, 69]⟩ : ByteArray)] : List ByteArray)) := ⟨_, rfl⟩
         replace H : ((verb_one.f a2 y133).bind fun bt136 => (some (bt136.1, bt136.2))) = some (r1, r2) := by first | (rw [hy133]; with_reducible exact H) | (have H2_ := (Option.bind_some _ _).symm.trans H; rw [hy133]; with_reducible exact H2_) | (have H2_ := (Option.bind_some _ _).symm.trans H; with_reducible exact H2_) | with_reducible exact H | (rw [hy133]; exact H) | exact H
         have Ny133 := Aside0.mk hy133
         clear hy133
         replace H := Option.bind_eq_some_iff.mp H
         obtain ⟨⟨t136, t137⟩, A190, H⟩ := H
         try dsimp -simprocs only at H
         have A19 := Aside0.mk A190
         clear A190
         simp only [Option.some.injEq, Prod.mk.injEq] at H
         obtain ⟨rfl, rfl⟩ := H
         go_wp2_with (first | ((with_reducible refine gate_dst (N := 38) rfl ?_); refine Kd.R_lit Kd.string _ 9 ?hg (N := 38) ?hd (xs := ([(⟨#[78, 69, 86, 69, 82]⟩ : ByteArray), (⟨#[70, 65, 73, 76, 85, 82, 69]⟩ : ByteArray)] : List ByteArray)) (inner := [.string ⟨#[78, 69, 86, 69, 82]⟩, .string ⟨#[70, 65, 73, 76, 85, 82, 69]⟩]) (ok := fun _ => True) (okp := fun _ => True) ?hr ?hp (fun _ hk => hk) trivial (Below.refl _ _) (Nat.le_refl _) (by simp) ?_; (case hd => rfl); (case hg => rfl); (case hr => first | (go_simp; done) | (go_simp; rfl)); (case hp => exact (Reps.one (show Kd.M Kd.string _ _ _ (⟨#[78, 69, 86, 69, 82]⟩ : ByteArray) [.string ⟨#[78, 69, 86, 69, 82]⟩] from rfl) (Reps.one (show Kd.M Kd.string _ _ _ (⟨#[70, 65, 73, 76, 85, 82, 69]⟩ : ByteArray) [.string ⟨#[70, 65, 73, 76, 85, 82, 69]⟩] from rfl) (Reps.none _ _)))); intro v134 w20 ho21 hb hg_ hnew_; clear hg_ hnew_; (first | rw [← Ny133.out] at ho21 | (simp only [Int.reduceToNat] at ho21; rw [← Ny133.out] at ho21)); have HO135 := Aside0.mk (Kd.R_lower ho21 (below_size (sB HB.out))); replace HB := Aside0.mk (below_step (sB HB.out) hb); clear hb ho21; obtain ⟨Ao22, co22, eo22⟩ := Kd.R_slice HO135.out; subst eo22) | ((with_reducible refine gate_callee (f := 73) rfl ?_); refine goesL_ (some 39) rfl rfl Tryz.func73 (by kernel_rfl) rfl #[.string a2, .slice Ao22 y133.length co22] rfl sM ?_; (with_reducible refine (verb_one.calls a2 _ _ y133 t136 t137 _ ?side1 ?side2 A19.out).mono ?_); (case side1 => repeat (first | exact (Kd.R_reads' HO135.out).2.2 | (with_reducible refine Kd.C_alloc ?_ _) | (with_reducible refine Kd.C_drewN ?_ _) | (with_reducible refine Kd.C_drew ?_))); (case side2 => exact (Kd.R_reads' HO135.out).2.1); rintro e w23 ⟨rfl, hb⟩; refine ⟨_, rfl, ?_⟩; replace HO135 := Aside0.mk (Kd.R_below (sR HO135.out) hb); replace HB := Aside0.mk (below_step (sB HB.out) hb); (try clear hb)))
         go_ret2
         exact ⟨by first | rfl | (simp [errW_none, errW_some] <;> rfl) | (simp [*, errW_none, errW_some] <;> rfl), sB HB.out⟩
        ·
         rw [if_neg c18] at H
         have c18b0 : (a1.toList == ([78, 79, 84, 73, 70, 89] : List UInt8)) = false := beq_eq_false_iff_ne.mpr c18
         have c18b1 : (a1.toList != ([78, 79, 84, 73, 70, 89] : List UInt8)) = true := bne_iff_ne.mpr c18
         simp only [Option.some.injEq, Prod.mk.injEq] at H
         obtain ⟨rfl, rfl⟩ := H
         go_wp2
         go_ret2
         exact ⟨by first | rfl | (simp [errW_none, errW_some] <;> rfl) | (simp [*, errW_none, errW_some] <;> rfl), sB HB.out⟩
       ·
        rw [if_neg c17] at H
        have c17b0 : (a0 == 3) = false := beq_eq_false_iff_ne.mpr c17
        have c17b1 : (a0 != 3) = true := bne_iff_ne.mpr c17
        simp only [Option.some.injEq, Prod.mk.injEq] at H
        obtain ⟨rfl, rfl⟩ := H
        go_wp2
        go_ret2
        exact ⟨by first | rfl | (simp [errW_none, errW_some] <;> rfl) | (simp [*, errW_none, errW_some] <;> rfl), sB HB.out⟩
end Go.Proofs.YthcdjgekmfnmnaaGreatDoor.PVerb
end
section
namespace Go.Proofs.YthcdjgekmfnmnaaGreatDoor.PVerb
open Go.RowKit Go.Proofs.YthcdjgekmfnmnaaGreatDoorW.PrintWords Go.Proofs.YthcdjgekmfnmnaaGreatDoorW.PrintLast Go.Proofs.YthcdjgekmfnmnaaGreatDoorW.PrintMore
attribute [local go_sem] max2_int min2_int max_two min_two max_three min_three max_four min_four
set_option linter.unusedVariables false
set_option linter.unusedSimpArgs false
def verb_params.l (a0 : Int) : List ByteArray → List S47 → Option (List S47 × Bool)
  | [], out => some (out, true)
  | x :: l, out => (strings_Cut.f x ⟨#[61]⟩).bind fun c =>
      (verb_one.f c.1 [⟨#[83, 73, 90, 69]⟩, ⟨#[82, 69, 84]⟩, ⟨#[78, 79, 84, 73, 70, 89]⟩]).bind fun o =>
      (verb_value.f 3 a0 o.1 c.2.1).bind fun v =>
      if c.2.2 = true ∧ o.2 = true ∧ v.2 = true ∧ out.any (keyIs o.1) = false then verb_params.l a0 l (out ++ [⟨o.1, v.1⟩]) else some ([], false)
def verb_params.f (a0 : Int) (l1 : List ByteArray) : Option (List S47 × Bool) := if l1.length < 100000 then verb_params.l a0 l1 [] else none
set_option maxHeartbeats 1000000 in
theorem params1 (x : S47) (s : ByteArray) (B : Nat) (w : World) (hc : w.cell? ⟨B, 0, none⟩ = some (.string s)) (hB : B < w.heap.size) :
    Calls Tryz.prog 76 #[.agg #[.string x.f0, .string x.f1], .pointer (some ⟨B, 0, none⟩)] w fun e w' => e = .returned (.bool (keyIs s x)) ∧ Below w.heap.size w w' := by
  have hk : keyIs s x = (x.f0.toList == s.toList) := by rw [toList_data, toList_data]; rfl
  rw [hk]; clear hk
  have hne : B ≠ w.heap.size := by omega
  go_enter Tryz.func76, Tryz.ntmps76
  go_wp2
  go_ret
  exact ⟨rfl, (Below.refl _ w).alloc (Nat.le_refl _) _⟩
theorem infoP : (Tryz.prog.info? 47).map (fun i => (i.zero, i.size, i.bytes)) = some (some (.agg #[.string ⟨#[]⟩, .string ⟨#[]⟩]), 2, 32) := by kernel_rfl
theorem lit_reads (W : World) (e : Nat) (xs : List ByteArray) (hm : xs.length ≤ 9223372036854775807) :
    Kd.C Kd.string (W.alloc (.cells (xs.map Value.string).toArray e)) (some ⟨W.heap.size, 0, none⟩) xs.length xs := by
  have h := Kd.R_of_own (enc := Value.string) (h1 := fun _ => rfl) (ok := fun _ => True) (own_lit_of (enc := Value.string) W W.heap.size e xs (Nat.le_refl _) hm) (fun _ _ => trivial)
  obtain ⟨A, c, he, _, hC⟩ := Kd.R_reads h
  injection he with hA
  rw [← hA] at hC
  exact hC
set_option maxHeartbeats 4000000 in
set_option maxRecDepth 100000 in
theorem params_walk (a0 : Int) (A1 : Option Addr) (c1 : Nat) (l1 : List ByteArray) (r1 : List S47) (r2 : Bool) (w : World) (hG : Glob w) (hr1 : Kd.C Kd.string w A1 l1.length l1) (hl : l1.length < 100000) (h : verb_params.l a0 l1 [] = some (r1, r2)) :
    Calls Tryz.prog 58 #[.int .i64 a0, .slice A1 l1.length c1] w fun e w' => ∃ v0_ : Value, e = .returned (.tuple #[v0_, .bool r2]) ∧ Kd.R k47 47 w' w.heap.size (fun _ => True) v0_ r1 ∧ Below w.heap.size w w' := by
  have hu := Tryz.underlying47
  have eg : ∀ args w, (callFunc 76 args).run Tryz.prog w = .ok (.enter 76 args) w := enters_of Tryz.func76 (by kernel_rfl) rfl
  have EG := Aside0.mk eg
  have HR := Aside0.mk hr1
  have HGG := Aside0.mk hG
  have HH := Aside0.mk h
  clear hr1 hG h eg
  go_enter Tryz.func58, Tryz.ntmps58
  go_wp2
  go_loopg [6, 18] l1.length (fun gg v6 v18 wr => ∃ (kk : Nat) (out : List S47), kk ≤ l1.length ∧ l1.length - kk ≤ gg ∧ v18 = .int .i64 kk ∧ out.length ≤ kk ∧ Aside0 (verb_params.l a0 (l1.drop kk) out = some (r1, r2)) ∧ Aside0 (Kd.R k47 47 wr w.heap.size (fun _ => True) v6 out) ∧ Aside0 (Below w.heap.size w wr))
  case atStart => exact ⟨0, [], Nat.zero_le _, by omega, rfl, Nat.zero_le _, HH, ⟨Kd.R_nil _ _ _ _ _⟩, ⟨Below.refl _ _⟩⟩
  case round =>
    clear HH
    obtain ⟨kk, out, hkk, hg, rfl, hout, HH, HO, HB⟩ := hrel
    by_cases hlt : kk < l1.length
    · have hltz : (kk : Int) < (l1.length : Int) := by omega
      obtain ⟨ad, ea, hx⟩ := Kd.at_string (Kd.C_below HR.out HB.out) (kk : Int) (by omega) hltz
      cases ea
      rw [rdOf_get hlt, Int.toNat_natCast] at hx
      have H := HH.out
      rw [List.drop_eq_getElem_cons hlt] at H
      clear HH
      have HL : Aside0 (l1.drop (kk + 1) = l1.drop (kk + 1)) := ⟨rfl⟩
      generalize l1[kk] = x at hx H
      rw [verb_params.l] at H
      obtain ⟨c, hcut, H⟩ := Option.bind_eq_some_iff.mp H
      obtain ⟨o, hone, H⟩ := Option.bind_eq_some_iff.mp H
      obtain ⟨v, hval, H⟩ := Option.bind_eq_some_iff.mp H
      obtain ⟨c0, c1', cb⟩ := c
      obtain ⟨o0, ob⟩ := o
      obtain ⟨v0, vb⟩ := v
      simp only at hone hval H
      have HC := Aside0.mk (fun (W : World) (hg : Glob W) => strings_Cut.calls x ⟨#[61]⟩ c0 c1' cb W hg hcut)
      have HV := Aside0.mk (fun (W : World) (hg : Glob W) => verb_value.calls 3 a0 o0 c1' v0 vb W hg hval)
      have HONE := Aside0.mk hone
      have H1 := Aside0.mk H
      clear hcut hone hval H HL
      go_wp2_with fail
      refine (HC.out _ (HGG.out.below HB.out)).mono ?_
      rintro e w2 ⟨rfl, hb⟩
      have HB2 := Aside0.mk (below_step HB.out hb)
      have HO2 := Aside0.mk (Kd.R_below HO.out hb)
      clear hb HB HO
      obtain ⟨A6, c6, e6, hc6, hC6⟩ := Kd.R_reads HO2.out
      subst e6
      go_wp2_with fail
      refine (verb_one.calls c0 _ 3 [⟨#[83, 73, 90, 69]⟩, ⟨#[82, 69, 84]⟩, ⟨#[78, 79, 84, 73, 70, 89]⟩] o0 ob _ (lit_reads w2 9 [⟨#[83, 73, 90, 69]⟩, ⟨#[82, 69, 84]⟩, ⟨#[78, 79, 84, 73, 70, 89]⟩] (by decide)) (by decide) HONE.out).mono ?_
      rintro e w3 ⟨rfl, hb⟩
      have HB3 := Aside0.mk (below_step (below_alloc HB2.out _) hb)
      have HO3 := Aside0.mk (Kd.R_below (Kd.R_alloc HO2.out _) hb)
      clear hb HB2 HO2 hC6 HONE
      have hbox : (w3.alloc (.cells #[.string o0] 9)).cell? ⟨w3.heap.size, 0, none⟩ = some (.string o0) := by simp
      have hboxlt : w3.heap.size < (w3.alloc (.cells #[.string o0] 9)).heap.size := by simp
      have HBX := Aside0.mk hbox
      clear hbox
      go_wp2_with fail
      refine (HV.out _ (HGG.out.below (below_alloc HB3.out _))).mono ?_
      rintro e w4 ⟨rfl, hb⟩
      have HB4 := Aside0.mk (below_step (below_alloc HB3.out _) hb)
      have HO4 := Aside0.mk (Kd.R_below (Kd.R_alloc HO3.out _) hb)
      have hbox4 := (hb.cell (p := ⟨w3.heap.size, 0, none⟩) hboxlt).trans HBX.out
      have hlt4 : w3.heap.size < w4.heap.size := Nat.lt_of_lt_of_le hboxlt hb.size
      clear hb HB3 HO3 HV HBX hboxlt
      have HF := Aside0.mk (containsFunc_params 76 #[.pointer (some ⟨w3.heap.size, 0, none⟩)] EG.out (keyIs o0) w4 A6 c6 out (by
          obtain ⟨A, c, he, _, hC⟩ := Kd.R_reads HO4.out
          injection he with hA
          rw [← hA] at hC
          exact hC) (by omega)
        (fun W x hx hb => by
          refine (params1 x o0 w3.heap.size W ((hb.cell (p := ⟨w3.heap.size, 0, none⟩) hlt4).trans hbox4) (Nat.lt_of_lt_of_le hlt4 hb.size)).mono ?_
          rintro e w' ⟨he, hw⟩
          exact ⟨he, below_step hb hw⟩))
      have HBX4 := Aside0.mk hbox4
      clear hbox4
      go_wp2_with fail
      refine HF.out.mono ?_
      rintro e w5 ⟨rfl, hb⟩
      have HB5 := Aside0.mk (below_step HB4.out hb)
      have HO5 := Aside0.mk (Kd.R_below HO4.out hb)
      have hbox5 := (hb.cell (p := ⟨w3.heap.size, 0, none⟩) hlt4).trans HBX4.out
      clear hb HB4 HO4 HF HBX4 hlt4
      generalize out.any (keyIs o0) = tw at *
      have H := H1.out
      clear H1
      cases cb <;> cases ob <;> cases vb <;> cases tw
      all_goals first
        | (rw [if_neg (by decide)] at H
           simp only [Option.some.injEq, Prod.mk.injEq] at H
           obtain ⟨rfl, rfl⟩ := H
           go_wp2
           go_ret2
           exact ⟨_, rfl, Kd.R_nil _ _ _ _ _, HB5.out⟩)
        | skip
      rw [if_pos (by decide)] at H
      have HH := Aside0.mk H
      clear H
      go_wp2_with (first | ((with_reducible refine gate_builtin (b := .append) (xs := #[.tmp 57, .tmp 61]) rfl ?_); at_builtin; refine Kd.R_append k47 (w0 := w) w.heap.size rfl (.tmp 57) (.tmp 61) 24 47 (.agg #[.string ⟨#[]⟩, .string ⟨#[]⟩]) 32 rfl Tryz.underlying24 infoP rfl (by decide) (by omega) (.slice A6 out.length c6) out (⟨o0, v0⟩ : S47) [.string o0, .string v0] (fun _ => True) (fun _ => False) rfl rfl ?aP (fun _ hk => hk.elim) ?aF ?aO ?aB ?aS ?aL ?_; (case aP => exact k47_mkM _ _ _ (⟨o0, v0⟩ : S47)); (case aB => exact HB5.out); (case aF => exact fun _ _ => trivial); (case aO => exact HO5.out); (case aS => exact below_size HB5.out); (case aL => omega); intro v7 w7 ho hb hgr hat; have HB7 := Aside0.mk hb; have HO7 := Aside0.mk ho; clear ho hb hgr hat))
      go_roundg (l1.length - (kk + 1))
      case measure => omega
      case rel => exact ⟨kk + 1, out ++ [⟨o0, v0⟩], by omega, by omega, by go_num, by simp; omega, HH, HO7, HB7⟩
    · have hk : kk = l1.length := by omega
      have H := HH.out
      rw [hk, List.drop_length, verb_params.l] at H
      simp only [Option.some.injEq, Prod.mk.injEq] at H
      obtain ⟨rfl, rfl⟩ := H
      clear HH
      have hltz : ¬ (kk : Int) < (l1.length : Int) := by omega
      clear hk
      go_wp2
      go_ret2
      exact ⟨_, rfl, HO.out, HB.out⟩
theorem verb_params.calls (a0 : Int) (A1 : Option Addr) (c1 : Nat) (l1 : List ByteArray) (r1 : List S47) (r2 : Bool) (w : World) (hG : Glob w) (hr1 : Kd.C Kd.string w A1 l1.length l1) (hc1 : l1.length ≤ c1) (h : verb_params.f a0 l1 = some (r1, r2)) :
    Calls Tryz.prog 58 #[.int .i64 a0, .slice A1 l1.length c1] w fun e w' => ∃ v0_ : Value, e = .returned (.tuple #[v0_, .bool r2]) ∧ Kd.R k47 47 w' w.heap.size (fun _ => True) v0_ r1 ∧ Below w.heap.size w w' := by
  unfold verb_params.f at h
  split at h
  · rename_i hs
    exact params_walk a0 A1 c1 l1 r1 r2 w hG hr1 hs h
  · cases h
end Go.Proofs.YthcdjgekmfnmnaaGreatDoor.PVerb
end
section
namespace Go.Proofs.YthcdjgekmfnmnaaGreatDoor.PVerb
open Go.RowKit Go.Proofs.YthcdjgekmfnmnaaGreatDoorW.PrintWords Go.Proofs.YthcdjgekmfnmnaaGreatDoorW.PrintLast Go.Proofs.YthcdjgekmfnmnaaGreatDoorW.PrintMore
attribute [local go_sem] max2_int min2_int max_two min_two max_three min_three max_four min_four
set_option linter.unusedVariables false
set_option linter.unusedSimpArgs false
def verb_mailbox.f (a0 : Int) (a1 : ByteArray) : Option (Int × ByteArray × Bool × ByteArray × ByteArray × (List (S47)) × Bool) := (strings_Split.f a1 (⟨#[32]⟩ : ByteArray)).bind fun t139 => (if 0 < (t139.length : Int) then ((path_Parse.f (rdOf ByteArray.empty t139 0)).bind fun bt143 => (if 1 ≤ (t139.length : Int) then ((verb_params.f a0 (t139.drop 1)).bind fun bt152 => (if bt143.2.2.2 = 0 then (if bt152.2 = true then (if a0 = 3 then (if bt143.1 = true then (some (0, (⟨#[]⟩ : ByteArray), false, (⟨#[]⟩ : ByteArray), (⟨#[]⟩ : ByteArray), ([] : List (S47)), false)) else (some (a0, (⟨#[]⟩ : ByteArray), bt143.1, bt143.2.1, bt143.2.2.1, bt152.1, true))) else (some (a0, (⟨#[]⟩ : ByteArray), bt143.1, bt143.2.1, bt143.2.2.1, bt152.1, true))) else (some (0, (⟨#[]⟩ : ByteArray), false, (⟨#[]⟩ : ByteArray), (⟨#[]⟩ : ByteArray), ([] : List (S47)), false))) else (some (0, (⟨#[]⟩ : ByteArray), false, (⟨#[]⟩ : ByteArray), (⟨#[]⟩ : ByteArray), ([] : List (S47)), false)))) else (none))) else (none))
set_option maxHeartbeats 8000000 in
set_option maxRecDepth 100000 in
theorem verb_mailbox.calls (a0 : Int) (a1 : ByteArray) (r1 : Int) (r2 : ByteArray) (r3 : Bool) (r4 : ByteArray) (r5 : ByteArray) (r6 : List (S47)) (r7 : Bool) (w : World) (hG : Glob w) (h : verb_mailbox.f a0 a1 = some (r1, r2, r3, r4, r5, r6, r7)) :
  Calls Tryz.prog 42 #[.int .i64 a0, .string a1] w fun e w' => ∃ v5_ : Value, e = .returned (.tuple #[.agg #[.int .i64 r1, .string r2, .bool r3, .string r4, .string r5, v5_], .bool r7]) ∧ Kd.R k47 47 w' w.heap.size (fun _ => True) v5_ r6 ∧ Below w.heap.size w w' := by
 have hu26 := Tryz.underlying26
 have hu23 := Tryz.underlying23
 have HB := Aside0.mk (Below.refl w.heap.size w)
 have HG := Aside0.mk hG
 clear hG
 have H : ((strings_Split.f a1 (⟨#[32]⟩ : ByteArray)).bind fun t139 => (if 0 < (t139.length : Int) then ((path_Parse.f (rdOf ByteArray.empty t139 0)).bind fun bt143 => (if 1 ≤ (t139.length : Int) then ((verb_params.f a0 (t139.drop 1)).bind fun bt152 => (if bt143.2.2.2 = 0 then (if bt152.2 = true then (if a0 = 3 then (if bt143.1 = true then (some (0, (⟨#[]⟩ : ByteArray), false, (⟨#[]⟩ : ByteArray), (⟨#[]⟩ : ByteArray), ([] : List (S47)), false)) else (some (a0, (⟨#[]⟩ : ByteArray), bt143.1, bt143.2.1, bt143.2.2.1, bt152.1, true))) else (some (a0, (⟨#[]⟩ : ByteArray), bt143.1, bt143.2.1, bt143.2.2.1, bt152.1, true))) else (some (0, (⟨#[]⟩ : ByteArray), false, (⟨#[]⟩ : ByteArray), (⟨#[]⟩ : ByteArray), ([] : List (S47)), false))) else (some (0, (⟨#[]⟩ : ByteArray), false, (⟨#[]⟩ : ByteArray), (⟨#[]⟩ : ByteArray), ([] : List (S47)), false)))) else (none))) else (none))) = some (r1, r2, r3, r4, r5, r6, r7) := h
 clear h
 replace H := Option.bind_eq_some_iff.mp H
 obtain ⟨t139, A30, H⟩ := H
 try dsimp -simprocs only at H
 have A3 := Aside0.mk A30
 clear A30
 by_cases c4 : 0 < (t139.length : Int)
 ·
  rw [if_pos c4] at H
  have c4b0 : decide (0 < (t139.length : Int)) = true := decide_eq_true c4
  have c4b1 : decide (0 < t139.length) = true := decide_eq_true (by omega)
  clear c4
  replace H := Option.bind_eq_some_iff.mp H
  obtain ⟨⟨t143, t144, t145, t146⟩, A50, H⟩ := H
  try dsimp -simprocs only at H
  have A5 := Aside0.mk A50
  clear A50
  by_cases c6 : 1 ≤ (t139.length : Int)
  ·
   rw [if_pos c6] at H
   have c6b0 := eq_true c6
   have c6b1 : decide (1 ≤ (t139.length : Int)) = true := decide_eq_true c6
   clear c6
   obtain ⟨y148, hy148⟩ : ∃ y_ : List ByteArray, y_ = (t139.drop 1) := ⟨_, rfl⟩
   replace H : ((verb_params.f a0 y148).bind fun bt152 => (if t146 = 0 then (if bt152.2 = true then (if a0 = 3 then (if t143 = true then (some (0, (⟨#[]⟩ : ByteArray), false, (⟨#[]⟩ : ByteArray), (⟨#[]⟩ : ByteArray), ([] : List (S47)), false)) else (some (a0, (⟨#[]⟩ : ByteArray), t143, t144, t145, bt152.1, true))) else (some (a0, (⟨#[]⟩ : ByteArray), t143, t144, t145, bt152.1, true))) else (some (0, (⟨#[]⟩ : ByteArray), false, (⟨#[]⟩ : ByteArray), (⟨#[]⟩ : ByteArray), ([] : List (S47)), false))) else (some (0, (⟨#[]⟩ : ByteArray), false, (⟨#[]⟩ : ByteArray), (⟨#[]⟩ : ByteArray), ([] : List (S47)), false)))) = some (r1, r2, r3, r4, r5, r6, r7) := by first | (rw [hy148]; with_reducible exact H) | (have H2_ := (Option.bind_some _ _).symm.trans H; rw [hy148]; with_reducible exact H2_) | (have H2_ := (Option.bind_some _ _).symm.trans H; with_reducible exact H2_) | with_reducible exact H | (rw [hy148]; exact H) | exact H
   have Ny148 := Aside0.mk hy148
   clear hy148
   replace H := Option.bind_eq_some_iff.mp H
   obtain ⟨⟨t152, t153⟩, A70, H⟩ := H
   try dsimp -simprocs only at H
   have A7 := Aside0.mk A70
   clear A70
   by_cases c8 : t146 = 0
   ·
    rw [if_pos c8] at H
    have c8b0 : (t146 == 0) = true := beq_iff_eq.mpr c8
    have c8b1 : (t146 != 0) = false := bne_eq_false_iff_eq.mpr c8
    clear c8
    by_cases c9 : t153 = true
    ·
     subst c9
     rw [if_pos rfl] at H
     try dsimp -simprocs only at H
     by_cases c10 : a0 = 3
     ·
      rw [if_pos c10] at H
      have c10b0 : (a0 == 3) = true := beq_iff_eq.mpr c10
      have c10b1 : (a0 != 3) = false := bne_eq_false_iff_eq.mpr c10
      clear c10
      by_cases c11 : t143 = true
      ·
       subst c11
       rw [if_pos rfl] at H
       try dsimp -simprocs only at H
       simp only [Option.some.injEq, Prod.mk.injEq] at H
       obtain ⟨rfl, rfl, rfl, rfl, rfl, rfl, rfl⟩ := H
       go_enter Tryz.func42, Tryz.ntmps42
       go_wp2_with (first | ((with_reducible refine gate_dst (N := 4) rfl ?_); refine box_event ?hg (N := 4) ?hd (cs := #[.int .i64 0, .string ⟨#[]⟩, .bool false, .string ⟨#[]⟩, .string ⟨#[]⟩, .slice none 0 0]) (t := 26) ?hr ?_; (case hd => rfl); (case hg => rfl); (case hr => first | (go_simp; done) | (go_simp; rfl)); intro gb138 hg w12 hbox hb; have BK138 := Aside0.mk (hbox); have GW138 := Aside0.mk ((by rw [hg]; exact (below_size (sB HB.out)) : w.heap.size ≤ gb138)); have GE138 := Aside0.mk ((by rw [hg]; exact (below_size (sB HB.out)) : w.heap.size ≤ gb138)); replace HB := Aside0.mk (below_step (sB HB.out) hb); clear hb hbox hg) | ((with_reducible refine gate_callee (f := 21) rfl ?_); refine goesL_ (some 12) rfl rfl Tryz.func21 (by kernel_rfl) rfl #[.string a1, .string ⟨#[32]⟩] rfl sM ?_; (with_reducible refine (strings_Split.calls a1 (⟨#[32]⟩ : ByteArray) t139 _ ?side1 A3.out).mono ?_); (case side1 => exact Glob.below HG.out (sB HB.out)); rintro e w13 ⟨v140, rfl, ho0, hb⟩; refine ⟨_, rfl, ?_⟩; have HO141 := Aside0.mk (Kd.R_lower ho0 (below_size (sB HB.out))); replace BK138 := Aside0.mk (blk_below (g := gb138) (o := .cells #[.int .i64 0, .string ⟨#[]⟩, .bool false, .string ⟨#[]⟩, .string ⟨#[]⟩, .slice none 0 0] 26 (0, 0)) (sK BK138.out) hb); replace HB := Aside0.mk (below_step (sB HB.out) hb); (try clear hb); (try clear ho0); obtain ⟨Ao14, co14, eo14⟩ := Kd.R_slice HO141.out; subst eo14; have p142 : 0 ≤ (0 : Int) := (by omega); have q142 : 0 < (t139.length : Int) := of_decide_eq_true sA; obtain ⟨ad142, e142, hx142_0⟩ := Kd.at_string (Kd.R_reads' HO141.out).2.2 0 p142 q142; cases e142; have qi142 : (0 < t139.length) = True := eq_true (by omega); (try rw [show ((0 : Int)).toNat = 0 from rfl] at hx142_0); (try rw [Addr.add_zero'] at hx142_0); replace p142 := eq_true p142; replace q142 := eq_true q142) | ((with_reducible refine gate_callee (f := 57) rfl ?_); refine goesL_ (some 17) rfl rfl Tryz.func57 (by kernel_rfl) rfl #[.string (rdOf ByteArray.empty t139 0)] rfl sM ?_; (with_reducible refine (path_Parse.calls (rdOf ByteArray.empty t139 0) true t144 t145 t146 _ ?side1 A5.out).mono ?_); (case side1 => exact Glob.below HG.out (sB HB.out)); rintro e w15 ⟨rfl, hb⟩; refine ⟨_, rfl, ?_⟩; replace HO141 := Aside0.mk (Kd.R_below (sR HO141.out) hb); replace BK138 := Aside0.mk (blk_below (g := gb138) (o := .cells #[.int .i64 0, .string ⟨#[]⟩, .bool false, .string ⟨#[]⟩, .string ⟨#[]⟩, .slice none 0 0] 26 (0, 0)) (sK BK138.out) hb); replace HB := Aside0.mk (below_step (sB HB.out) hb); (try clear hb)) | ((with_reducible refine gate_dst (N := 7) rfl ?_); refine box_event ?hg (N := 7) ?hd (cs := #[.bool false, .string ⟨#[]⟩, .string ⟨#[]⟩]) (t := 23) ?hr ?_; (case hd => rfl); (case hg => rfl); (case hr => first | (go_simp; done) | (go_simp; rfl)); intro gb147 hg w16 hbox hb; replace HO141 := Aside0.mk (Kd.R_below (sR HO141.out) hb); have BK147 := Aside0.mk (hbox); have GW147 := Aside0.mk ((by rw [hg]; exact (below_size (sB HB.out)) : w.heap.size ≤ gb147)); have GE147 := Aside0.mk ((by rw [hg]; exact (below_size (sB HB.out)) : w.heap.size ≤ gb147)); replace HB := Aside0.mk (below_step (sB HB.out) hb); have NB138_147 := Aside0.mk ((by rw [hg]; exact Nat.ne_of_lt (blk_lt (g := gb138) (o := .cells #[.int .i64 0, .string ⟨#[]⟩, .bool false, .string ⟨#[]⟩, .string ⟨#[]⟩, .slice none 0 0] 26 (0, 0)) (sK BK138.out)) : gb138 ≠ gb147)); have NB147_138 := Aside0.mk ((by rw [hg]; exact Nat.ne_of_gt (blk_lt (g := gb138) (o := .cells #[.int .i64 0, .string ⟨#[]⟩, .bool false, .string ⟨#[]⟩, .string ⟨#[]⟩, .slice none 0 0] 26 (0, 0)) (sK BK138.out)) : gb147 ≠ gb138)); replace BK138 := Aside0.mk (blk_below (g := gb138) (o := .cells #[.int .i64 0, .string ⟨#[]⟩, .bool false, .string ⟨#[]⟩, .string ⟨#[]⟩, .slice none 0 0] 26 (0, 0)) (sK BK138.out) hb); clear hb hbox hg; have hnb17 := NB147_138.out; have hnc17 := NB138_147.out; have hcz18_0 := sC BK147.out 0; have hcz18_1 := sC BK147.out 1; have hcz18_2 := sC BK147.out 2; have hfz18_0 := blk_frozen BK147.out 0; have hfz18_1 := blk_frozen BK147.out 1; have hfz18_2 := blk_frozen BK147.out 2) | ((with_reducible refine gate_store (t := 23) (p := 7) rfl ?_); refine store_event (t := 23) (p := 7) (v := ?vo_w19) (w1 := (((w16.setCell ⟨gb147, 0, none⟩ (.bool true)).setCell ⟨gb147, 1, none⟩ (.string t144)).setCell ⟨gb147, 2, none⟩ (.string t145))) ?hg ?ho ?hn ?hr ?_; (case ho => rfl); (case hg => rfl); (case hn => rfl); (case hr => first | (go_simp; done) | (go_simp; rfl)); intro w19 hw; have n0_ : Aside0 (Kd.R Kd.string 9 w19 w.heap.size (fun _ => True) (.slice (some ad142) t139.length co14) t139) := ⟨(by rw [hw]; exact (by (with_reducible repeat (first | apply Kd.R_alloc | apply Kd.R_drewN | apply Kd.R_drew)); exact Kd.R_mono (Kd.R_far (p := ⟨gb147, 2, none⟩) (Kd.R_far (p := ⟨gb147, 1, none⟩) (Kd.R_far (p := ⟨gb147, 0, none⟩) (Kd.R_types HO141.out BK147.out (by decide)) (fun _ hk => hk.2) (.bool true)) (fun _ hk => hk.2) (.string t144)) (fun _ hk => hk.2) (.string t145)) (fun _ hk => trivial)))⟩; have n1_ : Aside0 (w19.heap[gb138]? = some (.cells #[.int .i64 0, .string ⟨#[]⟩, .bool false, .string ⟨#[]⟩, .string ⟨#[]⟩, .slice none 0 0] 26 (0, 0))) := ⟨(by rw [hw]; exact (by refine sK ?_; refine blk_far ?_ NB138_147.out _; refine sK ?_; refine blk_far ?_ NB138_147.out _; refine sK ?_; refine blk_far ?_ NB138_147.out _; refine sK ?_; exact BK138.out))⟩; have n2_ : Aside0 (w19.heap[gb147]? = some (.cells #[.bool true, .string t144, .string t145] 23 (0, 0))) := ⟨(by rw [hw]; exact (by refine sK ?_; refine blk_put (cs := #[.bool true, .string t144, .string ⟨#[]⟩]) ?_ 2 _ rfl; refine sK ?_; refine blk_put (cs := #[.bool true, .string ⟨#[]⟩, .string ⟨#[]⟩]) ?_ 1 _ rfl; refine sK ?_; refine blk_put (cs := #[.bool false, .string ⟨#[]⟩, .string ⟨#[]⟩]) ?_ 0 _ rfl; refine sK ?_; exact BK147.out))⟩; have n3_ : Aside0 (Below w.heap.size w w19) := ⟨(by rw [hw]; exact (sB HB.out))⟩; clear hw; clear HO141; clear BK138; clear BK147; clear HB; have HO141 := n0_; have BK138 := n1_; have BK147 := n2_; have HB := n3_; clear n0_ n1_ n2_ n3_; have q20 : (1 : Int) ≤ ((t139.length : Int) : Int) := of_decide_eq_true sA; obtain ⟨i020, hi020, _, hsz20, _⟩ := info_parts info9; have hroom20 : t139.length ≤ co14 := (Kd.R_reads' HO141.out).2.1; have hC20 : Kd.C Kd.string _ (some ad142) t139.length t139 := (Kd.R_reads' HO141.out).2.2; have hcut20 := cut_from (P := Tryz.prog) 43 9 .i64 Tryz.underlying43 hi020 1 hsz20 (some ad142) t139.length co14 1 (by omega) q20; have hr20 := Kd.C_drop (m := (1 : Int).toNat) (c := co14) hC20 (by omega) hroom20; obtain ⟨A20, hA20⟩ : ∃ A1, A1 = (if co14 = (1 : Int).toNat then (some ad142) else ((some ad142) : Option Addr).map (·.add ((1 : Int).toNat * 1))) := ⟨_, rfl⟩; obtain ⟨c20, hc20⟩ : ∃ c1, c1 = co14 - (1 : Int).toNat := ⟨_, rfl⟩; have hy20 : y148.length = t139.length - (1 : Int).toNat := (by rw [Ny148.out, List.length_drop] <;> omega); rw [show (t139).drop (1 : Int).toNat = y148 from Ny148.out.symm] at hr20; replace hr20 : Kd.C Kd.string _ A20 y148.length y148 := (by rw [hA20]; exact hr20); rw [← hy20, ← hA20, ← hc20] at hcut20; have HR151 := Aside0.mk hr20; have HC151 := Aside0.mk (show y148.length ≤ c20 from by rw [hy20, hc20]; exact Nat.sub_le_sub_right hroom20 _); clear hr20 hC20 hroom20 hi020 hsz20 hc20; have KY20 := Aside0.mk hy20; have KA20 := Aside0.mk hA20; clear hy20 hA20; have KL20 := Aside0.mk (show 1 ≤ t139.length from by omega); replace q20 := eq_true q20) | ((with_reducible refine gate_callee (f := 58) rfl ?_); refine goesL_ (some 24) rfl rfl Tryz.func58 (by kernel_rfl) rfl #[.int .i64 a0, .slice A20 y148.length c20] rfl sM ?_; (with_reducible refine (verb_params.calls a0 _ _ y148 t152 true _ ?side1 ?side2 ?side3 A7.out).mono ?_); (case side1 => exact Glob.below HG.out (sB HB.out)); (case side2 => repeat (first | exact (by repeat (first | (with_reducible exact HR151.out) | (with_reducible refine Kd.C_alloc ?_ _) | (with_reducible refine Kd.C_drewN ?_ _) | (with_reducible refine Kd.C_drew ?_) | exact HR151.out)) | (with_reducible refine Kd.C_alloc ?_ _) | (with_reducible refine Kd.C_drewN ?_ _) | (with_reducible refine Kd.C_drew ?_))); (case side3 => exact HC151.out); rintro e w21 ⟨v154, rfl, ho0, hb⟩; refine ⟨_, rfl, ?_⟩; replace HO141 := Aside0.mk (Kd.R_below (sR HO141.out) hb); have HO155 := Aside0.mk (Kd.R_lower ho0 (below_size (sB HB.out))); replace BK138 := Aside0.mk (blk_below (g := gb138) (o := .cells #[.int .i64 0, .string ⟨#[]⟩, .bool false, .string ⟨#[]⟩, .string ⟨#[]⟩, .slice none 0 0] 26 (0, 0)) (sK BK138.out) hb); replace BK147 := Aside0.mk (blk_below (g := gb147) (o := .cells #[.bool true, .string t144, .string t145] 23 (0, 0)) (sK BK147.out) hb); replace HR151 := Aside0.mk (Kd.C_below (by repeat (first | (with_reducible exact HR151.out) | (with_reducible refine Kd.C_alloc ?_ _) | (with_reducible refine Kd.C_drewN ?_ _) | (with_reducible refine Kd.C_drew ?_) | exact HR151.out)) hb); replace HB := Aside0.mk (below_step (sB HB.out) hb); (try clear hb); (try clear ho0); have hcz22_0 := sC BK147.out 0; have hcz22_1 := sC BK147.out 1; have hcz22_2 := sC BK147.out 2; have hfz22_0 := blk_frozen BK147.out 0; have hfz22_1 := blk_frozen BK147.out 1; have hfz22_2 := blk_frozen BK147.out 2; have hcz23_0 := sC BK138.out 0; have hcz23_1 := sC BK138.out 1; have hcz23_2 := sC BK138.out 2; have hcz23_3 := sC BK138.out 3; have hcz23_4 := sC BK138.out 4; have hcz23_5 := sC BK138.out 5; have hfz23_0 := blk_frozen BK138.out 0; have hfz23_1 := blk_frozen BK138.out 1; have hfz23_2 := blk_frozen BK138.out 2; have hfz23_3 := blk_frozen BK138.out 3; have hfz23_4 := blk_frozen BK138.out 4; have hfz23_5 := blk_frozen BK138.out 5))
       refine bodyPost_ret (results_ct rfl _ _ gb138 26 #[.int .i64 0, .string ⟨#[]⟩, .bool false, .string ⟨#[]⟩, .string ⟨#[]⟩, .slice none 0 0] (0, 0) _ rfl (by refine sK ?_; refine blk_put (cs := #[.int .i64 0, .string ⟨#[]⟩, .bool false, .string ⟨#[]⟩, .string ⟨#[]⟩, .slice none 0 0]) ?_ 5 _ rfl; refine sK ?_; refine blk_put (cs := #[.int .i64 0, .string ⟨#[]⟩, .bool false, .string ⟨#[]⟩, .string ⟨#[]⟩, .slice none 0 0]) ?_ 4 _ rfl; refine sK ?_; refine blk_put (cs := #[.int .i64 0, .string ⟨#[]⟩, .bool false, .string ⟨#[]⟩, .string ⟨#[]⟩, .slice none 0 0]) ?_ 3 _ rfl; refine sK ?_; refine blk_put (cs := #[.int .i64 0, .string ⟨#[]⟩, .bool false, .string ⟨#[]⟩, .string ⟨#[]⟩, .slice none 0 0]) ?_ 2 _ rfl; refine sK ?_; refine blk_put (cs := #[.int .i64 0, .string ⟨#[]⟩, .bool false, .string ⟨#[]⟩, .string ⟨#[]⟩, .slice none 0 0]) ?_ 1 _ rfl; refine sK ?_; refine blk_put (cs := #[.int .i64 0, .string ⟨#[]⟩, .bool false, .string ⟨#[]⟩, .string ⟨#[]⟩, .slice none 0 0]) ?_ 0 _ rfl; refine sK ?_; exact BK138.out) Tryz.underlying26 rfl (by kernel_rfl)) rfl ?_
       exact ⟨_, by first | rfl | (simp [errW_none, errW_some] <;> rfl) | (simp [*, errW_none, errW_some] <;> rfl), by first | exact Kd.R_nil _ _ _ _ _ | exact Kd.N_nil _ _ _ _ _ | exact Kd.V_nil _ _ _ _ _ | exact Kd.Q_nil _ _ _ _ _ | exact Kd.S_nil _ _ _ _ _, sB HB.out⟩
      ·
       replace c11 := Bool.eq_false_iff.mpr c11
       subst c11
       rw [if_neg (show ¬ (false = true) by decide)] at H
       try dsimp -simprocs only at H
       simp only [Option.some.injEq, Prod.mk.injEq] at H
       obtain ⟨rfl, rfl, rfl, rfl, rfl, rfl, rfl⟩ := H
       go_enter Tryz.func42, Tryz.ntmps42
       go_wp2_with (first | ((with_reducible refine gate_dst (N := 4) rfl ?_); refine box_event ?hg (N := 4) ?hd (cs := #[.int .i64 0, .string ⟨#[]⟩, .bool false, .string ⟨#[]⟩, .string ⟨#[]⟩, .slice none 0 0]) (t := 26) ?hr ?_; (case hd => rfl); (case hg => rfl); (case hr => first | (go_simp; done) | (go_simp; rfl)); intro gb138 hg w24 hbox hb; have BK138 := Aside0.mk (hbox); have GW138 := Aside0.mk ((by rw [hg]; exact (below_size (sB HB.out)) : w.heap.size ≤ gb138)); have GE138 := Aside0.mk ((by rw [hg]; exact (below_size (sB HB.out)) : w.heap.size ≤ gb138)); replace HB := Aside0.mk (below_step (sB HB.out) hb); clear hb hbox hg) | ((with_reducible refine gate_callee (f := 21) rfl ?_); refine goesL_ (some 12) rfl rfl Tryz.func21 (by kernel_rfl) rfl #[.string a1, .string ⟨#[32]⟩] rfl sM ?_; (with_reducible refine (strings_Split.calls a1 (⟨#[32]⟩ : ByteArray) t139 _ ?side1 A3.out).mono ?_); (case side1 => exact Glob.below HG.out (sB HB.out)); rintro e w25 ⟨v140, rfl, ho0, hb⟩; refine ⟨_, rfl, ?_⟩; have HO141 := Aside0.mk (Kd.R_lower ho0 (below_size (sB HB.out))); replace BK138 := Aside0.mk (blk_below (g := gb138) (o := .cells #[.int .i64 0, .string ⟨#[]⟩, .bool false, .string ⟨#[]⟩, .string ⟨#[]⟩, .slice none 0 0] 26 (0, 0)) (sK BK138.out) hb); replace HB := Aside0.mk (below_step (sB HB.out) hb); (try clear hb); (try clear ho0); obtain ⟨Ao26, co26, eo26⟩ := Kd.R_slice HO141.out; subst eo26; have p142 : 0 ≤ (0 : Int) := (by omega); have q142 : 0 < (t139.length : Int) := of_decide_eq_true sA; obtain ⟨ad142, e142, hx142_0⟩ := Kd.at_string (Kd.R_reads' HO141.out).2.2 0 p142 q142; cases e142; have qi142 : (0 < t139.length) = True := eq_true (by omega); (try rw [show ((0 : Int)).toNat = 0 from rfl] at hx142_0); (try rw [Addr.add_zero'] at hx142_0); replace p142 := eq_true p142; replace q142 := eq_true q142) | ((with_reducible refine gate_callee (f := 57) rfl ?_); refine goesL_ (some 17) rfl rfl Tryz.func57 (by kernel_rfl) rfl #[.string (rdOf ByteArray.empty t139 0)] rfl sM ?_; (with_reducible refine (path_Parse.calls (rdOf ByteArray.empty t139 0) false t144 t145 t146 _ ?side1 A5.out).mono ?_); (case side1 => exact Glob.below HG.out (sB HB.out)); rintro e w27 ⟨rfl, hb⟩; refine ⟨_, rfl, ?_⟩; replace HO141 := Aside0.mk (Kd.R_below (sR HO141.out) hb); replace BK138 := Aside0.mk (blk_below (g := gb138) (o := .cells #[.int .i64 0, .string ⟨#[]⟩, .bool false, .string ⟨#[]⟩, .string ⟨#[]⟩, .slice none 0 0] 26 (0, 0)) (sK BK138.out) hb); replace HB := Aside0.mk (below_step (sB HB.out) hb); (try clear hb)) | ((with_reducible refine gate_dst (N := 7) rfl ?_); refine box_event ?hg (N := 7) ?hd (cs := #[.bool false, .string ⟨#[]⟩, .string ⟨#[]⟩]) (t := 23) ?hr ?_; (case hd => rfl); (case hg => rfl); (case hr => first | (go_simp; done) | (go_simp; rfl)); intro gb147 hg w28 hbox hb; replace HO141 := Aside0.mk (Kd.R_below (sR HO141.out) hb); have BK147 := Aside0.mk (hbox); have GW147 := Aside0.mk ((by rw [hg]; exact (below_size (sB HB.out)) : w.heap.size ≤ gb147)); have GE147 := Aside0.mk ((by rw [hg]; exact (below_size (sB HB.out)) : w.heap.size ≤ gb147)); replace HB := Aside0.mk (below_step (sB HB.out) hb); have NB138_147 := Aside0.mk ((by rw [hg]; exact Nat.ne_of_lt (blk_lt (g := gb138) (o := .cells #[.int .i64 0, .string ⟨#[]⟩, .bool false, .string ⟨#[]⟩, .string ⟨#[]⟩, .slice none 0 0] 26 (0, 0)) (sK BK138.out)) : gb138 ≠ gb147)); have NB147_138 := Aside0.mk ((by rw [hg]; exact Nat.ne_of_gt (blk_lt (g := gb138) (o := .cells #[.int .i64 0, .string ⟨#[]⟩, .bool false, .string ⟨#[]⟩, .string ⟨#[]⟩, .slice none 0 0] 26 (0, 0)) (sK BK138.out)) : gb147 ≠ gb138)); replace BK138 := Aside0.mk (blk_below (g := gb138) (o := .cells #[.int .i64 0, .string ⟨#[]⟩, .bool false, .string ⟨#[]⟩, .string ⟨#[]⟩, .slice none 0 0] 26 (0, 0)) (sK BK138.out) hb); clear hb hbox hg; have hnb29 := NB147_138.out; have hnc29 := NB138_147.out; have hcz30_0 := sC BK147.out 0; have hcz30_1 := sC BK147.out 1; have hcz30_2 := sC BK147.out 2; have hfz30_0 := blk_frozen BK147.out 0; have hfz30_1 := blk_frozen BK147.out 1; have hfz30_2 := blk_frozen BK147.out 2) | ((with_reducible refine gate_store (t := 23) (p := 7) rfl ?_); refine store_event (t := 23) (p := 7) (v := ?vo_w31) (w1 := (((w28.setCell ⟨gb147, 0, none⟩ (.bool false)).setCell ⟨gb147, 1, none⟩ (.string t144)).setCell ⟨gb147, 2, none⟩ (.string t145))) ?hg ?ho ?hn ?hr ?_; (case ho => rfl); (case hg => rfl); (case hn => rfl); (case hr => first | (go_simp; done) | (go_simp; rfl)); intro w31 hw; have n0_ : Aside0 (Kd.R Kd.string 9 w31 w.heap.size (fun _ => True) (.slice (some ad142) t139.length co26) t139) := ⟨(by rw [hw]; exact (by (with_reducible repeat (first | apply Kd.R_alloc | apply Kd.R_drewN | apply Kd.R_drew)); exact Kd.R_mono (Kd.R_far (p := ⟨gb147, 2, none⟩) (Kd.R_far (p := ⟨gb147, 1, none⟩) (Kd.R_far (p := ⟨gb147, 0, none⟩) (Kd.R_types HO141.out BK147.out (by decide)) (fun _ hk => hk.2) (.bool false)) (fun _ hk => hk.2) (.string t144)) (fun _ hk => hk.2) (.string t145)) (fun _ hk => trivial)))⟩; have n1_ : Aside0 (w31.heap[gb138]? = some (.cells #[.int .i64 0, .string ⟨#[]⟩, .bool false, .string ⟨#[]⟩, .string ⟨#[]⟩, .slice none 0 0] 26 (0, 0))) := ⟨(by rw [hw]; exact (by refine sK ?_; refine blk_far ?_ NB138_147.out _; refine sK ?_; refine blk_far ?_ NB138_147.out _; refine sK ?_; refine blk_far ?_ NB138_147.out _; refine sK ?_; exact BK138.out))⟩; have n2_ : Aside0 (w31.heap[gb147]? = some (.cells #[.bool false, .string t144, .string t145] 23 (0, 0))) := ⟨(by rw [hw]; exact (by refine sK ?_; refine blk_put (cs := #[.bool false, .string t144, .string ⟨#[]⟩]) ?_ 2 _ rfl; refine sK ?_; refine blk_put (cs := #[.bool false, .string ⟨#[]⟩, .string ⟨#[]⟩]) ?_ 1 _ rfl; refine sK ?_; refine blk_put (cs := #[.bool false, .string ⟨#[]⟩, .string ⟨#[]⟩]) ?_ 0 _ rfl; refine sK ?_; exact BK147.out))⟩; have n3_ : Aside0 (Below w.heap.size w w31) := ⟨(by rw [hw]; exact (sB HB.out))⟩; clear hw; clear HO141; clear BK138; clear BK147; clear HB; have HO141 := n0_; have BK138 := n1_; have BK147 := n2_; have HB := n3_; clear n0_ n1_ n2_ n3_; have q32 : (1 : Int) ≤ ((t139.length : Int) : Int) := of_decide_eq_true sA; obtain ⟨i032, hi032, _, hsz32, _⟩ := info_parts info9; have hroom32 : t139.length ≤ co26 := (Kd.R_reads' HO141.out).2.1; have hC32 : Kd.C Kd.string _ (some ad142) t139.length t139 := (Kd.R_reads' HO141.out).2.2; have hcut32 := cut_from (P := Tryz.prog) 43 9 .i64 Tryz.underlying43 hi032 1 hsz32 (some ad142) t139.length co26 1 (by omega) q32; have hr32 := Kd.C_drop (m := (1 : Int).toNat) (c := co26) hC32 (by omega) hroom32; obtain ⟨A32, hA32⟩ : ∃ A1, A1 = (if co26 = (1 : Int).toNat then (some ad142) else ((some ad142) : Option Addr).map (·.add ((1 : Int).toNat * 1))) := ⟨_, rfl⟩; obtain ⟨c32, hc32⟩ : ∃ c1, c1 = co26 - (1 : Int).toNat := ⟨_, rfl⟩; have hy32 : y148.length = t139.length - (1 : Int).toNat := (by rw [Ny148.out, List.length_drop] <;> omega); rw [show (t139).drop (1 : Int).toNat = y148 from Ny148.out.symm] at hr32; replace hr32 : Kd.C Kd.string _ A32 y148.length y148 := (by rw [hA32]; exact hr32); rw [← hy32, ← hA32, ← hc32] at hcut32; have HR151 := Aside0.mk hr32; have HC151 := Aside0.mk (show y148.length ≤ c32 from by rw [hy32, hc32]; exact Nat.sub_le_sub_right hroom32 _); clear hr32 hC32 hroom32 hi032 hsz32 hc32; have KY32 := Aside0.mk hy32; have KA32 := Aside0.mk hA32; clear hy32 hA32; have KL32 := Aside0.mk (show 1 ≤ t139.length from by omega); replace q32 := eq_true q32) | ((with_reducible refine gate_callee (f := 58) rfl ?_); refine goesL_ (some 24) rfl rfl Tryz.func58 (by kernel_rfl) rfl #[.int .i64 a0, .slice A32 y148.length c32] rfl sM ?_; (with_reducible refine (verb_params.calls a0 _ _ y148 t152 true _ ?side1 ?side2 ?side3 A7.out).mono ?_); (case side1 => exact Glob.below HG.out (sB HB.out)); (case side2 => repeat (first | exact (by repeat (first | (with_reducible exact HR151.out) | (with_reducible refine Kd.C_alloc ?_ _) | (with_reducible refine Kd.C_drewN ?_ _) | (with_reducible refine Kd.C_drew ?_) | exact HR151.out)) | (with_reducible refine Kd.C_alloc ?_ _) | (with_reducible refine Kd.C_drewN ?_ _) | (with_reducible refine Kd.C_drew ?_))); (case side3 => exact HC151.out); rintro e w33 ⟨v154, rfl, ho0, hb⟩; refine ⟨_, rfl, ?_⟩; replace HO141 := Aside0.mk (Kd.R_below (sR HO141.out) hb); have HO155 := Aside0.mk (Kd.R_lower ho0 (below_size (sB HB.out))); replace BK138 := Aside0.mk (blk_below (g := gb138) (o := .cells #[.int .i64 0, .string ⟨#[]⟩, .bool false, .string ⟨#[]⟩, .string ⟨#[]⟩, .slice none 0 0] 26 (0, 0)) (sK BK138.out) hb); replace BK147 := Aside0.mk (blk_below (g := gb147) (o := .cells #[.bool false, .string t144, .string t145] 23 (0, 0)) (sK BK147.out) hb); replace HR151 := Aside0.mk (Kd.C_below (by repeat (first | (with_reducible exact HR151.out) | (with_reducible refine Kd.C_alloc ?_ _) | (with_reducible refine Kd.C_drewN ?_ _) | (with_reducible refine Kd.C_drew ?_) | exact HR151.out)) hb); replace HB := Aside0.mk (below_step (sB HB.out) hb); (try clear hb); (try clear ho0); have hcz34_0 := sC BK147.out 0; have hcz34_1 := sC BK147.out 1; have hcz34_2 := sC BK147.out 2; have hfz34_0 := blk_frozen BK147.out 0; have hfz34_1 := blk_frozen BK147.out 1; have hfz34_2 := blk_frozen BK147.out 2; obtain ⟨Ao35, co35, eo35⟩ := Kd.R_slice HO155.out; subst eo35; have hcz36_0 := sC BK138.out 0; have hcz36_1 := sC BK138.out 1; have hcz36_2 := sC BK138.out 2; have hcz36_3 := sC BK138.out 3; have hcz36_4 := sC BK138.out 4; have hcz36_5 := sC BK138.out 5; have hfz36_0 := blk_frozen BK138.out 0; have hfz36_1 := blk_frozen BK138.out 1; have hfz36_2 := blk_frozen BK138.out 2; have hfz36_3 := blk_frozen BK138.out 3; have hfz36_4 := blk_frozen BK138.out 4; have hfz36_5 := blk_frozen BK138.out 5))
       refine bodyPost_ret (results_ct rfl _ _ gb138 26 #[.int .i64 a0, .string ⟨#[]⟩, .bool false, .string t144, .string t145, .slice Ao35 t152.length co35] (0, 0) _ rfl (by refine sK ?_; refine blk_put (cs := #[.int .i64 a0, .string ⟨#[]⟩, .bool false, .string t144, .string t145, .slice none 0 0]) ?_ 5 _ rfl; refine sK ?_; refine blk_put (cs := #[.int .i64 a0, .string ⟨#[]⟩, .bool false, .string t144, .string ⟨#[]⟩, .slice none 0 0]) ?_ 4 _ rfl; refine sK ?_; refine blk_put (cs := #[.int .i64 a0, .string ⟨#[]⟩, .bool false, .string ⟨#[]⟩, .string ⟨#[]⟩, .slice none 0 0]) ?_ 3 _ rfl; refine sK ?_; refine blk_put (cs := #[.int .i64 a0, .string ⟨#[]⟩, .bool false, .string ⟨#[]⟩, .string ⟨#[]⟩, .slice none 0 0]) ?_ 2 _ rfl; refine sK ?_; refine blk_put (cs := #[.int .i64 a0, .string ⟨#[]⟩, .bool false, .string ⟨#[]⟩, .string ⟨#[]⟩, .slice none 0 0]) ?_ 1 _ rfl; refine sK ?_; refine blk_put (cs := #[.int .i64 0, .string ⟨#[]⟩, .bool false, .string ⟨#[]⟩, .string ⟨#[]⟩, .slice none 0 0]) ?_ 0 _ rfl; refine sK ?_; exact BK138.out) Tryz.underlying26 rfl (by kernel_rfl)) rfl ?_
       exact ⟨_, by first | rfl | (simp [errW_none, errW_some] <;> rfl) | (simp [*, errW_none, errW_some] <;> rfl), by (with_reducible repeat (first | apply Kd.R_alloc | apply Kd.R_drewN | apply Kd.R_drew)); exact Kd.R_mono (Kd.R_far (p := ⟨gb138, 5, none⟩) (Kd.R_far (p := ⟨gb138, 4, none⟩) (Kd.R_far (p := ⟨gb138, 3, none⟩) (Kd.R_far (p := ⟨gb138, 2, none⟩) (Kd.R_far (p := ⟨gb138, 1, none⟩) (Kd.R_far (p := ⟨gb138, 0, none⟩) (Kd.R_types HO155.out BK138.out (by decide)) (fun _ hk => hk.2) (.int .i64 a0)) (fun _ hk => hk.2) (.string ⟨#[]⟩)) (fun _ hk => hk.2) (.bool false)) (fun _ hk => hk.2) (.string t144)) (fun _ hk => hk.2) (.string t145)) (fun _ hk => hk.2) (.slice Ao35 t152.length co35)) (fun _ hk => trivial), sB HB.out⟩
     ·
      rw [if_neg c10] at H
      have c10b0 : (a0 == 3) = false := beq_eq_false_iff_ne.mpr c10
      have c10b1 : (a0 != 3) = true := bne_iff_ne.mpr c10
      simp only [Option.some.injEq, Prod.mk.injEq] at H
      obtain ⟨rfl, rfl, rfl, rfl, rfl, rfl, rfl⟩ := H
      go_enter Tryz.func42, Tryz.ntmps42
      go_wp2_with (first | ((with_reducible refine gate_dst (N := 4) rfl ?_); refine box_event ?hg (N := 4) ?hd (cs := #[.int .i64 0, .string ⟨#[]⟩, .bool false, .string ⟨#[]⟩, .string ⟨#[]⟩, .slice none 0 0]) (t := 26) ?hr ?_; (case hd => rfl); (case hg => rfl); (case hr => first | (go_simp; done) | (go_simp; rfl)); intro gb138 hg w37 hbox hb; have BK138 := Aside0.mk (hbox); have GW138 := Aside0.mk ((by rw [hg]; exact (below_size (sB HB.out)) : w.heap.size ≤ gb138)); have GE138 := Aside0.mk ((by rw [hg]; exact (below_size (sB HB.out)) : w.heap.size ≤ gb138)); replace HB := Aside0.mk (below_step (sB HB.out) hb); clear hb hbox hg) | ((with_reducible refine gate_callee (f := 21) rfl ?_); refine goesL_ (some 12) rfl rfl Tryz.func21 (by kernel_rfl) rfl #[.string a1, .string ⟨#[32]⟩] rfl sM ?_; (with_reducible refine (strings_Split.calls a1 (⟨#[32]⟩ : ByteArray) t139 _ ?side1 A3.out).mono ?_); (case side1 => exact Glob.below HG.out (sB HB.out)); rintro e w38 ⟨v140, rfl, ho0, hb⟩; refine ⟨_, rfl, ?_⟩; have HO141 := Aside0.mk (Kd.R_lower ho0 (below_size (sB HB.out))); replace BK138 := Aside0.mk (blk_below (g := gb138) (o := .cells #[.int .i64 0, .string ⟨#[]⟩, .bool false, .string ⟨#[]⟩, .string ⟨#[]⟩, .slice none 0 0] 26 (0, 0)) (sK BK138.out) hb); replace HB := Aside0.mk (below_step (sB HB.out) hb); (try clear hb); (try clear ho0); obtain ⟨Ao39, co39, eo39⟩ := Kd.R_slice HO141.out; subst eo39; have p142 : 0 ≤ (0 : Int) := (by omega); have q142 : 0 < (t139.length : Int) := of_decide_eq_true sA; obtain ⟨ad142, e142, hx142_0⟩ := Kd.at_string (Kd.R_reads' HO141.out).2.2 0 p142 q142; cases e142; have qi142 : (0 < t139.length) = True := eq_true (by omega); (try rw [show ((0 : Int)).toNat = 0 from rfl] at hx142_0); (try rw [Addr.add_zero'] at hx142_0); replace p142 := eq_true p142; replace q142 := eq_true q142) | ((with_reducible refine gate_callee (f := 57) rfl ?_); refine goesL_ (some 17) rfl rfl Tryz.func57 (by kernel_rfl) rfl #[.string (rdOf ByteArray.empty t139 0)] rfl sM ?_; (with_reducible refine (path_Parse.calls (rdOf ByteArray.empty t139 0) t143 t144 t145 t146 _ ?side1 A5.out).mono ?_); (case side1 => exact Glob.below HG.out (sB HB.out)); rintro e w40 ⟨rfl, hb⟩; refine ⟨_, rfl, ?_⟩; replace HO141 := Aside0.mk (Kd.R_below (sR HO141.out) hb); replace BK138 := Aside0.mk (blk_below (g := gb138) (o := .cells #[.int .i64 0, .string ⟨#[]⟩, .bool false, .string ⟨#[]⟩, .string ⟨#[]⟩, .slice none 0 0] 26 (0, 0)) (sK BK138.out) hb); replace HB := Aside0.mk (below_step (sB HB.out) hb); (try clear hb)) | ((with_reducible refine gate_dst (N := 7) rfl ?_); refine box_event ?hg (N := 7) ?hd (cs := #[.bool false, .string ⟨#[]⟩, .string ⟨#[]⟩]) (t := 23) ?hr ?_; (case hd => rfl); (case hg => rfl); (case hr => first | (go_simp; done) | (go_simp; rfl)); intro gb147 hg w41 hbox hb; replace HO141 := Aside0.mk (Kd.R_below (sR HO141.out) hb); have BK147 := Aside0.mk (hbox); have GW147 := Aside0.mk ((by rw [hg]; exact (below_size (sB HB.out)) : w.heap.size ≤ gb147)); have GE147 := Aside0.mk ((by rw [hg]; exact (below_size (sB HB.out)) : w.heap.size ≤ gb147)); replace HB := Aside0.mk (below_step (sB HB.out) hb); have NB138_147 := Aside0.mk ((by rw [hg]; exact Nat.ne_of_lt (blk_lt (g := gb138) (o := .cells #[.int .i64 0, .string ⟨#[]⟩, .bool false, .string ⟨#[]⟩, .string ⟨#[]⟩, .slice none 0 0] 26 (0, 0)) (sK BK138.out)) : gb138 ≠ gb147)); have NB147_138 := Aside0.mk ((by rw [hg]; exact Nat.ne_of_gt (blk_lt (g := gb138) (o := .cells #[.int .i64 0, .string ⟨#[]⟩, .bool false, .string ⟨#[]⟩, .string ⟨#[]⟩, .slice none 0 0] 26 (0, 0)) (sK BK138.out)) : gb147 ≠ gb138)); replace BK138 := Aside0.mk (blk_below (g := gb138) (o := .cells #[.int .i64 0, .string ⟨#[]⟩, .bool false, .string ⟨#[]⟩, .string ⟨#[]⟩, .slice none 0 0] 26 (0, 0)) (sK BK138.out) hb); clear hb hbox hg; have hnb42 := NB147_138.out; have hnc42 := NB138_147.out; have hcz43_0 := sC BK147.out 0; have hcz43_1 := sC BK147.out 1; have hcz43_2 := sC BK147.out 2; have hfz43_0 := blk_frozen BK147.out 0; have hfz43_1 := blk_frozen BK147.out 1; have hfz43_2 := blk_frozen BK147.out 2) | ((with_reducible refine gate_store (t := 23) (p := 7) rfl ?_); refine store_event (t := 23) (p := 7) (v := ?vo_w44) (w1 := (((w41.setCell ⟨gb147, 0, none⟩ (.bool t143)).setCell ⟨gb147, 1, none⟩ (.string t144)).setCell ⟨gb147, 2, none⟩ (.string t145))) ?hg ?ho ?hn ?hr ?_; (case ho => rfl); (case hg => rfl); (case hn => rfl); (case hr => first | (go_simp; done) | (go_simp; rfl)); intro w44 hw; have n0_ : Aside0 (Kd.R Kd.string 9 w44 w.heap.size (fun _ => True) (.slice (some ad142) t139.length co39) t139) := ⟨(by rw [hw]; exact (by (with_reducible repeat (first | apply Kd.R_alloc | apply Kd.R_drewN | apply Kd.R_drew)); exact Kd.R_mono (Kd.R_far (p := ⟨gb147, 2, none⟩) (Kd.R_far (p := ⟨gb147, 1, none⟩) (Kd.R_far (p := ⟨gb147, 0, none⟩) (Kd.R_types HO141.out BK147.out (by decide)) (fun _ hk => hk.2) (.bool t143)) (fun _ hk => hk.2) (.string t144)) (fun _ hk => hk.2) (.string t145)) (fun _ hk => trivial)))⟩; have n1_ : Aside0 (w44.heap[gb138]? = some (.cells #[.int .i64 0, .string ⟨#[]⟩, .bool false, .string ⟨#[]⟩, .string ⟨#[]⟩, .slice none 0 0] 26 (0, 0))) := ⟨(by rw [hw]; exact (by refine sK ?_; refine blk_far ?_ NB138_147.out _; refine sK ?_; refine blk_far ?_ NB138_147.out _; refine sK ?_; refine blk_far ?_ NB138_147.out _; refine sK ?_; exact BK138.out))⟩; have n2_ : Aside0 (w44.heap[gb147]? = some (.cells #[.bool t143, .string t144, .string t145] 23 (0, 0))) := ⟨(by rw [hw]; exact (by refine sK ?_; refine blk_put (cs := #[.bool t143, .string t144, .string ⟨#[]⟩]) ?_ 2 _ rfl; refine sK ?_; refine blk_put (cs := #[.bool t143, .string ⟨#[]⟩, .string ⟨#[]⟩]) ?_ 1 _ rfl; refine sK ?_; refine blk_put (cs := #[.bool false, .string ⟨#[]⟩, .string ⟨#[]⟩]) ?_ 0 _ rfl; refine sK ?_; exact BK147.out))⟩; have n3_ : Aside0 (Below w.heap.size w w44) := ⟨(by rw [hw]; exact (sB HB.out))⟩; clear hw; clear HO141; clear BK138; clear BK147; clear HB; have HO141 := n0_; have BK138 := n1_; have BK147 := n2_; have HB := n3_; clear n0_ n1_ n2_ n3_; have q45 : (1 : Int) ≤ ((t139.length : Int) : Int) := of_decide_eq_true sA; obtain ⟨i045, hi045, _, hsz45, _⟩ := info_parts info9; have hroom45 : t139.length ≤ co39 := (Kd.R_reads' HO141.out).2.1; have hC45 : Kd.C Kd.string _ (some ad142) t139.length t139 := (Kd.R_reads' HO141.out).2.2; have hcut45 := cut_from (P := Tryz.prog) 43 9 .i64 Tryz.underlying43 hi045 1 hsz45 (some ad142) t139.length co39 1 (by omega) q45; have hr45 := Kd.C_drop (m := (1 : Int).toNat) (c := co39) hC45 (by omega) hroom45; obtain ⟨A45, hA45⟩ : ∃ A1, A1 = (if co39 = (1 : Int).toNat then (some ad142) else ((some ad142) : Option Addr).map (·.add ((1 : Int).toNat * 1))) := ⟨_, rfl⟩; obtain ⟨c45, hc45⟩ : ∃ c1, c1 = co39 - (1 : Int).toNat := ⟨_, rfl⟩; have hy45 : y148.length = t139.length - (1 : Int).toNat := (by rw [Ny148.out, List.length_drop] <;> omega); rw [show (t139).drop (1 : Int).toNat = y148 from Ny148.out.symm] at hr45; replace hr45 : Kd.C Kd.string _ A45 y148.length y148 := (by rw [hA45]; exact hr45); rw [← hy45, ← hA45, ← hc45] at hcut45; have HR151 := Aside0.mk hr45; have HC151 := Aside0.mk (show y148.length ≤ c45 from by rw [hy45, hc45]; exact Nat.sub_le_sub_right hroom45 _); clear hr45 hC45 hroom45 hi045 hsz45 hc45; have KY45 := Aside0.mk hy45; have KA45 := Aside0.mk hA45; clear hy45 hA45; have KL45 := Aside0.mk (show 1 ≤ t139.length from by omega); replace q45 := eq_true q45) | ((with_reducible refine gate_callee (f := 58) rfl ?_); refine goesL_ (some 24) rfl rfl Tryz.func58 (by kernel_rfl) rfl #[.int .i64 a0, .slice A45 y148.length c45] rfl sM ?_; (with_reducible refine (verb_params.calls a0 _ _ y148 t152 true _ ?side1 ?side2 ?side3 A7.out).mono ?_); (case side1 => exact Glob.below HG.out (sB HB.out)); (case side2 => repeat (first | exact (by repeat (first | (with_reducible exact HR151.out) | (with_reducible refine Kd.C_alloc ?_ _) | (with_reducible refine Kd.C_drewN ?_ _) | (with_reducible refine Kd.C_drew ?_) | exact HR151.out)) | (with_reducible refine Kd.C_alloc ?_ _) | (with_reducible refine Kd.C_drewN ?_ _) | (with_reducible refine Kd.C_drew ?_))); (case side3 => exact HC151.out); rintro e w46 ⟨v154, rfl, ho0, hb⟩; refine ⟨_, rfl, ?_⟩; replace HO141 := Aside0.mk (Kd.R_below (sR HO141.out) hb); have HO155 := Aside0.mk (Kd.R_lower ho0 (below_size (sB HB.out))); replace BK138 := Aside0.mk (blk_below (g := gb138) (o := .cells #[.int .i64 0, .string ⟨#[]⟩, .bool false, .string ⟨#[]⟩, .string ⟨#[]⟩, .slice none 0 0] 26 (0, 0)) (sK BK138.out) hb); replace BK147 := Aside0.mk (blk_below (g := gb147) (o := .cells #[.bool t143, .string t144, .string t145] 23 (0, 0)) (sK BK147.out) hb); replace HR151 := Aside0.mk (Kd.C_below (by repeat (first | (with_reducible exact HR151.out) | (with_reducible refine Kd.C_alloc ?_ _) | (with_reducible refine Kd.C_drewN ?_ _) | (with_reducible refine Kd.C_drew ?_) | exact HR151.out)) hb); replace HB := Aside0.mk (below_step (sB HB.out) hb); (try clear hb); (try clear ho0); have hcz47_0 := sC BK147.out 0; have hcz47_1 := sC BK147.out 1; have hcz47_2 := sC BK147.out 2; have hfz47_0 := blk_frozen BK147.out 0; have hfz47_1 := blk_frozen BK147.out 1; have hfz47_2 := blk_frozen BK147.out 2; obtain ⟨Ao48, co48, eo48⟩ := Kd.R_slice HO155.out; subst eo48; have hcz49_0 := sC BK138.out 0; have hcz49_1 := sC BK138.out 1; have hcz49_2 := sC BK138.out 2; have hcz49_3 := sC BK138.out 3; have hcz49_4 := sC BK138.out 4; have hcz49_5 := sC BK138.out 5; have hfz49_0 := blk_frozen BK138.out 0; have hfz49_1 := blk_frozen BK138.out 1; have hfz49_2 := blk_frozen BK138.out 2; have hfz49_3 := blk_frozen BK138.out 3; have hfz49_4 := blk_frozen BK138.out 4; have hfz49_5 := blk_frozen BK138.out 5))
      refine bodyPost_ret (results_ct rfl _ _ gb138 26 #[.int .i64 a0, .string ⟨#[]⟩, .bool t143, .string t144, .string t145, .slice Ao48 t152.length co48] (0, 0) _ rfl (by refine sK ?_; refine blk_put (cs := #[.int .i64 a0, .string ⟨#[]⟩, .bool t143, .string t144, .string t145, .slice none 0 0]) ?_ 5 _ rfl; refine sK ?_; refine blk_put (cs := #[.int .i64 a0, .string ⟨#[]⟩, .bool t143, .string t144, .string ⟨#[]⟩, .slice none 0 0]) ?_ 4 _ rfl; refine sK ?_; refine blk_put (cs := #[.int .i64 a0, .string ⟨#[]⟩, .bool t143, .string ⟨#[]⟩, .string ⟨#[]⟩, .slice none 0 0]) ?_ 3 _ rfl; refine sK ?_; refine blk_put (cs := #[.int .i64 a0, .string ⟨#[]⟩, .bool false, .string ⟨#[]⟩, .string ⟨#[]⟩, .slice none 0 0]) ?_ 2 _ rfl; refine sK ?_; refine blk_put (cs := #[.int .i64 a0, .string ⟨#[]⟩, .bool false, .string ⟨#[]⟩, .string ⟨#[]⟩, .slice none 0 0]) ?_ 1 _ rfl; refine sK ?_; refine blk_put (cs := #[.int .i64 0, .string ⟨#[]⟩, .bool false, .string ⟨#[]⟩, .string ⟨#[]⟩, .slice none 0 0]) ?_ 0 _ rfl; refine sK ?_; exact BK138.out) Tryz.underlying26 rfl (by kernel_rfl)) rfl ?_
      exact ⟨_, by first | rfl | (simp [errW_none, errW_some] <;> rfl) | (simp [*, errW_none, errW_some] <;> rfl), by (with_reducible repeat (first | apply Kd.R_alloc | apply Kd.R_drewN | apply Kd.R_drew)); exact Kd.R_mono (Kd.R_far (p := ⟨gb138, 5, none⟩) (Kd.R_far (p := ⟨gb138, 4, none⟩) (Kd.R_far (p := ⟨gb138, 3, none⟩) (Kd.R_far (p := ⟨gb138, 2, none⟩) (Kd.R_far (p := ⟨gb138, 1, none⟩) (Kd.R_far (p := ⟨gb138, 0, none⟩) (Kd.R_types HO155.out BK138.out (by decide)) (fun _ hk => hk.2) (.int .i64 a0)) (fun _ hk => hk.2) (.string ⟨#[]⟩)) (fun _ hk => hk.2) (.bool t143)) (fun _ hk => hk.2) (.string t144)) (fun _ hk => hk.2) (.string t145)) (fun _ hk => hk.2) (.slice Ao48 t152.length co48)) (fun _ hk => trivial), sB HB.out⟩
    ·
     replace c9 := Bool.eq_false_iff.mpr c9
     subst c9
     rw [if_neg (show ¬ (false = true) by decide)] at H
     try dsimp -simprocs only at H
     simp only [Option.some.injEq, Prod.mk.injEq] at H
     obtain ⟨rfl, rfl, rfl, rfl, rfl, rfl, rfl⟩ := H
     go_enter Tryz.func42, Tryz.ntmps42
     go_wp2_with (first | ((with_reducible refine gate_dst (N := 4) rfl ?_); refine box_event ?hg (N := 4) ?hd (cs := #[.int .i64 0, .string ⟨#[]⟩, .bool false, .string ⟨#[]⟩, .string ⟨#[]⟩, .slice none 0 0]) (t := 26) ?hr ?_; (case hd => rfl); (case hg => rfl); (case hr => first | (go_simp; done) | (go_simp; rfl)); intro gb138 hg w50 hbox hb; have BK138 := Aside0.mk (hbox); have GW138 := Aside0.mk ((by rw [hg]; exact (below_size (sB HB.out)) : w.heap.size ≤ gb138)); have GE138 := Aside0.mk ((by rw [hg]; exact (below_size (sB HB.out)) : w.heap.size ≤ gb138)); replace HB := Aside0.mk (below_step (sB HB.out) hb); clear hb hbox hg) | ((with_reducible refine gate_callee (f := 21) rfl ?_); refine goesL_ (some 12) rfl rfl Tryz.func21 (by kernel_rfl) rfl #[.string a1, .string ⟨#[32]⟩] rfl sM ?_; (with_reducible refine (strings_Split.calls a1 (⟨#[32]⟩ : ByteArray) t139 _ ?side1 A3.out).mono ?_); (case side1 => exact Glob.below HG.out (sB HB.out)); rintro e w51 ⟨v140, rfl, ho0, hb⟩; refine ⟨_, rfl, ?_⟩; have HO141 := Aside0.mk (Kd.R_lower ho0 (below_size (sB HB.out))); replace BK138 := Aside0.mk (blk_below (g := gb138) (o := .cells #[.int .i64 0, .string ⟨#[]⟩, .bool false, .string ⟨#[]⟩, .string ⟨#[]⟩, .slice none 0 0] 26 (0, 0)) (sK BK138.out) hb); replace HB := Aside0.mk (below_step (sB HB.out) hb); (try clear hb); (try clear ho0); obtain ⟨Ao52, co52, eo52⟩ := Kd.R_slice HO141.out; subst eo52; have p142 : 0 ≤ (0 : Int) := (by omega); have q142 : 0 < (t139.length : Int) := of_decide_eq_true sA; obtain ⟨ad142, e142, hx142_0⟩ := Kd.at_string (Kd.R_reads' HO141.out).2.2 0 p142 q142; cases e142; have qi142 : (0 < t139.length) = True := eq_true (by omega); (try rw [show ((0 : Int)).toNat = 0 from rfl] at hx142_0); (try rw [Addr.add_zero'] at hx142_0); replace p142 := eq_true p142; replace q142 := eq_true q142) | ((with_reducible refine gate_callee (f := 57) rfl ?_); refine goesL_ (some 17) rfl rfl Tryz.func57 (by kernel_rfl) rfl #[.string (rdOf ByteArray.empty t139 0)] rfl sM ?_; (with_reducible refine (path_Parse.calls (rdOf ByteArray.empty t139 0) t143 t144 t145 t146 _ ?side1 A5.out).mono ?_); (case side1 => exact Glob.below HG.out (sB HB.out)); rintro e w53 ⟨rfl, hb⟩; refine ⟨_, rfl, ?_⟩; replace HO141 := Aside0.mk (Kd.R_below (sR HO141.out) hb); replace BK138 := Aside0.mk (blk_below (g := gb138) (o := .cells #[.int .i64 0, .string ⟨#[]⟩, .bool false, .string ⟨#[]⟩, .string ⟨#[]⟩, .slice none 0 0] 26 (0, 0)) (sK BK138.out) hb); replace HB := Aside0.mk (below_step (sB HB.out) hb); (try clear hb)) | ((with_reducible refine gate_dst (N := 7) rfl ?_); refine box_event ?hg (N := 7) ?hd (cs := #[.bool false, .string ⟨#[]⟩, .string ⟨#[]⟩]) (t := 23) ?hr ?_; (case hd => rfl); (case hg => rfl); (case hr => first | (go_simp; done) | (go_simp; rfl)); intro gb147 hg w54 hbox hb; replace HO141 := Aside0.mk (Kd.R_below (sR HO141.out) hb); have BK147 := Aside0.mk (hbox); have GW147 := Aside0.mk ((by rw [hg]; exact (below_size (sB HB.out)) : w.heap.size ≤ gb147)); have GE147 := Aside0.mk ((by rw [hg]; exact (below_size (sB HB.out)) : w.heap.size ≤ gb147)); replace HB := Aside0.mk (below_step (sB HB.out) hb); have NB138_147 := Aside0.mk ((by rw [hg]; exact Nat.ne_of_lt (blk_lt (g := gb138) (o := .cells #[.int .i64 0, .string ⟨#[]⟩, .bool false, .string ⟨#[]⟩, .string ⟨#[]⟩, .slice none 0 0] 26 (0, 0)) (sK BK138.out)) : gb138 ≠ gb147)); have NB147_138 := Aside0.mk ((by rw [hg]; exact Nat.ne_of_gt (blk_lt (g := gb138) (o := .cells #[.int .i64 0, .string ⟨#[]⟩, .bool false, .string ⟨#[]⟩, .string ⟨#[]⟩, .slice none 0 0] 26 (0, 0)) (sK BK138.out)) : gb147 ≠ gb138)); replace BK138 := Aside0.mk (blk_below (g := gb138) (o := .cells #[.int .i64 0, .string ⟨#[]⟩, .bool false, .string ⟨#[]⟩, .string ⟨#[]⟩, .slice none 0 0] 26 (0, 0)) (sK BK138.out) hb); clear hb hbox hg; have hnb55 := NB147_138.out; have hnc55 := NB138_147.out; have hcz56_0 := sC BK147.out 0; have hcz56_1 := sC BK147.out 1; have hcz56_2 := sC BK147.out 2; have hfz56_0 := blk_frozen BK147.out 0; have hfz56_1 := blk_frozen BK147.out 1; have hfz56_2 := blk_frozen BK147.out 2) | ((with_reducible refine gate_store (t := 23) (p := 7) rfl ?_); refine store_event (t := 23) (p := 7) (v := ?vo_w57) (w1 := (((w54.setCell ⟨gb147, 0, none⟩ (.bool t143)).setCell ⟨gb147, 1, none⟩ (.string t144)).setCell ⟨gb147, 2, none⟩ (.string t145))) ?hg ?ho ?hn ?hr ?_; (case ho => rfl); (case hg => rfl); (case hn => rfl); (case hr => first | (go_simp; done) | (go_simp; rfl)); intro w57 hw; have n0_ : Aside0 (Kd.R Kd.string 9 w57 w.heap.size (fun _ => True) (.slice (some ad142) t139.length co52) t139) := ⟨(by rw [hw]; exact (by (with_reducible repeat (first | apply Kd.R_alloc | apply Kd.R_drewN | apply Kd.R_drew)); exact Kd.R_mono (Kd.R_far (p := ⟨gb147, 2, none⟩) (Kd.R_far (p := ⟨gb147, 1, none⟩) (Kd.R_far (p := ⟨gb147, 0, none⟩) (Kd.R_types HO141.out BK147.out (by decide)) (fun _ hk => hk.2) (.bool t143)) (fun _ hk => hk.2) (.string t144)) (fun _ hk => hk.2) (.string t145)) (fun _ hk => trivial)))⟩; have n1_ : Aside0 (w57.heap[gb138]? = some (.cells #[.int .i64 0, .string ⟨#[]⟩, .bool false, .string ⟨#[]⟩, .string ⟨#[]⟩, .slice none 0 0] 26 (0, 0))) := ⟨(by rw [hw]; exact (by refine sK ?_; refine blk_far ?_ NB138_147.out _; refine sK ?_; refine blk_far ?_ NB138_147.out _; refine sK ?_; refine blk_far ?_ NB138_147.out _; refine sK ?_; exact BK138.out))⟩; have n2_ : Aside0 (w57.heap[gb147]? = some (.cells #[.bool t143, .string t144, .string t145] 23 (0, 0))) := ⟨(by rw [hw]; exact (by refine sK ?_; refine blk_put (cs := #[.bool t143, .string t144, .string ⟨#[]⟩]) ?_ 2 _ rfl; refine sK ?_; refine blk_put (cs := #[.bool t143, .string ⟨#[]⟩, .string ⟨#[]⟩]) ?_ 1 _ rfl; refine sK ?_; refine blk_put (cs := #[.bool false, .string ⟨#[]⟩, .string ⟨#[]⟩]) ?_ 0 _ rfl; refine sK ?_; exact BK147.out))⟩; have n3_ : Aside0 (Below w.heap.size w w57) := ⟨(by rw [hw]; exact (sB HB.out))⟩; clear hw; clear HO141; clear BK138; clear BK147; clear HB; have HO141 := n0_; have BK138 := n1_; have BK147 := n2_; have HB := n3_; clear n0_ n1_ n2_ n3_; have q58 : (1 : Int) ≤ ((t139.length : Int) : Int) := of_decide_eq_true sA; obtain ⟨i058, hi058, _, hsz58, _⟩ := info_parts info9; have hroom58 : t139.length ≤ co52 := (Kd.R_reads' HO141.out).2.1; have hC58 : Kd.C Kd.string _ (some ad142) t139.length t139 := (Kd.R_reads' HO141.out).2.2; have hcut58 := cut_from (P := Tryz.prog) 43 9 .i64 Tryz.underlying43 hi058 1 hsz58 (some ad142) t139.length co52 1 (by omega) q58; have hr58 := Kd.C_drop (m := (1 : Int).toNat) (c := co52) hC58 (by omega) hroom58; obtain ⟨A58, hA58⟩ : ∃ A1, A1 = (if co52 = (1 : Int).toNat then (some ad142) else ((some ad142) : Option Addr).map (·.add ((1 : Int).toNat * 1))) := ⟨_, rfl⟩; obtain ⟨c58, hc58⟩ : ∃ c1, c1 = co52 - (1 : Int).toNat := ⟨_, rfl⟩; have hy58 : y148.length = t139.length - (1 : Int).toNat := (by rw [Ny148.out, List.length_drop] <;> omega); rw [show (t139).drop (1 : Int).toNat = y148 from Ny148.out.symm] at hr58; replace hr58 : Kd.C Kd.string _ A58 y148.length y148 := (by rw [hA58]; exact hr58); rw [← hy58, ← hA58, ← hc58] at hcut58; have HR151 := Aside0.mk hr58; have HC151 := Aside0.mk (show y148.length ≤ c58 from by rw [hy58, hc58]; exact Nat.sub_le_sub_right hroom58 _); clear hr58 hC58 hroom58 hi058 hsz58 hc58; have KY58 := Aside0.mk hy58; have KA58 := Aside0.mk hA58; clear hy58 hA58; have KL58 := Aside0.mk (show 1 ≤ t139.length from by omega); replace q58 := eq_true q58) | ((with_reducible refine gate_callee (f := 58) rfl ?_); refine goesL_ (some 24) rfl rfl Tryz.func58 (by kernel_rfl) rfl #[.int .i64 a0, .slice A58 y148.length c58] rfl sM ?_; (with_reducible refine (verb_params.calls a0 _ _ y148 t152 false _ ?side1 ?side2 ?side3 A7.out).mono ?_); (case side1 => exact Glob.below HG.out (sB HB.out)); (case side2 => repeat (first | exact (by repeat (first | (with_reducible exact HR151.out) | (with_reducible refine Kd.C_alloc ?_ _) | (with_reducible refine Kd.C_drewN ?_ _) | (with_reducible refine Kd.C_drew ?_) | exact HR151.out)) | (with_reducible refine Kd.C_alloc ?_ _) | (with_reducible refine Kd.C_drewN ?_ _) | (with_reducible refine Kd.C_drew ?_))); (case side3 => exact HC151.out); rintro e w59 ⟨v154, rfl, ho0, hb⟩; refine ⟨_, rfl, ?_⟩; replace HO141 := Aside0.mk (Kd.R_below (sR HO141.out) hb); have HO155 := Aside0.mk (Kd.R_lower ho0 (below_size (sB HB.out))); replace BK138 := Aside0.mk (blk_below (g := gb138) (o := .cells #[.int .i64 0, .string ⟨#[]⟩, .bool false, .string ⟨#[]⟩, .string ⟨#[]⟩, .slice none 0 0] 26 (0, 0)) (sK BK138.out) hb); replace BK147 := Aside0.mk (blk_below (g := gb147) (o := .cells #[.bool t143, .string t144, .string t145] 23 (0, 0)) (sK BK147.out) hb); replace HR151 := Aside0.mk (Kd.C_below (by repeat (first | (with_reducible exact HR151.out) | (with_reducible refine Kd.C_alloc ?_ _) | (with_reducible refine Kd.C_drewN ?_ _) | (with_reducible refine Kd.C_drew ?_) | exact HR151.out)) hb); replace HB := Aside0.mk (below_step (sB HB.out) hb); (try clear hb); (try clear ho0); have hcz60_0 := sC BK138.out 0; have hcz60_1 := sC BK138.out 1; have hcz60_2 := sC BK138.out 2; have hcz60_3 := sC BK138.out 3; have hcz60_4 := sC BK138.out 4; have hcz60_5 := sC BK138.out 5; have hfz60_0 := blk_frozen BK138.out 0; have hfz60_1 := blk_frozen BK138.out 1; have hfz60_2 := blk_frozen BK138.out 2; have hfz60_3 := blk_frozen BK138.out 3; have hfz60_4 := blk_frozen BK138.out 4; have hfz60_5 := blk_frozen BK138.out 5))
     refine bodyPost_ret (results_ct rfl _ _ gb138 26 #[.int .i64 0, .string ⟨#[]⟩, .bool false, .string ⟨#[]⟩, .string ⟨#[]⟩, .slice none 0 0] (0, 0) _ rfl (by refine sK ?_; refine blk_put (cs := #[.int .i64 0, .string ⟨#[]⟩, .bool false, .string ⟨#[]⟩, .string ⟨#[]⟩, .slice none 0 0]) ?_ 5 _ rfl; refine sK ?_; refine blk_put (cs := #[.int .i64 0, .string ⟨#[]⟩, .bool false, .string ⟨#[]⟩, .string ⟨#[]⟩, .slice none 0 0]) ?_ 4 _ rfl; refine sK ?_; refine blk_put (cs := #[.int .i64 0, .string ⟨#[]⟩, .bool false, .string ⟨#[]⟩, .string ⟨#[]⟩, .slice none 0 0]) ?_ 3 _ rfl; refine sK ?_; refine blk_put (cs := #[.int .i64 0, .string ⟨#[]⟩, .bool false, .string ⟨#[]⟩, .string ⟨#[]⟩, .slice none 0 0]) ?_ 2 _ rfl; refine sK ?_; refine blk_put (cs := #[.int .i64 0, .string ⟨#[]⟩, .bool false, .string ⟨#[]⟩, .string ⟨#[]⟩, .slice none 0 0]) ?_ 1 _ rfl; refine sK ?_; refine blk_put (cs := #[.int .i64 0, .string ⟨#[]⟩, .bool false, .string ⟨#[]⟩, .string ⟨#[]⟩, .slice none 0 0]) ?_ 0 _ rfl; refine sK ?_; exact BK138.out) Tryz.underlying26 rfl (by kernel_rfl)) rfl ?_
     exact ⟨_, by first | rfl | (simp [errW_none, errW_some] <;> rfl) | (simp [*, errW_none, errW_some] <;> rfl), by first | exact Kd.R_nil _ _ _ _ _ | exact Kd.N_nil _ _ _ _ _ | exact Kd.V_nil _ _ _ _ _ | exact Kd.Q_nil _ _ _ _ _ | exact Kd.S_nil _ _ _ _ _, sB HB.out⟩
   ·
    rw [if_neg c8] at H
    have c8b0 : (t146 == 0) = false := beq_eq_false_iff_ne.mpr c8
    have c8b1 : (t146 != 0) = true := bne_iff_ne.mpr c8
    simp only [Option.some.injEq, Prod.mk.injEq] at H
    obtain ⟨rfl, rfl, rfl, rfl, rfl, rfl, rfl⟩ := H
    go_enter Tryz.func42, Tryz.ntmps42
    go_wp2_with (first | ((with_reducible refine gate_dst (N := 4) rfl ?_); refine box_event ?hg (N := 4) ?hd (cs := #[.int .i64 0, .string ⟨#[]⟩, .bool false, .string ⟨#[]⟩, .string ⟨#[]⟩, .slice none 0 0]) (t := 26) ?hr ?_; (case hd => rfl); (case hg => rfl); (case hr => first | (go_simp; done) | (go_simp; rfl)); intro gb138 hg w61 hbox hb; have BK138 := Aside0.mk (hbox); have GW138 := Aside0.mk ((by rw [hg]; exact (below_size (sB HB.out)) : w.heap.size ≤ gb138)); have GE138 := Aside0.mk ((by rw [hg]; exact (below_size (sB HB.out)) : w.heap.size ≤ gb138)); replace HB := Aside0.mk (below_step (sB HB.out) hb); clear hb hbox hg) | ((with_reducible refine gate_callee (f := 21) rfl ?_); refine goesL_ (some 12) rfl rfl Tryz.func21 (by kernel_rfl) rfl #[.string a1, .string ⟨#[32]⟩] rfl sM ?_; (with_reducible refine (strings_Split.calls a1 (⟨#[32]⟩ : ByteArray) t139 _ ?side1 A3.out).mono ?_); (case side1 => exact Glob.below HG.out (sB HB.out)); rintro e w62 ⟨v140, rfl, ho0, hb⟩; refine ⟨_, rfl, ?_⟩; have HO141 := Aside0.mk (Kd.R_lower ho0 (below_size (sB HB.out))); replace BK138 := Aside0.mk (blk_below (g := gb138) (o := .cells #[.int .i64 0, .string ⟨#[]⟩, .bool false, .string ⟨#[]⟩, .string ⟨#[]⟩, .slice none 0 0] 26 (0, 0)) (sK BK138.out) hb); replace HB := Aside0.mk (below_step (sB HB.out) hb); (try clear hb); (try clear ho0); obtain ⟨Ao63, co63, eo63⟩ := Kd.R_slice HO141.out; subst eo63; have p142 : 0 ≤ (0 : Int) := (by omega); have q142 : 0 < (t139.length : Int) := of_decide_eq_true sA; obtain ⟨ad142, e142, hx142_0⟩ := Kd.at_string (Kd.R_reads' HO141.out).2.2 0 p142 q142; cases e142; have qi142 : (0 < t139.length) = True := eq_true (by omega); (try rw [show ((0 : Int)).toNat = 0 from rfl] at hx142_0); (try rw [Addr.add_zero'] at hx142_0); replace p142 := eq_true p142; replace q142 := eq_true q142) | ((with_reducible refine gate_callee (f := 57) rfl ?_); refine goesL_ (some 17) rfl rfl Tryz.func57 (by kernel_rfl) rfl #[.string (rdOf ByteArray.empty t139 0)] rfl sM ?_; (with_reducible refine (path_Parse.calls (rdOf ByteArray.empty t139 0) t143 t144 t145 t146 _ ?side1 A5.out).mono ?_); (case side1 => exact Glob.below HG.out (sB HB.out)); rintro e w64 ⟨rfl, hb⟩; refine ⟨_, rfl, ?_⟩; replace HO141 := Aside0.mk (Kd.R_below (sR HO141.out) hb); replace BK138 := Aside0.mk (blk_below (g := gb138) (o := .cells #[.int .i64 0, .string ⟨#[]⟩, .bool false, .string ⟨#[]⟩, .string ⟨#[]⟩, .slice none 0 0] 26 (0, 0)) (sK BK138.out) hb); replace HB := Aside0.mk (below_step (sB HB.out) hb); (try clear hb)) | ((with_reducible refine gate_dst (N := 7) rfl ?_); refine box_event ?hg (N := 7) ?hd (cs := #[.bool false, .string ⟨#[]⟩, .string ⟨#[]⟩]) (t := 23) ?hr ?_; (case hd => rfl); (case hg => rfl); (case hr => first | (go_simp; done) | (go_simp; rfl)); intro gb147 hg w65 hbox hb; replace HO141 := Aside0.mk (Kd.R_below (sR HO141.out) hb); have BK147 := Aside0.mk (hbox); have GW147 := Aside0.mk ((by rw [hg]; exact (below_size (sB HB.out)) : w.heap.size ≤ gb147)); have GE147 := Aside0.mk ((by rw [hg]; exact (below_size (sB HB.out)) : w.heap.size ≤ gb147)); replace HB := Aside0.mk (below_step (sB HB.out) hb); have NB138_147 := Aside0.mk ((by rw [hg]; exact Nat.ne_of_lt (blk_lt (g := gb138) (o := .cells #[.int .i64 0, .string ⟨#[]⟩, .bool false, .string ⟨#[]⟩, .string ⟨#[]⟩, .slice none 0 0] 26 (0, 0)) (sK BK138.out)) : gb138 ≠ gb147)); have NB147_138 := Aside0.mk ((by rw [hg]; exact Nat.ne_of_gt (blk_lt (g := gb138) (o := .cells #[.int .i64 0, .string ⟨#[]⟩, .bool false, .string ⟨#[]⟩, .string ⟨#[]⟩, .slice none 0 0] 26 (0, 0)) (sK BK138.out)) : gb147 ≠ gb138)); replace BK138 := Aside0.mk (blk_below (g := gb138) (o := .cells #[.int .i64 0, .string ⟨#[]⟩, .bool false, .string ⟨#[]⟩, .string ⟨#[]⟩, .slice none 0 0] 26 (0, 0)) (sK BK138.out) hb); clear hb hbox hg; have hnb66 := NB147_138.out; have hnc66 := NB138_147.out; have hcz67_0 := sC BK147.out 0; have hcz67_1 := sC BK147.out 1; have hcz67_2 := sC BK147.out 2; have hfz67_0 := blk_frozen BK147.out 0; have hfz67_1 := blk_frozen BK147.out 1; have hfz67_2 := blk_frozen BK147.out 2) | ((with_reducible refine gate_store (t := 23) (p := 7) rfl ?_); refine store_event (t := 23) (p := 7) (v := ?vo_w68) (w1 := (((w65.setCell ⟨gb147, 0, none⟩ (.bool t143)).setCell ⟨gb147, 1, none⟩ (.string t144)).setCell ⟨gb147, 2, none⟩ (.string t145))) ?hg ?ho ?hn ?hr ?_; (case ho => rfl); (case hg => rfl); (case hn => rfl); (case hr => first | (go_simp; done) | (go_simp; rfl)); intro w68 hw; have n0_ : Aside0 (Kd.R Kd.string 9 w68 w.heap.size (fun _ => True) (.slice (some ad142) t139.length co63) t139) := ⟨(by rw [hw]; exact (by (with_reducible repeat (first | apply Kd.R_alloc | apply Kd.R_drewN | apply Kd.R_drew)); exact Kd.R_mono (Kd.R_far (p := ⟨gb147, 2, none⟩) (Kd.R_far (p := ⟨gb147, 1, none⟩) (Kd.R_far (p := ⟨gb147, 0, none⟩) (Kd.R_types HO141.out BK147.out (by decide)) (fun _ hk => hk.2) (.bool t143)) (fun _ hk => hk.2) (.string t144)) (fun _ hk => hk.2) (.string t145)) (fun _ hk => trivial)))⟩; have n1_ : Aside0 (w68.heap[gb138]? = some (.cells #[.int .i64 0, .string ⟨#[]⟩, .bool false, .string ⟨#[]⟩, .string ⟨#[]⟩, .slice none 0 0] 26 (0, 0))) := ⟨(by rw [hw]; exact (by refine sK ?_; refine blk_far ?_ NB138_147.out _; refine sK ?_; refine blk_far ?_ NB138_147.out _; refine sK ?_; refine blk_far ?_ NB138_147.out _; refine sK ?_; exact BK138.out))⟩; have n2_ : Aside0 (w68.heap[gb147]? = some (.cells #[.bool t143, .string t144, .string t145] 23 (0, 0))) := ⟨(by rw [hw]; exact (by refine sK ?_; refine blk_put (cs := #[.bool t143, .string t144, .string ⟨#[]⟩]) ?_ 2 _ rfl; refine sK ?_; refine blk_put (cs := #[.bool t143, .string ⟨#[]⟩, .string ⟨#[]⟩]) ?_ 1 _ rfl; refine sK ?_; refine blk_put (cs := #[.bool false, .string ⟨#[]⟩, .string ⟨#[]⟩]) ?_ 0 _ rfl; refine sK ?_; exact BK147.out))⟩; have n3_ : Aside0 (Below w.heap.size w w68) := ⟨(by rw [hw]; exact (sB HB.out))⟩; clear hw; clear HO141; clear BK138; clear BK147; clear HB; have HO141 := n0_; have BK138 := n1_; have BK147 := n2_; have HB := n3_; clear n0_ n1_ n2_ n3_; have q69 : (1 : Int) ≤ ((t139.length : Int) : Int) := of_decide_eq_true sA; obtain ⟨i069, hi069, _, hsz69, _⟩ := info_parts info9; have hroom69 : t139.length ≤ co63 := (Kd.R_reads' HO141.out).2.1; have hC69 : Kd.C Kd.string _ (some ad142) t139.length t139 := (Kd.R_reads' HO141.out).2.2; have hcut69 := cut_from (P := Tryz.prog) 43 9 .i64 Tryz.underlying43 hi069 1 hsz69 (some ad142) t139.length co63 1 (by omega) q69; have hr69 := Kd.C_drop (m := (1 : Int).toNat) (c := co63) hC69 (by omega) hroom69; obtain ⟨A69, hA69⟩ : ∃ A1, A1 = (if co63 = (1 : Int).toNat then (some ad142) else ((some ad142) : Option Addr).map (·.add ((1 : Int).toNat * 1))) := ⟨_, rfl⟩; obtain ⟨c69, hc69⟩ : ∃ c1, c1 = co63 - (1 : Int).toNat := ⟨_, rfl⟩; have hy69 : y148.length = t139.length - (1 : Int).toNat := (by rw [Ny148.out, List.length_drop] <;> omega); rw [show (t139).drop (1 : Int).toNat = y148 from Ny148.out.symm] at hr69; replace hr69 : Kd.C Kd.string _ A69 y148.length y148 := (by rw [hA69]; exact hr69); rw [← hy69, ← hA69, ← hc69] at hcut69; have HR151 := Aside0.mk hr69; have HC151 := Aside0.mk (show y148.length ≤ c69 from by rw [hy69, hc69]; exact Nat.sub_le_sub_right hroom69 _); clear hr69 hC69 hroom69 hi069 hsz69 hc69; have KY69 := Aside0.mk hy69; have KA69 := Aside0.mk hA69; clear hy69 hA69; have KL69 := Aside0.mk (show 1 ≤ t139.length from by omega); replace q69 := eq_true q69) | ((with_reducible refine gate_callee (f := 58) rfl ?_); refine goesL_ (some 24) rfl rfl Tryz.func58 (by kernel_rfl) rfl #[.int .i64 a0, .slice A69 y148.length c69] rfl sM ?_; (with_reducible refine (verb_params.calls a0 _ _ y148 t152 t153 _ ?side1 ?side2 ?side3 A7.out).mono ?_); (case side1 => exact Glob.below HG.out (sB HB.out)); (case side2 => repeat (first | exact (by repeat (first | (with_reducible exact HR151.out) | (with_reducible refine Kd.C_alloc ?_ _) | (with_reducible refine Kd.C_drewN ?_ _) | (with_reducible refine Kd.C_drew ?_) | exact HR151.out)) | (with_reducible refine Kd.C_alloc ?_ _) | (with_reducible refine Kd.C_drewN ?_ _) | (with_reducible refine Kd.C_drew ?_))); (case side3 => exact HC151.out); rintro e w70 ⟨v154, rfl, ho0, hb⟩; refine ⟨_, rfl, ?_⟩; replace HO141 := Aside0.mk (Kd.R_below (sR HO141.out) hb); have HO155 := Aside0.mk (Kd.R_lower ho0 (below_size (sB HB.out))); replace BK138 := Aside0.mk (blk_below (g := gb138) (o := .cells #[.int .i64 0, .string ⟨#[]⟩, .bool false, .string ⟨#[]⟩, .string ⟨#[]⟩, .slice none 0 0] 26 (0, 0)) (sK BK138.out) hb); replace BK147 := Aside0.mk (blk_below (g := gb147) (o := .cells #[.bool t143, .string t144, .string t145] 23 (0, 0)) (sK BK147.out) hb); replace HR151 := Aside0.mk (Kd.C_below (by repeat (first | (with_reducible exact HR151.out) | (with_reducible refine Kd.C_alloc ?_ _) | (with_reducible refine Kd.C_drewN ?_ _) | (with_reducible refine Kd.C_drew ?_) | exact HR151.out)) hb); replace HB := Aside0.mk (below_step (sB HB.out) hb); (try clear hb); (try clear ho0); have hcz71_0 := sC BK138.out 0; have hcz71_1 := sC BK138.out 1; have hcz71_2 := sC BK138.out 2; have hcz71_3 := sC BK138.out 3; have hcz71_4 := sC BK138.out 4; have hcz71_5 := sC BK138.out 5; have hfz71_0 := blk_frozen BK138.out 0; have hfz71_1 := blk_frozen BK138.out 1; have hfz71_2 := blk_frozen BK138.out 2; have hfz71_3 := blk_frozen BK138.out 3; have hfz71_4 := blk_frozen BK138.out 4; have hfz71_5 := blk_frozen BK138.out 5))
    refine bodyPost_ret (results_ct rfl _ _ gb138 26 #[.int .i64 0, .string ⟨#[]⟩, .bool false, .string ⟨#[]⟩, .string ⟨#[]⟩, .slice none 0 0] (0, 0) _ rfl (by refine sK ?_; refine blk_put (cs := #[.int .i64 0, .string ⟨#[]⟩, .bool false, .string ⟨#[]⟩, .string ⟨#[]⟩, .slice none 0 0]) ?_ 5 _ rfl; refine sK ?_; refine blk_put (cs := #[.int .i64 0, .string ⟨#[]⟩, .bool false, .string ⟨#[]⟩, .string ⟨#[]⟩, .slice none 0 0]) ?_ 4 _ rfl; refine sK ?_; refine blk_put (cs := #[.int .i64 0, .string ⟨#[]⟩, .bool false, .string ⟨#[]⟩, .string ⟨#[]⟩, .slice none 0 0]) ?_ 3 _ rfl; refine sK ?_; refine blk_put (cs := #[.int .i64 0, .string ⟨#[]⟩, .bool false, .string ⟨#[]⟩, .string ⟨#[]⟩, .slice none 0 0]) ?_ 2 _ rfl; refine sK ?_; refine blk_put (cs := #[.int .i64 0, .string ⟨#[]⟩, .bool false, .string ⟨#[]⟩, .string ⟨#[]⟩, .slice none 0 0]) ?_ 1 _ rfl; refine sK ?_; refine blk_put (cs := #[.int .i64 0, .string ⟨#[]⟩, .bool false, .string ⟨#[]⟩, .string ⟨#[]⟩, .slice none 0 0]) ?_ 0 _ rfl; refine sK ?_; exact BK138.out) Tryz.underlying26 rfl (by kernel_rfl)) rfl ?_
    exact ⟨_, by first | rfl | (simp [errW_none, errW_some] <;> rfl) | (simp [*, errW_none, errW_some] <;> rfl), by first | exact Kd.R_nil _ _ _ _ _ | exact Kd.N_nil _ _ _ _ _ | exact Kd.V_nil _ _ _ _ _ | exact Kd.Q_nil _ _ _ _ _ | exact Kd.S_nil _ _ _ _ _, sB HB.out⟩
  ·
   rw [if_neg c6] at H
   exact absurd H (by simp)
 ·
  rw [if_neg c4] at H
  exact absurd H (by simp)
end Go.Proofs.YthcdjgekmfnmnaaGreatDoor.PVerb
end
section
namespace Go.Proofs.YthcdjgekmfnmnaaGreatDoor.PVerb
open Go.RowKit Go.Proofs.YthcdjgekmfnmnaaGreatDoorW.PrintWords Go.Proofs.YthcdjgekmfnmnaaGreatDoorW.PrintLast Go.Proofs.YthcdjgekmfnmnaaGreatDoorW.PrintMore
attribute [local go_sem] max2_int min2_int max_two min_two max_three min_three max_four min_four
set_option linter.unusedVariables false
set_option linter.unusedSimpArgs false
def afterL (a b : List UInt8) : Bool := decide (b.length ≤ a.length) && foldL (a.take b.length) == foldL b
theorem ext_take (s : ByteArray) (n : Nat) : (s.extract 0 n).data.toList = s.data.toList.take n := Lib.extract_from_zero s n
theorem ext_drop (s : ByteArray) (n : Nat) : s.extract n s.size = bs (s.data.toList.drop n) := by
  have := Lib.extract_to_end s n
  rw [← bs_of (s.extract n s.size), this]
set_option maxHeartbeats 1000000 in
set_option maxRecDepth 100000 in
theorem after_short (a0 a1 : ByteArray) (w : World) (h : a0.size < a1.size) :
    Calls Tryz.prog 43 #[.string a0, .string a1] w fun e w' => e = .returned (.tuple #[.string (bs []), .bool false]) ∧ Below w.heap.size w w' := by
  have h1 : decide (a0.size < a1.size) = true := decide_eq_true h
  go_enter Tryz.func43, Tryz.ntmps43
  go_wp2
  go_ret2
  exact ⟨rfl, Below.refl _ _⟩
set_option maxHeartbeats 1000000 in
set_option maxRecDepth 100000 in
theorem after_walk (a0 a1 : ByteArray) (w : World) (h : ¬ a0.size < a1.size) (h0 : a0.size < 4294967281) (h1 : a1.size < 4294967281) (b : Bool) (hb : (foldL (a0.data.toList.take a1.size) == foldL a1.data.toList) = b) :
    Calls Tryz.prog 43 #[.string a0, .string a1] w fun e w' => e = .returned (.tuple #[.string (if b then bs (a0.data.toList.drop a1.size) else bs []), .bool b]) ∧ Below w.heap.size w w' := by
  have hd : decide (a0.size < a1.size) = false := decide_eq_false h
  have hle : a1.size ≤ a0.size := by omega
  have hes : (a0.extract 0 a1.size).size < 4294967281 := by rw [← data_size, ext_take]; simp; omega
  have H1 := Aside0.mk (fun W => path_Fold.walk (a0.extract 0 a1.size) W hes)
  have H2 := Aside0.mk (fun W => path_Fold.walk a1 W h1)
  rw [ext_take] at H1
  have hq : ((bs (foldL (a0.data.toList.take a1.size))).toList == (bs (foldL a1.data.toList)).toList) = b := by rw [toList_data, toList_data]; exact hb
  have hq2 : ((bs (foldL (a0.data.toList.take a1.size))).toList != (bs (foldL a1.data.toList)).toList) = !b := by rw [← hq]; rfl
  have HD := Aside0.mk (ext_drop a0 a1.size)
  clear hb h hes
  generalize bs (foldL (a0.data.toList.take a1.size)) = p at *
  generalize bs (foldL a1.data.toList) = q at *
  rw [← HD.out]
  cases b
  all_goals
    go_enter Tryz.func43, Tryz.ntmps43
    go_wp2_with fail
    refine (H1.out _).mono ?_
    rintro e w1 ⟨rfl, hb1⟩
    go_wp2_with fail
    refine (H2.out _).mono ?_
    rintro e w2 ⟨rfl, hb2⟩
    go_wp2
    go_ret2
    exact ⟨rfl, below_step hb1 hb2⟩
def verb_after.f (a0 a1 : ByteArray) : Option (ByteArray × Bool) :=
  if a0.size < 4294967281 ∧ a1.size < 4294967281 then some (if afterL a0.data.toList a1.data.toList then bs (a0.data.toList.drop a1.size) else bs [], afterL a0.data.toList a1.data.toList) else none
theorem verb_after.calls (a0 a1 : ByteArray) (r1 : ByteArray) (r2 : Bool) (w : World) (h : verb_after.f a0 a1 = some (r1, r2)) :
    Calls Tryz.prog 43 #[.string a0, .string a1] w fun e w' => e = .returned (.tuple #[.string r1, .bool r2]) ∧ Below w.heap.size w w' := by
  unfold verb_after.f at h
  split at h
  · rename_i hs
    simp only [Option.some.injEq] at h
    obtain ⟨rfl, rfl⟩ := Prod.mk.inj h
    by_cases hl : a0.size < a1.size
    · have hf : afterL a0.data.toList a1.data.toList = false := by unfold afterL; rw [data_size, data_size, decide_eq_false (by omega), Bool.false_and]
      rw [hf]
      exact after_short a0 a1 w hl
    · have hf : afterL a0.data.toList a1.data.toList = (foldL (a0.data.toList.take a1.size) == foldL a1.data.toList) := by unfold afterL; rw [data_size, data_size, decide_eq_true (by omega), Bool.true_and]
      rw [hf]
      exact after_walk a0 a1 w hl hs.1 hs.2 _ rfl
  · cases h
end Go.Proofs.YthcdjgekmfnmnaaGreatDoor.PVerb
end
section
namespace Go.Proofs.YthcdjgekmfnmnaaGreatDoor.PVerb
open Go.RowKit Go.Proofs.YthcdjgekmfnmnaaGreatDoorW.PrintWords Go.Proofs.YthcdjgekmfnmnaaGreatDoorW.PrintLast Go.Proofs.YthcdjgekmfnmnaaGreatDoorW.PrintMore
attribute [local go_sem] max2_int min2_int max_two min_two max_three min_three max_four min_four
set_option linter.unusedVariables false
set_option linter.unusedSimpArgs false
def readTab : List (ByteArray × Int × Bool) := [(⟨#[101, 104, 108, 111, 32]⟩, 1, false), (⟨#[104, 101, 108, 111, 32]⟩, 1, false), (⟨#[109, 97, 105, 108, 32, 102, 114, 111, 109, 58]⟩, 2, true), (⟨#[114, 99, 112, 116, 32, 116, 111, 58]⟩, 3, true), (⟨#[101, 116, 114, 110, 32]⟩, 9, false), (⟨#[97, 116, 114, 110, 32]⟩, 11, false)]
def verb_read.tail (a0 : ByteArray) : Option (Int × ByteArray × Bool × ByteArray × ByteArray × List S47 × Bool) :=
  (verb_after.f a0 ⟨#[110, 111, 111, 112, 32]⟩).bind fun t => if t.2 = true then some (7, bs [], false, bs [], bs [], [], true) else
    (verb_after.f a0 ⟨#[118, 114, 102, 121, 32]⟩).bind fun u => if u.2 = true ∧ u.1.data.toList ≠ [] then some (6, u.1, false, bs [], bs [], [], true) else some (0, bs [], false, bs [], bs [], [], false)
def verb_read.rows (a0 : ByteArray) : List (ByteArray × Int × Bool) → Option (Int × ByteArray × Bool × ByteArray × ByteArray × List S47 × Bool)
  | [] => verb_read.tail a0
  | (b, kind, mb) :: l => (verb_after.f a0 b).bind fun t => if t.2 = true then (if mb = true then verb_mailbox.f kind t.1 else verb_named.f kind t.1) else verb_read.rows a0 l
def verb_read.f (a0 : ByteArray) : Option (Int × ByteArray × Bool × ByteArray × ByteArray × List S47 × Bool) :=
  (verb_alone.f a0).bind fun r => if r.2.2.2.2.2.2 = true then some r else verb_read.rows a0 readTab
theorem close6 {w w5 : World} {c0 c1 c2 c3 c4 c5 : Value} (u0 u1 u2 u3 u4 u5 : Value) (hb : w5.heap[w.heap.size]? = some (.cells #[c0, c1, c2, c3, c4, c5] 26 (0, 0))) (hB : Below w.heap.size w w5) :
    ((((((w5.setCell ⟨w.heap.size, 0, none⟩ u0).setCell ⟨w.heap.size, 1, none⟩ u1).setCell ⟨w.heap.size, 2, none⟩ u2).setCell ⟨w.heap.size, 3, none⟩ u3).setCell ⟨w.heap.size, 4, none⟩ u4).setCell ⟨w.heap.size, 5, none⟩ u5).heap[w.heap.size]? = some (.cells #[u0, u1, u2, u3, u4, u5] 26 (0, 0)) ∧
    Below w.heap.size w ((((((w5.setCell ⟨w.heap.size, 0, none⟩ u0).setCell ⟨w.heap.size, 1, none⟩ u1).setCell ⟨w.heap.size, 2, none⟩ u2).setCell ⟨w.heap.size, 3, none⟩ u3).setCell ⟨w.heap.size, 4, none⟩ u4).setCell ⟨w.heap.size, 5, none⟩ u5) ∧
    ∀ {v : Value} {xs : List S47}, Kd.R k47 47 w5 w.heap.size (fun _ => True) v xs →
      Kd.R k47 47 ((((((w5.setCell ⟨w.heap.size, 0, none⟩ u0).setCell ⟨w.heap.size, 1, none⟩ u1).setCell ⟨w.heap.size, 2, none⟩ u2).setCell ⟨w.heap.size, 3, none⟩ u3).setCell ⟨w.heap.size, 4, none⟩ u4).setCell ⟨w.heap.size, 5, none⟩ u5) w.heap.size (fun _ => True) v xs := by
  have b0 := blk_set hb 0 u0
  have b1 := blk_set b0 1 u1
  have b2 := blk_set b1 2 u2
  have b3 := blk_set b2 3 u3
  have b4 := blk_set b3 4 u4
  have b5 := blk_set b4 5 u5
  refine ⟨b5, ?_, fun h => ?_⟩
  · repeat (refine below_set ?_ (Nat.le_refl _))
    exact hB
  · exact Kd.R_set (Kd.R_set (Kd.R_set (Kd.R_set (Kd.R_set (Kd.R_set h hb (by decide) 0 u0) b0 (by decide) 1 u1) b1 (by decide) 2 u2) b2 (by decide) 3 u3) b3 (by decide) 4 u4) b4 (by decide) 5 u5
def readCells : Array Value := #[.string ⟨#[101, 104, 108, 111, 32]⟩, .int .i64 1, .func (.func 41) #[] #[], .string ⟨#[104, 101, 108, 111, 32]⟩, .int .i64 1, .func (.func 41) #[] #[], .string ⟨#[109, 97, 105, 108, 32, 102, 114, 111, 109, 58]⟩, .int .i64 2, .func (.func 42) #[] #[], .string ⟨#[114, 99, 112, 116, 32, 116, 111, 58]⟩, .int .i64 3, .func (.func 42) #[] #[], .string ⟨#[101, 116, 114, 110, 32]⟩, .int .i64 9, .func (.func 41) #[] #[], .string ⟨#[97, 116, 114, 110, 32]⟩, .int .i64 11, .func (.func 41) #[] #[]]
set_option maxHeartbeats 8000000 in
set_option maxRecDepth 100000 in
theorem read_walk (a0 : ByteArray) (r1 : Int) (r2 : ByteArray) (r3 : Bool) (r4 r5 : ByteArray) (r6 : List S47) (r7 : Bool) (w : World) (hG : Glob w) (h : verb_read.f a0 = some (r1, r2, r3, r4, r5, r6, r7)) :
    Calls Tryz.prog 22 #[.string a0] w fun e w' => ∃ v5_ : Value, e = .returned (.tuple #[.agg #[.int .i64 r1, .string r2, .bool r3, .string r4, .string r5, v5_], .bool r7]) ∧ Kd.R k47 47 w' w.heap.size (fun _ => True) v5_ r6 ∧ Below w.heap.size w w' := by
  have hu := Tryz.underlying26
  have hu66 := Tryz.underlying66
  have HGG := Aside0.mk hG
  clear hG
  unfold verb_read.f at h
  obtain ⟨⟨s1, s2, s3, s4, s5, s6, s7⟩, hal, h⟩ := Option.bind_eq_some_iff.mp h
  simp only at h
  have HA := Aside0.mk (fun W => verb_alone.calls a0 s1 s2 s3 s4 s5 s6 s7 W hal)
  have HH := Aside0.mk h
  clear hal h
  have hb0 : Below w.heap.size w (w.alloc (.cells #[.int .i64 0, .string ⟨#[]⟩, .bool false, .string ⟨#[]⟩, .string ⟨#[]⟩, .slice none 0 0] 26)) := (Below.refl _ w).alloc (Nat.le_refl _) _
  have bk0 := heap_alloc_new w (.cells #[.int .i64 0, .string ⟨#[]⟩, .bool false, .string ⟨#[]⟩, .string ⟨#[]⟩, .slice none 0 0] 26)
  have HB0 := Aside0.mk hb0
  have HK0 := Aside0.mk bk0
  clear hb0 bk0
  go_enter Tryz.func22, Tryz.ntmps22
  go_wp2_with fail
  refine (HA.out _).mono ?_
  rintro e w1 ⟨v, rfl, hR, hb⟩
  obtain ⟨Av, cv, ev, _, _⟩ := Kd.R_reads hR
  subst ev
  have HR := Aside0.mk (Kd.R_lower hR (below_size HB0.out))
  have HB1 := Aside0.mk (below_step HB0.out hb)
  have HK1 := Aside0.mk (blk_grown HK0.out (grown_of_below hb none) (by simp))
  clear hR hb HA HB0 HK0
  have f0 := blk_frozen HK1.out 0
  have f1 := blk_frozen HK1.out 1
  have f2 := blk_frozen HK1.out 2
  have f3 := blk_frozen HK1.out 3
  have f4 := blk_frozen HK1.out 4
  have f5 := blk_frozen HK1.out 5
  have z0 := blk_cell HK1.out 0
  have z1 := blk_cell HK1.out 1
  have z2 := blk_cell HK1.out 2
  have z3 := blk_cell HK1.out 3
  have z4 := blk_cell HK1.out 4
  have z5 := blk_cell HK1.out 5
  have hlt1 : w.heap.size < w1.heap.size := blk_lt HK1.out
  cases s7
  · have H := HH.out
    rw [if_neg (by decide)] at H
    have HH1 := Aside0.mk H
    clear HH H HR f0 f1 f2 f3 f4 f5 z0 z1 z2 z3 z4 z5
    have hbW : Below w.heap.size w ((w1.alloc (.cells #[.int .i64 s1, .string s2, .bool s3, .string s4, .string s5, .slice Av s6.length cv] 26)).alloc (.cells readCells 66)) := below_alloc (below_alloc HB1.out _) _
    have hbK : ((w1.alloc (.cells #[.int .i64 s1, .string s2, .bool s3, .string s4, .string s5, .slice Av s6.length cv] 26)).alloc (.cells readCells 66)).heap[w.heap.size]? = some (.cells #[.int .i64 0, .string ⟨#[]⟩, .bool false, .string ⟨#[]⟩, .string ⟨#[]⟩, .slice none 0 0] 26 (0, 0)) := blk_alloc (blk_alloc HK1.out _) _
    have hbT : ((w1.alloc (.cells #[.int .i64 s1, .string s2, .bool s3, .string s4, .string s5, .slice Av s6.length cv] 26)).alloc (.cells readCells 66)).heap[w1.heap.size + 1]? = some (.cells readCells 66 (0, 0)) := by
      have := heap_alloc_new (w1.alloc (.cells #[.int .i64 s1, .string s2, .bool s3, .string s4, .string s5, .slice Av s6.length cv] 26)) (.cells readCells 66)
      simpa using this
    have HBW := Aside0.mk hbW
    have HKW := Aside0.mk hbK
    have HTW := Aside0.mk hbT
    clear hbW hbK hbT HB1 HK1
    unfold readCells at HBW HKW HTW
    go_wp2
    go_loopg [29] 6 (fun gg v29 wr => ∃ i : Nat, i ≤ 6 ∧ 6 - i ≤ gg ∧ v29 = .int .i64 i ∧ Aside0 (verb_read.rows a0 (readTab.drop i) = some (r1, r2, r3, r4, r5, r6, r7)) ∧ Aside0 (Below w.heap.size w wr) ∧ Aside0 (wr.heap[w.heap.size]? = some (.cells #[.int .i64 0, .string ⟨#[]⟩, .bool false, .string ⟨#[]⟩, .string ⟨#[]⟩, .slice none 0 0] 26 (0, 0))) ∧ Aside0 (wr.heap[w1.heap.size + 1]? = some (.cells readCells 66 (0, 0))))
    case atStart => exact ⟨0, Nat.zero_le _, by omega, rfl, HH1, HBW, HKW, HTW⟩
    case round =>
      clear HH1 HBW HKW HTW
      obtain ⟨i, hi, hg, rfl, HH, HB, HK, HT⟩ := hrel
      by_cases hlt : i < 6
      · have key : ∃ b kind mb, readTab.drop i = (b, kind, mb) :: readTab.drop (i + 1) ∧ b.size < 4294967281 ∧ wr.cell? ⟨w1.heap.size + 1, i * 3, none⟩ = some (.string b) ∧ wr.cell? ⟨w1.heap.size + 1, i * 3 + 1, none⟩ = some (.int .i64 kind) ∧ wr.cell? ⟨w1.heap.size + 1, i * 3 + 2, none⟩ = some (.func (.func (if mb then 42 else 41)) #[] #[]) := by
          have e := fun j => blk_cell HT.out j
          obtain rfl | rfl | rfl | rfl | rfl | rfl : i = 0 ∨ i = 1 ∨ i = 2 ∨ i = 3 ∨ i = 4 ∨ i = 5 := by omega
          all_goals exact ⟨_, _, _, rfl, by decide, (e _).trans rfl, (e _).trans rfl, (e _).trans rfl⟩
        obtain ⟨b, kind, mb, hd, hbs, q0, q1, q2⟩ := key
        have hltz : (i : Int) < 6 := by omega
        have H := HH.out
        rw [hd, verb_read.rows] at H
        clear HH hd
        obtain ⟨⟨t1, t2⟩, haf, H⟩ := Option.bind_eq_some_iff.mp H
        simp only at H
        have HF := Aside0.mk (fun W => verb_after.calls a0 b t1 t2 W haf)
        have H1 := Aside0.mk H
        clear haf H hbs
        have z0 := blk_cell HK.out 0
        cases mb
        · simp only [Bool.false_eq_true, if_false] at q2 H1
          go_wp2_with fail
          refine (HF.out _).mono ?_
          rintro e w5 ⟨rfl, hb⟩
          have HB5 := Aside0.mk (below_step (below_alloc HB.out _) hb)
          have HK5 := Aside0.mk (blk_grown (blk_alloc HK.out _) (grown_of_below hb none) (by simp))
          have HT5 := Aside0.mk (blk_grown (blk_alloc HT.out _) (grown_of_below hb none) (by simp))
          have HX5 := Aside0.mk (blk_grown (heap_alloc_new wr (.cells #[.string b, .int .i64 kind, .func (.func 41) #[] #[]] 66)) (grown_of_below hb none) (by simp))
          clear hb HB HK HT HF q0 q1 q2 z0
          have H := H1.out
          clear H1
          cases t2
          · rw [if_neg (by decide)] at H
            have HH := Aside0.mk H
            clear H HX5
            go_wp2_with fail
            go_roundg (6 - (i + 1))
            case measure => omega
            case rel => exact ⟨i + 1, by omega, by omega, by go_num, HH, HB5, HK5, HT5⟩
          · rw [if_pos rfl] at H
            have HC := Aside0.mk (fun (W : World) (hg : Glob W) => verb_named.calls kind t1 r1 r2 r3 r4 r5 r6 r7 W hg H)
            clear H HT5
            have y1 := blk_cell HX5.out 1
            have y2 := blk_cell HX5.out 2
            clear HX5
            go_wp2_with fail
            refine (HC.out _ (HGG.out.below HB5.out)).mono ?_
            rintro e w6 ⟨v, rfl, hR, hb⟩
            obtain ⟨Aw, cw, ev, _, _⟩ := Kd.R_reads hR
            subst ev
            have HR := Aside0.mk (Kd.R_lower hR (below_size HB5.out))
            have HB6 := Aside0.mk (below_step HB5.out hb)
            have HK6 := Aside0.mk (blk_grown HK5.out (grown_of_below hb none) (by simp))
            clear hR hb HC HB5 HK5 y1 y2
            have f0 := blk_frozen HK6.out 0
            have f1 := blk_frozen HK6.out 1
            have f2 := blk_frozen HK6.out 2
            have f3 := blk_frozen HK6.out 3
            have f4 := blk_frozen HK6.out 4
            have f5 := blk_frozen HK6.out 5
            have z0 := blk_cell HK6.out 0
            have z1 := blk_cell HK6.out 1
            have z2 := blk_cell HK6.out 2
            have z3 := blk_cell HK6.out 3
            have z4 := blk_cell HK6.out 4
            have z5 := blk_cell HK6.out 5
            have CC := Aside0.mk (close6 (w := w) (.int .i64 r1) (.string r2) (.bool r3) (.string r4) (.string r5) (.slice Aw r6.length cw) HK6.out HB6.out)
            clear HK6 HB6
            go_wp2
            exact bodyPost_ret (results_ct rfl _ _ w.heap.size 26 #[.int .i64 r1, .string r2, .bool r3, .string r4, .string r5, .slice Aw r6.length cw] (0, 0) _ rfl CC.out.1 Tryz.underlying26 rfl (by kernel_rfl)) rfl ⟨_, rfl, CC.out.2.2 HR.out, CC.out.2.1⟩
        · simp only [if_true] at q2 H1
          go_wp2_with fail
          refine (HF.out _).mono ?_
          rintro e w5 ⟨rfl, hb⟩
          have HB5 := Aside0.mk (below_step (below_alloc HB.out _) hb)
          have HK5 := Aside0.mk (blk_grown (blk_alloc HK.out _) (grown_of_below hb none) (by simp))
          have HT5 := Aside0.mk (blk_grown (blk_alloc HT.out _) (grown_of_below hb none) (by simp))
          have HX5 := Aside0.mk (blk_grown (heap_alloc_new wr (.cells #[.string b, .int .i64 kind, .func (.func 42) #[] #[]] 66)) (grown_of_below hb none) (by simp))
          clear hb HB HK HT HF q0 q1 q2 z0
          have H := H1.out
          clear H1
          cases t2
          · rw [if_neg (by decide)] at H
            have HH := Aside0.mk H
            clear H HX5
            go_wp2_with fail
            go_roundg (6 - (i + 1))
            case measure => omega
            case rel => exact ⟨i + 1, by omega, by omega, by go_num, HH, HB5, HK5, HT5⟩
          · rw [if_pos rfl] at H
            have HC := Aside0.mk (fun (W : World) (hg : Glob W) => verb_mailbox.calls kind t1 r1 r2 r3 r4 r5 r6 r7 W hg H)
            clear H HT5
            have y1 := blk_cell HX5.out 1
            have y2 := blk_cell HX5.out 2
            clear HX5
            go_wp2_with fail
            refine (HC.out _ (HGG.out.below HB5.out)).mono ?_
            rintro e w6 ⟨v, rfl, hR, hb⟩
            obtain ⟨Aw, cw, ev, _, _⟩ := Kd.R_reads hR
            subst ev
            have HR := Aside0.mk (Kd.R_lower hR (below_size HB5.out))
            have HB6 := Aside0.mk (below_step HB5.out hb)
            have HK6 := Aside0.mk (blk_grown HK5.out (grown_of_below hb none) (by simp))
            clear hR hb HC HB5 HK5 y1 y2
            have f0 := blk_frozen HK6.out 0
            have f1 := blk_frozen HK6.out 1
            have f2 := blk_frozen HK6.out 2
            have f3 := blk_frozen HK6.out 3
            have f4 := blk_frozen HK6.out 4
            have f5 := blk_frozen HK6.out 5
            have z0 := blk_cell HK6.out 0
            have z1 := blk_cell HK6.out 1
            have z2 := blk_cell HK6.out 2
            have z3 := blk_cell HK6.out 3
            have z4 := blk_cell HK6.out 4
            have z5 := blk_cell HK6.out 5
            have CC := Aside0.mk (close6 (w := w) (.int .i64 r1) (.string r2) (.bool r3) (.string r4) (.string r5) (.slice Aw r6.length cw) HK6.out HB6.out)
            clear HK6 HB6
            go_wp2
            exact bodyPost_ret (results_ct rfl _ _ w.heap.size 26 #[.int .i64 r1, .string r2, .bool r3, .string r4, .string r5, .slice Aw r6.length cw] (0, 0) _ rfl CC.out.1 Tryz.underlying26 rfl (by kernel_rfl)) rfl ⟨_, rfl, CC.out.2.2 HR.out, CC.out.2.1⟩
      · have hie : i = 6 := by omega
        have H := HH.out
        rw [hie] at H
        have H2 : verb_read.tail a0 = some (r1, r2, r3, r4, r5, r6, r7) := H
        have hltz : ¬ (i : Int) < 6 := by omega
        clear HH H hie HT
        unfold verb_read.tail at H2
        obtain ⟨⟨t1, t2⟩, haf, H⟩ := Option.bind_eq_some_iff.mp H2
        simp only at H
        have HF := Aside0.mk (fun W => verb_after.calls a0 _ t1 t2 W haf)
        have H1 := Aside0.mk H
        clear haf H H2
        go_wp2_with fail
        refine (HF.out _).mono ?_
        rintro e w5 ⟨rfl, hb⟩
        have HB5 := Aside0.mk (below_step HB.out hb)
        have HK5 := Aside0.mk (blk_grown HK.out (grown_of_below hb none) (by simp))
        clear hb HB HK HF
        have H := H1.out
        clear H1
        cases t2
        · rw [if_neg (by decide)] at H
          obtain ⟨⟨u1, u2⟩, haf, H⟩ := Option.bind_eq_some_iff.mp H
          simp only at H
          have HF := Aside0.mk (fun W => verb_after.calls a0 _ u1 u2 W haf)
          have H1 := Aside0.mk H
          clear haf H
          go_wp2_with fail
          refine (HF.out _).mono ?_
          rintro e w6 ⟨rfl, hb⟩
          have HB6 := Aside0.mk (below_step HB5.out hb)
          have HK6 := Aside0.mk (blk_grown HK5.out (grown_of_below hb none) (by simp))
          clear hb HB5 HK5 HF
          have f0 := blk_frozen HK6.out 0
          have z0 := blk_cell HK6.out 0
          have f1 := blk_frozen HK6.out 1
          have z1 := blk_cell HK6.out 1
          have f2 := blk_frozen HK6.out 2
          have z2 := blk_cell HK6.out 2
          have f3 := blk_frozen HK6.out 3
          have z3 := blk_cell HK6.out 3
          have f4 := blk_frozen HK6.out 4
          have z4 := blk_cell HK6.out 4
          have f5 := blk_frozen HK6.out 5
          have z5 := blk_cell HK6.out 5
          have H := H1.out
          clear H1
          by_cases hc : u2 = true ∧ u1.data.toList ≠ []
          · rw [if_pos hc] at H
            obtain ⟨rfl, hne⟩ := hc
            have hne2 : u1.toList.isEmpty = false := by rw [toList_data]; simpa using hne
            simp only [Option.some.injEq, Prod.mk.injEq] at H
            obtain ⟨rfl, rfl, rfl, rfl, rfl, rfl, rfl⟩ := H
            clear hne
            have CC := Aside0.mk (close6 (w := w) (.int .i64 6) (.string u1) (.bool false) (.string ⟨#[]⟩) (.string ⟨#[]⟩) (.slice none 0 0) HK6.out HB6.out)
            clear HK6 HB6
            go_wp2
            exact bodyPost_ret (results_ct rfl _ _ w.heap.size 26 #[.int .i64 6, .string u1, .bool false, .string ⟨#[]⟩, .string ⟨#[]⟩, .slice none 0 0] (0, 0) _ rfl CC.out.1 Tryz.underlying26 rfl (by kernel_rfl)) rfl ⟨_, rfl, Kd.R_nil _ _ _ _ _, CC.out.2.1⟩
          · rw [if_neg hc] at H
            simp only [Option.some.injEq, Prod.mk.injEq] at H
            obtain ⟨rfl, rfl, rfl, rfl, rfl, rfl, rfl⟩ := H
            have CC := Aside0.mk (close6 (w := w) (.int .i64 0) (.string ⟨#[]⟩) (.bool false) (.string ⟨#[]⟩) (.string ⟨#[]⟩) (.slice none 0 0) HK6.out HB6.out)
            clear HK6 HB6
            cases u2
            · clear hc
              go_wp2
              exact bodyPost_ret (results_ct rfl _ _ w.heap.size 26 #[.int .i64 0, .string ⟨#[]⟩, .bool false, .string ⟨#[]⟩, .string ⟨#[]⟩, .slice none 0 0] (0, 0) _ rfl CC.out.1 Tryz.underlying26 rfl (by kernel_rfl)) rfl ⟨_, rfl, Kd.R_nil _ _ _ _ _, CC.out.2.1⟩
            · have hne2 : u1.toList.isEmpty = true := by
                rw [toList_data]
                cases hu1 : u1.data.toList with
                | nil => rfl
                | cons _ _ => exact absurd ⟨rfl, by rw [hu1]; simp⟩ hc
              clear hc
              go_wp2
              exact bodyPost_ret (results_ct rfl _ _ w.heap.size 26 #[.int .i64 0, .string ⟨#[]⟩, .bool false, .string ⟨#[]⟩, .string ⟨#[]⟩, .slice none 0 0] (0, 0) _ rfl CC.out.1 Tryz.underlying26 rfl (by kernel_rfl)) rfl ⟨_, rfl, Kd.R_nil _ _ _ _ _, CC.out.2.1⟩
        · rw [if_pos rfl] at H
          simp only [Option.some.injEq, Prod.mk.injEq] at H
          obtain ⟨rfl, rfl, rfl, rfl, rfl, rfl, rfl⟩ := H
          have f0 := blk_frozen HK5.out 0
          have z0 := blk_cell HK5.out 0
          have f1 := blk_frozen HK5.out 1
          have z1 := blk_cell HK5.out 1
          have f2 := blk_frozen HK5.out 2
          have z2 := blk_cell HK5.out 2
          have f3 := blk_frozen HK5.out 3
          have z3 := blk_cell HK5.out 3
          have f4 := blk_frozen HK5.out 4
          have z4 := blk_cell HK5.out 4
          have f5 := blk_frozen HK5.out 5
          have z5 := blk_cell HK5.out 5
          have CC := Aside0.mk (close6 (w := w) (.int .i64 7) (.string ⟨#[]⟩) (.bool false) (.string ⟨#[]⟩) (.string ⟨#[]⟩) (.slice none 0 0) HK5.out HB5.out)
          clear HK5 HB5
          go_wp2
          exact bodyPost_ret (results_ct rfl _ _ w.heap.size 26 #[.int .i64 7, .string ⟨#[]⟩, .bool false, .string ⟨#[]⟩, .string ⟨#[]⟩, .slice none 0 0] (0, 0) _ rfl CC.out.1 Tryz.underlying26 rfl (by kernel_rfl)) rfl ⟨_, rfl, Kd.R_nil _ _ _ _ _, CC.out.2.1⟩
  · have H := HH.out
    rw [if_pos rfl] at H
    simp only [Option.some.injEq, Prod.mk.injEq] at H
    obtain ⟨rfl, rfl, rfl, rfl, rfl, rfl, rfl⟩ := H
    clear HH
    have C := close6 (w := w) (.int .i64 s1) (.string s2) (.bool s3) (.string s4) (.string s5) (.slice Av s6.length cv) HK1.out HB1.out
    have CC := Aside0.mk C
    clear C
    go_wp2
    exact bodyPost_ret (results_ct rfl _ _ w.heap.size 26 #[.int .i64 s1, .string s2, .bool s3, .string s4, .string s5, .slice Av s6.length cv] (0, 0) _ rfl (blk_alloc CC.out.1 _) Tryz.underlying26 rfl (by kernel_rfl)) rfl ⟨_, rfl, Kd.R_alloc (CC.out.2.2 HR.out) _, below_alloc CC.out.2.1 _⟩
theorem verb_read.calls (a0 : ByteArray) (r1 : Int) (r2 : ByteArray) (r3 : Bool) (r4 r5 : ByteArray) (r6 : List S47) (r7 : Bool) (w : World) (hG : Glob w) (h : verb_read.f a0 = some (r1, r2, r3, r4, r5, r6, r7)) :
    Calls Tryz.prog 22 #[.string a0] w fun e w' => ∃ v5_ : Value, e = .returned (.tuple #[.agg #[.int .i64 r1, .string r2, .bool r3, .string r4, .string r5, v5_], .bool r7]) ∧ Kd.R k47 47 w' w.heap.size (fun _ => True) v5_ r6 ∧ Below w.heap.size w w' :=
  read_walk a0 r1 r2 r3 r4 r5 r6 r7 w hG h
end Go.Proofs.YthcdjgekmfnmnaaGreatDoor.PVerb
end
