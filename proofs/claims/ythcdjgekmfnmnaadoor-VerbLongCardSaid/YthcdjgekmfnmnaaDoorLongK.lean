/- The law VerbLong returns true for every integer and byte, and leaves its arguments as they were; the library's tables and the two errors of strconv hold what the program's text lays in them. -/
import Derived.Test.YthcdjgekmfnmnaaDoorCards
import Derived.Test.YthcdjgekmfnmnaaDoorTie
import Derived.Test.YthcdjgekmfnmnaaDoorK7
set_option maxRecDepth 100000
namespace Go.Proofs.YthcdjgekmfnmnaaDoor.PVerb
open Go.RowKit Go.Proofs.YthcdjgekmfnmnaaDoorW.PrintWords Go.Proofs.YthcdjgekmfnmnaaDoorW.PrintLast Go.Proofs.YthcdjgekmfnmnaaDoorW.PrintMore

def longL (m : Nat) (c : UInt8) : List UInt8 := [86, 82, 70, 89, 32] ++ List.replicate m c
theorem longL_len (m : Nat) (c : UInt8) : (longL m c).length = 5 + m := by simp [longL]; omega
theorem long_end (k : Nat) (hk : 1300 < k) (o : Int) (c : UInt8) (ho : o = 0 ∨ o = 1) (hc : printC c = true) :
    wherrylaw12_VerbLong.l0 (k + 1) o (c.toNat : Int) (bs (longL (505 + o.toNat) c)) = some true := by
  rw [wherrylaw12_VerbLong.l0, bs_size, longL_len]
  have hw : wrap64 (510 + o) = 510 + o := wrap_small (by omega) (by omega)
  rw [hw, if_neg (by omega), parse_eq k _ (by omega), Option.bind_some]
  rcases ho with rfl | rfl
  · rw [if_neg (by decide)]
    have e0 : longL (505 + (0 : Int).toNat) c = [86, 82, 70, 89, 32] ++ List.replicate 505 c := rfl
    rw [e0]
    have hlen : (List.replicate 505 c).length = 505 := List.length_replicate
    have hall : (List.replicate 505 c).all printC = true := List.all_eq_true.2 fun x hx => by rw [(List.mem_replicate.1 hx).2]; exact hc
    generalize List.replicate 505 c = r at hlen hall
    have hp : parseT ([86, 82, 70, 89, 32] ++ r) = ((6, r, false, [], [], []), 0) := vrfy_line (by omega) hall (by rintro rfl; cases hlen)
    rw [hp]
    have hs : Small (6, r, false, [], [], []) := small_plain (by omega) (by decide)
    have ht := text_eq k _ hs (by omega)
    have hl : lineT (6, r, false, [], [], []) = [86, 82, 70, 89, 32] ++ r := by simp [lineT, headT]
    have hok : okT (6, r, false, [], [], []) = true := okT_iff.2 (by rw [hl, hp])
    rw [hok, hl, if_pos rfl] at ht
    have ht' : verb_Text.f k (ret7 ((6, r, false, [], [], []) : CmdL) (0 : Int)).1 (ret7 ((6, r, false, [], [], []) : CmdL) (0 : Int)).2.1 (ret7 ((6, r, false, [], [], []) : CmdL) (0 : Int)).2.2.1 (ret7 ((6, r, false, [], [], []) : CmdL) (0 : Int)).2.2.2.1 (ret7 ((6, r, false, [], [], []) : CmdL) (0 : Int)).2.2.2.2.1 (ret7 ((6, r, false, [], [], []) : CmdL) (0 : Int)).2.2.2.2.2.1 = some (bs ([86, 82, 70, 89, 32] ++ r), 0) := ht
    rw [ht', Option.bind_some]
    have e1 : (ret7 ((6, r, false, [], [], []) : CmdL) (0 : Int)).2.2.2.2.2.2 = 0 := rfl
    have e2 : (ret7 ((6, r, false, [], [], []) : CmdL) (0 : Int)).1 = 6 := rfl
    have e3 : ((ret7 ((6, r, false, [], [], []) : CmdL) (0 : Int)).2.1.size : Int) = 505 := by
      show ((bs r).size : Int) = 505
      rw [bs_size, hlen]; rfl
    rw [if_pos e1, if_pos e2, if_pos e3, if_pos rfl, if_pos rfl, wakes_k k (by omega)]
    rfl
  · rw [if_pos rfl]
    have hg : goodL (longL (505 + (1 : Int).toNat) c) = false := by
      rw [goodL, longL_len]; rfl
    have hp : parseT (longL (505 + (1 : Int).toNat) c) = (noL, 500) := by rw [parseT, if_neg (by rw [hg]; decide)]
    rw [hp, if_pos (show (ret7 (noL, (500 : Int)).1 (noL, (500 : Int)).2).2.2.2.2.2.2 = 500 from rfl)]
    have hk2 := keep_eq k noL noL (by simp [noL]) (by simp [noL]; omega)
    have hk3 : wherrykeep_Cmd.f k (ret7 noL (500 : Int)).1 (ret7 noL (500 : Int)).2.1 (ret7 noL (500 : Int)).2.2.1 (ret7 noL (500 : Int)).2.2.2.1 (ret7 noL (500 : Int)).2.2.2.2.1 (ret7 noL (500 : Int)).2.2.2.2.2.1 0 (⟨#[]⟩ : ByteArray) false (⟨#[]⟩ : ByteArray) (⟨#[]⟩ : ByteArray) ([] : List SP) = some (sameB noL noL) := hk2
    rw [hk3, Option.bind_some, sameB_refl, if_pos rfl, wakes_k k (by omega)]
    rfl
theorem long_l0 (o : Int) (c : UInt8) (ho : o = 0 ∨ o = 1) (hc : printC c = true) : ∀ (d k m : Nat), m + d = 505 + o.toNat → d + 1301 < k →
    wherrylaw12_VerbLong.l0 k o (c.toNat : Int) (bs (longL m c)) = some true := by
  intro d
  induction d with
  | zero =>
    intro k m hm hk
    obtain ⟨k, rfl⟩ : ∃ j, k = j + 1 := ⟨k - 1, by omega⟩
    obtain rfl : m = 505 + o.toNat := by omega
    exact long_end k (by omega) o c ho hc
  | succ d ih =>
    intro k m hm hk
    obtain ⟨k, rfl⟩ : ∃ j, k = j + 1 := ⟨k - 1, by omega⟩
    have hw : wrap64 (510 + o) = 510 + o := wrap_small (by omega) (by omega)
    have hs : strOfNums [(c.toNat : Int)] = bs [c] := by
      rw [← bs_of (strOfNums _)]
      congr 1
      simp [strOfNums]
    rw [wherrylaw12_VerbLong.l0, bs_size, longL_len, hw, if_pos (by omega), Option.bind_some, hs, bs_size, if_pos (by simp; omega)]
    have e : bs (longL m c) ++ bs [c] = bs (longL (m + 1) c) := by
      rw [← bs_of (_ ++ _)]
      congr 1
      rw [ByteArray.toList_data_append, bs_data, bs_data, longL, longL, List.append_assoc, List.replicate_succ']
    rw [e]
    exact ih k (m + 1) (by omega) (by omega)
theorem long_pure : wherrylaw12_VerbLong.Pure := by
  intro a0 a1 w0 w1
  have hb := bounds_u8 w1
  have hu : 0 ≤ IntKind.u64.wrap a0 := by rw [IntKind.wrap_u64]; omega
  have ho : wrap64 (Int.tmod (IntKind.u64.wrap a0) 2) = 0 ∨ wrap64 (Int.tmod (IntKind.u64.wrap a0) 2) = 1 := by
    rw [Int.tmod_eq_emod_of_nonneg hu, wrap_small (by omega) (by omega)]; omega
  refine ⟨2003, ?_⟩
  unfold wherrylaw12_VerbLong.f
  generalize wrap64 (Int.tmod (IntKind.u64.wrap a0) 2) = o at *
  have h0 : ∀ c : UInt8, printC c = true → wherrylaw12_VerbLong.j1 2002 o (c.toNat : Int) = some true := by
    intro c hc
    rw [wherrylaw12_VerbLong.j1]
    exact long_l0 o c ho hc (505 + o.toNat) 2001 0 (by omega) (by omega)
  have hx := h0 120 (by decide)
  have ex : ((120 : UInt8).toNat : Int) = 120 := rfl
  rw [ex] at hx
  by_cases h1 : a1 < 33
  · rw [if_pos h1, wherrylaw12_VerbLong.j0, if_pos rfl, hx]
  · rw [if_neg h1, wherrylaw12_VerbLong.j0]
    by_cases h2 : a1 > 126
    · rw [if_pos (decide_eq_true h2), hx]
    · rw [if_neg (by simpa using h2)]
      have hc := h0 (UInt8.ofNat a1.toNat) (by
        simp only [printC, Bool.and_eq_true, decide_eq_true_eq, UInt8.le_iff_toNat_le]
        have e : (UInt8.ofNat a1.toNat).toNat = a1.toNat := by rw [UInt8.toNat_ofNat']; omega
        rw [e]
        have e32 : (32 : UInt8).toNat = 32 := rfl
        have e126 : (126 : UInt8).toNat = 126 := rfl
        omega)
      have e : ((UInt8.ofNat a1.toNat).toNat : Int) = a1 := by rw [UInt8.toNat_ofNat']; omega
      rw [e] at hc
      exact hc
end Go.Proofs.YthcdjgekmfnmnaaDoor.PVerb
namespace Go.Proofs.YthcdjgekmfnmnaaDoor
open Go.ChangeShapes Go.WideShapes Go.ChangeAt Go.RowKit PVerb
theorem verbLong_walked : Walked 7 Tryd.f7 := by
  intro H enc W base args ds p hval hA hG
  rw [Tryd.params7] at hA hval
  obtain ⟨v0, v1, d0, d1, p0, p1, rfl, rfl, rfl, h0, h1⟩ := trodAll_two hA
  obtain ⟨x, rfl, rfl, rfl, wx⟩ := open_int Tryd.underlying3 (hval 0 3 v0 rfl rfl) h0
  obtain ⟨y, rfl, rfl, rfl, wy⟩ := open_int Tryd.underlying5 (hval 1 5 v1 rfl rfl) h1
  exact wherrylaw12_VerbLong.walk long_pure x y W wx wy hG

theorem verbLong_lifted (os : Os) (started : os.Started) (H : Type) (enc : TypeId × Value → H) (F : Stop.Interp) :
    ReturnsInHanded {} Tryd.checked os 7 .any ((OpenSpec.ofChange Rows.verbLongSpec).preRow enc Tryd.prog Tryd.f7 Rows.verbLongRow.domain false Rows.verbLongRow.laid) (((OpenSpec.ofChange Rows.verbLongSpec).at F).post enc Tryd.prog Tryd.f7 false true false false) := by
  refine row_of_walk os started H enc F (by kernel_rfl) Tryd.func7 rfl (by kernel_rfl) rfl ?_ (fun w h => by rwa [MakeChecks.laidMetH_plain _ _ _ (by kernel_rfl)] at h) (by kernel_rfl) (by kernel_rfl) (by kernel_rfl) verbLong_walked
    (witness_row_atRef (enc := enc) (C := Tryd.checked) false (World.laidAll Tryd.prog os Rows.verbLongRow.laid) #[.int .i64 0, .int .u8 0] (World.laidAll_os _ _ _) (by kernel_rfl) (by kernel_rfl) (by kernel_rfl)
      (OpenSpec.preRow_of_cond (x := ([.lit (.int .i64 0), .lit (.int .u8 0)], [], [])) 8 (by kernel_rfl) (by kernel_rfl) (fun k hk => by cases hk) (by kernel_rfl) (by rw [MakeChecks.laidMetH_plain _ _ _ (by kernel_rfl)]; exact laidMet_laidAll _ (by kernel_rfl) (by kernel_rfl))))
  intro ds h
  rw [Tryd.params7] at h
  match ds, h with
  | [_, _], _ => rfl

theorem verbLong_said : Rows.VerbLongSaid :=
  OpenClaim.holds_of_cond 7 Tryd.f7 rfl rfl rfl rfl rfl rfl rfl ⟨rfl, rfl, rfl, rfl, rfl⟩ rfl rfl rfl rfl rfl (by kernel_rfl) Tryd.func7 (by kernel_rfl)
    (of_decide_eq_true (by kernel_rfl)) (by unfold Func.isWrapper; first | (rw [if_pos (by decide +kernel)]; kernel_rfl) | (rw [if_neg (by decide +kernel)]; exact ⟨rfl, rfl⟩))
    (fun os started H enc _ F => by rw [OpenClaim.pre_eq_preRow]; exact verbLong_lifted os started H enc F)

theorem verbLong_plain (f : FuncId) (fn : Func) (hf : Tryd.pinned.checked.prog.funcNamed "wherry/wherrylaw12.VerbLong" = some f) (hfn : Tryd.pinned.checked.prog.funcs[f]? = some fn) :
    true = Tryd.pinned.checked.prog.looks [] ∧ ∀ (j : Nat) t, fn.params[j]? = some t → Tryd.pinned.checked.prog.wantsStandIn t = false := by
  obtain rfl : f = 7 := Option.some.inj ((show Tryd.prog.funcNamed "wherry/wherrylaw12.VerbLong" = some 7 by kernel_rfl).symm.trans hf) |>.symm
  obtain rfl : fn = Tryd.f7 := (Option.some.inj (Tryd.func7.symm.trans hfn)).symm
  refine ⟨by kernel_rfl, fun j t ht => ?_⟩
  have hm : t ∈ Tryd.f7.params.toList := Array.mem_toList_iff.2 (Array.mem_of_getElem? ht)
  have hall : (Tryd.f7.params.toList.all fun u => !Tryd.prog.wantsStandIn u) = true := by kernel_rfl
  exact (show Tryd.prog.wantsStandIn t = false by simpa using List.all_eq_true.1 hall t hm)

theorem verbLong_card : Rows.VerbLongCardSaid :=
  Claim7.holds_tied_plain_at .later [] _ _ _ _ verbLong_said (fun _ h => by cases h) (by kernel_rfl) (fun _ h => by cases h) verbLong_row_tie rfl ⟨rfl, rfl⟩ (by kernel_rfl) rfl verbLong_plain (by kernel_rfl)
#print axioms verbLong_card

end Go.Proofs.YthcdjgekmfnmnaaDoor
