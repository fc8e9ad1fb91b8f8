/- The law VerbBack returns true for every line and every command, and leaves its arguments as they were; the library's tables and the two errors of strconv hold what the program's text lays in them. -/
import Derived.Test.YthcdjgekmfnmnaaDoorCards
import Derived.Test.YthcdjgekmfnmnaaDoorTie
import Derived.Test.YthcdjgekmfnmnaaDoorK7
set_option maxRecDepth 100000
namespace Go.Proofs.YthcdjgekmfnmnaaDoor.PVerb
open Go.RowKit Go.Proofs.YthcdjgekmfnmnaaDoorW.PrintWords Go.Proofs.YthcdjgekmfnmnaaDoorW.PrintLast Go.Proofs.YthcdjgekmfnmnaaDoorW.PrintMore

theorem parse_kinds (l : List UInt8) : (parseT l).2 = 0 ∨ (((parseT l).2 = 500 ∨ (parseT l).2 = 501 ∨ (parseT l).2 = 504) ∧ (parseT l).1 = noL) := by
  unfold parseT
  split
  · split
    · exact .inl rfl
    · right
      refine ⟨?_, rfl⟩
      show (if strangeL l = true then (504 : Int) else 501) = 500 ∨ _
      split
      · exact .inr (.inr rfl)
      · exact .inr (.inl rfl)
  · exact .inr ⟨.inl rfl, rfl⟩
theorem parse_short {l : List UInt8} (h : (parseT l).2 = 0) : l.length ≤ 510 := by
  unfold parseT at h
  split at h
  · rename_i hg; exact (good_inv hg).1
  · cases h
theorem back_j1 (k : Nat) (s : List UInt8) (hk : 1300 < k) : wherrylaw12_VerbBack.j1 (k + 1) (bs s) = some true := by
  have hw := wakes_k k (by omega)
  rw [wherrylaw12_VerbBack.j1, parse_eq k s (by omega), Option.bind_some]
  rcases parse_kinds s with h0 | ⟨h1, h2⟩
  · have hps : parseT s = ((parseT s).1, 0) := Prod.ext rfl h0
    have hb := back hps
    have hs := parse_small s
    rw [hps]
    generalize (parseT s).1 = c at *
    rw [if_pos (show (ret7 (c, (0 : Int)).1 (c, (0 : Int)).2).2.2.2.2.2.2 = 0 from rfl)]
    have ht := text_eq k c hs (by omega)
    rw [okT_iff.2 hb, if_pos rfl] at ht
    have ht' : verb_Text.f k (ret7 (c, (0 : Int)).1 (c, (0 : Int)).2).1 (ret7 (c, (0 : Int)).1 (c, (0 : Int)).2).2.1 (ret7 (c, (0 : Int)).1 (c, (0 : Int)).2).2.2.1 (ret7 (c, (0 : Int)).1 (c, (0 : Int)).2).2.2.2.1 (ret7 (c, (0 : Int)).1 (c, (0 : Int)).2).2.2.2.2.1 (ret7 (c, (0 : Int)).1 (c, (0 : Int)).2).2.2.2.2.2.1 = some (bs (lineT c), 0) := ht
    rw [ht', Option.bind_some, if_pos rfl, parse_eq k _ (by omega), Option.bind_some, hb, if_pos (show (ret7 (c, (0 : Int)).1 (c, (0 : Int)).2).2.2.2.2.2.2 = 0 from rfl)]
    have hn := hs.num
    have hk2 := keep_eq k c c (by omega) (by have := parse_few (lineT c); rw [hb] at this; simp only at this; omega)
    have hk3 : wherrykeep_Cmd.f k (ret7 (c, (0 : Int)).1 (c, (0 : Int)).2).1 (ret7 (c, (0 : Int)).1 (c, (0 : Int)).2).2.1 (ret7 (c, (0 : Int)).1 (c, (0 : Int)).2).2.2.1 (ret7 (c, (0 : Int)).1 (c, (0 : Int)).2).2.2.2.1 (ret7 (c, (0 : Int)).1 (c, (0 : Int)).2).2.2.2.2.1 (ret7 (c, (0 : Int)).1 (c, (0 : Int)).2).2.2.2.2.2.1 (ret7 (c, (0 : Int)).1 (c, (0 : Int)).2).1 (ret7 (c, (0 : Int)).1 (c, (0 : Int)).2).2.1 (ret7 (c, (0 : Int)).1 (c, (0 : Int)).2).2.2.1 (ret7 (c, (0 : Int)).1 (c, (0 : Int)).2).2.2.2.1 (ret7 (c, (0 : Int)).1 (c, (0 : Int)).2).2.2.2.2.1 (ret7 (c, (0 : Int)).1 (c, (0 : Int)).2).2.2.2.2.2.1 = some (sameB c c) := hk2
    rw [hk3, Option.bind_some, sameB_refl, if_pos rfl, hw]
    rfl
  · have hps : parseT s = (noL, (parseT s).2) := Prod.ext h2 rfl
    have hk2 := keep_eq k noL noL (by simp [noL]) (by simp [noL]; omega)
    generalize (parseT s).2 = n at *
    rw [hps]
    have hk3 : wherrykeep_Cmd.f k (ret7 (noL, n).1 (noL, n).2).1 (ret7 (noL, n).1 (noL, n).2).2.1 (ret7 (noL, n).1 (noL, n).2).2.2.1 (ret7 (noL, n).1 (noL, n).2).2.2.2.1 (ret7 (noL, n).1 (noL, n).2).2.2.2.2.1 (ret7 (noL, n).1 (noL, n).2).2.2.2.2.2.1 0 (⟨#[]⟩ : ByteArray) false (⟨#[]⟩ : ByteArray) (⟨#[]⟩ : ByteArray) ([] : List SP) = some (sameB noL noL) := hk2
    rw [hk3, Option.bind_some, sameB_refl, if_pos rfl, hw]
    rcases h1 with rfl | rfl | rfl <;> rfl
theorem back_pure (s : List UInt8) (c : CmdL) (hs : Sized c) : ∃ k, wherrylaw12_VerbBack.f k (bs s) c.1 (bs c.2.1) c.2.2.1 (bs c.2.2.2.1) (bs c.2.2.2.2.1) (c.2.2.2.2.2.map mkP) = some true := by
  refine ⟨c.2.2.2.2.2.length + 3003, ?_⟩
  unfold wherrylaw12_VerbBack.f
  obtain ⟨b, h1, h2⟩ := heavy_eq (c.2.2.2.2.2.length + 3003) c hs (by omega)
  rw [h1, Option.bind_some]
  have ht : ∀ b, (b = false → Small c ∧ c.2.2.2.2.2.length ≤ 20) → wherrylaw12_VerbBack.j0 (c.2.2.2.2.2.length + 3002 + 1) (bs s) b c.1 (bs c.2.1) c.2.2.1 (bs c.2.2.2.1) (bs c.2.2.2.2.1) (c.2.2.2.2.2.map mkP) = some true := by
    intro b hb
    rw [wherrylaw12_VerbBack.j0]
    cases b with
    | true => rfl
    | false =>
      obtain ⟨hsm, hfew⟩ := hb rfl
      rw [if_neg (by decide), text_eq _ c hsm (by omega), Option.bind_some]
      have hj := back_j1 (c.2.2.2.2.2.length + 3001) s (by omega)
      cases hok : okT c with
      | false =>
        have e : (if false = true then (bs (lineT c), (0 : Int)) else (bs [], 5)) = (bs [], 5) := rfl
        rw [e, if_neg (show ¬ (5 : Int) = 0 by decide)]
        exact hj
      | true =>
        have hp := okT_iff.1 hok
        have hsh := parse_short (l := lineT c) (by rw [hp])
        rw [if_pos rfl, if_pos rfl, parse_eq _ _ (by omega), Option.bind_some, hp, if_pos (show (ret7 (c, (0 : Int)).1 (c, (0 : Int)).2).2.2.2.2.2.2 = 0 from rfl)]
        have hk2 := keep_eq (c.2.2.2.2.2.length + 3002) c c (by omega) (by omega)
        have hk3 : wherrykeep_Cmd.f (c.2.2.2.2.2.length + 3002) (ret7 (c, (0 : Int)).1 (c, (0 : Int)).2).1 (ret7 (c, (0 : Int)).1 (c, (0 : Int)).2).2.1 (ret7 (c, (0 : Int)).1 (c, (0 : Int)).2).2.2.1 (ret7 (c, (0 : Int)).1 (c, (0 : Int)).2).2.2.2.1 (ret7 (c, (0 : Int)).1 (c, (0 : Int)).2).2.2.2.2.1 (ret7 (c, (0 : Int)).1 (c, (0 : Int)).2).2.2.2.2.2.1 c.1 (bs c.2.1) c.2.2.1 (bs c.2.2.2.1) (bs c.2.2.2.2.1) (c.2.2.2.2.2.map mkP) = some (sameB c c) := hk2
        rw [hk3, Option.bind_some, sameB_refl, if_pos rfl, if_neg (by rw [bs_size]; omega)]
        exact hj
  split
  · exact ht true (fun h => by cases h)
  · exact ht b h2
end Go.Proofs.YthcdjgekmfnmnaaDoor.PVerb
namespace Go.Proofs.YthcdjgekmfnmnaaDoor
open Go.ChangeShapes Go.WideShapes Go.ChangeAt Go.RowKit PVerb
theorem verbBack_walked : Walked 3 Tryd.f3 := by
  intro H enc W base args ds p hval hA hz hG
  rw [Tryd.params3] at hA hval hz
  obtain ⟨v0, v1, d0, d1, p0, p1, rfl, rfl, rfl, h0, h1⟩ := trodAll_two hA
  obtain ⟨s, rfl, rfl, rfl, _⟩ := Go.ChangeMaps.open_string Tryd.underlying9 (hval 0 9 v0 rfl rfl) h0
  have hz1 : (d1.weights Tryd.prog 26).all (· ≤ reachBytes) = true := by
    refine List.all_eq_true.2 fun n hn => List.all_eq_true.1 hz n ?_
    show n ∈ _ ++ (d1.weights Tryd.prog 26 ++ [])
    exact List.mem_append_right _ (List.mem_append_left _ hn)
  obtain ⟨c, A, n, rfl, hC, hn, hs⟩ := open_cmd (hval 1 26 v1 rfl rfl) h1 hz1
  obtain ⟨k, hk⟩ := back_pure s.data.toList c hs
  exact (wherrylaw12_VerbBack.calls k s c.1 (bs c.2.1) c.2.2.1 (bs c.2.2.2.1) (bs c.2.2.2.2.1) A n (c.2.2.2.2.2.map mkP) true W hG rfl hC hn hk).mono fun e w' h => h

theorem verbBack_lifted (os : Os) (started : os.Started) (H : Type) (enc : TypeId × Value → H) (F : Stop.Interp) :
    ReturnsInHanded {} Tryd.checked os 3 .any ((OpenSpec.ofChange Rows.verbBackSpec).preRow enc Tryd.prog Tryd.f3 Rows.verbBackRow.domain false Rows.verbBackRow.laid) (((OpenSpec.ofChange Rows.verbBackSpec).at F).post enc Tryd.prog Tryd.f3 false true false false) := by
  refine row_of_walk os started H enc F (by kernel_rfl) Tryd.func3 rfl (by kernel_rfl) rfl ?_ (fun w h => by rwa [MakeChecks.laidMetH_plain _ _ _ (by kernel_rfl)] at h) (by kernel_rfl) (by kernel_rfl) (by kernel_rfl) verbBack_walked
    (witness_row_atRef (enc := enc) (C := Tryd.checked) false (World.laidAll Tryd.prog os Rows.verbBackRow.laid) #[.string ⟨#[]⟩, .agg #[.int .i64 0, .string ⟨#[]⟩, .bool false, .string ⟨#[]⟩, .string ⟨#[]⟩, .slice none 0 0]] (World.laidAll_os _ _ _) (by kernel_rfl) (by kernel_rfl) (by kernel_rfl)
      (OpenSpec.preRow_of_cond (x := ([.lit (.string []), .agg [.lit (.int .i64 0), .lit (.string []), .agg [.lit (.bool false), .lit (.string []), .lit (.string [])], .nil]], [], [])) 8 (by kernel_rfl) (by kernel_rfl) (fun k hk => by cases hk) (by kernel_rfl) (by rw [MakeChecks.laidMetH_plain _ _ _ (by kernel_rfl)]; exact laidMet_laidAll _ (by kernel_rfl) (by kernel_rfl))))
  intro ds h
  rw [Tryd.params3] at h
  match ds, h with
  | [_, _], _ => rfl

theorem verbBack_said : Rows.VerbBackSaid :=
  OpenClaim.holds_of_cond 3 Tryd.f3 rfl rfl rfl rfl rfl rfl rfl ⟨rfl, rfl, rfl, rfl, rfl⟩ rfl rfl rfl rfl rfl (by kernel_rfl) Tryd.func3 (by kernel_rfl)
    (of_decide_eq_true (by kernel_rfl)) (by unfold Func.isWrapper; first | (rw [if_pos (by decide +kernel)]; kernel_rfl) | (rw [if_neg (by decide +kernel)]; exact ⟨rfl, rfl⟩))
    (fun os started H enc _ F => by rw [OpenClaim.pre_eq_preRow]; exact verbBack_lifted os started H enc F)

theorem verbBack_plain (f : FuncId) (fn : Func) (hf : Tryd.pinned.checked.prog.funcNamed "wherry/wherrylaw12.VerbBack" = some f) (hfn : Tryd.pinned.checked.prog.funcs[f]? = some fn) :
    true = Tryd.pinned.checked.prog.looks [] ∧ ∀ (j : Nat) t, fn.params[j]? = some t → Tryd.pinned.checked.prog.wantsStandIn t = false := by
  obtain rfl : f = 3 := Option.some.inj ((show Tryd.prog.funcNamed "wherry/wherrylaw12.VerbBack" = some 3 by kernel_rfl).symm.trans hf) |>.symm
  obtain rfl : fn = Tryd.f3 := (Option.some.inj (Tryd.func3.symm.trans hfn)).symm
  refine ⟨by kernel_rfl, fun j t ht => ?_⟩
  have hm : t ∈ Tryd.f3.params.toList := Array.mem_toList_iff.2 (Array.mem_of_getElem? ht)
  have hall : (Tryd.f3.params.toList.all fun u => !Tryd.prog.wantsStandIn u) = true := by kernel_rfl
  exact (show Tryd.prog.wantsStandIn t = false by simpa using List.all_eq_true.1 hall t hm)

theorem verbBack_card : Rows.VerbBackCardSaid :=
  Claim7.holds_tied_plain_at .later [] _ _ _ _ verbBack_said (fun _ h => by cases h) (by kernel_rfl) (fun _ h => by cases h) verbBack_row_tie rfl ⟨rfl, rfl⟩ (by kernel_rfl) rfl verbBack_plain (by kernel_rfl)
#print axioms verbBack_card

end Go.Proofs.YthcdjgekmfnmnaaDoor
