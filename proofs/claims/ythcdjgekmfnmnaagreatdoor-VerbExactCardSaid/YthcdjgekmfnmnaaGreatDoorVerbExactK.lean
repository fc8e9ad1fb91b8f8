/- The law VerbExact returns true for every line, every command and every key, and leaves its arguments as they were; the library's tables and the two errors of strconv hold what the program's text lays in them. -/
import Derived.Test.YthcdjgekmfnmnaaGreatDoorCards
import Derived.Test.YthcdjgekmfnmnaaGreatDoorTie
import Derived.Test.YthcdjgekmfnmnaaGreatDoorK8
set_option maxRecDepth 100000
namespace Go.Proofs.YthcdjgekmfnmnaaGreatDoor.PVerb
open Go.RowKit Go.Proofs.YthcdjgekmfnmnaaGreatDoorW.PrintWords Go.Proofs.YthcdjgekmfnmnaaGreatDoorW.PrintLast Go.Proofs.YthcdjgekmfnmnaaGreatDoorW.PrintMore

theorem exact_j0 (s key : List UInt8) (c : CmdL) (hs : s.length ≤ 1000) (hc : Small c) : Ev (fun k => wherrylaw12_VerbExact.j0 k (bs s) (bs key) false c.1 (bs c.2.1) c.2.2.1 (bs c.2.2.2.1) (bs c.2.2.2.2.1) (c.2.2.2.2.2.map mkP)) true := by
  have hn := hc.num
  have h1 : Ev (fun k => verb_Parse.f k (bs s)) (ret7 (parseT s).1 (parseT s).2) := ⟨1201, fun k hk => parse_eq k s (by omega)⟩
  have h2 := refverb_ev s (by omega)
  have h3 : Ev (fun k => verb_Text.f k c.1 (bs c.2.1) c.2.2.1 (bs c.2.2.2.1) (bs c.2.2.2.2.1) (c.2.2.2.2.2.map mkP)) (if okT c then (bs (lineT c), 0) else (bs [], 5)) := ⟨1201, fun k hk => text_eq k c hc (by omega)⟩
  have h4 := refLine_ev c hc
  have h5 := param_eq c key (by omega)
  have h6 := refParam_ev c key (by omega)
  have hf := parse_few s
  have h7 : Ev (fun k => wherrykeep_Cmd.f k (parseT s).1.1 (bs (parseT s).1.2.1) (parseT s).1.2.2.1 (bs (parseT s).1.2.2.2.1) (bs (parseT s).1.2.2.2.2.1) ((parseT s).1.2.2.2.2.2.map mkP) (parseT s).1.1 (bs (parseT s).1.2.1) (parseT s).1.2.2.1 (bs (parseT s).1.2.2.2.1) (bs (parseT s).1.2.2.2.2.1) ((parseT s).1.2.2.2.2.2.map mkP)) true :=
    ⟨600, fun k hk => (keep_eq k (parseT s).1 (parseT s).1 (by omega) (by omega)).trans (congrArg some (sameB_refl _))⟩
  have h8 : Ev (fun k => wherrylaw12_wakes.f k) true := ⟨60, wakes_k⟩
  refine Ev.step (fun k => by rw [wherrylaw12_VerbExact.j0, if_neg (by decide), h5]) ?_
  refine Ev.bind (g := fun k => verb_Parse.f k (bs s)) h1 ?_
  refine Ev.bind (g := fun k => wherryref11_Verb.f k (bs s)) h2 ?_
  refine Ev.bind (g := fun k => verb_Text.f k c.1 (bs c.2.1) c.2.2.1 (bs c.2.2.2.1) (bs c.2.2.2.2.1) (c.2.2.2.2.2.map mkP)) h3 ?_
  refine Ev.bind (g := fun k => wherryref11_Line.f k c.1 (bs c.2.1) c.2.2.1 (bs c.2.2.2.1) (bs c.2.2.2.2.1) (c.2.2.2.2.2.map mkP)) h4 ?_
  refine Ev.congr (fun k => Option.bind_some _ _) ?_
  refine Ev.bind (g := fun k => wherryref11_Param.f k c.1 (bs c.2.1) c.2.2.1 (bs c.2.2.2.1) (bs c.2.2.2.2.1) (c.2.2.2.2.2.map mkP) (bs key)) h6 ?_
  refine Ev.congr (fun k => if_pos rfl) (Ev.bind h7 ?_)
  simp only [if_true]
  cases okT c with
  | true =>
    simp only [if_true, beq_self_eq_true]
    exact Ev.bind (f := fun _ t => some t) h8 (Ev.now _)
  | false =>
    refine Ev.congr (f := fun k => (wherrylaw12_wakes.f k).bind fun t => some t) (fun k => ?_) (Ev.bind (f := fun _ t => some t) h8 (Ev.now _))
    simp
theorem exact_pure (s key : List UInt8) (c : CmdL) (hs : Sized c) : ∃ k, wherrylaw12_VerbExact.f k (bs s) c.1 (bs c.2.1) c.2.2.1 (bs c.2.2.2.1) (bs c.2.2.2.2.1) (c.2.2.2.2.2.map mkP) (bs key) = some true := by
  have hsz := bs_size s
  have ht : Ev (fun k => wherrylaw12_VerbExact.j0 k (bs s) (bs key) true c.1 (bs c.2.1) c.2.2.1 (bs c.2.2.2.1) (bs c.2.2.2.2.1) (c.2.2.2.2.2.map mkP)) true :=
    Ev.step (f := fun _ => some true) (fun k => by rw [wherrylaw12_VerbExact.j0, if_pos rfl]) (Ev.now _)
  refine Ev.rounds (g := fun k => wherrylaw12_VerbExact.f k (bs s) c.1 (bs c.2.1) c.2.2.1 (bs c.2.2.2.1) (bs c.2.2.2.2.1) (c.2.2.2.2.2.map mkP) (bs key)) ?_
  by_cases hl : s.length ≤ 1000
  · obtain ⟨b, h1, h2⟩ := heavy_eq (c.2.2.2.2.2.length + 1) c hs (by omega)
    have hh : Ev (fun k => wherrylaw12_heavy.f k c.1 (bs c.2.1) c.2.2.1 (bs c.2.2.2.1) (bs c.2.2.2.2.1) (c.2.2.2.2.2.map mkP)) b :=
      Ev.of (fun k => wherrylaw12_heavy.mono _ _ _ _ _ _ k) h1
    refine Ev.congr (fun k => by rw [wherrylaw12_VerbExact.f, if_neg (by omega)]) (Ev.bind (f := fun k t355 => wherrylaw12_VerbExact.j0 k (bs s) (bs key) t355 c.1 (bs c.2.1) c.2.2.1 (bs c.2.2.2.1) (bs c.2.2.2.2.1) (c.2.2.2.2.2.map mkP)) hh ?_)
    cases b with
    | true => exact ht
    | false => exact exact_j0 s key c hl (h2 rfl).1
  · exact Ev.congr (fun k => by rw [wherrylaw12_VerbExact.f, if_pos (by omega)]) ht
end Go.Proofs.YthcdjgekmfnmnaaGreatDoor.PVerb
namespace Go.Proofs.YthcdjgekmfnmnaaGreatDoor
open Go.ChangeShapes Go.WideShapes Go.ChangeAt Go.RowKit PVerb
theorem verbExact_walked : Walked 3 Tryz.f3 := by
  intro H enc W base args ds p hval hA hz hG
  rw [Tryz.params3] at hA hval hz
  obtain ⟨v0, v1, v2, d0, d1, d2, p0, p1, p2, rfl, rfl, rfl, h0, h1, h2⟩ := trodAll_three hA
  obtain ⟨s, rfl, rfl, rfl, _⟩ := Go.ChangeMaps.open_string Tryz.underlying9 (hval 0 9 v0 rfl rfl) h0
  obtain ⟨key, rfl, rfl, rfl, _⟩ := Go.ChangeMaps.open_string Tryz.underlying9 (hval 2 9 v2 rfl rfl) h2
  have hz1 : (d1.weights Tryz.prog 26).all (· ≤ reachBytes) = true := by
    refine List.all_eq_true.2 fun n hn => List.all_eq_true.1 hz n ?_
    show n ∈ _ ++ (d1.weights Tryz.prog 26 ++ _)
    exact List.mem_append_right _ (List.mem_append_left _ hn)
  obtain ⟨c, A, n, rfl, hC, hn, hs⟩ := open_cmd (hval 1 26 v1 rfl rfl) h1 hz1
  obtain ⟨k, hk⟩ := exact_pure s.data.toList key.data.toList c hs
  exact (wherrylaw12_VerbExact.calls k s c.1 (bs c.2.1) c.2.2.1 (bs c.2.2.2.1) (bs c.2.2.2.2.1) A n (c.2.2.2.2.2.map mkP) key true W hG rfl hC hn hk).mono fun e w' h => h

theorem verbExact_lifted (os : Os) (started : os.Started) (H : Type) (enc : TypeId × Value → H) (F : Stop.Interp) :
    ReturnsInHanded {} Tryz.checked os 3 .any ((OpenSpec.ofChange Rows.verbExactSpec).preRow enc Tryz.prog Tryz.f3 Rows.verbExactRow.domain false Rows.verbExactRow.laid) (((OpenSpec.ofChange Rows.verbExactSpec).at F).post enc Tryz.prog Tryz.f3 false true false false) := by
  refine row_of_walk os started H enc F (by kernel_rfl) Tryz.func3 rfl (by kernel_rfl) rfl ?_ (fun w h => by rwa [MakeChecks.laidMetH_plain _ _ _ (by kernel_rfl)] at h) (by kernel_rfl) (by kernel_rfl) (by kernel_rfl) verbExact_walked
    (witness_row_atRef (enc := enc) (C := Tryz.checked) false (World.laidAll Tryz.prog os Rows.verbExactRow.laid) #[.string ⟨#[]⟩, .agg #[.int .i64 0, .string ⟨#[]⟩, .bool false, .string ⟨#[]⟩, .string ⟨#[]⟩, .slice none 0 0], .string ⟨#[]⟩] (World.laidAll_os _ _ _) (by kernel_rfl) (by kernel_rfl) (by kernel_rfl)
      (OpenSpec.preRow_of_cond (x := ([.lit (.string []), .agg [.lit (.int .i64 0), .lit (.string []), .agg [.lit (.bool false), .lit (.string []), .lit (.string [])], .nil], .lit (.string [])], [], [])) 8 (by kernel_rfl) (by kernel_rfl) (fun k hk => by cases hk) (by kernel_rfl) (by rw [MakeChecks.laidMetH_plain _ _ _ (by kernel_rfl)]; exact laidMet_laidAll _ (by kernel_rfl) (by kernel_rfl))))
  intro ds h
  rw [Tryz.params3] at h
  match ds, h with
  | [_, _, _], _ => rfl

theorem verbExact_said : Rows.VerbExactSaid :=
  OpenClaim.holds_of_cond 3 Tryz.f3 rfl rfl rfl rfl rfl rfl rfl ⟨rfl, rfl, rfl, rfl, rfl⟩ rfl rfl rfl rfl rfl (by kernel_rfl) Tryz.func3 (by kernel_rfl)
    (of_decide_eq_true (by kernel_rfl)) (by unfold Func.isWrapper; first | (rw [if_pos (by decide +kernel)]; kernel_rfl) | (rw [if_neg (by decide +kernel)]; exact ⟨rfl, rfl⟩))
    (fun os started H enc _ F => by rw [OpenClaim.pre_eq_preRow]; exact verbExact_lifted os started H enc F)

theorem verbExact_plain (f : FuncId) (fn : Func) (hf : Tryz.pinned.checked.prog.funcNamed "wherry/wherrylaw12.VerbExact" = some f) (hfn : Tryz.pinned.checked.prog.funcs[f]? = some fn) :
    true = Tryz.pinned.checked.prog.looks [] ∧ ∀ (j : Nat) t, fn.params[j]? = some t → Tryz.pinned.checked.prog.wantsStandIn t = false := by
  obtain rfl : f = 3 := Option.some.inj ((show Tryz.prog.funcNamed "wherry/wherrylaw12.VerbExact" = some 3 by kernel_rfl).symm.trans hf) |>.symm
  obtain rfl : fn = Tryz.f3 := (Option.some.inj (Tryz.func3.symm.trans hfn)).symm
  refine ⟨by kernel_rfl, fun j t ht => ?_⟩
  have hm : t ∈ Tryz.f3.params.toList := Array.mem_toList_iff.2 (Array.mem_of_getElem? ht)
  have hall : (Tryz.f3.params.toList.all fun u => !Tryz.prog.wantsStandIn u) = true := by kernel_rfl
  exact (show Tryz.prog.wantsStandIn t = false by simpa using List.all_eq_true.1 hall t hm)

theorem verbExact_card : Rows.VerbExactCardSaid :=
  Claim7.holds_tied_plain_at .later [] _ _ _ _ verbExact_said (fun _ h => by cases h) (by kernel_rfl) (fun _ h => by cases h) verbExact_row_tie rfl ⟨rfl, rfl⟩ (by kernel_rfl) rfl verbExact_plain (by kernel_rfl)
#print axioms verbExact_card

end Go.Proofs.YthcdjgekmfnmnaaGreatDoor
