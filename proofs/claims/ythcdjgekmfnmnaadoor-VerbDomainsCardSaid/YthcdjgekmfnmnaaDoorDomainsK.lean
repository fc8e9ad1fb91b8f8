/- The law VerbDomains returns true for every string, and leaves its argument as it was; the library's tables and the two errors of strconv hold what the program's text lays in them. -/
import Derived.Test.YthcdjgekmfnmnaaDoorCards
import Derived.Test.YthcdjgekmfnmnaaDoorTie
import Derived.Test.YthcdjgekmfnmnaaDoorK7
set_option maxRecDepth 100000
namespace Go.Proofs.YthcdjgekmfnmnaaDoor.PVerb
open Go.RowKit Go.Proofs.YthcdjgekmfnmnaaDoorW.PrintWords Go.Proofs.YthcdjgekmfnmnaaDoorW.PrintLast Go.Proofs.YthcdjgekmfnmnaaDoorW.PrintMore

theorem bad_line (h a : List UInt8) (hp : a.all printC = false) : parseT (h ++ a) = (noL, 500) := by
  have : goodL (h ++ a) = false := by rw [goodL, List.all_append, hp, Bool.and_false]; simp
  rw [parseT, if_neg (by rw [this]; decide)]
theorem line_app (h : ByteArray) (a : ByteArray) : h ++ a = bs (h.data.toList ++ a.data.toList) := by
  rw [← bs_of (h ++ a), ByteArray.toList_data_append]
/-- A line of a domain's kind is read as just that, or answered by a number, and then nothing is read. -/
theorem named_three (a : List UInt8) (h : a.length ≤ 300) :
    (∀ n ∈ [([69, 72, 76, 79, 32], (1 : Int)), ([69, 84, 82, 78, 32], 9), ([65, 84, 82, 78, 32], 11)], (domainL a = true → parseT (n.1 ++ a) = ((n.2, a, false, [], [], []), 0)) ∧ (domainL a = false → (parseT (n.1 ++ a)).2 ≠ 0 ∧ (parseT (n.1 ++ a)).1 = noL)) := by
  have hy : domainL a = true → a.all printC = true := domain_print
  intro n hn
  cases hp : a.all printC with
  | false =>
    have hd : domainL a = false := by
      cases hd : domainL a with
      | false => rfl
      | true => rw [hy hd] at hp; cases hp
    rw [hd, bad_line n.1 a hp]
    exact ⟨(fun h => by cases h), (fun _ => ⟨(by decide), rfl⟩)⟩
  | true =>
    simp only [List.mem_cons, List.not_mem_nil, or_false] at hn
    rcases hn with rfl | rfl | rfl
    · simp only
      rw [ehlo_line (by omega) hp]
      refine ⟨fun hd => by rw [named_mk hd], fun hd => ?_⟩
      rw [namedT, if_neg (by rw [hd]; decide)]
      exact ⟨by decide, rfl⟩
    · simp only
      rw [etrn_line (by omega) hp]
      refine ⟨fun hd => by rw [named_mk hd], fun hd => ?_⟩
      rw [namedT, if_neg (by rw [hd]; decide)]
      exact ⟨by decide, rfl⟩
    · simp only
      rw [atrn_line (by omega) hp]
      refine ⟨fun hd => by rw [named_mk hd], fun hd => ?_⟩
      rw [namedT, if_neg (by rw [hd]; decide)]
      exact ⟨by decide, rfl⟩
theorem domains_pure : wherrylaw12_VerbDomains.Pure := by
  intro s hs
  refine ⟨2000, ?_⟩
  unfold wherrylaw12_VerbDomains.f
  by_cases hl : (s.size : Int) > 300
  · rw [if_pos hl]
  · have hsz := data_size s
    have h3 := named_three s.data.toList (by omega)
    rw [if_neg hl, refDomain_eq 2000 s (by omega), Option.bind_some, if_pos (by omega)]
    obtain ⟨p1, q1⟩ := h3 ([69, 72, 76, 79, 32], 1) (by simp)
    obtain ⟨p2, q2⟩ := h3 ([69, 84, 82, 78, 32], 9) (by simp)
    obtain ⟨p3, q3⟩ := h3 ([65, 84, 82, 78, 32], 11) (by simp)
    have e1 : (⟨#[69, 72, 76, 79, 32]⟩ : ByteArray) ++ s = bs ([69, 72, 76, 79, 32] ++ s.data.toList) := line_app _ _
    have e2 : (⟨#[69, 84, 82, 78, 32]⟩ : ByteArray) ++ s = bs ([69, 84, 82, 78, 32] ++ s.data.toList) := line_app _ _
    have e3 : (⟨#[65, 84, 82, 78, 32]⟩ : ByteArray) ++ s = bs ([65, 84, 82, 78, 32] ++ s.data.toList) := line_app _ _
    rw [e1, e2, e3, parse_eq _ _ (by omega), parse_eq _ _ (by omega), parse_eq _ _ (by omega)]
    simp only [Option.bind_some]
    rw [wakes_k 2000 (by omega)]
    simp only at p1 p2 p3 q1 q2 q3
    cases hd : domainL s.data.toList with
    | true =>
      rw [p1 hd, p2 hd, p3 hd, if_pos rfl]
      have e : ∀ (k : Int), (ret7 ((k, s.data.toList, false, [], [], []) : CmdL) (0 : Int)).2.2.2.2.2.2 = 0 := fun _ => rfl
      have f : ∀ (k : Int), (ret7 ((k, s.data.toList, false, [], [], []) : CmdL) (0 : Int)).1 = k := fun _ => rfl
      have g : ∀ (k : Int), (ret7 ((k, s.data.toList, false, [], [], []) : CmdL) (0 : Int)).2.1 = s := fun _ => rfl
      simp only [e, f, g, if_true, Option.bind_some]
    | false =>
      obtain ⟨a1, b1⟩ := q1 hd
      obtain ⟨a2, b2⟩ := q2 hd
      obtain ⟨a3, b3⟩ := q3 hd
      rw [if_neg (by decide), if_neg (show ¬ (ret7 (parseT ([69, 72, 76, 79, 32] ++ s.data.toList)).1 (parseT ([69, 72, 76, 79, 32] ++ s.data.toList)).2).2.2.2.2.2.2 = 0 from a1),
        if_neg (show ¬ (ret7 (parseT ([69, 84, 82, 78, 32] ++ s.data.toList)).1 (parseT ([69, 84, 82, 78, 32] ++ s.data.toList)).2).2.2.2.2.2.2 = 0 from a2),
        if_neg (show ¬ (ret7 (parseT ([65, 84, 82, 78, 32] ++ s.data.toList)).1 (parseT ([65, 84, 82, 78, 32] ++ s.data.toList)).2).2.2.2.2.2.2 = 0 from a3), b1, b2, b3]
      refine (if_pos ?_).trans rfl
      show wrap64 (wrap64 ((0 : Int) + 0) + 0) = 0
      decide +kernel
end Go.Proofs.YthcdjgekmfnmnaaDoor.PVerb
namespace Go.Proofs.YthcdjgekmfnmnaaDoor
open Go.ChangeShapes Go.WideShapes Go.ChangeAt Go.RowKit PVerb
theorem verbDomains_walked : Walked 6 Tryd.f6 := by
  intro H enc W base args ds p hval hA hz hG
  rw [Tryd.params6] at hA hval hz
  obtain ⟨v0, d0, rfl, rfl, h0⟩ := trodAll_one hA
  obtain ⟨s, rfl, rfl, rfl, _⟩ := Go.ChangeMaps.open_string Tryd.underlying9 (hval 0 9 v0 rfl rfl) h0
  have hsz : s.size ≤ reachBytes := by
    have := List.all_eq_true.1 hz s.data.toList.length (by show _ ∈ [s.data.toList.length] ++ []; simp)
    have := of_decide_eq_true this
    rwa [data_size] at this
  have hR : reachBytes = 140737488351232 := rfl
  exact wherrylaw12_VerbDomains.walk domains_pure s W (by omega) hG

theorem verbDomains_lifted (os : Os) (started : os.Started) (H : Type) (enc : TypeId × Value → H) (F : Stop.Interp) :
    ReturnsInHanded {} Tryd.checked os 6 .any ((OpenSpec.ofChange Rows.verbDomainsSpec).preRow enc Tryd.prog Tryd.f6 Rows.verbDomainsRow.domain false Rows.verbDomainsRow.laid) (((OpenSpec.ofChange Rows.verbDomainsSpec).at F).post enc Tryd.prog Tryd.f6 false true false false) := by
  refine row_of_walk os started H enc F (by kernel_rfl) Tryd.func6 rfl (by kernel_rfl) rfl ?_ (fun w h => by rwa [MakeChecks.laidMetH_plain _ _ _ (by kernel_rfl)] at h) (by kernel_rfl) (by kernel_rfl) (by kernel_rfl) verbDomains_walked
    (witness_row_atRef (enc := enc) (C := Tryd.checked) false (World.laidAll Tryd.prog os Rows.verbDomainsRow.laid) #[.string ⟨#[]⟩] (World.laidAll_os _ _ _) (by kernel_rfl) (by kernel_rfl) (by kernel_rfl)
      (OpenSpec.preRow_of_cond (x := ([.lit (.string [])], [], [])) 8 (by kernel_rfl) (by kernel_rfl) (fun k hk => by cases hk) (by kernel_rfl) (by rw [MakeChecks.laidMetH_plain _ _ _ (by kernel_rfl)]; exact laidMet_laidAll _ (by kernel_rfl) (by kernel_rfl))))
  intro ds h
  rw [Tryd.params6] at h
  match ds, h with
  | [_], _ => rfl

theorem verbDomains_said : Rows.VerbDomainsSaid :=
  OpenClaim.holds_of_cond 6 Tryd.f6 rfl rfl rfl rfl rfl rfl rfl ⟨rfl, rfl, rfl, rfl, rfl⟩ rfl rfl rfl rfl rfl (by kernel_rfl) Tryd.func6 (by kernel_rfl)
    (of_decide_eq_true (by kernel_rfl)) (by unfold Func.isWrapper; first | (rw [if_pos (by decide +kernel)]; kernel_rfl) | (rw [if_neg (by decide +kernel)]; exact ⟨rfl, rfl⟩))
    (fun os started H enc _ F => by rw [OpenClaim.pre_eq_preRow]; exact verbDomains_lifted os started H enc F)

theorem verbDomains_plain (f : FuncId) (fn : Func) (hf : Tryd.pinned.checked.prog.funcNamed "wherry/wherrylaw12.VerbDomains" = some f) (hfn : Tryd.pinned.checked.prog.funcs[f]? = some fn) :
    true = Tryd.pinned.checked.prog.looks [] ∧ ∀ (j : Nat) t, fn.params[j]? = some t → Tryd.pinned.checked.prog.wantsStandIn t = false := by
  obtain rfl : f = 6 := Option.some.inj ((show Tryd.prog.funcNamed "wherry/wherrylaw12.VerbDomains" = some 6 by kernel_rfl).symm.trans hf) |>.symm
  obtain rfl : fn = Tryd.f6 := (Option.some.inj (Tryd.func6.symm.trans hfn)).symm
  refine ⟨by kernel_rfl, fun j t ht => ?_⟩
  have hm : t ∈ Tryd.f6.params.toList := Array.mem_toList_iff.2 (Array.mem_of_getElem? ht)
  have hall : (Tryd.f6.params.toList.all fun u => !Tryd.prog.wantsStandIn u) = true := by kernel_rfl
  exact (show Tryd.prog.wantsStandIn t = false by simpa using List.all_eq_true.1 hall t hm)

theorem verbDomains_card : Rows.VerbDomainsCardSaid :=
  Claim7.holds_tied_plain_at .later [] _ _ _ _ verbDomains_said (fun _ h => by cases h) (by kernel_rfl) (fun _ h => by cases h) verbDomains_row_tie rfl ⟨rfl, rfl⟩ (by kernel_rfl) rfl verbDomains_plain (by kernel_rfl)
#print axioms verbDomains_card

end Go.Proofs.YthcdjgekmfnmnaaDoor
