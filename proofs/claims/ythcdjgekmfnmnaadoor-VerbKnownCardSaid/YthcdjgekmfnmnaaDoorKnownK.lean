/- The law VerbKnown returns true for every integer, and leaves its argument as it was; the library's tables and the two errors of strconv hold what the program's text lays in them. -/
import Derived.Test.YthcdjgekmfnmnaaDoorCards
import Derived.Test.YthcdjgekmfnmnaaDoorTie
import Derived.Test.YthcdjgekmfnmnaaDoorK6
namespace Go.Proofs.YthcdjgekmfnmnaaDoor
open Go.ChangeShapes Go.WideShapes Go.ChangeAt Go.RowKit PVerb
set_option maxRecDepth 100000

theorem known_at : ∀ i : Fin 26, wherrylaw12_VerbKnown.f 60 (i.val : Int) = some true := by decide +kernel

theorem known_mod (k : Nat) (a : Int) : wherrylaw12_VerbKnown.f k a = wherrylaw12_VerbKnown.f k (IntKind.u64.wrap a % 26) := by
  have h0 : 0 ≤ IntKind.u64.wrap a ∧ IntKind.u64.wrap a < 18446744073709551616 := by rw [IntKind.wrap_u64]; omega
  have e : IntKind.u64.wrap (IntKind.u64.wrap a % 26) = IntKind.u64.wrap a % 26 := by rw [IntKind.wrap_u64]; omega
  have e26 : IntKind.u64.wrap 26 = 26 := by decide
  have e2 : Int.tmod (IntKind.u64.wrap a) 26 = Int.tmod (IntKind.u64.wrap a % 26) 26 := by
    rw [Int.tmod_eq_emod_of_nonneg (by omega), Int.tmod_eq_emod_of_nonneg (by omega)]; omega
  unfold wherrylaw12_VerbKnown.f
  have c26 : ((26 : Nat) : Int) = 26 := rfl
  simp only [Option.bind_some, List.length_cons, List.length_nil, Nat.zero_add, Nat.reduceAdd, c26, e26, e, e2]

theorem known_pure : wherrylaw12_VerbKnown.Pure := by
  intro a _
  have h0 : 0 ≤ IntKind.u64.wrap a % 26 ∧ IntKind.u64.wrap a % 26 < 26 := by omega
  refine ⟨60, ?_⟩
  rw [known_mod]
  have := known_at ⟨(IntKind.u64.wrap a % 26).toNat, by omega⟩
  simpa [Int.toNat_of_nonneg h0.1] using this

theorem verbKnown_walked : Walked 5 Tryd.f5 := by
  intro H enc W base args ds p hval hA hG
  rw [Tryd.params5] at hA hval
  obtain ⟨v0, d0, rfl, rfl, h0⟩ := trodAll_one hA
  obtain ⟨x, rfl, rfl, rfl, wx⟩ := open_int Tryd.underlying3 (hval 0 3 v0 rfl rfl) h0
  exact wherrylaw12_VerbKnown.walk known_pure x W wx hG

theorem verbKnown_lifted (os : Os) (started : os.Started) (H : Type) (enc : TypeId × Value → H) (F : Stop.Interp) :
    ReturnsInHanded {} Tryd.checked os 5 .any ((OpenSpec.ofChange Rows.verbKnownSpec).preRow enc Tryd.prog Tryd.f5 Rows.verbKnownRow.domain false Rows.verbKnownRow.laid) (((OpenSpec.ofChange Rows.verbKnownSpec).at F).post enc Tryd.prog Tryd.f5 false true false false) := by
  refine row_of_walk os started H enc F (by kernel_rfl) Tryd.func5 rfl (by kernel_rfl) rfl ?_ (fun w h => by rwa [MakeChecks.laidMetH_plain _ _ _ (by kernel_rfl)] at h) (by kernel_rfl) (by kernel_rfl) (by kernel_rfl) verbKnown_walked
    (witness_row_atRef (enc := enc) (C := Tryd.checked) false (World.laidAll Tryd.prog os Rows.verbKnownRow.laid) #[.int .i64 0] (World.laidAll_os _ _ _) (by kernel_rfl) (by kernel_rfl) (by kernel_rfl)
      (OpenSpec.preRow_of_cond (x := ([.lit (.int .i64 0)], [], [])) 8 (by kernel_rfl) (by kernel_rfl) (fun k hk => by cases hk) (by kernel_rfl) (by rw [MakeChecks.laidMetH_plain _ _ _ (by kernel_rfl)]; exact laidMet_laidAll _ (by kernel_rfl) (by kernel_rfl))))
  intro ds h
  rw [Tryd.params5] at h
  match ds, h with
  | [_], _ => rfl

theorem verbKnown_said : Rows.VerbKnownSaid :=
  OpenClaim.holds_of_cond 5 Tryd.f5 rfl rfl rfl rfl rfl rfl rfl ⟨rfl, rfl, rfl, rfl, rfl⟩ rfl rfl rfl rfl rfl (by kernel_rfl) Tryd.func5 (by kernel_rfl)
    (of_decide_eq_true (by kernel_rfl)) (by unfold Func.isWrapper; first | (rw [if_pos (by decide +kernel)]; kernel_rfl) | (rw [if_neg (by decide +kernel)]; exact ⟨rfl, rfl⟩))
    (fun os started H enc _ F => by rw [OpenClaim.pre_eq_preRow]; exact verbKnown_lifted os started H enc F)

theorem verbKnown_plain (f : FuncId) (fn : Func) (hf : Tryd.pinned.checked.prog.funcNamed "wherry/wherrylaw12.VerbKnown" = some f) (hfn : Tryd.pinned.checked.prog.funcs[f]? = some fn) :
    true = Tryd.pinned.checked.prog.looks [] ∧ ∀ (j : Nat) t, fn.params[j]? = some t → Tryd.pinned.checked.prog.wantsStandIn t = false := by
  obtain rfl : f = 5 := Option.some.inj ((show Tryd.prog.funcNamed "wherry/wherrylaw12.VerbKnown" = some 5 by kernel_rfl).symm.trans hf) |>.symm
  obtain rfl : fn = Tryd.f5 := (Option.some.inj (Tryd.func5.symm.trans hfn)).symm
  refine ⟨by kernel_rfl, fun j t ht => ?_⟩
  have hm : t ∈ Tryd.f5.params.toList := Array.mem_toList_iff.2 (Array.mem_of_getElem? ht)
  have hall : (Tryd.f5.params.toList.all fun u => !Tryd.prog.wantsStandIn u) = true := by kernel_rfl
  exact (show Tryd.prog.wantsStandIn t = false by simpa using List.all_eq_true.1 hall t hm)

theorem verbKnown_card : Rows.VerbKnownCardSaid :=
  Claim7.holds_tied_plain_at .later [] _ _ _ _ verbKnown_said (fun _ h => by cases h) (by kernel_rfl) (fun _ h => by cases h) verbKnown_row_tie rfl ⟨rfl, rfl⟩ (by kernel_rfl) rfl verbKnown_plain (by kernel_rfl)
#print axioms verbKnown_card

end Go.Proofs.YthcdjgekmfnmnaaDoor
