/- Parts of the proof, put together by program. -/
import Derived.Test.YthcdjgekmfnmnaaGreatDoorK5
import Derived.Test.YthcdjgekmfnmnaaGreatDoorRows
import Derived.Shelf.Vars
import Derived.Stop.LaidErr
import Derived.Stop.Joined
import Derived.ProofKit
import Derived.OpenShut
import Derived.Lay
import Derived.SevenTiedAt
import Derived.Deep.DeepHandedRow
import Derived.Deep.DeepWitnessRowRef
import Derived.Carry
import Derived.LaidMore
section
namespace Go.Proofs.YthcdjgekmfnmnaaGreatDoor
open Go.ChangeShapes Go.WideShapes Go.ChangeAt Go.RowKit
theorem own : ownKnob Tryz.prog.godebug = none := by kernel_rfl
theorem laid_find {P : Program} {w : World} {n : String} {x : String × DataW Unit} : ∀ {l : List (String × DataW Unit)}, laidMet P l w →
  l.find? (fun y => y.1 == n) = some x → ∃ r, laidMet P (x :: r) w
 | [], _, h => by cases h
 | y :: l, hl, h => by
  rw [List.find?_cons] at h
  split at h
  ·
   cases h; exact ⟨_, hl⟩
  ·
   exact laid_find hl.tail h
theorem star : "*" ++ "errors.errorString" = "*errors.errorString" := by decide
theorem rowErr (u : TypeId) (h : Tryz.prog.typeName? 3 u = some "*errors.errorString") : u = 133 :=
 typeName_ptr_named (nm := "errors.errorString") (by rw [star]; kernel_rfl) (by kernel_rfl) (by decide) u (by rw [star]; exact h)
theorem sentinel {W : World} {n : String} {g : Nat} {text : List UInt8} {l : List (String × DataW Unit)} (hL : laidMet Tryz.prog l W)
  (hf : l.find? (fun y => y.1 == n) = some (n, .iface "*errors.errorString" (.ptr (.agg [.lit (.string text)]))))
  (hg : Tryz.prog.globalNamed n = some g) (ht : (Tryz.prog.globals[g]?).map (·.type) = some 109) : ∃ tp p, W.var? Tryz.prog n = some #[.iface tp p] := by
 obtain ⟨r, h⟩ := laid_find hL hf
 obtain ⟨a, s, h1, _⟩ := laid_sentinel h hg ht Tryz.underlying109 rowErr Tryz.underlying133
  Tryz.underlying135 rfl rfl Tryz.underlying9 (by kernel_rfl) (by kernel_rfl)
 exact ⟨_, _, h1⟩
theorem glob_of {W : World} {l : List (String × DataW Unit)} (hL : laidMet Tryz.prog l W) (hS : W.ShapedOpen Tryz.prog)
  (h1 : l.find? (fun y => y.1 == "strconv.ErrSyntax") = some ("strconv.ErrSyntax", .iface "*errors.errorString" (.ptr (.agg [.lit (.string [105, 110, 118, 97, 108, 105, 100, 32, 115, 121, 110, 116, 97, 120])]))))
  (h2 : l.find? (fun y => y.1 == "strconv.ErrRange") = some ("strconv.ErrRange", .iface "*errors.errorString" (.ptr (.agg [.lit (.string [118, 97, 108, 117, 101, 32, 111, 117, 116, 32, 111, 102, 32, 114, 97, 110, 103, 101])]))))
  (h3 : l.find? (fun y => y.1 == "internal/strconv.uint64pow10") = some ("internal/strconv.uint64pow10", Lib.tabData .u64 Lib.pow10Tab)) : Glob W where
 lt := by
  obtain ⟨o, _, ho, _⟩ := hS.2 Tryz.prog.globals.size (Nat.le_refl _) (of_decide_eq_true (by kernel_rfl))
  have := (Array.getElem?_eq_some_iff.1 ho).1
  have e : Tryz.prog.globals.size = 7 + 1 := by kernel_rfl
  omega
 ml := cell_of_shapedOpen_int (t := 3) (zero := #[.int .i64 0]) hS (of_decide_eq_true (by kernel_rfl)) (by kernel_rfl) rfl (by kernel_rfl) (by kernel_rfl) (by kernel_rfl)
 es := sentinel hL h1 (g := 3) (by kernel_rfl) (by kernel_rfl)
 er := sentinel hL h2 (g := 4) (by kernel_rfl) (by kernel_rfl)
 tab := by
  obtain ⟨r, h⟩ := laid_find hL h3
  exact Lib.tabIs_of_head (g := 5) (t := 137) (by kernel_rfl) (by kernel_rfl) Tryz.underlying137 Tryz.underlying120 (by kernel_rfl) (by kernel_rfl) h
theorem laidOut : laidOutB Tryz.prog = true := by kernel_rfl
theorem args_stay {H : Type} {enc : TypeId × Value → H} {P : Program} {W W' : World} (hl : laidOutB P = true) (hb : Below W.heap.size W W') :
  ∀ {ts : List TypeId} {vs : List Value} {ds : List (DataW H)} {ps : List MemPlace}, (ts.all fun t => P.readableRec t && decide (t < P.types.size)) = true →
   DataW.TrodAll enc P W 0 (fun _ => true) true ts vs ds ps → (∀ x ∈ ps, x.block < W.heap.size) →
   DataW.TrodAll enc P W' 0 (fun b => decide (b < W.heap.size)) true ts vs ds ps
 | [], [], [], _, _, h, _ => h
 | t :: ts, v :: vs, d :: ds, ps, ht, h, hlt => by
  obtain ⟨p, q, h1, h2, rfl⟩ := h
  simp only [List.all_cons, Bool.and_eq_true, decide_eq_true_eq] at ht
  exact ⟨p, q, Below.trod hl ht.1.1 ht.1.2 h1 hb fun x hx => hlt x (List.mem_append_left _ hx),
   args_stay hl hb (by simpa using ht.2) h2 fun x hx => hlt x (List.mem_append_right _ hx), rfl⟩
 | [], _ :: _, _, _, _, h, _ => h.elim
 | [], [], _ :: _, _, _, h, _ => h.elim
 | _ :: _, [], _, _, _, h, _ => h.elim
 | _ :: _, _ :: _, [], _, _, h, _ => h.elim
theorem args_length {H : Type} {enc : TypeId × Value → H} {P : Program} {W : World} {b : Nat} {sp : Nat → Bool} {hd : Bool} :
  ∀ {ts : List TypeId} {vs : List Value} {ds : List (DataW H)} {ps : List MemPlace}, DataW.TrodAll enc P W b sp hd ts vs ds ps → ds.length = ts.length
 | [], [], [], _, _ => rfl
 | _ :: _, _ :: _, _ :: _, _, h => by obtain ⟨p, q, _, h2, _⟩ := h; simp [args_length h2]
 | [], _ :: _, _, _, h => h.elim
 | [], [], _ :: _, _, h => h.elim
 | _ :: _, [], _, _, h => h.elim
 | _ :: _, _ :: _, [], _, h => h.elim
theorem weights_short {H : Type} {P : Program} : ∀ (ts us : List TypeId) (ds : List (DataW H)), ds.length = ts.length → DataW.weightsEach P (ts ++ us) ds = DataW.weightsEach P ts ds
 | [], us, [], _ => by cases us <;> rfl
 | t :: ts, us, d :: ds, h => by
  show d.weights P t ++ DataW.weightsEach P (ts ++ us) ds = d.weights P t ++ DataW.weightsEach P ts ds
  rw [weights_short ts us ds (by simpa using h)]
 | [], _, _ :: _, h => by cases h
 | _ :: _, _, [], h => by cases h
def Walked (fid : FuncId) (fn : Func) : Prop :=
 ∀ (H : Type) (enc : TypeId × Value → H) (W : World) (base : Nat) (args : Array Value) (ds : List (DataW H)) (p : List MemPlace),
  (∀ (j : Nat) t v, fn.params[j]? = some t → args[j]? = some v → Value.okWide Tryz.prog W .any base t v) →
  DataW.TrodAll enc Tryz.prog W 0 (fun _ => true) true fn.params.toList args.toList ds p → (DataW.weightsEach Tryz.prog fn.params.toList ds).all (· ≤ reachBytes) = true → Glob W →
  Calls Tryz.prog fid args W fun e w' => e = .returned (.bool true) ∧ Below W.heap.size W w'
set_option maxRecDepth 100000 in
theorem row_of_walk {fid : FuncId} {fn : Func} {s : ChangeSpec} {conds : List PathCond} {laid : List (String × DataW Unit)} (os : Os) (started : os.Started) (H : Type) (enc : TypeId × Value → H) (F : Stop.Interp)
  (noInit : Tryz.prog.inits.idxOf? fid = none) (hfn : Tryz.prog.funcs[fid]? = some fn) (hr : fn.resultTypes = #[4])
  (hread : (fn.params.toList.all fun t => Tryz.prog.readableRec t && decide (t < Tryz.prog.types.size)) = true)
  (hsv : s.vars = []) (hs : ∀ ds : List (DataW H), ds.length = fn.params.toList.length → s.fn H ds = { results := [.lit (.bool true)], args := ds })
  (hplain : ∀ w, laidMetH Tryz.prog laid w → laidMet Tryz.prog laid w)
  (h1 : laid.find? (fun y => y.1 == "strconv.ErrSyntax") = some ("strconv.ErrSyntax", .iface "*errors.errorString" (.ptr (.agg [.lit (.string [105, 110, 118, 97, 108, 105, 100, 32, 115, 121, 110, 116, 97, 120])]))))
  (h2 : laid.find? (fun y => y.1 == "strconv.ErrRange") = some ("strconv.ErrRange", .iface "*errors.errorString" (.ptr (.agg [.lit (.string [118, 97, 108, 117, 101, 32, 111, 117, 116, 32, 111, 102, 32, 114, 97, 110, 103, 101])]))))
  (h3 : laid.find? (fun y => y.1 == "internal/strconv.uint64pow10") = some ("internal/strconv.uint64pow10", Lib.tabData .u64 Lib.pow10Tab))
  (walk : Walked fid fn)
  (witness : ∃ (w : World) (tape : Tape) (i : Input), w.os = os ∧ (w.forCall tape i).Shaped Tryz.checked.prog ∧ i.vars = [] ∧ Input.okWide Tryz.checked.prog (w.forCall tape i) .any w.heap.size fid i ∧
   (OpenSpec.ofChange s).preRow enc Tryz.checked.prog fn conds false laid (w.forCall tape i).memory i.args ∧ ({} : Assume).holds Tryz.checked.prog (lone (Frame.enter Tryz.checked.prog fid i.args .normal) [] (w.forCall tape i))) :
  ReturnsInHanded {} Tryz.checked os fid .any ((OpenSpec.ofChange s).preRow enc Tryz.prog fn conds false laid) (((OpenSpec.ofChange s).at F).post enc Tryz.prog fn false true false false) := by
 refine returnsInHanded_of_row (C := Tryz.checked) (s := OpenSpec.ofChange s) own started noInit hfn witness ?_
 intro W base args ds gs before hval hW _ _ hz hL hS _
 have hW' := hW
 obtain ⟨p, q, hA, hV, hpq, _, _⟩ := hW
 have hsv' : (OpenSpec.ofChange s).vars = [] := hsv
 rw [hsv'] at hV
 obtain ⟨rfl, rfl⟩ := trodVars_none hV
 rw [List.append_nil] at hpq
 subst hpq
 have hlt : ∀ x ∈ before, x.block < W.heap.size := fun x hx => hW'.lt x hx
 have hG : Glob W := glob_of (hplain W hL) hS h1 h2 h3
 rw [List.append_nil, weights_short _ _ _ (args_length hA)] at hz
 refine (walk H enc W base args ds before hval hA hz hG).mono fun e W' ⟨he, hb⟩ => ?_
 subst he
 have hds : s.fn H (ds ++ []) = { results := [.lit (.bool true)], args := ds } := by rw [List.append_nil]; exact hs ds (args_length hA)
 refine ⟨_, rfl, ds, [], before, [], before, [], hW', ?_, ?_, ?_, hb.frame _, fun h => by cases h⟩
 ·
  show DataW.TrodAll enc Tryz.prog W' _ _ false fn.resultTypes.toList _ (s.fn H (ds ++ [])).results []
  rw [hds, hr]
  exact trodAll_mk1 (shut_bool Tryz.underlying4 true)
 ·
  show DataW.TrodAll enc Tryz.prog W' 0 _ true fn.params.toList args.toList (s.fn H (ds ++ [])).args before
  rw [hds]
  exact args_stay laidOut hb hread hA hlt
 ·
  show DataW.TrodVars enc Tryz.prog W' _ s.vars (s.fn H (ds ++ [])).vars []
  rw [hds, hsv]
  rfl
end Go.Proofs.YthcdjgekmfnmnaaGreatDoor
end
section
namespace Go.Proofs.YthcdjgekmfnmnaaGreatDoor
open Go.ChangeShapes Go.WideShapes Go.ChangeAt Go.RowKit PVerb
open Go.Proofs.YthcdjgekmfnmnaaGreatDoorW.PrintWords Go.Proofs.YthcdjgekmfnmnaaGreatDoorW.PrintLast Go.Proofs.YthcdjgekmfnmnaaGreatDoorW.PrintMore
set_option maxRecDepth 100000
theorem cellsStr : Tryz.prog.cellsOf 9 = 1 := by kernel_rfl
theorem cellsBool : Tryz.prog.cellsOf 4 = 1 := by kernel_rfl
theorem cellsPath : Tryz.prog.cellsOf 23 = 3 := by kernel_rfl
end Go.Proofs.YthcdjgekmfnmnaaGreatDoor
end
