/- Parts of the proof, put together by program. -/
import Derived.Test.YthcdjgekmfnmnaaGreatDoorK7
import Derived.Test.YthcdjgekmfnmnaaGreatDoorRows
import Derived.Shelf.Vars
import Derived.Stop.LaidErr
import Derived.Stop.Joined
import Derived.ProofKit
import Derived.OpenShut
import Derived.Lay
import Derived.SevenTiedAt
import Derived.Deep.DeepHandedRow
import Derived.Deep.DeepWitnessRowRef
import Derived.Carry
import Derived.LaidMore
section
namespace Go.Proofs.YthcdjgekmfnmnaaGreatDoor
open Go.ChangeShapes Go.WideShapes Go.ChangeAt Go.RowKit
theorem own : ownKnob Tryz.prog.godebug = none := by kernel_rfl
theorem laid_find {P : Program} {w : World} {n : String} {x : String × DataW Unit} : ∀ {l : List (String × DataW Unit)}, laidMet P l w →
  l.find? (fun y => y.1 == n) = some x → ∃ r, laidMet P (x :: r) w
 | [], _, h => by cases h
 | y :: l, hl, h => by
  rw [List.find?_cons] at h
  split at h
  ·
   cases h; exact ⟨_, hl⟩
  ·
   exact laid_find hl.tail h
theorem star : "*" ++ "errors.errorString" = "*errors.errorString" := by decide
theorem rowErr (u : TypeId) (h : Tryz.prog.typeName? 3 u = some "*errors.errorString") : u = 133 :=
 typeName_ptr_named (nm := "errors.errorString") (by rw [star]; kernel_rfl) (by kernel_rfl) (by decide) u (by rw [star]; exact h)
theorem sentinel {W : World} {n : String} {g : Nat} {text : List UInt8} {l : List (String × DataW Unit)} (hL : laidMet Tryz.prog l W)
  (hf : l.find? (fun y => y.1 == n) = some (n, .iface "*errors.errorString" (.ptr (.agg [.lit (.string text)]))))
  (hg : Tryz.prog.globalNamed n = some g) (ht : (Tryz.prog.globals[g]?).map (·.type) = some 109) : ∃ tp p, W.var? Tryz.prog n = some #[.iface tp p] := by
 obtain ⟨r, h⟩ := laid_find hL hf
 obtain ⟨a, s, h1, _⟩ := laid_sentinel h hg ht Tryz.underlying109 rowErr Tryz.underlying133
  Tryz.underlying135 rfl rfl Tryz.underlying9 (by kernel_rfl) (by kernel_rfl)
 exact ⟨_, _, h1⟩
theorem glob_of {W : World} {l : List (String × DataW Unit)} (hL : laidMet Tryz.prog l W) (hS : W.ShapedOpen Tryz.prog)
  (h1 : l.find? (fun y => y.1 == "strconv.ErrSyntax") = some ("strconv.ErrSyntax", .iface "*errors.errorString" (.ptr (.agg [.lit (.string [105, 110, 118, 97, 108, 105, 100, 32, 115, 121, 110, 116, 97, 120])]))))
  (h2 : l.find? (fun y => y.1 == "strconv.ErrRange") = some ("strconv.ErrRange", .iface "*errors.errorString" (.ptr (.agg [.lit (.string [118, 97, 108, 117, 101, 32, 111, 117, 116, 32, 111, 102, 32, 114, 97, 110, 103, 101])]))))
  (h3 : l.find? (fun y => y.1 == "internal/strconv.uint64pow10") = some ("internal/strconv.uint64pow10", Lib.tabData .u64 Lib.pow10Tab)) : Glob W where
 lt := by
  obtain ⟨o, _, ho, _⟩ := hS.2 Tryz.prog.globals.size (Nat.le_refl _) (of_decide_eq_true (by kernel_rfl))
  have := (Array.getElem?_eq_some_iff.1 ho).1
  have e : Tryz.prog.globals.size = 7 + 1 := by kernel_rfl
  omega
 ml := cell_of_shapedOpen_int (t := 3) (zero := #[.int .i64 0]) hS (of_decide_eq_true (by kernel_rfl)) (by kernel_rfl) rfl (by kernel_rfl) (by kernel_rfl) (by kernel_rfl)
 es := sentinel hL h1 (g := 3) (by kernel_rfl) (by kernel_rfl)
 er := sentinel hL h2 (g := 4) (by kernel_rfl) (by kernel_rfl)
 tab := by
  obtain ⟨r, h⟩ := laid_find hL h3
  exact Lib.tabIs_of_head (g := 5) (t := 137) (by kernel_rfl) (by kernel_rfl) Tryz.underlying137 Tryz.underlying120 (by kernel_rfl) (by kernel_rfl) h
theorem laidOut : laidOutB Tryz.prog = true := by kernel_rfl
theorem args_stay {H : Type} {enc : TypeId × Value → H} {P : Program} {W W' : World} (hl : laidOutB P = true) (hb : Below W.heap.size W W') :
  ∀ {ts : List TypeId} {vs : List Value} {ds : List (DataW H)} {ps : List MemPlace}, (ts.all fun t => P.readableRec t && decide (t < P.types.size)) = true →
   DataW.TrodAll enc P W 0 (fun _ => true) true ts vs ds ps → (∀ x ∈ ps, x.block < W.heap.size) →
   DataW.TrodAll enc P W' 0 (fun b => decide (b < W.heap.size)) true ts vs ds ps
 | [], [], [], _, _, h, _ => h
 | t :: ts, v :: vs, d :: ds, ps, ht, h, hlt => by
  obtain ⟨p, q, h1, h2, rfl⟩ := h
  simp only [List.all_cons, Bool.and_eq_true, decide_eq_true_eq] at ht
  exact ⟨p, q, Below.trod hl ht.1.1 ht.1.2 h1 hb fun x hx => hlt x (List.mem_append_left _ hx),
   args_stay hl hb (by simpa using ht.2) h2 fun x hx => hlt x (List.mem_append_right _ hx), rfl⟩
 | [], _ :: _, _, _, _, h, _ => h.elim
 | [], [], _ :: _, _, _, h, _ => h.elim
 | _ :: _, [], _, _, _, h, _ => h.elim
 | _ :: _, _ :: _, [], _, _, h, _ => h.elim
theorem args_length {H : Type} {enc : TypeId × Value → H} {P : Program} {W : World} {b : Nat} {sp : Nat → Bool} {hd : Bool} :
  ∀ {ts : List TypeId} {vs : List Value} {ds : List (DataW H)} {ps : List MemPlace}, DataW.TrodAll enc P W b sp hd ts vs ds ps → ds.length = ts.length
 | [], [], [], _, _ => rfl
 | _ :: _, _ :: _, _ :: _, _, h => by obtain ⟨p, q, _, h2, _⟩ := h; simp [args_length h2]
 | [], _ :: _, _, _, h => h.elim
 | [], [], _ :: _, _, h => h.elim
 | _ :: _, [], _, _, h => h.elim
 | _ :: _, _ :: _, [], _, h => h.elim
theorem weights_short {H : Type} {P : Program} : ∀ (ts us : List TypeId) (ds : List (DataW H)), ds.length = ts.length → DataW.weightsEach P (ts ++ us) ds = DataW.weightsEach P ts ds
 | [], us, [], _ => by cases us <;> rfl
 | t :: ts, us, d :: ds, h => by
  show d.weights P t ++ DataW.weightsEach P (ts ++ us) ds = d.weights P t ++ DataW.weightsEach P ts ds
  rw [weights_short ts us ds (by simpa using h)]
 | [], _, _ :: _, h => by cases h
 | _ :: _, _, [], h => by cases h
def Walked (fid : FuncId) (fn : Func) : Prop :=
 ∀ (H : Type) (enc : TypeId × Value → H) (W : World) (base : Nat) (args : Array Value) (ds : List (DataW H)) (p : List MemPlace),
  (∀ (j : Nat) t v, fn.params[j]? = some t → args[j]? = some v → Value.okWide Tryz.prog W .any base t v) →
  DataW.TrodAll enc Tryz.prog W 0 (fun _ => true) true fn.params.toList args.toList ds p → (DataW.weightsEach Tryz.prog fn.params.toList ds).all (· ≤ reachBytes) = true → Glob W →
  Calls Tryz.prog fid args W fun e w' => e = .returned (.bool true) ∧ Below W.heap.size W w'
set_option maxRecDepth 100000 in
theorem row_of_walk {fid : FuncId} {fn : Func} {s : ChangeSpec} {conds : List PathCond} {laid : List (String × DataW Unit)} (os : Os) (started : os.Started) (H : Type) (enc : TypeId × Value → H) (F : Stop.Interp)
  (noInit : Tryz.prog.inits.idxOf? fid = none) (hfn : Tryz.prog.funcs[fid]? = some fn) (hr : fn.resultTypes = #[4])
  (hread : (fn.params.toList.all fun t => Tryz.prog.readableRec t && decide (t < Tryz.prog.types.size)) = true)
  (hsv : s.vars = []) (hs : ∀ ds : List (DataW H), ds.length = fn.params.toList.length → s.fn H ds = { results := [.lit (.bool true)], args := ds })
  (hplain : ∀ w, laidMetH Tryz.prog laid w → laidMet Tryz.prog laid w)
  (h1 : laid.find? (fun y => y.1 == "strconv.ErrSyntax") = some ("strconv.ErrSyntax", .iface "*errors.errorString" (.ptr (.agg [.lit (.string [105, 110, 118, 97, 108, 105, 100, 32, 115, 121, 110, 116, 97, 120])]))))
  (h2 : laid.find? (fun y => y.1 == "strconv.ErrRange") = some ("strconv.ErrRange", .iface "*errors.errorString" (.ptr (.agg [.lit (.string [118, 97, 108, 117, 101, 32, 111, 117, 116, 32, 111, 102, 32, 114, 97, 110, 103, 101])]))))
  (h3 : laid.find? (fun y => y.1 == "internal/strconv.uint64pow10") = some ("internal/strconv.uint64pow10", Lib.tabData .u64 Lib.pow10Tab))
  (walk : Walked fid fn)
  (witness : ∃ (w : World) (tape : Tape) (i : Input), w.os = os ∧ (w.forCall tape i).Shaped Tryz.checked.prog ∧ i.vars = [] ∧ Input.okWide Tryz.checked.prog (w.forCall tape i) .any w.heap.size fid i ∧
   (OpenSpec.ofChange s).preRow enc Tryz.checked.prog fn conds false laid (w.forCall tape i).memory i.args ∧ ({} : Assume).holds Tryz.checked.prog (lone (Frame.enter Tryz.checked.prog fid i.args .normal) [] (w.forCall tape i))) :
  ReturnsInHanded {} Tryz.checked os fid .any ((OpenSpec.ofChange s).preRow enc Tryz.prog fn conds false laid) (((OpenSpec.ofChange s).at F).post enc Tryz.prog fn false true false false) := by
 refine returnsInHanded_of_row (C := Tryz.checked) (s := OpenSpec.ofChange s) own started noInit hfn witness ?_
 intro W base args ds gs before hval hW _ _ hz hL hS _
 have hW' := hW
 obtain ⟨p, q, hA, hV, hpq, _, _⟩ := hW
 have hsv' : (OpenSpec.ofChange s).vars = [] := hsv
 rw [hsv'] at hV
 obtain ⟨rfl, rfl⟩ := trodVars_none hV
 rw [List.append_nil] at hpq
 subst hpq
 have hlt : ∀ x ∈ before, x.block < W.heap.size := fun x hx => hW'.lt x hx
 have hG : Glob W := glob_of (hplain W hL) hS h1 h2 h3
 rw [List.append_nil, weights_short _ _ _ (args_length hA)] at hz
 refine (walk H enc W base args ds before hval hA hz hG).mono fun e W' ⟨he, hb⟩ => ?_
 subst he
 have hds : s.fn H (ds ++ []) = { results := [.lit (.bool true)], args := ds } := by rw [List.append_nil]; exact hs ds (args_length hA)
 refine ⟨_, rfl, ds, [], before, [], before, [], hW', ?_, ?_, ?_, hb.frame _, fun h => by cases h⟩
 ·
  show DataW.TrodAll enc Tryz.prog W' _ _ false fn.resultTypes.toList _ (s.fn H (ds ++ [])).results []
  rw [hds, hr]
  exact trodAll_mk1 (shut_bool Tryz.underlying4 true)
 ·
  show DataW.TrodAll enc Tryz.prog W' 0 _ true fn.params.toList args.toList (s.fn H (ds ++ [])).args before
  rw [hds]
  exact args_stay laidOut hb hread hA hlt
 ·
  show DataW.TrodVars enc Tryz.prog W' _ s.vars (s.fn H (ds ++ [])).vars []
  rw [hds, hsv]
  rfl
end Go.Proofs.YthcdjgekmfnmnaaGreatDoor
end
section
namespace Go.Proofs.YthcdjgekmfnmnaaGreatDoor
open Go.ChangeShapes Go.WideShapes Go.ChangeAt Go.RowKit PVerb
open Go.Proofs.YthcdjgekmfnmnaaGreatDoorW.PrintWords Go.Proofs.YthcdjgekmfnmnaaGreatDoorW.PrintLast Go.Proofs.YthcdjgekmfnmnaaGreatDoorW.PrintMore
set_option maxRecDepth 100000
theorem weightsAll_in {H : Type} {P : Program} {e : TypeId} : ∀ {l : List (DataW H)} {d : DataW H}, d ∈ l → ∀ n ∈ d.weights P e, n ∈ DataW.weightsAll P e l
 | a :: l, d, h, n, hn => by
  show n ∈ a.weights P e ++ DataW.weightsAll P e l
  rcases List.mem_cons.1 h with rfl | h
  ·
   exact List.mem_append_left _ hn
  ·
   exact List.mem_append_right _ (weightsAll_in h n hn)
theorem add_two (a : Addr) (i j : Nat) : a.add (i + j) = (a.add i).add j := by
 cases i with
 | zero => rw [Nat.zero_add]; rfl
 | succ i =>
  cases j with
  | zero => rfl
  | succ j => simp [Addr.add, Nat.add_assoc]
theorem cellsInt : Tryz.prog.cellsOf 3 = 1 := by kernel_rfl
theorem cellsStr : Tryz.prog.cellsOf 9 = 1 := by kernel_rfl
theorem cellsBool : Tryz.prog.cellsOf 4 = 1 := by kernel_rfl
theorem cellsPath : Tryz.prog.cellsOf 23 = 3 := by kernel_rfl
theorem cellsPars : Tryz.prog.cellsOf 24 = 1 := by kernel_rfl
theorem cellsPar : Tryz.prog.cellsOf 47 = 2 := by kernel_rfl
theorem cellsCmd : Tryz.prog.cellsOf 26 = 6 := by kernel_rfl
theorem bytesPar : Tryz.prog.bytesOf 47 = 32 := by kernel_rfl
theorem open_par {H : Type} {enc : TypeId × Value → H} {W : World} {a : Addr} {i n : Nat} {y : DataW H × List MemPlace}
  (h : (W.cells? 0 (a.add (i * Tryz.prog.cellsOf 47)) (Tryz.prog.cellsOf 47)).bind (DataW.trod enc Tryz.prog W 0 (fun _ => true) true n 47) = some y) :
  ∃ p : ParL, W.cell? (a.add (i * 2)) = some (.string (bs p.1)) ∧ W.cell? (a.add (i * 2 + 1)) = some (.string (bs p.2)) ∧ y.1 = .agg [.lit (.string p.1), .lit (.string p.2)] := by
 rw [cellsPar] at h
 obtain ⟨cs, hc, h⟩ := Option.bind_eq_some_iff.1 h
 obtain ⟨_, hl, hcell⟩ := World.cells?_some hc
 obtain ⟨xs, m, _, rfl, _, hxl, hF⟩ := DataW.trod_struct Tryz.underlying47 h
 match xs, hxl, cs, hl with
 | [y0, y1], _, [c0, c1], _ =>
  have h0 : DataW.trod enc Tryz.prog W 0 (fun _ => true) true m 9 (([c0, c1].drop 0).take (Tryz.prog.cellsOf 9)) = some y0 := hF 0 _ rfl
  have h1 : DataW.trod enc Tryz.prog W 0 (fun _ => true) true m 9 (([c0, c1].drop 1).take (Tryz.prog.cellsOf 9)) = some y1 := hF 1 _ rfl
  rw [cellsStr] at h0 h1
  obtain ⟨s0, e0, f0, _⟩ := DataW.trod_string Tryz.underlying9 h0
  obtain ⟨s1, e1, f1, _⟩ := DataW.trod_string Tryz.underlying9 h1
  have g0 : c0 = .string s0 := by simpa using e0
  have g1 : c1 = .string s1 := by simpa using e1
  subst g0; subst g1; subst f0; subst f1
  have k0 := hcell 0 (by omega)
  have k1 := hcell 1 (by omega)
  refine ⟨(s0.data.toList, s1.data.toList), ?_, ?_, rfl⟩
  ·
   exact (congrArg W.cell? (show a.add (i * 2) = (a.add (i * 2)).add 0 from rfl)).trans k0
  ·
   exact (congrArg W.cell? (add_two a (i * 2) 1)).trans k1
theorem open_pars {H : Type} {enc : TypeId × Value → H} {W : World} {m : Nat} {v : Value} {y : DataW H × List MemPlace}
  (h : DataW.trod enc Tryz.prog W 0 (fun _ => true) true m 24 [v] = some y) (hz : (y.1.weights Tryz.prog 24).all (· ≤ reachBytes) = true) :
  ∃ (L : List ParL) (A : Option Addr) (n : Nat), v = .slice A (L.map mkP).length n ∧ Kd.C k47 W A (L.map mkP).length (L.map mkP) ∧ (L.map mkP).length ≤ n ∧ L.length ≤ 140737488351232 ∧
   ∀ p ∈ L, p.1.length ≤ 140737488351232 ∧ p.2.length ≤ 140737488351232 := by
 have hR : reachBytes = 140737488351232 := rfl
 rcases DataW.trod_slice Tryz.underlying24 h with ⟨e, rfl⟩ | ⟨a, len, cap, elems, rest, n, _, e, rfl, _, hle, _, hel, hi, _⟩
 ·
  obtain rfl : v = .slice none 0 0 := by simpa using e
  exact ⟨[], none, 0, rfl, Kd.C_nil _ _, Nat.le_refl _, by simp, fun p hp => absurd hp List.not_mem_nil⟩
 ·
  obtain rfl : v = .slice (some a) len cap := by simpa using e
  have hall : ∀ i, ∃ p : ParL, i < len → W.cell? (a.add (i * 2)) = some (.string (bs p.1)) ∧ W.cell? (a.add (i * 2 + 1)) = some (.string (bs p.2)) ∧ ∃ y ∈ elems, y.1 = .agg [.lit (.string p.1), .lit (.string p.2)] := by
   intro i
   by_cases hl : i < len
   ·
    have hx : elems[i]? = some (elems[i]'(by omega)) := List.getElem?_eq_getElem (by omega)
    obtain ⟨p, p1, p2, p3⟩ := open_par ((hi i hl).trans hx)
    exact ⟨p, fun _ => ⟨p1, p2, _, List.getElem_mem _, p3⟩⟩
   ·
    exact ⟨([], []), fun h => absurd h hl⟩
  obtain ⟨f, hf⟩ := Classical.axiomOfChoice hall
  have hw : DataW.weights Tryz.prog 24 (.slice (elems.map (·.1)) (rest.map (·.1)) : DataW H) = ((elems.map (·.1)).length + (rest.map (·.1)).length) * Tryz.prog.bytesOf 47 :: (DataW.weightsAll Tryz.prog 47 (elems.map (·.1)) ++ DataW.weightsAll Tryz.prog 47 (rest.map (·.1))) := by
   rw [DataW.weights, Tryz.underlying24]
  simp only at hz
  rw [hw, List.all_cons, Bool.and_eq_true, List.all_append, Bool.and_eq_true, bytesPar] at hz
  obtain ⟨z1, z2, _⟩ := hz
  have z1 := of_decide_eq_true z1
  rw [List.length_map, List.length_map] at z1
  have hlen : (((List.range len).map f).map mkP).length = len := by simp
  refine ⟨(List.range len).map f, some a, cap, by rw [hlen], ⟨rfl, by rw [hlen]; omega, fun hn => ⟨a, rfl, fun j p hj => ?_⟩⟩, by rw [hlen]; exact hle, by rw [List.length_map, List.length_range]; omega, ?_⟩
  ·
   rw [List.map_map] at hj
   obtain ⟨hjl, hjv⟩ := List.getElem?_eq_some_iff.1 hj
   have hjl : j < len := by simpa using hjl
   have hjv : mkP (f j) = p := by simpa using hjv
   subst hjv
   obtain ⟨q1, q2, _⟩ := hf j hjl
   refine ⟨[.string (bs (f j).1), .string (bs (f j).2)], rfl, k47_mk W (mkP (f j)), fun i u hu => ?_⟩
   match i, hu with
   | 0, hu => cases hu; exact q1
   | 1, hu => cases hu; exact q2
  ·
   intro p hp
   obtain ⟨i, hir, rfl⟩ := List.mem_map.1 hp
   obtain ⟨_, _, y, hy, hye⟩ := hf i (List.mem_range.1 hir)
   have hin : ∀ b ∈ (y.1).weights Tryz.prog 47, b ≤ reachBytes := fun b hb =>
    of_decide_eq_true (List.all_eq_true.1 z2 b (weightsAll_in (List.mem_map.2 ⟨y, hy, rfl⟩) b hb))
   have hwe : DataW.weights Tryz.prog 47 (.agg [.lit (.string (f i).1), .lit (.string (f i).2)] : DataW H) = [(f i).1.length, (f i).2.length] := by
    rw [DataW.weights, Tryz.underlying47]
    rfl
   rw [hye, hwe] at hin
   have b1 := hin (f i).1.length (by simp)
   have b2 := hin (f i).2.length (by simp)
   omega
theorem open_cmd {H : Type} {enc : TypeId × Value → H} {W : World} {b : Nat} {v : Value} {d : DataW H} {ps : List MemPlace} (hval : Value.okWide Tryz.prog W .any b 26 v)
  (hd : DataW.Trod enc Tryz.prog W 0 (fun _ => true) true 26 v d ps) (hz : (d.weights Tryz.prog 26).all (· ≤ reachBytes) = true) :
  ∃ (c : CmdL) (A : Option Addr) (n : Nat), v = .agg #[.int .i64 c.1, .string (bs c.2.1), .bool c.2.2.1, .string (bs c.2.2.2.1), .string (bs c.2.2.2.2.1), .slice A (c.2.2.2.2.2.map mkP).length n] ∧
   Kd.C k47 W A (c.2.2.2.2.2.map mkP).length (c.2.2.2.2.2.map mkP) ∧ (c.2.2.2.2.2.map mkP).length ≤ n ∧ Sized c := by
 have hR : reachBytes = 140737488351232 := rfl
 obtain ⟨cs, rfl, _⟩ := okWide_struct Tryz.underlying26 hval
 obtain ⟨fuel, hf⟩ := hd
 obtain ⟨xs, m, _, hx, hl, hxl, hF⟩ := DataW.trod_struct Tryz.underlying26 hf
 obtain ⟨rfl, rfl⟩ := Prod.mk.inj hx
 rw [cellsCmd] at hl
 obtain ⟨cl⟩ := cs
 match xs, hxl, cl, hl with
 | [y0, y1, y2, y3], _, [c0, c1, c2, c3, c4, c5], _ =>
  have h0 : DataW.trod enc Tryz.prog W 0 (fun _ => true) true m 3 (([c0, c1, c2, c3, c4, c5].drop 0).take (Tryz.prog.cellsOf 3)) = some y0 := hF 0 _ rfl
  have h1 : DataW.trod enc Tryz.prog W 0 (fun _ => true) true m 9 (([c0, c1, c2, c3, c4, c5].drop 1).take (Tryz.prog.cellsOf 9)) = some y1 := hF 1 _ rfl
  have h2 : DataW.trod enc Tryz.prog W 0 (fun _ => true) true m 23 (([c0, c1, c2, c3, c4, c5].drop 2).take (Tryz.prog.cellsOf 23)) = some y2 := hF 2 _ rfl
  have h3 : DataW.trod enc Tryz.prog W 0 (fun _ => true) true m 24 (([c0, c1, c2, c3, c4, c5].drop 5).take (Tryz.prog.cellsOf 24)) = some y3 := hF 3 _ rfl
  rw [cellsInt] at h0
  rw [cellsStr] at h1
  rw [cellsPath] at h2
  rw [cellsPars] at h3
  obtain ⟨k, e0, rfl, wk⟩ := DataW.trod_int Tryz.underlying3 h0
  obtain ⟨s1, e1, rfl, _⟩ := DataW.trod_string Tryz.underlying9 h1
  obtain ⟨zs, m2, _, rfl, _, hzl, hG⟩ := DataW.trod_struct Tryz.underlying23 h2
  match zs, hzl with
  | [z0, z1, z2], _ =>
   have g0 : DataW.trod enc Tryz.prog W 0 (fun _ => true) true m2 4 (([c2, c3, c4].drop 0).take (Tryz.prog.cellsOf 4)) = some z0 := hG 0 _ rfl
   have g1 : DataW.trod enc Tryz.prog W 0 (fun _ => true) true m2 9 (([c2, c3, c4].drop 1).take (Tryz.prog.cellsOf 9)) = some z1 := hG 1 _ rfl
   have g2 : DataW.trod enc Tryz.prog W 0 (fun _ => true) true m2 9 (([c2, c3, c4].drop 2).take (Tryz.prog.cellsOf 9)) = some z2 := hG 2 _ rfl
   rw [cellsBool] at g0
   rw [cellsStr] at g1 g2
   obtain ⟨nl, e2, rfl⟩ := DataW.trod_bool Tryz.underlying4 g0
   obtain ⟨s3, e3, rfl, _⟩ := DataW.trod_string Tryz.underlying9 g1
   obtain ⟨s4, e4, rfl, _⟩ := DataW.trod_string Tryz.underlying9 g2
   have r0 : c0 = .int .i64 k := by simpa using e0
   have r1 : c1 = .string s1 := by simpa using e1
   have r2 : c2 = .bool nl := by simpa using e2
   have r3 : c3 = .string s3 := by simpa using e3
   have r4 : c4 = .string s4 := by simpa using e4
   subst r0; subst r1; subst r2; subst r3; subst r4
   have hw : DataW.weights Tryz.prog 26 (.agg [.lit (.int .i64 k), .lit (.string s1.data.toList), .agg [.lit (.bool nl), .lit (.string s3.data.toList), .lit (.string s4.data.toList)], y3.1] : DataW H) = s1.data.toList.length :: s3.data.toList.length :: s4.data.toList.length :: (y3.1.weights Tryz.prog 24 ++ []) := by
    rw [DataW.weights, Tryz.underlying26]
    simp only [List.map_cons, List.map_nil, DataW.weightsEach, DataW.weights, Tryz.underlying23, List.nil_append, List.cons_append, List.append_nil]
   have hz2 : (DataW.weights Tryz.prog 26 (.agg [.lit (.int .i64 k), .lit (.string s1.data.toList), .agg [.lit (.bool nl), .lit (.string s3.data.toList), .lit (.string s4.data.toList)], y3.1] : DataW H)).all (· ≤ reachBytes) = true := hz
   rw [hw, List.append_nil] at hz2
   simp only [List.all_cons, Bool.and_eq_true, decide_eq_true_eq] at hz2
   obtain ⟨w1, w3, w4, w5⟩ := hz2
   obtain ⟨L, A, n, rfl, hC, hn, hL, hp⟩ := open_pars h3 w5
   exact ⟨(k, s1.data.toList, nl, s3.data.toList, s4.data.toList, L), A, n, rfl, hC, hn, ⟨by show s1.data.toList.length ≤ _; omega, by show s3.data.toList.length ≤ _; omega, by show s4.data.toList.length ≤ _; omega, hL, hp, wk⟩⟩
end Go.Proofs.YthcdjgekmfnmnaaGreatDoor
end
