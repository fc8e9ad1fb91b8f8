/- The law VerbParams returns true for every path and every two numbers, and leaves its arguments as they were; the library's tables and the two errors of strconv hold what the program's text lays in them. -/
import Derived.Test.YthcdjgekmfnmnaaGreatDoorCards
import Derived.Test.YthcdjgekmfnmnaaGreatDoorTie
import Derived.Test.YthcdjgekmfnmnaaGreatDoorK6
set_option maxRecDepth 100000
namespace Go.Proofs.YthcdjgekmfnmnaaGreatDoor.PVerb
open Go.RowKit Go.Proofs.YthcdjgekmfnmnaaGreatDoorW.PrintWords Go.Proofs.YthcdjgekmfnmnaaGreatDoorW.PrintLast Go.Proofs.YthcdjgekmfnmnaaGreatDoorW.PrintMore

/-! ### Digits -/
theorem digit_text : ∀ r : Fin 10, (⟨#[48, 49, 50, 51, 52, 53, 54, 55, 56, 57]⟩ : ByteArray).extract r.val (r.val + 1) = bs [UInt8.ofNat (48 + r.val)] := by decide
theorem digits_one (u : Nat) (acc : List UInt8) (h : u < 10) (ha : acc.length < 1000) : Ev (fun k => wherryref11_Digits.l0 k (u : Int) (bs acc)) (bs (Lib.decDigits u ++ acc)) := by
  have hsz := bs_size acc
  have ed := digit_text ⟨u, h⟩
  simp only at ed
  have ew : wrap64 ((u : Int) + 1) = ((u + 1 : Nat) : Int) := by rw [wrap_small (by omega) (by omega)]; omega
  have e1 : (bs [UInt8.ofNat (48 + u)]).size = 1 := bs_size _
  refine Ev.step (f := fun _ => some (bs (Lib.decDigits u ++ acc))) (fun k => ?_) (Ev.now _)
  rw [wherryref11_Digits.l0, if_neg (by omega), if_pos (by omega), ew, if_pos (by omega), if_pos (by omega), Int.toNat_natCast, Int.toNat_natCast, ed, e1, if_pos (by omega), Lib.decDigits, dif_pos h]
  exact congrArg some (bs_app _ _)
theorem digits_l0 : ∀ (d u : Nat) (acc : List UInt8), d ≤ 11 → u < 10 ^ (d + 1) → acc.length + d < 1000 → Ev (fun k => wherryref11_Digits.l0 k (u : Int) (bs acc)) (bs (Lib.decDigits u ++ acc)) := by
  intro d
  induction d with
  | zero =>
    intro u acc hd hu ha
    exact digits_one u acc (by omega) (by omega)
  | succ d ih =>
    intro u acc hd hu ha
    have hsz := bs_size acc
    by_cases h : u < 10
    · exact digits_one u acc h (by omega)
    · have hr : u % 10 < 10 := Nat.mod_lt _ (by omega)
      have hu2 : 10 ^ (d + 1 + 1) ≤ 10 ^ 12 := Nat.pow_le_pow_right (by omega) (by omega)
      have e12 : 10 ^ 12 = 1000000000000 := by decide
      have ed := digit_text ⟨u % 10, hr⟩
      simp only at ed
      have et : Int.tmod (u : Int) 10 = ((u % 10 : Nat) : Int) := by rw [Int.tmod_eq_emod_of_nonneg (by omega)]; omega
      have eq : wrap64 (Int.tdiv (u : Int) 10) = ((u / 10 : Nat) : Int) := by
        rw [Int.tdiv_eq_ediv_of_nonneg (by omega), wrap_small (by omega) (by omega)]; omega
      have ew : wrap64 (((u % 10 : Nat) : Int) + 1) = ((u % 10 + 1 : Nat) : Int) := by rw [wrap_small (by omega) (by omega)]; omega
      have e1 : (bs [UInt8.ofNat (48 + u % 10)]).size = 1 := bs_size _
      have ih2 := ih (u / 10) ([UInt8.ofNat (48 + u % 10)] ++ acc) (by omega) (by rw [Nat.pow_succ] at hu; omega) (by simp; omega)
      have er : Lib.decDigits (u / 10) ++ ([UInt8.ofNat (48 + u % 10)] ++ acc) = Lib.decDigits u ++ acc := by
        conv => rhs; rw [Lib.decDigits, dif_neg h]
        rw [List.append_assoc]
      rw [er] at ih2
      refine Ev.step (fun k => ?_) ih2
      rw [wherryref11_Digits.l0, if_pos (by omega)]
      simp only [et, ew, eq, Int.toNat_natCast, ed, e1]
      rw [if_pos (by omega), if_pos (by omega), if_pos (by omega), if_pos (by omega), bs_app]
theorem digits_length : ∀ (k u : Nat), u < 10 ^ (k + 1) → (Lib.decDigits u).length ≤ k + 1 := by
  intro k
  induction k with
  | zero =>
    intro u hu
    rw [Lib.decDigits, dif_pos (by omega)]; simp
  | succ k ih =>
    intro u hu
    by_cases h : u < 10
    · rw [Lib.decDigits, dif_pos h]; simp
    · rw [Lib.decDigits, dif_neg h]
      have := ih (u / 10) (by rw [Nat.pow_succ] at hu; omega)
      simp; omega
/-! ### The lines -/
theorem path_mk {loc dom : List UInt8} (h : checkL false loc dom = true) : pathT (60 :: loc ++ 64 :: dom ++ [62]) = some (false, loc, dom) := by
  have h2 := h
  rw [checkL, if_neg (by decide), Bool.and_eq_true] at h2
  have hno : (64 : UInt8) ∉ loc := fun hm => by
    rcases local_chars h2.1 64 hm with q | q
    · exact absurd q (by decide)
    · exact absurd q (by decide)
  have hd : (loc ++ 64 :: dom ++ [62]).dropLast = loc ++ 64 :: dom := List.dropLast_concat
  have hc : cutC 64 (loc ++ 64 :: dom ++ [62]).dropLast = (loc, dom, true) := by rw [hd]; exact cutC_mk dom hno
  unfold pathT
  rw [if_neg (by
    intro e
    have := congrArg List.length e
    simp at this
    omega)]
  show (if (60 : UInt8) = 60 ∧ (loc ++ 64 :: dom ++ [62]).getLast? = some 62 ∧ (cutC 64 (loc ++ 64 :: dom ++ [62]).dropLast).2.2 = true ∧ checkL false (cutC 64 (loc ++ 64 :: dom ++ [62]).dropLast).1 (cutC 64 (loc ++ 64 :: dom ++ [62]).dropLast).2.1 = true then some (false, (cutC 64 (loc ++ 64 :: dom ++ [62]).dropLast).1, (cutC 64 (loc ++ 64 :: dom ++ [62]).dropLast).2.1) else none) = _
  rw [hc, if_pos ⟨rfl, List.getLast?_concat, rfl, h⟩]
theorem sign_print {c : UInt8} (h : signC c = true) : printC c = true := by
  have key : ∀ c : Fin 256, signC (UInt8.ofNat c.val) = true → printC (UInt8.ofNat c.val) = true := by decide +kernel
  have := key ⟨c.toNat, c.toNat_lt⟩
  simp only [UInt8.ofNat_toNat] at this
  exact this h
theorem path_print {loc dom : List UInt8} (h : checkL false loc dom = true) : (60 :: loc ++ 64 :: dom ++ [62]).all printC = true := by
  rw [checkL, if_neg (by decide), Bool.and_eq_true] at h
  have h1 : loc.all printC = true := List.all_eq_true.2 fun c hc => by
    rcases local_chars h.1 c hc with q | q
    · exact sign_print q
    · rw [q]; rfl
  rw [List.all_append, List.all_append, List.all_cons, List.all_cons, h1, domain_print h.2]
  rfl
theorem mailbox_mk {kind : Int} {T : List UInt8} {loc dom : List UInt8} (hT : pathT T = some (false, loc, dom)) (ws : List (List UInt8)) (hw : ∀ w ∈ ws, (32 : UInt8) ∉ w) :
    mailboxT kind (T ++ ws.flatMap fun w => 32 :: w) = (paramsT kind ws []).map fun ps => (kind, [], false, loc, dom, ps) := by
  obtain ⟨_, _, _, h32⟩ := path_end hT
  unfold mailboxT
  rw [pieces_mk ws T h32 hw]
  simp only [hT, Option.bind_some]
  cases paramsT kind ws [] with
  | none => rfl
  | some ps => simp
theorem par_none {kind : Int} {w : List UInt8} {ws : List (List UInt8)} {out : List ParL} (h : parOne kind w = none) : paramsT kind (w :: ws) out = none := by
  rw [paramsT, h]; rfl
theorem cut_size (N : List UInt8) : cutC 61 (kSize ++ 61 :: N) = (kSize, N, true) := cutC_mk N (by decide)
theorem par_size {kind : Int} {N : List UInt8} : parOne kind (kSize ++ 61 :: N) = if kind = 2 ∧ numL 9 N = true then some (kSize, N) else none := by
  rw [parOne_eq]
  unfold parR
  rw [cut_size, if_pos rfl, if_pos (show foldL kSize = bSize by decide)]
theorem num_space {N : List UInt8} (h : numL 9 N = true) : (32 : UInt8) ∉ N ∧ N.all printC = true ∧ N ≠ [] := by
  simp only [numL, Bool.and_eq_true] at h
  refine ⟨fun hm => absurd (List.all_eq_true.1 h.1.1.1 _ hm) (by decide), List.all_eq_true.2 fun c hc => digit_print (List.all_eq_true.1 h.1.1.1 c hc), fun e => by rw [e] at h; simp at h⟩
theorem answer_mail {T : List UInt8} (ws : List (List UInt8)) (hl : (T ++ ws.flatMap fun w => 32 :: w).length ≤ 500) (hp : (T ++ ws.flatMap fun w => 32 :: w).all printC = true) :
    parseT ([77, 65, 73, 76, 32, 70, 82, 79, 77, 58] ++ (T ++ ws.flatMap fun w => 32 :: w)) = answerB (mailboxT 2 (T ++ ws.flatMap fun w => 32 :: w)) := mail_line hl hp
theorem answer_rcpt {T : List UInt8} (ws : List (List UInt8)) (hl : (T ++ ws.flatMap fun w => 32 :: w).length ≤ 502) (hp : (T ++ ws.flatMap fun w => 32 :: w).all printC = true) :
    parseT ([82, 67, 80, 84, 32, 84, 79, 58] ++ (T ++ ws.flatMap fun w => 32 :: w)) = answerB (mailboxT 3 (T ++ ws.flatMap fun w => 32 :: w)) := rcpt_line hl hp
def badLines (T N : List UInt8) : List (List UInt8) :=
  [[77, 65, 73, 76, 32, 70, 82, 79, 77, 58] ++ (T ++ [kSize ++ 61 :: N, kSize ++ 61 :: N].flatMap fun w => 32 :: w),
   [77, 65, 73, 76, 32, 70, 82, 79, 77, 58] ++ (T ++ [[78, 79, 84, 73, 70, 89, 61, 78, 69, 86, 69, 82]].flatMap fun w => 32 :: w),
   [82, 67, 80, 84, 32, 84, 79, 58] ++ (T ++ [kSize ++ 61 :: N].flatMap fun w => 32 :: w),
   [82, 67, 80, 84, 32, 84, 79, 58, 60, 62],
   [77, 65, 73, 76, 32, 70, 82, 79, 77, 58] ++ (T ++ [kSize ++ 61 :: 48 :: N].flatMap fun w => 32 :: w),
   [77, 65, 73, 76, 32, 70, 82, 79, 77, 58] ++ (T ++ [[], kSize ++ 61 :: N].flatMap fun w => 32 :: w),
   [77, 65, 73, 76, 32, 70, 82, 79, 77, 58] ++ ([] ++ [T].flatMap fun w => 32 :: w),
   [82, 67, 80, 84, 32, 84, 79, 58] ++ (T ++ [[78, 79, 84, 73, 70, 89, 61, 65, 76, 87, 65, 89, 83]].flatMap fun w => 32 :: w)]
theorem bad_all {loc dom N : List UInt8} (h : checkL false loc dom = true) (hl : loc.length + dom.length ≤ 200) (hN : numL 9 N = true) (hN9 : N.length ≤ 9) : ∀ l ∈ badLines (60 :: loc ++ 64 :: dom ++ [62]) N, parseT l = (noL, 501) := by
  have hT := path_mk h
  have hP := path_print h
  have hTl : (60 :: loc ++ 64 :: dom ++ [62]).length ≤ 203 := by simp only [List.length_append, List.length_cons, List.length_nil]; omega
  obtain ⟨_, _, _, h32⟩ := path_end hT
  generalize 60 :: loc ++ 64 :: dom ++ [62] = T at *
  obtain ⟨n1, n2, n3⟩ := num_space hN
  have ns : (32 : UInt8) ∉ kSize ++ 61 :: N := by simp [kSize, n1]
  have ns0 : (32 : UInt8) ∉ kSize ++ 61 :: 48 :: N := by simp [kSize, n1]
  have ps : (kSize ++ 61 :: N).all printC = true := by rw [List.all_append, List.all_cons, n2]; decide
  have ps0 : (kSize ++ 61 :: 48 :: N).all printC = true := by rw [List.all_append, List.all_cons, List.all_cons, n2]; decide
  have ls : (kSize ++ 61 :: N).length ≤ 14 := by simp [kSize]; omega
  have ls0 : (kSize ++ 61 :: 48 :: N).length ≤ 15 := by simp [kSize]; omega
  generalize hZ : kSize ++ 61 :: N = Z at *
  generalize hZ0 : kSize ++ 61 :: 48 :: N = Z0 at *
  have hp2 : parOne 2 Z = some (kSize, N) := by rw [← hZ, par_size, if_pos ⟨rfl, hN⟩]
  have hp3 : parOne 3 Z = none := by rw [← hZ, par_size, if_neg (fun h => absurd h.1 (by decide))]
  have hp0 : parOne 2 Z0 = none := by
    rw [← hZ0, par_size, if_neg (fun h => ?_)]
    have := h.2
    simp [numL] at this
    exact n3 this.2
  have p32 : printC 32 = true := by decide
  intro l hm
  simp only [badLines, List.mem_cons, List.not_mem_nil, or_false] at hm
  rcases hm with rfl | rfl | rfl | rfl | rfl | rfl | rfl | rfl
  · rw [hZ, answer_mail _ (by simp; omega) (by simp [hP, ps, p32]), mailbox_mk hT _ (by simp [ns]), paramsT, hp2]
    simp only [Option.bind_some, List.any_nil, Bool.false_eq_true, if_false, paramsT, hp2, List.nil_append, List.any_cons, beq_self_eq_true, Bool.true_or, if_true]
    rfl
  · rw [answer_mail _ (by simp; omega) (by simp [hP]; decide), mailbox_mk hT _ (by decide), par_none (by decide)]; rfl
  · rw [hZ, answer_rcpt _ (by simp; omega) (by simp [hP, ps, p32]), mailbox_mk hT _ (by simp [ns]), par_none hp3]; rfl
  · rfl
  · rw [hZ0, answer_mail _ (by simp; omega) (by simp [hP, ps0, p32]), mailbox_mk hT _ (by simp [ns0]), par_none hp0]; rfl
  · rw [hZ, answer_mail _ (by simp; omega) (by simp [hP, ps, p32]), mailbox_mk hT _ (by simp [ns]), par_none (by decide)]; rfl
  · rw [answer_mail _ (by simp; omega) (by simp [hP, p32])]
    unfold mailboxT
    rw [pieces_mk [T] [] (by simp) (by simpa using h32)]
    rfl
  · rw [answer_rcpt _ (by simp; omega) (by simp [hP]; decide), mailbox_mk hT _ (by decide), par_none (by decide)]; rfl
theorem good_line {loc dom N : List UInt8} (h : checkL false loc dom = true) (hl : loc.length + dom.length ≤ 200) (hN : numL 9 N = true) (hN9 : N.length ≤ 9) :
    parseT ([77, 65, 73, 76, 32, 70, 82, 79, 77, 58] ++ ((60 :: loc ++ 64 :: dom ++ [62]) ++ [kSize ++ 61 :: N, [82, 69, 84, 61, 104, 100, 114, 115]].flatMap fun w => 32 :: w)) = ((2, [], false, loc, dom, [(kSize, N), (kRet, vHdrs)]), 0) := by
  have hT := path_mk h
  have hP := path_print h
  have hTl : (60 :: loc ++ 64 :: dom ++ [62]).length ≤ 203 := by simp only [List.length_append, List.length_cons, List.length_nil]; omega
  generalize 60 :: loc ++ 64 :: dom ++ [62] = T at *
  obtain ⟨n1, n2, n3⟩ := num_space hN
  have ns : (32 : UInt8) ∉ kSize ++ 61 :: N := by simp [kSize, n1]
  have ps : (kSize ++ 61 :: N).all printC = true := by rw [List.all_append, List.all_cons, n2]; decide
  have ls : (kSize ++ 61 :: N).length ≤ 14 := by simp [kSize]; omega
  generalize hZ : kSize ++ 61 :: N = Z at *
  have hp2 : parOne 2 Z = some (kSize, N) := by rw [← hZ, par_size, if_pos ⟨rfl, hN⟩]
  have hpr : parOne 2 [82, 69, 84, 61, 104, 100, 114, 115] = some (kRet, vHdrs) := by decide
  have p32 : printC 32 = true := by decide
  rw [answer_mail _ (by simp; omega) (by simp [hP, ps, p32]; decide), mailbox_mk hT _ (by simp [ns]), paramsT, hp2]
  simp only [Option.bind_some, List.any_nil, Bool.false_eq_true, if_false, paramsT, hpr, List.nil_append, List.any_cons]
  rfl
theorem lit_mail : (⟨#[77, 65, 73, 76, 32, 70, 82, 79, 77, 58]⟩ : ByteArray).size = 10 := rfl
theorem lit_rcpt : (⟨#[82, 67, 80, 84, 32, 84, 79, 58]⟩ : ByteArray).size = 8 := rfl
theorem lit_size : (⟨#[32, 83, 73, 90, 69, 61]⟩ : ByteArray).size = 6 := rfl
theorem lit_size0 : (⟨#[32, 83, 73, 90, 69, 61, 48]⟩ : ByteArray).size = 7 := rfl
theorem lit_size2 : (⟨#[32, 32, 83, 73, 90, 69, 61]⟩ : ByteArray).size = 7 := rfl
theorem lit_ret : (⟨#[32, 82, 69, 84, 61, 104, 100, 114, 115]⟩ : ByteArray).size = 9 := rfl
theorem texts_eq (T N : List UInt8) :
    ([(((((⟨#[77, 65, 73, 76, 32, 70, 82, 79, 77, 58]⟩ : ByteArray) ++ bs T) ++ (⟨#[32, 83, 73, 90, 69, 61]⟩ : ByteArray)) ++ bs N) ++ (⟨#[32, 83, 73, 90, 69, 61]⟩ : ByteArray)) ++ bs N, ((⟨#[77, 65, 73, 76, 32, 70, 82, 79, 77, 58]⟩ : ByteArray) ++ bs T) ++ (⟨#[32, 78, 79, 84, 73, 70, 89, 61, 78, 69, 86, 69, 82]⟩ : ByteArray), (((⟨#[82, 67, 80, 84, 32, 84, 79, 58]⟩ : ByteArray) ++ bs T) ++ (⟨#[32, 83, 73, 90, 69, 61]⟩ : ByteArray)) ++ bs N, (⟨#[82, 67, 80, 84, 32, 84, 79, 58, 60, 62]⟩ : ByteArray), (((⟨#[77, 65, 73, 76, 32, 70, 82, 79, 77, 58]⟩ : ByteArray) ++ bs T) ++ (⟨#[32, 83, 73, 90, 69, 61, 48]⟩ : ByteArray)) ++ bs N, (((⟨#[77, 65, 73, 76, 32, 70, 82, 79, 77, 58]⟩ : ByteArray) ++ bs T) ++ (⟨#[32, 32, 83, 73, 90, 69, 61]⟩ : ByteArray)) ++ bs N, (⟨#[77, 65, 73, 76, 32, 70, 82, 79, 77, 58, 32]⟩ : ByteArray) ++ bs T, ((⟨#[82, 67, 80, 84, 32, 84, 79, 58]⟩ : ByteArray) ++ bs T) ++ (⟨#[32, 78, 79, 84, 73, 70, 89, 61, 65, 76, 87, 65, 89, 83]⟩ : ByteArray)] : List ByteArray) = (badLines T N).map bs := by
  have c : ∀ a : List UInt8, (⟨a.toArray⟩ : ByteArray) = bs a := fun _ => rfl
  simp only [c, bs_app, badLines, List.map_cons, List.map_nil, List.flatMap_cons, List.flatMap_nil, kSize, List.append_nil, List.nil_append, List.append_assoc, List.cons_append]
theorem good_eq (T N : List UInt8) : ((((⟨#[77, 65, 73, 76, 32, 70, 82, 79, 77, 58]⟩ : ByteArray) ++ bs T) ++ (⟨#[32, 83, 73, 90, 69, 61]⟩ : ByteArray)) ++ bs N) ++ (⟨#[32, 82, 69, 84, 61, 104, 100, 114, 115]⟩ : ByteArray) = bs ([77, 65, 73, 76, 32, 70, 82, 79, 77, 58] ++ (T ++ [kSize ++ 61 :: N, [82, 69, 84, 61, 104, 100, 114, 115]].flatMap fun w => 32 :: w)) := by
  have c : ∀ a : List UInt8, (⟨a.toArray⟩ : ByteArray) = bs a := fun _ => rfl
  simp only [c, bs_app, List.flatMap_cons, List.flatMap_nil, kSize, List.append_nil, List.nil_append, List.append_assoc, List.cons_append]
theorem mod_nat (m : Nat) (hm : 0 < m) (hm2 : m ≤ 1000000000) (x : Int) : ∃ u : Nat, wrap64 (Int.tmod (IntKind.u64.wrap x) (m : Int)) = (u : Int) ∧ u < m := by
  have h0 : 0 ≤ IntKind.u64.wrap x ∧ IntKind.u64.wrap x < 18446744073709551616 := by rw [IntKind.wrap_u64]; omega
  have h2 := Int.emod_nonneg (IntKind.u64.wrap x) (show (m : Int) ≠ 0 by omega)
  have h3 := Int.emod_lt_of_pos (IntKind.u64.wrap x) (show (0 : Int) < (m : Int) by omega)
  refine ⟨((IntKind.u64.wrap x) % (m : Int)).toNat, ?_, by omega⟩
  rw [Int.tmod_eq_emod_of_nonneg h0.1, wrap_small (by omega) (by omega)]
  omega
theorem params_j0 (loc dom : List UInt8) (x1 x2 : Int) (h : checkL false loc dom = true) (hl : loc.length + dom.length ≤ 200) : Ev (fun k => wherrylaw12_VerbParams.j0 k x1 x2 false false (bs loc) (bs dom)) true := by
  obtain ⟨u, hu, hu9⟩ := mod_nat 1000000000 (by omega) (by omega) x1
  obtain ⟨i, hi, hi8⟩ := mod_nat 8 (by omega) (by omega) x2
  have ht : wherryref11_Text.f false (bs loc) (bs dom) = some (bs (60 :: loc ++ 64 :: dom ++ [62])) := by
    rw [wherryref11_Text.f, if_pos ⟨by rw [bs_size]; omega, by rw [bs_size]; omega⟩]
    rfl
  have hTl : (60 :: loc ++ 64 :: dom ++ [62]).length ≤ 203 := by simp only [List.length_append, List.length_cons, List.length_nil]; omega
  have hN9 := digits_length 8 u (by omega)
  have hN : numL 9 (Lib.decDigits u) = true := by
    rw [numL_eq, (numB_decDigits u).1, decide_eq_true hN9]; rfl
  have hd : Ev (fun k => wherryref11_Digits.f k (u : Int)) (bs (Lib.decDigits u)) := by
    have := digits_l0 8 u [] (by omega) (by omega) (by simp)
    rw [List.append_nil] at this
    exact this
  have hbad := bad_all h hl hN hN9
  have hgood := good_line h hl hN hN9
  generalize 60 :: loc ++ 64 :: dom ++ [62] = T at *
  generalize Lib.decDigits u = N at *
  have hT2 := bs_size T
  have hN2 := bs_size N
  have hbl : (badLines T N).length = 8 := rfl
  have hib : i < (badLines T N).length := by omega
  have hp1 : Ev (fun k => verb_Parse.f k (rdOf ByteArray.empty ((badLines T N).map bs) (i : Int))) (ret7 noL 501) := ⟨1201, fun k hk => by
    show verb_Parse.f k _ = _
    rw [rdOf_get (by rw [List.length_map]; exact hib), List.getElem_map, parse_eq k _ (by omega), hbad _ (List.getElem_mem hib)]⟩
  have hp2 : Ev (fun k => verb_Parse.f k (bs ([77, 65, 73, 76, 32, 70, 82, 79, 77, 58] ++ (T ++ [kSize ++ 61 :: N, [82, 69, 84, 61, 104, 100, 114, 115]].flatMap fun w => 32 :: w)))) (ret7 ((2, [], false, loc, dom, [(kSize, N), (kRet, vHdrs)]) : CmdL) 0) := ⟨1201, fun k hk => by
    show verb_Parse.f k _ = _
    rw [parse_eq k _ (by omega), hgood]⟩
  have hw : Ev (fun k => wherrylaw12_wakes.f k) true := ⟨60, wakes_k⟩
  have q1 := param_eq (2, [], false, loc, dom, [(kSize, N), (kRet, vHdrs)]) kSize (by show 2 < 2147483648; omega)
  have q2 := param_eq (2, [], false, loc, dom, [(kSize, N), (kRet, vHdrs)]) kRet (by show 2 < 2147483648; omega)
  have q3 := param_eq (2, [], false, loc, dom, [(kSize, N), (kRet, vHdrs)]) kNotify (by show 2 < 2147483648; omega)
  have hgl : ([77, 65, 73, 76, 32, 70, 82, 79, 77, 58] ++ (T ++ [kSize ++ 61 :: N, [82, 69, 84, 61, 104, 100, 114, 115]].flatMap fun w => 32 :: w)).length ≤ 300 := by simp [kSize]; omega
  have hgs := bs_size ([77, 65, 73, 76, 32, 70, 82, 79, 77, 58] ++ (T ++ [kSize ++ 61 :: N, [82, 69, 84, 61, 104, 100, 114, 115]].flatMap fun w => 32 :: w))
  have hu' : wrap64 (Int.tmod (IntKind.u64.wrap x1) 1000000000) = (u : Int) := hu
  have hi' : wrap64 (Int.tmod (IntKind.u64.wrap x2) 8) = (i : Int) := hi
  refine Ev.step (fun k => by rw [wherrylaw12_VerbParams.j0, if_neg (by decide), ht, Option.bind_some, hu', hi']) (Ev.bind (g := fun k => wherryref11_Digits.f k (u : Int)) hd ?_)
  have hc : ∀ a : ByteArray, a.size ≤ 1000 → ∀ b : Nat, b ≤ 1000 → a.size + b ≤ 9223372036854775807 := fun a ha b hb => by omega
  refine Ev.congr (fun k => by rw [if_pos (by omega), if_pos (by simp only [ByteArray.size_append, lit_mail, hT2]; omega), if_pos (by simp only [ByteArray.size_append, lit_mail, lit_size, hT2, hN2]; omega), if_pos (by simp only [ByteArray.size_append, lit_mail, lit_size, hT2, hN2]; omega),
    if_pos (by simp only [ByteArray.size_append, lit_mail, lit_size, hT2, hN2]; omega), if_pos (by simp only [ByteArray.size_append, lit_mail, hT2]; omega), if_pos (by omega), if_pos (by simp only [ByteArray.size_append, lit_rcpt, hT2]; omega),
    if_pos (by simp only [ByteArray.size_append, lit_rcpt, lit_size, hT2, hN2]; omega), if_pos (by simp only [ByteArray.size_append, lit_mail, hT2]; omega), if_pos (by simp only [ByteArray.size_append, lit_mail, lit_size0, hT2, hN2]; omega),
    if_pos (by simp only [ByteArray.size_append, lit_mail, lit_size2, hT2, hN2]; omega), if_pos (by omega), if_pos (by simp only [ByteArray.size_append, lit_rcpt, hT2]; omega),
    texts_eq T N, Option.bind_some, if_pos (by omega), if_pos (by rw [List.length_map]; omega)]) ?_
  refine Ev.bind (g := fun k => verb_Parse.f k (rdOf ByteArray.empty ((badLines T N).map bs) (i : Int))) hp1 ?_
  refine Ev.congr (fun k => by rw [if_pos (by simp only [ByteArray.size_append, lit_mail, lit_size, hT2, hN2]; omega), good_eq T N]) ?_
  refine Ev.bind (g := fun k => verb_Parse.f k (bs ([77, 65, 73, 76, 32, 70, 82, 79, 77, 58] ++ (T ++ [kSize ++ 61 :: N, [82, 69, 84, 61, 104, 100, 114, 115]].flatMap fun w => 32 :: w)))) hp2 ?_
  refine Ev.congr (fun k => by rw [if_neg (by omega)]) ?_
  have q1' : verb_Param.f (ret7 ((2, [], false, loc, dom, [(kSize, N), (kRet, vHdrs)]) : CmdL) (0 : Int)).1 (ret7 ((2, [], false, loc, dom, [(kSize, N), (kRet, vHdrs)]) : CmdL) (0 : Int)).2.1 (ret7 ((2, [], false, loc, dom, [(kSize, N), (kRet, vHdrs)]) : CmdL) (0 : Int)).2.2.1 (ret7 ((2, [], false, loc, dom, [(kSize, N), (kRet, vHdrs)]) : CmdL) (0 : Int)).2.2.2.1 (ret7 ((2, [], false, loc, dom, [(kSize, N), (kRet, vHdrs)]) : CmdL) (0 : Int)).2.2.2.2.1 (ret7 ((2, [], false, loc, dom, [(kSize, N), (kRet, vHdrs)]) : CmdL) (0 : Int)).2.2.2.2.2.1 (⟨#[83, 73, 90, 69]⟩ : ByteArray) = some (bs N, true) := q1
  have q2' : verb_Param.f (ret7 ((2, [], false, loc, dom, [(kSize, N), (kRet, vHdrs)]) : CmdL) (0 : Int)).1 (ret7 ((2, [], false, loc, dom, [(kSize, N), (kRet, vHdrs)]) : CmdL) (0 : Int)).2.1 (ret7 ((2, [], false, loc, dom, [(kSize, N), (kRet, vHdrs)]) : CmdL) (0 : Int)).2.2.1 (ret7 ((2, [], false, loc, dom, [(kSize, N), (kRet, vHdrs)]) : CmdL) (0 : Int)).2.2.2.1 (ret7 ((2, [], false, loc, dom, [(kSize, N), (kRet, vHdrs)]) : CmdL) (0 : Int)).2.2.2.2.1 (ret7 ((2, [], false, loc, dom, [(kSize, N), (kRet, vHdrs)]) : CmdL) (0 : Int)).2.2.2.2.2.1 (⟨#[82, 69, 84]⟩ : ByteArray) = some (bs vHdrs, true) := q2
  have q3' : verb_Param.f (ret7 ((2, [], false, loc, dom, [(kSize, N), (kRet, vHdrs)]) : CmdL) (0 : Int)).1 (ret7 ((2, [], false, loc, dom, [(kSize, N), (kRet, vHdrs)]) : CmdL) (0 : Int)).2.1 (ret7 ((2, [], false, loc, dom, [(kSize, N), (kRet, vHdrs)]) : CmdL) (0 : Int)).2.2.1 (ret7 ((2, [], false, loc, dom, [(kSize, N), (kRet, vHdrs)]) : CmdL) (0 : Int)).2.2.2.1 (ret7 ((2, [], false, loc, dom, [(kSize, N), (kRet, vHdrs)]) : CmdL) (0 : Int)).2.2.2.2.1 (ret7 ((2, [], false, loc, dom, [(kSize, N), (kRet, vHdrs)]) : CmdL) (0 : Int)).2.2.2.2.2.1 (⟨#[78, 79, 84, 73, 70, 89]⟩ : ByteArray) = some (bs [], false) := q3
  have q4 : wherrykeep_Path.f (ret7 ((2, [], false, loc, dom, [(kSize, N), (kRet, vHdrs)]) : CmdL) (0 : Int)).2.2.1 (ret7 ((2, [], false, loc, dom, [(kSize, N), (kRet, vHdrs)]) : CmdL) (0 : Int)).2.2.2.1 (ret7 ((2, [], false, loc, dom, [(kSize, N), (kRet, vHdrs)]) : CmdL) (0 : Int)).2.2.2.2.1 false (bs loc) (bs dom) = some true := by
    show wherrykeep_Path.f false (bs loc) (bs dom) false (bs loc) (bs dom) = some true
    unfold wherrykeep_Path.f
    simp
  simp only [q1', q2', q3', q4, Option.bind_some, if_true]
  refine Ev.congr (f := fun k => (wherrylaw12_wakes.f k).bind fun t => some t) (fun k => ?_) (Ev.bind (f := fun _ t => some t) hw (Ev.now _))
  rw [if_pos (show (ret7 noL (501 : Int)).2.2.2.2.2.2 = 501 from rfl), if_pos (show (ret7 ((2, [], false, loc, dom, [(kSize, N), (kRet, vHdrs)]) : CmdL) (0 : Int)).2.2.2.2.2.2 = 0 from rfl), if_pos (show (bs vHdrs).toList = ([72, 68, 82, 83] : List UInt8) by rw [toList_data]; rfl), if_neg (by decide)]
theorem params_pure (nul : Bool) (loc dom : List UInt8) (x1 x2 : Int) (h1 : loc.length ≤ 140737488351232) (h2 : dom.length ≤ 140737488351232) : ∃ k, wherrylaw12_VerbParams.f k nul (bs loc) (bs dom) x1 x2 = some true := by
  have hs1 := bs_size loc
  have hs2 := bs_size dom
  have ht : ∀ n, Ev (fun k => wherrylaw12_VerbParams.j0 k x1 x2 true n (bs loc) (bs dom)) true := fun n =>
    Ev.step (f := fun _ => some true) (fun k => by rw [wherrylaw12_VerbParams.j0, if_pos rfl]) (Ev.now _)
  have ew : wrap64 (((bs loc).size : Int) + ((bs dom).size : Int)) = ((loc.length + dom.length : Nat) : Int) := by rw [wrap_small (by omega) (by omega)]; omega
  refine Ev.rounds (g := fun k => wherrylaw12_VerbParams.f k nul (bs loc) (bs dom) x1 x2) ?_
  by_cases hl : loc.length + dom.length ≤ 200
  · refine Ev.congr (fun k => by rw [wherrylaw12_VerbParams.f, ew, if_neg (by omega)]) (Ev.bind (g := fun k => wherryref11_Path.f k nul (bs loc) (bs dom)) (refpath_ev nul loc dom (by omega) (by omega)) ?_)
    cases hc : checkL nul loc dom with
    | false => simpa using ht nul
    | true =>
      simp only [if_true]
      cases nul with
      | true => exact ht true
      | false => exact params_j0 loc dom x1 x2 hc hl
  · exact Ev.congr (fun k => by rw [wherrylaw12_VerbParams.f, ew, if_pos (by omega)]) (ht nul)
end Go.Proofs.YthcdjgekmfnmnaaGreatDoor.PVerb
namespace Go.Proofs.YthcdjgekmfnmnaaGreatDoor
open Go.ChangeShapes Go.WideShapes Go.ChangeAt Go.RowKit PVerb
open Go.Proofs.YthcdjgekmfnmnaaGreatDoorW.PrintWords Go.Proofs.YthcdjgekmfnmnaaGreatDoorW.PrintLast Go.Proofs.YthcdjgekmfnmnaaGreatDoorW.PrintMore
theorem open_path {H : Type} {enc : TypeId × Value → H} {W : World} {b : Nat} {v : Value} {d : DataW H} {ps : List MemPlace} (hval : Value.okWide Tryz.prog W .any b 23 v)
    (hd : DataW.Trod enc Tryz.prog W 0 (fun _ => true) true 23 v d ps) (hz : (d.weights Tryz.prog 23).all (· ≤ reachBytes) = true) :
    ∃ (nl : Bool) (loc dom : List UInt8), v = .agg #[.bool nl, .string (bs loc), .string (bs dom)] ∧ loc.length ≤ 140737488351232 ∧ dom.length ≤ 140737488351232 := by
  have hR : reachBytes = 140737488351232 := rfl
  obtain ⟨cs, rfl, _⟩ := okWide_struct Tryz.underlying23 hval
  obtain ⟨fuel, hf⟩ := hd
  obtain ⟨xs, m, _, hx, hl, hxl, hF⟩ := DataW.trod_struct Tryz.underlying23 hf
  obtain ⟨rfl, rfl⟩ := Prod.mk.inj hx
  rw [cellsPath] at hl
  obtain ⟨cl⟩ := cs
  match xs, hxl, cl, hl with
  | [z0, z1, z2], _, [c2, c3, c4], _ =>
    have g0 : DataW.trod enc Tryz.prog W 0 (fun _ => true) true m 4 (([c2, c3, c4].drop 0).take (Tryz.prog.cellsOf 4)) = some z0 := hF 0 _ rfl
    have g1 : DataW.trod enc Tryz.prog W 0 (fun _ => true) true m 9 (([c2, c3, c4].drop 1).take (Tryz.prog.cellsOf 9)) = some z1 := hF 1 _ rfl
    have g2 : DataW.trod enc Tryz.prog W 0 (fun _ => true) true m 9 (([c2, c3, c4].drop 2).take (Tryz.prog.cellsOf 9)) = some z2 := hF 2 _ rfl
    rw [cellsBool] at g0
    rw [cellsStr] at g1 g2
    obtain ⟨nl, e2, rfl⟩ := DataW.trod_bool Tryz.underlying4 g0
    obtain ⟨s3, e3, rfl, _⟩ := DataW.trod_string Tryz.underlying9 g1
    obtain ⟨s4, e4, rfl, _⟩ := DataW.trod_string Tryz.underlying9 g2
    have r2 : c2 = .bool nl := by simpa using e2
    have r3 : c3 = .string s3 := by simpa using e3
    have r4 : c4 = .string s4 := by simpa using e4
    subst r2; subst r3; subst r4
    have hw : DataW.weights Tryz.prog 23 (.agg [.lit (.bool nl), .lit (.string s3.data.toList), .lit (.string s4.data.toList)] : DataW H) = s3.data.toList.length :: s4.data.toList.length :: [] := by
      rw [DataW.weights, Tryz.underlying23]
      simp only [List.map_cons, List.map_nil, DataW.weightsEach, DataW.weights, List.nil_append, List.cons_append, List.append_nil]
    have hz2 : (DataW.weights Tryz.prog 23 (.agg [.lit (.bool nl), .lit (.string s3.data.toList), .lit (.string s4.data.toList)] : DataW H)).all (· ≤ reachBytes) = true := hz
    rw [hw] at hz2
    simp only [List.all_cons, Bool.and_eq_true, decide_eq_true_eq] at hz2
    obtain ⟨w3, w4, _⟩ := hz2
    exact ⟨nl, s3.data.toList, s4.data.toList, rfl, by omega, by omega⟩
theorem verbParams_walked : Walked 4 Tryz.f4 := by
  intro H enc W base args ds p hval hA hz hG
  rw [Tryz.params4] at hA hval hz
  obtain ⟨v0, v1, v2, d0, d1, d2, p0, p1, p2, rfl, rfl, rfl, h0, h1, h2⟩ := trodAll_three hA
  obtain ⟨x1, rfl, rfl, rfl, w1⟩ := open_int Tryz.underlying3 (hval 1 3 v1 rfl rfl) h1
  obtain ⟨x2, rfl, rfl, rfl, w2⟩ := open_int Tryz.underlying3 (hval 2 3 v2 rfl rfl) h2
  have hz1 : (d0.weights Tryz.prog 23).all (· ≤ reachBytes) = true := by
    refine List.all_eq_true.2 fun n hn => List.all_eq_true.1 hz n ?_
    show n ∈ d0.weights Tryz.prog 23 ++ _
    exact List.mem_append_left _ hn
  obtain ⟨nul, loc, dom, rfl, hs1, hs2⟩ := open_path (hval 0 23 v0 rfl rfl) h0 hz1
  obtain ⟨k, hk⟩ := params_pure nul loc dom x1 x2 hs1 hs2
  exact (wherrylaw12_VerbParams.calls k nul (bs loc) (bs dom) x1 x2 true W hG rfl hk).mono fun e w' h => h

theorem verbParams_lifted (os : Os) (started : os.Started) (H : Type) (enc : TypeId × Value → H) (F : Stop.Interp) :
    ReturnsInHanded {} Tryz.checked os 4 .any ((OpenSpec.ofChange Rows.verbParamsSpec).preRow enc Tryz.prog Tryz.f4 Rows.verbParamsRow.domain false Rows.verbParamsRow.laid) (((OpenSpec.ofChange Rows.verbParamsSpec).at F).post enc Tryz.prog Tryz.f4 false true false false) := by
  refine row_of_walk os started H enc F (by kernel_rfl) Tryz.func4 rfl (by kernel_rfl) rfl ?_ (fun w h => by rwa [MakeChecks.laidMetH_plain _ _ _ (by kernel_rfl)] at h) (by kernel_rfl) (by kernel_rfl) (by kernel_rfl) verbParams_walked
    (witness_row_atRef (enc := enc) (C := Tryz.checked) false (World.laidAll Tryz.prog os Rows.verbParamsRow.laid) #[.agg #[.bool false, .string ⟨#[]⟩, .string ⟨#[]⟩], .int .i64 0, .int .i64 0] (World.laidAll_os _ _ _) (by kernel_rfl) (by kernel_rfl) (by kernel_rfl)
      (OpenSpec.preRow_of_cond (x := ([.agg [.lit (.bool false), .lit (.string []), .lit (.string [])], .lit (.int .i64 0), .lit (.int .i64 0)], [], [])) 8 (by kernel_rfl) (by kernel_rfl) (fun k hk => by cases hk) (by kernel_rfl) (by rw [MakeChecks.laidMetH_plain _ _ _ (by kernel_rfl)]; exact laidMet_laidAll _ (by kernel_rfl) (by kernel_rfl))))
  intro ds h
  rw [Tryz.params4] at h
  match ds, h with
  | [_, _, _], _ => rfl

theorem verbParams_said : Rows.VerbParamsSaid :=
  OpenClaim.holds_of_cond 4 Tryz.f4 rfl rfl rfl rfl rfl rfl rfl ⟨rfl, rfl, rfl, rfl, rfl⟩ rfl rfl rfl rfl rfl (by kernel_rfl) Tryz.func4 (by kernel_rfl)
    (of_decide_eq_true (by kernel_rfl)) (by unfold Func.isWrapper; first | (rw [if_pos (by decide +kernel)]; kernel_rfl) | (rw [if_neg (by decide +kernel)]; exact ⟨rfl, rfl⟩))
    (fun os started H enc _ F => by rw [OpenClaim.pre_eq_preRow]; exact verbParams_lifted os started H enc F)

theorem verbParams_plain (f : FuncId) (fn : Func) (hf : Tryz.pinned.checked.prog.funcNamed "wherry/wherrylaw12.VerbParams" = some f) (hfn : Tryz.pinned.checked.prog.funcs[f]? = some fn) :
    true = Tryz.pinned.checked.prog.looks [] ∧ ∀ (j : Nat) t, fn.params[j]? = some t → Tryz.pinned.checked.prog.wantsStandIn t = false := by
  obtain rfl : f = 4 := Option.some.inj ((show Tryz.prog.funcNamed "wherry/wherrylaw12.VerbParams" = some 4 by kernel_rfl).symm.trans hf) |>.symm
  obtain rfl : fn = Tryz.f4 := (Option.some.inj (Tryz.func4.symm.trans hfn)).symm
  refine ⟨by kernel_rfl, fun j t ht => ?_⟩
  have hm : t ∈ Tryz.f4.params.toList := Array.mem_toList_iff.2 (Array.mem_of_getElem? ht)
  have hall : (Tryz.f4.params.toList.all fun u => !Tryz.prog.wantsStandIn u) = true := by kernel_rfl
  exact (show Tryz.prog.wantsStandIn t = false by simpa using List.all_eq_true.1 hall t hm)

theorem verbParams_card : Rows.VerbParamsCardSaid :=
  Claim7.holds_tied_plain_at .later [] _ _ _ _ verbParams_said (fun _ h => by cases h) (by kernel_rfl) (fun _ h => by cases h) verbParams_row_tie rfl ⟨rfl, rfl⟩ (by kernel_rfl) rfl verbParams_plain (by kernel_rfl)
#print axioms verbParams_card

end Go.Proofs.YthcdjgekmfnmnaaGreatDoor
