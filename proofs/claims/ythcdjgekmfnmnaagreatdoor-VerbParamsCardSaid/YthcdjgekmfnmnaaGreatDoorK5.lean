/- Parts of the proof, put together by program. -/
import Derived.Test.YthcdjgekmfnmnaaGreatDoorK4
section
namespace Go.Proofs.YthcdjgekmfnmnaaGreatDoor.PVerb
open Go.RowKit Go.Proofs.YthcdjgekmfnmnaaGreatDoorW.PrintWords Go.Proofs.YthcdjgekmfnmnaaGreatDoorW.PrintLast Go.Proofs.YthcdjgekmfnmnaaGreatDoorW.PrintMore
set_option linter.unusedSimpArgs false
set_option linter.unusedVariables false
abbrev SP := S47
def mkP (p : ParL) : SP := ⟨bs p.1, bs p.2⟩
def ret7 {β : Type} (c : CmdL) (b : β) : Int × ByteArray × Bool × ByteArray × ByteArray × List SP × β :=
 (c.1, bs c.2.1, c.2.2.1, bs c.2.2.2.1, bs c.2.2.2.2.1, c.2.2.2.2.2.map mkP, b)
theorem extract_list (s : ByteArray) (a b : Nat) : s.extract a b = bs ((s.data.toList.take b).drop a) := by
 rw [← bs_of (s.extract a b)]
 congr 1
 simp [ByteArray.data_extract, List.extract_eq_take_drop]
 rw [List.drop_take]
theorem one_eq (s : ByteArray) (L : List (List UInt8)) (hs : s.size < 4294967281) (hl : L.length < 100) (hL : ∀ x ∈ L, x.length < 4294967281) :
  verb_one.f s (L.map bs) = some (bs ((oneL s.data.toList L).getD []), (oneL s.data.toList L).isSome) := by
 have hm : (L.map bs).find? (eqFold s) = (oneL s.data.toList L).map bs := by
  unfold oneL
  rw [List.find?_map]
  rfl
 unfold verb_one.f
 rw [if_pos ⟨hs, by simpa using hl, by
  intro x hx
  obtain ⟨y, hy, rfl⟩ := List.mem_map.1 hx
  rw [bs_size]; exact hL y hy⟩, hm]
 cases oneL s.data.toList L <;> rfl
theorem value_eq (kind : Int) (key val : ByteArray) (hs : val.size < 4294967281) :
  ∃ r, verb_value.f 3 kind key val = some (r, (valueT kind key.data.toList val.data.toList).isSome) ∧ ∀ v, valueT kind key.data.toList val.data.toList = some v → r = bs v := by
 have hn : verb_number.f val = some (numL 9 val.data.toList) := by rw [verb_number.f, if_pos hs]
 have h1 := one_eq val [vFull, vHdrs] hs (by decide) (by decide)
 have h2 := one_eq val [vNever, vFail] hs (by decide) (by decide)
 have e1 : ([vFull, vHdrs] : List (List UInt8)).map bs = [(⟨#[70, 85, 76, 76]⟩ : ByteArray), (⟨#[72, 68, 82, 83]⟩ : ByteArray)] := rfl
 have e2 : ([vNever, vFail] : List (List UInt8)).map bs = [(⟨#[78, 69, 86, 69, 82]⟩ : ByteArray), (⟨#[70, 65, 73, 76, 85, 82, 69]⟩ : ByteArray)] := rfl
 rw [e1] at h1
 rw [e2] at h2
 by_cases k2 : kind = 2
 ·
  subst k2
  simp only [verb_value.f, verb_value.j0, verb_value.j1, toList_data, if_true, hn, h1, h2, Option.bind_some]
  by_cases ks : key.data.toList = kSize
  ·
   rw [if_pos (by rw [ks]; rfl)]
   have e : valueT 2 key.data.toList val.data.toList = if numL 9 val.data.toList then some val.data.toList else none := by rw [valueT, if_pos ⟨rfl, ks⟩]
   rw [e]
   refine ⟨val, by cases numL 9 val.data.toList <;> rfl, ?_⟩
   intro v hv
   split at hv
   ·
    cases hv; rfl
   ·
    cases hv
  ·
   rw [if_neg (by intro h; exact ks (beq_iff_eq.1 h))]
   by_cases kr : key.data.toList = kRet
   ·
    rw [if_pos (by rw [kr]; rfl)]
    have e : valueT 2 key.data.toList val.data.toList = oneL val.data.toList [vFull, vHdrs] := by rw [valueT, if_neg (fun h => ks h.2), if_pos ⟨rfl, kr⟩]
    rw [e]
    exact ⟨_, rfl, fun v hv => by rw [hv]; rfl⟩
   ·
    rw [if_neg (by intro h; exact kr (beq_iff_eq.1 h)), if_neg (by decide)]
    have e : valueT 2 key.data.toList val.data.toList = none := by rw [valueT, if_neg (fun h => ks h.2), if_neg (fun h => kr h.2), if_neg (fun h => absurd h.1 (by decide))]
    rw [e]
    exact ⟨_, rfl, fun v hv => by cases hv⟩
 ·
  simp only [verb_value.f, verb_value.j0, verb_value.j1, toList_data, if_neg k2, Bool.false_eq_true, if_false, h2, Option.bind_some]
  by_cases k3 : kind = 3 ∧ key.data.toList = kNotify
  ·
   rw [if_pos k3.1, if_pos (show key.data.toList = [78, 79, 84, 73, 70, 89] from k3.2)]
   have e : valueT kind key.data.toList val.data.toList = oneL val.data.toList [vNever, vFail] := by rw [valueT, if_neg (fun h => k2 h.1), if_neg (fun h => k2 h.1), if_pos k3]
   rw [e]
   exact ⟨_, rfl, fun v hv => by rw [hv]; rfl⟩
  ·
   have e : valueT kind key.data.toList val.data.toList = none := by rw [valueT, if_neg (fun h => k2 h.1), if_neg (fun h => k2 h.1), if_neg k3]
   rw [e]
   refine ⟨bs [], ?_, fun v hv => by cases hv⟩
   by_cases k : kind = 3
   ·
    rw [if_pos k, if_neg (show ¬ key.data.toList = [78, 79, 84, 73, 70, 89] from fun h => k3 ⟨k, h⟩)]; rfl
   ·
    rw [if_neg k]; rfl
theorem cut_len {s : UInt8} (l : List UInt8) : (cutC s l).1.length ≤ l.length ∧ (cutC s l).2.1.length ≤ l.length := by
 induction l with
 | nil => simp [cutC]
 | cons c l ih =>
  rw [cutC]
  split
  ·
   simp
  ·
   simp only [List.length_cons]; omega
theorem any_map (k : List UInt8) (out : List ParL) : (out.map mkP).any (keyIs (bs k)) = out.any fun q => q.1 == k := by
 rw [List.any_map]; rfl
theorem params_eq (kind : Int) : ∀ (ws : List (List UInt8)) (out : List ParL), (∀ w ∈ ws, w.length < 4294967281) →
  verb_params.l kind (ws.map bs) (out.map mkP) = some (match paramsT kind ws out with | some ps => (ps.map mkP, true) | none => ([], false))
 | [], out, _ => rfl
 | w :: ws, out, hw => by
  have hwl := hw w (by simp)
  have hc := cut_len (s := 61) w
  have h0 : strings_Cut.f (bs w) ⟨#[61]⟩ = some (bs (cutC 61 w).1, bs (cutC 61 w).2.1, (cutC 61 w).2.2) := by
   rw [strings_Cut.f, if_pos (by rw [bs_size]; exact hwl)]
   have : Lib.cut (bs w).data.toList (⟨#[61]⟩ : ByteArray).data.toList = cutC 61 w := cut_one 61 w
   rw [this]
  have h1 := one_eq (bs (cutC 61 w).1) [kSize, kRet, kNotify] (by rw [bs_size]; omega) (by decide) (by decide)
  rw [bs_data] at h1
  have e1 : ([kSize, kRet, kNotify] : List (List UInt8)).map bs = [(⟨#[83, 73, 90, 69]⟩ : ByteArray), (⟨#[82, 69, 84]⟩ : ByteArray), (⟨#[78, 79, 84, 73, 70, 89]⟩ : ByteArray)] := rfl
  rw [e1] at h1
  rw [List.map_cons, verb_params.l, h0, Option.bind_some, h1, Option.bind_some]
  obtain ⟨r, hv, hr⟩ := value_eq kind (bs ((oneL (cutC 61 w).1 [kSize, kRet, kNotify]).getD [])) (bs (cutC 61 w).2.1) (by rw [bs_size]; omega)
  rw [hv, Option.bind_some]
  rw [paramsT]
  unfold parOne
  simp only [bs_data] at hr ⊢
  cases hcc : (cutC 61 w).2.2 with
  | false => simp
  | true =>
   cases ho : oneL (cutC 61 w).1 [kSize, kRet, kNotify] with
   | none => simp
   | some key =>
    rw [ho] at hr
    simp only [Option.getD_some, Option.isSome_some, true_and, if_true, Option.bind_some] at hr ⊢
    cases hvv : valueT kind key (cutC 61 w).2.1 with
    | none => simp
    | some v =>
     obtain rfl := hr v hvv
     simp only [Option.isSome_some, true_and, Option.map_some, Option.bind_some, any_map]
     by_cases hd : out.any (fun q => q.1 == key) = true
     ·
      rw [hd]; simp
     ·
      rw [Bool.not_eq_true] at hd
      rw [hd]
      simp only [if_true, Bool.false_eq_true, if_false]
      have := params_eq kind ws (out ++ [(key, v)]) fun x hx => hw x (by simp [hx])
      rw [List.map_append] at this
      exact this
theorem cutprefix_eq (c : UInt8) (l : List UInt8) : strings_CutPrefix.f (bs l) ⟨#[c]⟩ = some (match l with | a :: m => if a = c then (bs m, true) else (bs (a :: m), false) | [] => (bs [], false)) := by
 have e1 : (⟨#[c]⟩ : ByteArray).size = 1 := rfl
 unfold strings_CutPrefix.f stringslite_CutPrefix.f stringslite_HasPrefix.f
 simp only [e1, bs_size]
 cases l with
 | nil => simp
 | cons a m =>
  have e2 : ((1 : Nat) : Int).toNat = 1 := rfl
  have e5 : ((1 : Nat) : Int) ≤ ((a :: m).length : Int) := by rw [List.length_cons]; omega
  rw [if_pos e5, if_pos (by omega), if_pos e5, e2]
  simp only [Option.bind_some, extract_list, toList_data, bs_data, List.take_succ_cons, List.take_zero, List.drop_zero]
  by_cases h : a = c
  ·
   subst h
   rw [if_pos (by simp), if_pos (by omega), if_pos e5]
   simp
  ·
   rw [if_neg (by simp [h])]
   simp [h]
theorem cutsuffix_eq (c : UInt8) (l : List UInt8) (hl : l.length < 4611686018427387904) : strings_CutSuffix.f (bs l) ⟨#[c]⟩ = some (if l.getLast? = some c then (bs l.dropLast, true) else (bs l, false)) := by
 have e1 : (⟨#[c]⟩ : ByteArray).size = 1 := rfl
 unfold strings_CutSuffix.f stringslite_CutSuffix.f stringslite_HasSuffix.f
 simp only [e1, bs_size]
 by_cases h0 : l = []
 ·
  subst h0; simp
 ·
  have hp : 1 ≤ l.length := List.length_pos_iff.2 h0
  have ew : wrap64 ((l.length : Int) - ((1 : Nat) : Int)) = ((l.length - 1 : Nat) : Int) := by rw [wrap_small (by omega) (by omega)]; omega
  rw [ew, if_pos (by omega), if_pos (by omega), if_pos (by omega)]
  simp only [Option.bind_some, extract_list, toList_data, bs_data, Int.toNat_natCast]
  obtain ⟨m, a, rfl⟩ : ∃ m a, l = m ++ [a] := ⟨l.dropLast, l.getLast h0, (List.dropLast_concat_getLast h0).symm⟩
  have e4 : List.drop ((m ++ [a]).length - 1) (List.take (m ++ [a]).length (m ++ [a])) = [a] := by rw [List.take_length]; simp
  rw [e4, List.getLast?_concat]
  by_cases h : a = c
  ·
   subst h
   rw [if_pos (by simp), if_pos (by omega), if_pos (by omega), if_pos rfl]
   simp
  ·
   rw [if_neg (by simp [h]), if_neg (by simpa using h)]; rfl
theorem path_eq (h : List UInt8) (hs : h.length < 2147483648) :
  path_Parse.f (bs h) = some (match pathT h with | some p => (p.1, bs p.2.1, bs p.2.2, 0) | none => (false, bs [], bs [], 5)) := by
 unfold path_Parse.f
 rw [toList_data, bs_data]
 by_cases h0 : h = [60, 62]
 ·
  subst h0; rfl
 ·
  rw [if_neg h0]
  unfold pathT
  rw [if_neg h0]
  have hcut : ∀ l : List UInt8, l.length < 2147483648 → strings_Cut.f (bs l) ⟨#[64]⟩ = some (bs (cutC 64 l).1, bs (cutC 64 l).2.1, (cutC 64 l).2.2) := by
   intro l hl
   rw [strings_Cut.f, if_pos (by rw [bs_size]; omega)]
   have : Lib.cut (bs l).data.toList (⟨#[64]⟩ : ByteArray).data.toList = cutC 64 l := cut_one 64 l
   rw [this]
  rw [cutprefix_eq]
  cases h with
  | nil =>
   simp only [Option.bind_some]
   rw [cutsuffix_eq _ _ (by simp), Option.bind_some]
   split
   ·
    rw [hcut _ (by simp), Option.bind_some, if_neg (by decide)]; rfl
   ·
    rw [hcut _ (by simp), Option.bind_some, if_neg (by decide)]; rfl
  | cons a m =>
   have hm : m.length < 2147483648 := by simp at hs; omega
   simp only [Option.bind_some]
   by_cases ha : a = 60
   ·
    rw [if_pos ha]
    simp only
    rw [cutsuffix_eq _ _ (by omega), Option.bind_some]
    by_cases hl : m.getLast? = some 62
    ·
     rw [if_pos hl]
     have hd : m.dropLast.length < 2147483648 := by simp; omega
     have hc := cut_len (s := 64) m.dropLast
     rw [hcut _ hd, Option.bind_some]
     simp only [if_true]
     by_cases ht : (cutC 64 m.dropLast).2.2 = true
     ·
      rw [if_pos ht, path_Check.f, if_pos ⟨by rw [bs_size]; omega, by rw [bs_size]; omega⟩, Option.bind_some, bs_data, bs_data]
      by_cases hk : checkL false (cutC 64 m.dropLast).1 (cutC 64 m.dropLast).2.1 = true
      ·
       rw [if_pos (by rw [if_pos hk]), if_pos ⟨ha, hl, ht, hk⟩]
      ·
       rw [if_neg (by rw [if_neg hk]; decide), if_neg (fun k => hk k.2.2.2)]; rfl
     ·
      rw [if_neg ht, if_neg (fun k => ht k.2.2.1)]; rfl
    ·
     rw [if_neg hl, if_neg (fun k => hl k.2.1)]
     simp only
     rw [hcut _ (by omega), Option.bind_some, if_pos trivial, if_neg (by decide)]; rfl
   ·
    rw [if_neg ha, if_neg (fun k => ha k.1)]
    simp only
    rw [cutsuffix_eq _ _ (by simp; omega), Option.bind_some]
    split
    ·
     rw [hcut _ (by simp; omega), Option.bind_some, if_neg (by decide)]; rfl
    ·
     rw [hcut _ (by simp; omega), Option.bind_some, if_neg (by decide)]; rfl
theorem named_eq (kind : Int) (d : List UInt8) (hs : d.length < 2147483648) :
  verb_named.f kind (bs d) = some (match namedT kind d with | some c => ret7 c true | none => ret7 noL false) := by
 unfold verb_named.f
 rw [path_Domain.f, if_pos (by rw [bs_size]; omega), Option.bind_some, bs_data]
 unfold namedT
 cases domainL d <;> rfl
theorem pieces_len {s : UInt8} {l : List UInt8} {w : List UInt8} (h : w ∈ pieces s l) : w.length ≤ l.length := by
 cases hp : pieces s l with
 | nil => exact absurd hp (pieces_ne s l)
 | cons b t =>
  obtain ⟨e, _, _⟩ := pieces_join hp
  rw [hp] at h
  rw [e, List.length_append]
  rcases List.mem_cons.1 h with rfl | h
  ·
   omega
  ·
   obtain ⟨a, b', rfl⟩ := List.append_of_mem h
   simp only [List.flatMap_append, List.flatMap_cons, List.length_append, List.length_cons]
   omega
theorem pieces_count {s : UInt8} : ∀ l : List UInt8, (pieces s l).length ≤ l.length + 1
 | [] => by simp [pieces]
 | c :: l => by
  have ih := pieces_count (s := s) l
  rw [pieces]
  split
  ·
   simp; omega
  ·
   split
   ·
    simp
   ·
    rename_i e; rw [e] at ih; simp at ih ⊢; omega
theorem mailbox_eq (kind : Int) (r : List UInt8) (hs : r.length < 90000) :
  verb_mailbox.f kind (bs r) = some (match mailboxT kind r with | some c => ret7 c true | none => ret7 noL false) := by
 unfold verb_mailbox.f
 rw [strings_Split.f, if_pos ⟨by rw [bs_size]; omega, rfl⟩, Option.bind_some, bs_data]
 have e1 : (⟨#[32]⟩ : ByteArray).data.toList.headD 0 = 32 := rfl
 rw [e1]
 have hcnt := pieces_count (s := 32) r
 have hlen := fun w h => pieces_len (s := 32) (l := r) (w := w) h
 cases hp : pieces 32 r with
 | nil => exact absurd hp (pieces_ne 32 r)
 | cons b t =>
  have hM : mailboxT kind r = (pathT b).bind fun p => (paramsT kind t []).bind fun ps => if kind = 3 ∧ p.1 = true then none else some (kind, [], p.1, p.2.1, p.2.2, ps) := by
   unfold mailboxT
   rw [hp]
  rw [hM]
  rw [hp] at hcnt hlen
  rw [List.map_cons, if_pos (by simp only [List.length_cons]; omega)]
  have e2 : rdOf ByteArray.empty (bs b :: t.map bs) 0 = bs b := rfl
  have hb := hlen b (by simp)
  rw [e2, path_eq b (by omega), Option.bind_some, if_pos (by simp only [List.length_cons]; omega)]
  have e3 : (bs b :: t.map bs).drop 1 = t.map bs := rfl
  have e4 := params_eq kind t [] fun w hw => by have := hlen w (by simp [hw]); omega
  have e5 : ([] : List ParL).map mkP = [] := rfl
  rw [e5] at e4
  rw [e3, verb_params.f, if_pos (by rw [List.length_map]; simp at hcnt; omega), e4, Option.bind_some]
  cases pathT b with
  | none => simp; rfl
  | some p =>
   simp only [Option.bind_some, if_true]
   cases paramsT kind t [] with
   | none => simp; rfl
   | some ps =>
    simp only [Option.bind_some, if_true]
    by_cases hk : kind = 3
    ·
     by_cases hn : p.1 = true
     ·
      rw [if_pos hk, if_pos hn, if_pos ⟨hk, hn⟩]; rfl
     ·
      rw [if_pos hk, if_neg hn, if_neg (fun k => hn k.2)]; rfl
    ·
     rw [if_neg hk, if_neg (fun k => hk k.1)]; rfl
theorem after_eq (l b : List UInt8) (h : l.length < 4294967281) (hb : b.length < 4294967281) : verb_after.f (bs l) (bs b) = some (if begL l b then bs (l.drop b.length) else bs [], begL l b) := by
 rw [verb_after.f, if_pos ⟨by rw [bs_size]; exact h, by rw [bs_size]; exact hb⟩, bs_size]
 rfl
theorem read_eq (l : List UInt8) (hs : l.length < 90000) : verb_read.f (bs l) = some (match readT l with | some c => ret7 c true | none => ret7 noL false) := by
 unfold verb_read.f readT
 rw [verb_alone.f, if_pos (by rw [bs_size]; omega), Option.bind_some, bs_data]
 cases ha : aloneL l with
 | some k => rfl
 | none =>
  simp only [Option.isSome_none, Bool.false_eq_true, if_false]
  have hd : ∀ n, (l.drop n).length < 90000 := fun n => by simp; omega
  have a1 : verb_after.f (bs l) ⟨#[101, 104, 108, 111, 32]⟩ = _ := after_eq l sEhlo (by omega) (by decide)
  have a2 : verb_after.f (bs l) ⟨#[104, 101, 108, 111, 32]⟩ = _ := after_eq l sHelo (by omega) (by decide)
  have a3 : verb_after.f (bs l) ⟨#[109, 97, 105, 108, 32, 102, 114, 111, 109, 58]⟩ = _ := after_eq l sMail (by omega) (by decide)
  have a4 : verb_after.f (bs l) ⟨#[114, 99, 112, 116, 32, 116, 111, 58]⟩ = _ := after_eq l sRcpt (by omega) (by decide)
  have a5 : verb_after.f (bs l) ⟨#[101, 116, 114, 110, 32]⟩ = _ := after_eq l sEtrn (by omega) (by decide)
  have a6 : verb_after.f (bs l) ⟨#[97, 116, 114, 110, 32]⟩ = _ := after_eq l sAtrn (by omega) (by decide)
  have a7 : verb_after.f (bs l) ⟨#[110, 111, 111, 112, 32]⟩ = _ := after_eq l sNoop (by omega) (by decide)
  have a8 : verb_after.f (bs l) ⟨#[118, 114, 102, 121, 32]⟩ = _ := after_eq l sVrfy (by omega) (by decide)
  unfold readTab
  simp only [verb_read.rows, verb_read.tail, a1, a2, a3, a4, a5, a6, a7, a8, Option.bind_some]
  by_cases b1 : begL l sEhlo = true
  ·
   simp only [if_pos b1, Bool.false_eq_true, if_false]; exact named_eq _ _ (by have := hd 5; show (l.drop 5).length < _; omega)
  simp only [if_neg b1]
  by_cases b2 : begL l sHelo = true
  ·
   simp only [if_pos b2, Bool.false_eq_true, if_false]; exact named_eq _ _ (by have := hd 5; show (l.drop 5).length < _; omega)
  simp only [if_neg b2]
  by_cases b3 : begL l sMail = true
  ·
   simp only [if_pos b3, if_true]; exact mailbox_eq _ _ (hd 10)
  simp only [if_neg b3]
  by_cases b4 : begL l sRcpt = true
  ·
   simp only [if_pos b4, if_true]; exact mailbox_eq _ _ (hd 8)
  simp only [if_neg b4]
  by_cases b5 : begL l sEtrn = true
  ·
   simp only [if_pos b5, Bool.false_eq_true, if_false]; exact named_eq _ _ (by have := hd 5; show (l.drop 5).length < _; omega)
  simp only [if_neg b5]
  by_cases b6 : begL l sAtrn = true
  ·
   simp only [if_pos b6, Bool.false_eq_true, if_false]; exact named_eq _ _ (by have := hd 5; show (l.drop 5).length < _; omega)
  simp only [if_neg b6]
  by_cases b7 : begL l sNoop = true
  ·
   simp only [if_pos b7]; rfl
  simp only [if_neg b7]
  by_cases b8 : begL l sVrfy = true
  ·
   simp only [if_pos b8, bs_data]
   by_cases hn : l.drop 5 = []
   ·
    rw [if_neg (fun k => k.2 hn), if_neg (fun k => k.2 hn)]; rfl
   ·
    rw [if_pos ⟨b8, hn⟩, if_pos ⟨b8, hn⟩]; rfl
  ·
   rw [if_neg (fun k => b8 k.1), if_neg (fun k => b8 k.1)]; rfl
end Go.Proofs.YthcdjgekmfnmnaaGreatDoor.PVerb
end
section
namespace Go.Proofs.YthcdjgekmfnmnaaGreatDoor.PVerb
open Go.RowKit Go.Proofs.YthcdjgekmfnmnaaGreatDoorW.PrintWords Go.Proofs.YthcdjgekmfnmnaaGreatDoorW.PrintLast Go.Proofs.YthcdjgekmfnmnaaGreatDoorW.PrintMore
set_option linter.unusedSimpArgs false
set_option linter.unusedVariables false
theorem idx_l0 (L : List ByteArray) (x : ByteArray) (hL : L.length < 4611686018427387904) : ∀ (d k i : Nat), L.length - i = d → i ≤ L.length → d < k →
  ∃ r, slices_Index_string_string.l0 k L x (L.length : Int) (i : Int) = some r ∧ decide (r ≥ 0) = (L.drop i).any (fun y => x.data.toList == y.data.toList) := by
 intro d
 induction d with
 | zero =>
  intro k i hd hi hk
  obtain ⟨k, rfl⟩ : ∃ m, k = m + 1 := ⟨k - 1, by omega⟩
  refine ⟨-1, ?_, ?_⟩
  ·
   rw [slices_Index_string_string.l0, if_neg (by omega)]
  ·
   rw [List.drop_of_length_le (by omega)]; rfl
 | succ d ih =>
  intro k i hd hi hk
  obtain ⟨k, rfl⟩ : ∃ m, k = m + 1 := ⟨k - 1, by omega⟩
  have hil : i < L.length := by omega
  have ew : wrap64 ((i : Int) + 1) = ((i + 1 : Nat) : Int) := by rw [wrap_small (by omega) (by omega)]; omega
  rw [slices_Index_string_string.l0, if_pos (by omega), if_pos (by omega), if_pos (by omega), rdOf_get hil, List.drop_eq_getElem_cons hil, List.any_cons, ew, toList_data, toList_data]
  by_cases h : x.data.toList = (L[i]).data.toList
  ·
   rw [if_pos h]
   exact ⟨_, rfl, by rw [h]; simp⟩
  ·
   rw [if_neg h]
   obtain ⟨r, h1, h2⟩ := ih k (i + 1) (by omega) (by omega) (by omega)
   refine ⟨r, h1, ?_⟩
   rw [h2, beq_eq_false_iff_ne.2 h, Bool.false_or]
theorem contains_eq (k : Nat) (L : List (List UInt8)) (x : List UInt8) (hL : L.length < 4611686018427387904) (hk : L.length < k) :
  slices_Contains_string_string.f k (L.map bs) (bs x) = some (L.contains x) := by
 obtain ⟨r, h1, h2⟩ := idx_l0 (L.map bs) (bs x) (by simpa using hL) (L.map bs).length k 0 (by simp) (by omega) (by simpa using hk)
 unfold slices_Contains_string_string.f slices_Index_string_string.f
 rw [show ((0 : Nat) : Int) = 0 from rfl] at h1
 rw [h1, Option.bind_some, h2, List.drop_zero, List.any_map, List.contains_eq_any_beq]
 rfl
theorem strange_l0 (r : List UInt8) (b : Bool) (hr : r.length < 4611686018427387904) : ∀ (d k i : Nat), r.length - i = d → i ≤ r.length → d < k →
  verb_strange.l0 k (bs r) b (r.length : Int) (i : Int) = some (b && (r.drop i).all (fun c => plainC c || c == 45) && !r.isEmpty) := by
 intro d
 induction d with
 | zero =>
  intro k i hd hi hk
  obtain ⟨k, rfl⟩ : ∃ m, k = m + 1 := ⟨k - 1, by omega⟩
  rw [verb_strange.l0, if_neg (by omega), List.drop_of_length_le (by omega), List.all_nil, toList_data, bs_data]
  cases b <;> simp
 | succ d ih =>
  intro k i hd hi hk
  obtain ⟨k, rfl⟩ : ∃ m, k = m + 1 := ⟨k - 1, by omega⟩
  have hil : i < r.length := by omega
  have ew : wrap64 ((i : Int) + 1) = ((i + 1 : Nat) : Int) := by rw [wrap_small (by omega) (by omega)]; omega
  rw [verb_strange.l0, if_pos (by omega), if_pos (by omega), if_pos (by rw [bs_size]; omega), bt_get (bs r) i (by rw [bs_data]; exact hil), List.drop_eq_getElem_cons hil, List.all_cons, ew]
  have hrr := ih k (i + 1) (by omega) (by omega) (by omega)
  rw [hrr]
  have hc : ((bs r).data.toList[i]'(by rw [bs_data]; exact hil)) = r[i] := rfl
  rw [hc]
  generalize r[i] = c
  have hp : (plainC c || c == 45) = true ↔ (97 ≤ c.toNat ∧ c.toNat ≤ 122) ∨ (65 ≤ c.toNat ∧ c.toNat ≤ 90) ∨ (48 ≤ c.toNat ∧ c.toNat ≤ 57) ∨ c.toNat = 45 := by
   have e45 : c = 45 ↔ c.toNat = 45 := ⟨fun h => by rw [h]; rfl, fun h => UInt8.toNat_inj.1 h⟩
   simp only [plainC, Bool.or_eq_true, Bool.and_eq_true, decide_eq_true_eq, UInt8.le_iff_toNat_le, beq_iff_eq, e45]
   have e97 : (97 : UInt8).toNat = 97 := rfl
   have e122 : (122 : UInt8).toNat = 122 := rfl
   have e65 : (65 : UInt8).toNat = 65 := rfl
   have e90 : (90 : UInt8).toNat = 90 := rfl
   have e48 : (48 : UInt8).toNat = 48 := rfl
   have e57 : (57 : UInt8).toNat = 57 := rfl
   omega
  cases hq : (plainC c || c == 45) with
  | true =>
   have := hp.1 hq
   simp only [Bool.true_and]
   repeat' split
   all_goals first | rfl | (exfalso; omega)
  | false =>
   have : ¬ _ := fun h => by have := hp.2 h; rw [hq] at this; cases this
   simp only [Bool.false_and, Bool.and_false]
   repeat' split
   all_goals first | rfl | (exfalso; omega)
theorem strange_eq (k : Nat) (l : List UInt8) (hl : l.length < 90000) (hk : l.length + 1 < k) : verb_strange.f k (bs l) = some (strangeL l) := by
 unfold verb_strange.f
 have a : verb_after.f (bs l) ⟨#[97, 117, 116, 104, 32]⟩ = _ := after_eq l sAuth (by omega) (by decide)
 rw [a, Option.bind_some]
 unfold strangeL
 by_cases h : begL l sAuth = true
 ·
  have e5 : sAuth.length = 5 := rfl
  rw [h, if_pos rfl, e5]
  simp only [bs_size]
  have hd : (l.drop 5).length ≤ l.length := by simp
  have := strange_l0 (l.drop 5) true (by omega) (l.drop 5).length k 0 (by omega) (by omega) (by omega)
  rw [show ((0 : Nat) : Int) = 0 from rfl] at this
  rw [this, List.drop_zero]
 ·
  rw [Bool.not_eq_true] at h
  simp only [h, Bool.false_eq_true, if_false, bs_size, Bool.false_and]
  have := strange_l0 [] false (by simp) 0 k 0 (by simp) (by simp) (by omega)
  simpa using this
theorem words_eq : strings_Split.f (⟨#[101, 104, 108, 111, 32, 104, 101, 108, 111, 32, 109, 97, 105, 108, 32, 114, 99, 112, 116, 32, 100, 97, 116, 97, 32, 114, 115, 101, 116, 32, 113, 117, 105, 116, 32, 110, 111, 111, 112, 32, 118, 114, 102, 121, 32, 101, 116, 114, 110, 32, 97, 117, 116, 104, 32, 97, 116, 114, 110]⟩ : ByteArray) (⟨#[32]⟩ : ByteArray) = some (wordsL.map bs) := by kernel_rfl
theorem parse_tail (k : Nat) (l : List UInt8) (hl : l.length ≤ 510) (hk : 600 < k) :
  verb_Parse.l0 k (bs l) (l.length : Int) (l.length : Int) = some (ret7 (parseT l).1 (parseT l).2) ∨ l.all printC = false := by
 cases hp : l.all printC with
 | false => exact .inr rfl
 | true =>
  left
  obtain ⟨k, rfl⟩ : ∃ m, k = m + 1 := ⟨k - 1, by omega⟩
  rw [verb_Parse.l0, if_neg (by omega)]
  have hc := cut_len (s := 32) l
  have h0 : strings_Cut.f (bs l) ⟨#[32]⟩ = some (bs (cutC 32 l).1, bs (cutC 32 l).2.1, (cutC 32 l).2.2) := by
   rw [strings_Cut.f, if_pos (by rw [bs_size]; omega)]
   have : Lib.cut (bs l).data.toList (⟨#[32]⟩ : ByteArray).data.toList = cutC 32 l := cut_one 32 l
   rw [this]
  rw [h0, Option.bind_some, path_Fold.f, if_pos (by rw [bs_size]; omega), Option.bind_some, toList_data, bs_data, bs_data, words_eq]
  have hj : ∀ q, verb_Parse.j1 k (bs l) q = some (if q = true then ret7 noL (500 : Int) else match readT l with | some c => ret7 c (0 : Int) | none => ret7 noL (if strangeL l then (504 : Int) else 501)) := by
   intro q
   obtain ⟨k, rfl⟩ : ∃ m, k = m + 1 := ⟨k - 1, by omega⟩
   rw [verb_Parse.j1]
   by_cases hq : q = true
   ·
    rw [if_pos hq, if_pos hq]; rfl
   ·
    rw [if_neg hq, if_neg hq, read_eq l (by omega), Option.bind_some]
    cases readT l with
    | some c =>
     have : (ret7 c true).2.2.2.2.2.2 = true := rfl
     simp only [this, if_true]; rfl
    | none =>
     have : (ret7 noL false).2.2.2.2.2.2 = false := rfl
     simp only [this, Bool.false_eq_true, if_false]
     rw [strange_eq k l (by omega) (by omega), Option.bind_some]
     cases strangeL l <;> rfl
  have hgood : goodL l = wordsL.contains (foldL (cutC 32 l).1) := by rw [goodL, decide_eq_true hl, hp]; simp
  have hw : wordsL.length = 12 := rfl
  by_cases he : foldL (cutC 32 l).1 = []
  ·
   rw [if_pos he, hj, if_pos rfl]
   have : goodL l = false := by rw [hgood, he]; decide
   rw [parseT, if_neg (by rw [this]; decide)]
  ·
   rw [if_neg he, Option.bind_some, contains_eq _ _ _ (by omega) (by omega), Option.bind_some, hj]
   rw [parseT, hgood]
   cases hg : wordsL.contains (foldL (cutC 32 l).1) with
   | true =>
    simp only [Bool.not_true, Bool.false_eq_true, if_false, if_true]
    cases readT l <;> rfl
   | false => rfl
theorem parse_l0 (l : List UInt8) (hl : l.length ≤ 510) : ∀ (d k i : Nat), l.length - i = d → i ≤ l.length → d + 600 < k →
  verb_Parse.l0 k (bs l) (l.length : Int) (i : Int) = some (ret7 (if (l.drop i).all printC && !(l.all printC) then (noL, 500) else (parseT l)).1 (if (l.drop i).all printC && !(l.all printC) then (noL, 500) else (parseT l)).2) ∨ (l.take i).all printC = false := by
 intro d
 induction d with
 | zero =>
  intro k i hd hi hk
  obtain rfl : i = l.length := by omega
  rcases parse_tail k l hl (by omega) with h | h
  ·
   left
   rw [h, List.drop_length, List.all_nil, Bool.true_and]
   by_cases hp : l.all printC = true
   ·
    rw [hp]; rfl
   ·
    rw [Bool.not_eq_true] at hp
    have : goodL l = false := by rw [goodL, hp]; simp
    have e : parseT l = (noL, 500) := by rw [parseT, if_neg (by rw [this]; decide)]
    rw [hp, e]; rfl
  ·
   right; rw [List.take_length]; exact h
 | succ d ih =>
  intro k i hd hi hk
  obtain ⟨k, rfl⟩ : ∃ m, k = m + 1 := ⟨k - 1, by omega⟩
  have hil : i < l.length := by omega
  cases ht : (l.take i).all printC with
  | false => exact .inr rfl
  | true =>
   left
   have ew : wrap64 ((i : Int) + 1) = ((i + 1 : Nat) : Int) := by rw [wrap_small (by omega) (by omega)]; omega
   rw [verb_Parse.l0, if_pos (by omega), if_pos (by omega), if_pos (by rw [bs_size]; omega), bt_get (bs l) i (by rw [bs_data]; exact hil), ew]
   have hc : ((bs l).data.toList[i]'(by rw [bs_data]; exact hil)) = l[i] := rfl
   rw [hc]
   have hpc : printC l[i] = true ↔ 32 ≤ (l[i]).toNat ∧ (l[i]).toNat ≤ 126 := by
    simp only [printC, Bool.and_eq_true, decide_eq_true_eq, UInt8.le_iff_toNat_le]
    exact Iff.rfl
   have hbad : printC l[i] = false → l.all printC = false := fun h => by
    cases ha : l.all printC with
    | false => rfl
    | true => rw [List.all_eq_true.1 ha _ (List.getElem_mem hil)] at h; cases h
   have hnot : l.all printC = false → parseT l = (noL, 500) := fun h => by
    have : goodL l = false := by rw [goodL, h]; simp
    rw [parseT, if_neg (by rw [this]; decide)]
   cases hq : printC l[i] with
   | false =>
    have hn := hbad hq
    have : ¬ (32 ≤ (l[i]).toNat ∧ (l[i]).toNat ≤ 126) := fun h => by rw [hpc.2 h] at hq; cases hq
    rw [hnot hn, ite_self]
    by_cases h32 : ((l[i]).toNat : Int) < 32
    ·
     rw [if_pos h32]; rfl
    ·
     rw [if_neg h32, if_pos (by omega)]; rfl
   | true =>
    have := hpc.1 hq
    rw [if_neg (by omega), if_neg (by omega)]
    rcases ih k (i + 1) (by omega) (by omega) (by omega) with h | h
    ·
     rw [h, List.drop_eq_getElem_cons hil, List.all_cons, hq, Bool.true_and]
    ·
     exfalso
     rw [List.take_succ_eq_append_getElem hil, List.all_append, ht, List.all_cons, hq] at h
     cases h
theorem parse_eq (k : Nat) (l : List UInt8) (hk : 1200 < k) : verb_Parse.f k (bs l) = some (ret7 (parseT l).1 (parseT l).2) := by
 unfold verb_Parse.f
 rw [bs_size]
 by_cases h : (l.length : Int) > 510
 ·
  rw [if_pos h]
  have : goodL l = false := by rw [goodL, decide_eq_false (by omega)]; rfl
  rw [parseT, if_neg (by rw [this]; decide)]
  rfl
 ·
  rw [if_neg h]
  rcases parse_l0 l (by omega) l.length k 0 (by omega) (by omega) (by omega) with h | h
  ·
   rw [show ((0 : Nat) : Int) = 0 from rfl] at h
   rw [h, List.drop_zero]
   cases hp : l.all printC with
   | true => rfl
   | false => rfl
  ·
   rw [List.take_zero] at h; cases h
end Go.Proofs.YthcdjgekmfnmnaaGreatDoor.PVerb
end
section
namespace Go.Proofs.YthcdjgekmfnmnaaGreatDoor.PVerb
open Go.RowKit Go.Proofs.YthcdjgekmfnmnaaGreatDoorW.PrintWords Go.Proofs.YthcdjgekmfnmnaaGreatDoorW.PrintLast Go.Proofs.YthcdjgekmfnmnaaGreatDoorW.PrintMore
set_option linter.unusedSimpArgs false
set_option linter.unusedVariables false
structure Small (c : CmdL) : Prop where
 text : c.2.1.length < 100000
 loc : c.2.2.2.1.length < 100000
 dom : c.2.2.2.2.1.length < 100000
 num : c.2.2.2.2.2.length < 100000
 pars : ∀ p ∈ c.2.2.2.2.2, p.1.length < 100000 ∧ p.2.length < 100000
 kind : (Lit.int .i64 c.1).wf = true
theorem param_eq (c : CmdL) (key : List UInt8) (h : c.2.2.2.2.2.length < 2147483648) :
  verb_Param.f c.1 (bs c.2.1) c.2.2.1 (bs c.2.2.2.1) (bs c.2.2.2.2.1) (c.2.2.2.2.2.map mkP) (bs key) = some (bs (((c.2.2.2.2.2.find? fun p => p.1 == key).map (·.2)).getD []), (c.2.2.2.2.2.find? fun p => p.1 == key).isSome) := by
 unfold verb_Param.f
 rw [if_pos (by rw [List.length_map]; exact h), List.find?_map]
 have e : (keyIs (bs key) ∘ mkP) = fun p : ParL => p.1 == key := rfl
 rw [e]
 cases c.2.2.2.2.2.find? fun p => p.1 == key <;> rfl
end Go.Proofs.YthcdjgekmfnmnaaGreatDoor.PVerb
end
section
namespace Go.Proofs.YthcdjgekmfnmnaaGreatDoor.PVerb
open Go.RowKit Go.Proofs.YthcdjgekmfnmnaaGreatDoorW.PrintWords Go.Proofs.YthcdjgekmfnmnaaGreatDoorW.PrintLast Go.Proofs.YthcdjgekmfnmnaaGreatDoorW.PrintMore
set_option linter.unusedSimpArgs false
set_option linter.unusedVariables false
structure Sized (c : CmdL) : Prop where
 text : c.2.1.length ≤ 140737488351232
 loc : c.2.2.2.1.length ≤ 140737488351232
 dom : c.2.2.2.2.1.length ≤ 140737488351232
 num : c.2.2.2.2.2.length ≤ 140737488351232
 pars : ∀ p ∈ c.2.2.2.2.2, p.1.length ≤ 140737488351232 ∧ p.2.length ≤ 140737488351232
 kind : (Lit.int .i64 c.1).wf = true
end Go.Proofs.YthcdjgekmfnmnaaGreatDoor.PVerb
end
section
namespace Go.Proofs.YthcdjgekmfnmnaaGreatDoor.PVerb
open Go.RowKit Go.Proofs.YthcdjgekmfnmnaaGreatDoorW.PrintWords Go.Proofs.YthcdjgekmfnmnaaGreatDoorW.PrintLast Go.Proofs.YthcdjgekmfnmnaaGreatDoorW.PrintMore
set_option linter.unusedSimpArgs false
set_option linter.unusedVariables false
theorem letter_fin : ∀ c : Fin 256, ((wherryref11_letter.f (c.val : Int)).bind fun a => (wherryref11_digit.f (c.val : Int)).bind fun b => some (a, b)) = some (((97 ≤ c.val ∧ c.val ≤ 122) || (65 ≤ c.val ∧ c.val ≤ 90) : Bool), ((48 ≤ c.val ∧ c.val ≤ 57 : Bool))) := by decide +kernel
theorem refin_eq (n lo hi : Int) : wherryref11_in.f n lo hi = some (decide (lo ≤ n ∧ n ≤ hi)) := by
 unfold wherryref11_in.f
 by_cases h : n ≥ lo
 ·
  rw [if_pos h]
  congr 1
  rw [decide_eq_decide]
  exact ⟨fun k => ⟨h, k⟩, fun k => k.2⟩
 ·
  rw [if_neg h, decide_eq_false (fun k => h k.1)]
def labC (c : UInt8) : Bool := plainC c || c == 45
theorem labL_eq (l : List UInt8) : labelL l = (l.all labC && !l.isEmpty && decide (l.length ≤ 63) && !(l.head? == some 45) && !(l.getLast? == some 45)) := rfl
theorem lab_j1 (k : Nat) (x0 : ByteArray) (f i : Nat) (h : i < x0.data.toList.length) (hs : x0.size < 4611686018427387904) :
  wherryref11_Domain.j1 (k + 2) x0 (f : Int) (i : Int) true = if labC x0.data.toList[i] = true then wherryref11_Domain.l0 k x0 (f : Int) ((i + 1 : Nat) : Int) else some false := by
 have hsz := data_size x0
 have ew : wrap64 ((i : Int) + 1) = ((i + 1 : Nat) : Int) := by rw [wrap_small (by omega) (by omega)]; omega
 have hj : ∀ q, wherryref11_Domain.j2 (k + 1) x0 (f : Int) (i : Int) q = if q = true then some false else wherryref11_Domain.l0 k x0 (f : Int) ((i + 1 : Nat) : Int) := by
  intro q
  rw [wherryref11_Domain.j2, ew]
 rw [wherryref11_Domain.j1, if_pos rfl, if_pos (by omega), if_pos (by omega), bt_get x0 i h, hj, hj]
 generalize x0.data.toList[i] = c
 have hf := letter_fin ⟨c.toNat, c.toNat_lt⟩
 obtain ⟨a, ha, hf⟩ := Option.bind_eq_some_iff.1 hf
 obtain ⟨b, hb, hf⟩ := Option.bind_eq_some_iff.1 hf
 simp only [Option.some.injEq, Prod.mk.injEq] at hf
 obtain ⟨rfl, rfl⟩ := hf
 simp only at ha hb
 rw [ha, Option.bind_some, hb, Option.bind_some]
 have e45 : c = 45 ↔ c.toNat = 45 := ⟨fun h => by rw [h]; rfl, fun h => UInt8.toNat_inj.1 h⟩
 have hq : labC c = true ↔ (97 ≤ c.toNat ∧ c.toNat ≤ 122) ∨ (65 ≤ c.toNat ∧ c.toNat ≤ 90) ∨ (48 ≤ c.toNat ∧ c.toNat ≤ 57) ∨ c.toNat = 45 := by
  simp only [labC, plainC, Bool.or_eq_true, Bool.and_eq_true, decide_eq_true_eq, UInt8.le_iff_toNat_le, beq_iff_eq, e45]
  have e97 : (97 : UInt8).toNat = 97 := rfl
  have e122 : (122 : UInt8).toNat = 122 := rfl
  have e65 : (65 : UInt8).toNat = 65 := rfl
  have e90 : (90 : UInt8).toNat = 90 := rfl
  have e48 : (48 : UInt8).toNat = 48 := rfl
  have e57 : (57 : UInt8).toNat = 57 := rfl
  omega
 by_cases h1 : (97 ≤ c.toNat ∧ c.toNat ≤ 122) ∨ (65 ≤ c.toNat ∧ c.toNat ≤ 90)
 ·
  have : labC c = true := hq.2 (by omega)
  rw [if_pos this, if_pos (by simpa using h1)]
  rfl
 ·
  rw [if_neg (by simpa using h1)]
  by_cases h2 : 48 ≤ c.toNat ∧ c.toNat ≤ 57
  ·
   have : labC c = true := hq.2 (by omega)
   rw [if_pos this, if_pos (by simpa using h2)]
   rfl
  ·
   rw [if_neg (by simpa using h2)]
   by_cases h3 : c.toNat = 45
   ·
    have : labC c = true := hq.2 (by omega)
    have e : ((c.toNat : Int) != 45) = false := bne_eq_false_iff_eq.2 (by omega)
    rw [if_pos this, e, if_neg (by decide)]
   ·
    have : ¬ labC c = true := fun h => by have := hq.1 h; omega
    have e : ((c.toNat : Int) != 45) = true := bne_iff_ne.2 (by omega)
    rw [if_neg this, e, if_pos rfl]
def labEnd (l : List UInt8) : Bool := !l.isEmpty && decide (l.length ≤ 63) && !(l.head? == some 45) && !(l.getLast? == some 45)
theorem lab_split (l : List UInt8) : labelL l = (l.all labC && labEnd l) := by simp [labL_eq, labEnd, Bool.and_assoc]
theorem lab_end (k : Nat) (x0 : ByteArray) (f i : Nat) (hs : x0.size < 4611686018427387904) (hf : f ≤ i) (hi : i ≤ x0.data.toList.length) :
  wherryref11_Domain.j1 (k + 1) x0 (f : Int) (i : Int) false = if labEnd ((x0.data.toList.drop f).take (i - f)) = true then wherryref11_Domain.l0 k x0 ((i + 1 : Nat) : Int) ((i + 1 : Nat) : Int) else some false := by
 have hsz := data_size x0
 have ew : wrap64 ((i : Int) + 1) = ((i + 1 : Nat) : Int) := by rw [wrap_small (by omega) (by omega)]; omega
 have ed : wrap64 ((i : Int) - (f : Int)) = ((i - f : Nat) : Int) := by rw [wrap_small (by omega) (by omega)]; omega
 rw [wherryref11_Domain.j1, if_neg (by decide), ed, refin_eq, Option.bind_some, ew]
 have hlen : ((x0.data.toList.drop f).take (i - f)).length = i - f := by rw [List.length_take, List.length_drop]; omega
 by_cases h1 : (1 : Int) ≤ ((i - f : Nat) : Int) ∧ ((i - f : Nat) : Int) ≤ 63
 ·
  have hfl : f < x0.data.toList.length := by omega
  have el : wrap64 ((i : Int) - 1) = ((i - 1 : Nat) : Int) := by rw [wrap_small (by omega) (by omega)]; omega
  rw [decide_eq_true h1, if_pos rfl, if_pos (by omega), if_pos (by omega), bt_get x0 f hfl, el, bt_get x0 (i - 1) (by omega)]
  have hh : ((x0.data.toList.drop f).take (i - f)).head? = some x0.data.toList[f] := by
   rw [List.head?_eq_getElem?, List.getElem?_take, if_pos (by omega), List.getElem?_drop]
   exact List.getElem?_eq_getElem _
  have hl : ((x0.data.toList.drop f).take (i - f)).getLast? = some (x0.data.toList[i - 1]'(by omega)) := by
   rw [List.getLast?_eq_getElem?, hlen, List.getElem?_take, if_pos (by omega), List.getElem?_drop, show f + (i - f - 1) = i - 1 by omega]
   exact List.getElem?_eq_getElem _
  have he : ((x0.data.toList.drop f).take (i - f)).isEmpty = false := by
   rw [List.isEmpty_eq_false_iff]
   intro h
   rw [h] at hlen
   simp at hlen
   omega
  unfold labEnd
  rw [hh, hl, hlen, he, decide_eq_true (by omega)]
  generalize x0.data.toList[f] = a
  generalize x0.data.toList[i - 1]'(by omega) = b
  have e45 : ∀ c : UInt8, (c.toNat : Int) = 45 ↔ c = 45 := fun c => ⟨fun h => UInt8.toNat_inj.1 (by show c.toNat = 45; omega), fun h => by rw [h]; rfl⟩
  by_cases ha : a = 45
  ·
   rw [if_pos ((e45 a).2 ha), ha]; rfl
  ·
   rw [if_neg (fun h => ha ((e45 a).1 h)), if_pos (by omega), if_pos (by omega)]
   have na : (some a == some (45 : UInt8)) = false := beq_eq_false_iff_ne.2 (fun h => ha (Option.some.inj h))
   by_cases hb : b = 45
   ·
    rw [if_pos ((e45 b).2 hb), hb, na]; rfl
   ·
    have nb : (some b == some (45 : UInt8)) = false := beq_eq_false_iff_ne.2 (fun h => hb (Option.some.inj h))
    rw [if_neg (fun h => hb ((e45 b).1 h)), na, nb]; rfl
 ·
  rw [decide_eq_false h1, if_neg (by decide)]
  have : labEnd ((x0.data.toList.drop f).take (i - f)) = false := by
   unfold labEnd
   rw [hlen]
   by_cases h0 : i - f = 0
   ·
    rw [h0, List.take_zero]; rfl
   ·
    rw [decide_eq_false (by omega)]; simp
  rw [this]; rfl
theorem pieces_pre {s : UInt8} {r p : List UInt8} {ps : List (List UInt8)} (hr : pieces s r = p :: ps) : ∀ {a : List UInt8}, s ∉ a → pieces s (a ++ r) = (a ++ p) :: ps
 | [], _ => hr
 | c :: a, hn => by
  have hc : c ≠ s := fun e => hn (by simp [e])
  have ha : s ∉ a := fun e => hn (by simp [e])
  rw [List.cons_append, pieces, if_neg hc, pieces_pre hr ha]
  rfl
theorem dom_l0 (x0 : ByteArray) (hs : x0.size < 4611686018427387904) : ∀ (d k f i : Nat), x0.data.toList.length + 1 - i = d → f ≤ i → i ≤ x0.data.toList.length → (∀ c ∈ (x0.data.toList.drop f).take (i - f), labC c = true) → 3 * d + 3 < k →
  wherryref11_Domain.l0 k x0 (f : Int) (i : Int) = some ((pieces 46 (x0.data.toList.drop f)).all labelL) := by
 have hsz := data_size x0
 intro d
 induction d with
 | zero => intro k f i hd hf hi; omega
 | succ d ih =>
  intro k f i hd hf hi hseen hk
  obtain ⟨k, rfl⟩ : ∃ m, k = m + 3 := ⟨k - 3, by omega⟩
  have hno : (46 : UInt8) ∉ (x0.data.toList.drop f).take (i - f) := fun h => by have := hseen _ h; exact absurd this (by decide)
  have hall : ((x0.data.toList.drop f).take (i - f)).all labC = true := List.all_eq_true.2 hseen
  have hsp : x0.data.toList.drop f = (x0.data.toList.drop f).take (i - f) ++ x0.data.toList.drop i := by
   have := List.take_append_drop (i - f) (x0.data.toList.drop f)
   rw [List.drop_drop, show f + (i - f) = i by omega] at this
   exact this.symm
  rw [wherryref11_Domain.l0, if_pos (by omega)]
  by_cases hin : i < x0.data.toList.length
  ·
   rw [if_pos (by omega), if_pos (by omega), bt_get x0 i hin]
   have hdi := List.drop_eq_getElem_cons hin
   have e46 : ∀ c : UInt8, (c.toNat : Int) = 46 ↔ c = 46 := fun c => ⟨fun h => UInt8.toNat_inj.1 (by show c.toNat = 46; omega), fun h => by rw [h]; rfl⟩
   by_cases h46 : x0.data.toList[i] = 46
   ·
    have e : ((x0.data.toList[i].toNat : Int) != 46) = false := bne_eq_false_iff_eq.2 ((e46 _).2 h46)
    rw [e, lab_end (k + 1) x0 f i hs hf hi]
    rw [h46] at hdi
    rw [hdi] at hsp
    have hp : pieces 46 (x0.data.toList.drop f) = (x0.data.toList.drop f).take (i - f) :: pieces 46 (x0.data.toList.drop (i + 1)) := by
     conv => lhs; rw [hsp]
     exact pieces_sep _ hno
    rw [hp, List.all_cons, lab_split, hall, Bool.true_and]
    cases hle : labEnd ((x0.data.toList.drop f).take (i - f)) with
    | false => rfl
    | true =>
     rw [if_pos rfl, Bool.true_and]
     exact ih (k + 1) (i + 1) (i + 1) (by omega) (by omega) (by omega) (by simp) (by omega)
   ·
    have e : ((x0.data.toList[i].toNat : Int) != 46) = true := bne_iff_ne.2 (fun h => h46 ((e46 _).1 h))
    rw [e, lab_j1 k x0 f i hin hs]
    by_cases hc : labC x0.data.toList[i] = true
    ·
     rw [if_pos hc]
     refine ih k f (i + 1) (by omega) (by omega) (by omega) ?_ (by omega)
     intro c hcm
     have et : (x0.data.toList.drop f).take (i + 1 - f) = (x0.data.toList.drop f).take (i - f) ++ [x0.data.toList[i]] := by
      rw [show i + 1 - f = (i - f) + 1 by omega, List.take_succ_eq_append_getElem (by rw [List.length_drop]; omega)]
      congr 2
      rw [List.getElem_drop]
      congr 1
      omega
     rw [et] at hcm
     rcases List.mem_append.1 hcm with h | h
     ·
      exact hseen c h
     ·
      rw [List.mem_singleton.1 h]; exact hc
    ·
     rw [if_neg hc]
     cases hp : pieces 46 (x0.data.toList.drop (i + 1)) with
     | nil => exact absurd hp (pieces_ne _ _)
     | cons p ps =>
      have hq : pieces 46 (x0.data.toList.drop i) = (x0.data.toList[i] :: p) :: ps := by
       rw [hdi, pieces, if_neg h46, hp]
      have hr : pieces 46 (x0.data.toList.drop f) = ((x0.data.toList.drop f).take (i - f) ++ (x0.data.toList[i] :: p)) :: ps := by
       conv => lhs; rw [hsp]
       exact pieces_pre hq hno
      rw [hr, List.all_cons, lab_split, List.all_append, List.all_cons, Bool.not_eq_true] at *
      rw [hc]
      simp
  ·
   obtain rfl : i = x0.data.toList.length := by omega
   rw [if_neg (by omega), lab_end (k + 1) x0 f _ hs hf hi]
   have hseg : (x0.data.toList.drop f).take (x0.data.toList.length - f) = x0.data.toList.drop f := List.take_of_length_le (by rw [List.length_drop]; omega)
   rw [hseg] at hno hall ⊢
   rw [pieces_no hno, List.all_cons, List.all_nil, Bool.and_true, lab_split, hall, Bool.true_and]
   cases labEnd (x0.data.toList.drop f) with
   | false => rfl
   | true =>
    rw [if_pos rfl, wherryref11_Domain.l0, if_neg (by omega)]
theorem refDomain_eq (k : Nat) (x0 : ByteArray) (hk : 3 * x0.size + 10 < k) (hs : x0.size < 4611686018427387904 := by omega) : wherryref11_Domain.f k x0 = some (domainL x0.data.toList) := by
 have hsz := data_size x0
 unfold wherryref11_Domain.f domainL
 rw [refin_eq, Option.bind_some]
 by_cases h : (1 : Int) ≤ (x0.size : Int) ∧ (x0.size : Int) ≤ 255
 ·
  rw [if_pos (decide_eq_true h), decide_eq_true (by omega), Bool.true_and]
  have := dom_l0 x0 hs (x0.data.toList.length + 1) k 0 0 (by omega) (Nat.le_refl _) (Nat.zero_le _) (by simp) (by omega)
  simpa using this
 ·
  rw [if_neg (by simpa using h)]
  by_cases h0 : x0.data.toList = []
  ·
   rw [h0]; rfl
  ·
   have := List.length_pos_iff.2 h0
   rw [decide_eq_false (by omega), Bool.false_and]
end Go.Proofs.YthcdjgekmfnmnaaGreatDoor.PVerb
end
section
namespace Go.Proofs.YthcdjgekmfnmnaaGreatDoor.PVerb
open Go.RowKit Go.Proofs.YthcdjgekmfnmnaaGreatDoorW.PrintWords Go.Proofs.YthcdjgekmfnmnaaGreatDoorW.PrintLast Go.Proofs.YthcdjgekmfnmnaaGreatDoorW.PrintMore
set_option linter.unusedSimpArgs false
set_option linter.unusedVariables false
def signC (c : UInt8) : Bool := plainC c || marksL.contains c
theorem sign_fin : ∀ c : Fin 256, wherryref11_sign.f 24 (c.val : Int) = some (signC (UInt8.ofNat c.val)) := by decide +kernel
theorem sign_ev (c : UInt8) : Ev (fun k => wherryref11_sign.f k (c.toNat : Int)) (signC c) := by
 have := sign_fin ⟨c.toNat, c.toNat_lt⟩
 simp only [UInt8.ofNat_toNat] at this
 exact Ev.of (fun k => wherryref11_sign.mono _ k) this
def locG : UInt8 → List UInt8 → Bool
 | _, [] => true
 | p, c :: r => if c = 46 then (p != 46) && locG 46 r else signC c && locG c r
theorem atom_split (l : List UInt8) : atomL l = (l.all signC && !l.isEmpty) := rfl
theorem locG_pieces : ∀ (l : List UInt8), l.getLast? ≠ some 46 →
  (∀ p, p ≠ 46 → locG p l = (match pieces 46 l with | [] => false | h :: t => h.all signC && t.all atomL)) ∧ (l ≠ [] → locG 46 l = (pieces 46 l).all atomL)
 | [], _ => ⟨fun p _ => rfl, fun h => absurd rfl h⟩
 | c :: r, hl => by
  have hr : r.getLast? ≠ some 46 := by
   cases r with
   | nil => simp
   | cons d r => rwa [List.getLast?_cons_cons] at hl
  obtain ⟨i1, i2⟩ := locG_pieces r hr
  by_cases hc : c = 46
  ·
   subst hc
   have hne : r ≠ [] := fun e => hl (by rw [e]; rfl)
   constructor
   ·
    intro p hp
    rw [locG, if_pos rfl, pieces, if_pos rfl, i2 hne, bne_iff_ne.2 hp]; rfl
   ·
    intro _
    rw [locG, if_pos rfl, pieces, if_pos rfl]; rfl
  ·
   cases hp : pieces 46 r with
   | nil => exact absurd hp (pieces_ne 46 r)
   | cons h t =>
    have e1 := i1 c hc
    rw [hp] at e1
    simp only at e1
    constructor
    ·
     intro p _
     rw [locG, if_neg hc, pieces, if_neg hc, hp, e1]
     simp only [List.all_cons, Bool.and_assoc]
    ·
     intro _
     rw [locG, if_neg hc, pieces, if_neg hc, hp, e1]
     simp only [List.all_cons, atom_split, List.isEmpty_cons, Bool.not_false, Bool.and_true, Bool.and_assoc]
theorem reflocal_l0 (x : ByteArray) (hs : x.size < 4611686018427387904) : ∀ (d i : Nat) (hi : i < x.data.toList.length), x.data.toList.length - (i + 1) = d →
  Ev (fun k => wherryref11_Local.l0 k x ((i + 1 : Nat) : Int)) (locG x.data.toList[i] (x.data.toList.drop (i + 1))) := by
 have hsz := data_size x
 intro d
 induction d with
 | zero =>
  intro i hi hd
  refine Ev.step (f := fun _ => some (locG x.data.toList[i] (x.data.toList.drop (i + 1)))) (fun k => ?_) (Ev.now _)
  rw [wherryref11_Local.l0, if_neg (by omega), List.drop_of_length_le (by omega)]; rfl
 | succ d ih =>
  intro i hi hd
  have hil : i + 1 < x.data.toList.length := by omega
  have ew : wrap64 (((i + 1 : Nat) : Int) + 1) = ((i + 1 + 1 : Nat) : Int) := by rw [wrap_small (by omega) (by omega)]; omega
  have em : wrap64 (((i + 1 : Nat) : Int) - 1) = (i : Int) := by rw [wrap_small (by omega) (by omega)]; omega
  have e46 : ∀ c : UInt8, (c.toNat : Int) = 46 ↔ c = 46 := fun c => ⟨fun h => UInt8.toNat_inj.1 (by show c.toNat = 46; omega), fun h => by rw [h]; rfl⟩
  rw [List.drop_eq_getElem_cons hil, locG]
  have ih2 := ih (i + 1) hil (by omega)
  by_cases h : x.data.toList[i + 1] = 46
  ·
   rw [if_pos h]
   rw [h] at ih2
   by_cases hp : x.data.toList[i] = 46
   ·
    refine Ev.step (f := fun _ => some false) (fun k => ?_) ?_
    ·
     rw [wherryref11_Local.l0, if_pos (by omega), if_pos (by omega), bt_get x (i + 1) hil, if_pos ((e46 _).2 h), em, if_pos (by omega), if_pos (by omega), bt_get x i hi, if_pos ((e46 _).2 hp)]
    ·
     rw [hp]; exact Ev.now _
   ·
    rw [bne_iff_ne.2 hp, Bool.true_and]
    refine Ev.step (fun k => ?_) ih2
    rw [wherryref11_Local.l0, if_pos (by omega), if_pos (by omega), bt_get x (i + 1) hil, if_pos ((e46 _).2 h), em, if_pos (by omega), if_pos (by omega), bt_get x i hi, if_neg (fun k => hp ((e46 _).1 k)), ew]
  ·
   rw [if_neg h]
   have hs := sign_ev x.data.toList[i + 1]
   generalize hc : x.data.toList[i + 1] = c at *
   have hb : Ev (fun k => (wherryref11_sign.f k (c.toNat : Int)).bind fun t => if t = true then wherryref11_Local.l0 k x ((i + 1 + 1 : Nat) : Int) else some false) (signC c && locG c (x.data.toList.drop (i + 1 + 1))) := by
    refine Ev.bind hs ?_
    cases signC c with
    | true => simpa using ih2
    | false => simpa using Ev.now false
   refine Ev.step (fun k => ?_) hb
   ·
    rw [wherryref11_Local.l0, if_pos (by omega), if_pos (by omega), bt_get x (i + 1) hil, hc, if_neg (fun k => h ((e46 _).1 k)), ew]
theorem reflocal_ev (l : List UInt8) (hs : l.length < 4611686018427387904) : Ev (fun k => wherryref11_Local.f k (bs l)) (localL l) := by
 have hsz := bs_size l
 have e46 : ∀ c : UInt8, (c.toNat : Int) = 46 ↔ c = 46 := fun c => ⟨fun h => UInt8.toNat_inj.1 (by show c.toNat = 46; omega), fun h => by rw [h]; rfl⟩
 have hj : ∀ q r, (q = true → r = false) → (q = false → Ev (fun k => wherryref11_Local.l0 k (bs l) 0) r) → Ev (fun k => wherryref11_Local.j0 k (bs l) q) r := by
  intro q r h1 h2
  cases q with
  | true =>
   refine Ev.step (f := fun _ => some false) (fun k => ?_) (by rw [h1 rfl]; exact Ev.now _)
   rw [wherryref11_Local.j0, if_pos rfl]
  | false =>
   refine Ev.step (fun k => ?_) (h2 rfl)
   rw [wherryref11_Local.j0, if_neg (by decide)]
 by_cases h : (1 : Int) ≤ ((bs l).size : Int) ∧ ((bs l).size : Int) ≤ 64
 ·
  have hin : wherryref11_in.f ((bs l).size : Int) 1 64 = some true := by rw [refin_eq, decide_eq_true h]
  have hun : ∀ k, wherryref11_Local.f k (bs l) = if 0 < ((bs l).size : Int) then (if (bt (bs l) 0) = 46 then (wherryref11_Local.j0 k (bs l) true) else (if 0 ≤ (wrap64 (((bs l).size : Int) - 1)) then (if (wrap64 (((bs l).size : Int) - 1)) < ((bs l).size : Int) then (wherryref11_Local.j0 k (bs l) ((bt (bs l) (wrap64 (((bs l).size : Int) - 1))) == 46)) else (none)) else (none))) else (none) := fun k => by rw [wherryref11_Local.f, hin, Option.bind_some, if_pos rfl]
  have hpos : 0 < l.length := by omega
  have b0 : bt (bs l) 0 = ((l[0]).toNat : Int) := bt_get (bs l) 0 hpos
  have hh : l.head? = some l[0] := by rw [List.head?_eq_getElem?, List.getElem?_eq_getElem hpos]
  have el : wrap64 (((bs l).size : Int) - 1) = ((l.length - 1 : Nat) : Int) := by rw [wrap_small (by omega) (by omega)]; omega
  have b1 : bt (bs l) ((l.length - 1 : Nat) : Int) = ((l[l.length - 1]'(by omega)).toNat : Int) := bt_get (bs l) (l.length - 1) (by rw [bs_data]; omega)
  have hla : l.getLast? = some (l[l.length - 1]'(by omega)) := by rw [List.getLast?_eq_getElem?, List.getElem?_eq_getElem]
  have hloc : localL l = (pieces 46 l).all atomL := by unfold localL; rw [decide_eq_true (by omega), Bool.true_and]
  have hne : l ≠ [] := List.length_pos_iff.1 hpos
  rw [hloc]
  by_cases h0 : l[0] = 46
  ·
   refine Ev.congr (f := fun k => wherryref11_Local.j0 k (bs l) true) (fun k => by rw [hun, if_pos (by omega), b0, if_pos ((e46 _).2 h0)]) (hj true _ (fun _ => ?_) (fun h => by cases h))
   obtain ⟨m, rfl⟩ : ∃ m, l = 46 :: m := by
    cases l with
    | nil => exact absurd rfl hne
    | cons a m => exact ⟨m, by rw [show a = 46 from h0]⟩
   rw [pieces, if_pos rfl]; rfl
  ·
   refine Ev.congr (f := fun k => wherryref11_Local.j0 k (bs l) (((l[l.length - 1]'(by omega)).toNat : Int) == 46)) (fun k => by rw [hun, if_pos (by omega), b0, if_neg (fun k => h0 ((e46 _).1 k)), el, if_pos (by omega), if_pos (by omega), b1]) (hj _ _ (fun hq => ?_) (fun hq => ?_))
   ·
    have hlast : l[l.length - 1]'(by omega) = 46 := (e46 _).1 (beq_iff_eq.1 hq)
    rw [hlast] at hla
    obtain ⟨ys, rfl⟩ := List.getLast?_eq_some_iff.1 hla
    have key : ∀ a : List UInt8, ∃ b, pieces 46 (a ++ [46]) = b ++ [[]] := by
     intro a
     induction a with
     | nil => exact ⟨[[]], rfl⟩
     | cons c a ih =>
      obtain ⟨b, hb⟩ := ih
      rw [List.cons_append, pieces]
      split
      ·
       exact ⟨[] :: b, by rw [hb]; rfl⟩
      ·
       rw [hb]
       cases b with
       | nil =>
        have h1 := congrArg List.length hb
        have h2 : 2 ≤ (pieces 46 (a ++ [46])).length := by
         clear hb h1
         induction a with
         | nil => decide
         | cons d a ih =>
          rw [List.cons_append, pieces]
          split
          ·
           simp; omega
          ·
           split
           ·
            rename_i e; rw [e] at ih; simp at ih
           ·
            rename_i e; rw [e] at ih; simpa using ih
        simp at h1; omega
       | cons p b => exact ⟨(c :: p) :: b, rfl⟩
    obtain ⟨b, hb⟩ := key ys
    rw [hb, List.all_append]
    simp [atomL]
   ·
    have hlast : l.getLast? ≠ some 46 := by
     rw [hla]
     intro e
     rw [beq_eq_false_iff_ne] at hq
     exact hq ((e46 _).2 (Option.some.inj e))
    rw [← (locG_pieces l hlast).2 hne]
    have hG : locG 46 l = (signC l[0] && locG l[0] (l.drop 1)) := by
     cases l with
     | nil => exact absurd rfl hne
     | cons a m =>
      rw [locG, if_neg (by exact h0)]; rfl
    rw [hG]
    have hl1 := reflocal_l0 (bs l) (by omega) _ 0 hpos rfl
    have hl2 : (bs l).data.toList[0] = l[0] := rfl
    rw [hl2] at hl1
    have hl3 : (bs l).data.toList.drop (0 + 1) = l.drop 1 := rfl
    rw [hl3] at hl1
    have hs := sign_ev l[0]
    generalize l[0] = c at *
    generalize l.drop 1 = m at *
    have hb : Ev (fun k => (wherryref11_sign.f k (c.toNat : Int)).bind fun t => if t = true then wherryref11_Local.l0 k (bs l) ((0 + 1 : Nat) : Int) else some false) (signC c && locG c m) := by
     refine Ev.bind hs ?_
     cases signC c with
     | true => simpa using hl1
     | false => simpa using Ev.now false
    refine Ev.step (fun k => ?_) hb
    ·
     rw [wherryref11_Local.l0, if_pos (by omega), if_pos (by omega), b0, if_neg (fun k => h0 ((e46 _).1 k))]
     have : wrap64 ((0 : Int) + 1) = ((0 + 1 : Nat) : Int) := by decide +kernel
     rw [this]
 ·
  have hin : wherryref11_in.f ((bs l).size : Int) 1 64 = some false := by rw [refin_eq, decide_eq_false h]
  refine Ev.congr (f := fun k => wherryref11_Local.j0 k (bs l) true) (fun k => by rw [wherryref11_Local.f, hin, Option.bind_some, if_neg (by decide)]) (hj true _ (fun _ => ?_) (fun h => by cases h))
  unfold localL
  by_cases h0 : l = []
  ·
   rw [h0]; rfl
  ·
   have := List.length_pos_iff.2 h0
   rw [decide_eq_false (by omega), Bool.false_and]
theorem refdomain_ev (l : List UInt8) (hs : l.length < 4611686018427387904) : Ev (fun k => wherryref11_Domain.f k (bs l)) (domainL l) :=
 ⟨3 * l.length + 11, fun k hk => by
  have := refDomain_eq k (bs l) (by rw [bs_size]; omega) (by rw [bs_size]; exact hs)
  rwa [bs_data] at this⟩
theorem refpath_ev (n : Bool) (a b : List UInt8) (ha : a.length < 4611686018427387904) (hb : b.length < 4611686018427387904) : Ev (fun k => wherryref11_Path.f k n (bs a) (bs b)) (checkL n a b) := by
 cases n with
 | true =>
  refine ⟨0, fun k _ => ?_⟩
  show wherryref11_Path.f k true (bs a) (bs b) = _
  rw [wherryref11_Path.f, if_pos rfl, toList_data, toList_data, bs_data, bs_data]
  unfold checkL
  rw [if_pos rfl]
  cases a with
  | nil => rw [if_pos rfl]; rfl
  | cons c a => rw [if_neg (by simp)]; rfl
 | false =>
  refine Ev.congr (f := fun k => (wherryref11_Local.f k (bs a)).bind fun t => if t = true then (wherryref11_Domain.f k (bs b)).bind fun t => some t else some false) (fun k => by rw [wherryref11_Path.f, if_neg (by decide)]) (Ev.bind (reflocal_ev a ha) ?_)
  unfold checkL
  rw [if_neg (by decide)]
  cases localL a with
  | true => simpa using Ev.bind (refdomain_ev b hb) (Ev.now _)
  | false => simpa using Ev.now false
end Go.Proofs.YthcdjgekmfnmnaaGreatDoor.PVerb
end
section
namespace Go.Proofs.YthcdjgekmfnmnaaGreatDoor.PVerb
open Go.RowKit Go.Proofs.YthcdjgekmfnmnaaGreatDoorW.PrintWords Go.Proofs.YthcdjgekmfnmnaaGreatDoorW.PrintLast Go.Proofs.YthcdjgekmfnmnaaGreatDoorW.PrintMore
set_option linter.unusedSimpArgs false
set_option linter.unusedVariables false
def bSize : List UInt8 := [115, 105, 122, 101]
def bRet : List UInt8 := [114, 101, 116]
def bNotify : List UInt8 := [110, 111, 116, 105, 102, 121]
theorem oneL_two (v a b : List UInt8) : oneL v [a, b] = if foldL a = foldL v then some a else if foldL b = foldL v then some b else none := by
  unfold oneL
  rw [List.find?_cons]
  by_cases h : foldL a = foldL v
  · rw [if_pos h, beq_iff_eq.2 h]
  · rw [if_neg h, beq_eq_false_iff_ne.2 h]
    simp only
    rw [List.find?_cons]
    by_cases h2 : foldL b = foldL v
    · rw [if_pos h2, beq_iff_eq.2 h2]
    · rw [if_neg h2, beq_eq_false_iff_ne.2 h2]; rfl
theorem one_keys (v : List UInt8) : oneL v [kSize, kRet, kNotify] = if foldL v = bSize then some kSize else if foldL v = bRet then some kRet else if foldL v = bNotify then some kNotify else none := by
  have e1 : foldL kSize = bSize := by decide
  have e2 : foldL kRet = bRet := by decide
  have e3 : foldL kNotify = bNotify := by decide
  unfold oneL
  rw [List.find?_cons, e1]
  by_cases h : foldL v = bSize
  · rw [if_pos h, h]; rfl
  · rw [if_neg h, beq_eq_false_iff_ne.2 (Ne.symm h)]
    simp only
    rw [List.find?_cons, e2]
    by_cases h2 : foldL v = bRet
    · rw [if_pos h2, h2]; rfl
    · rw [if_neg h2, beq_eq_false_iff_ne.2 (Ne.symm h2)]
      simp only
      rw [List.find?_cons, e3]
      by_cases h3 : foldL v = bNotify
      · rw [if_pos h3, h3]; rfl
      · rw [if_neg h3, beq_eq_false_iff_ne.2 (Ne.symm h3)]; rfl
def parR (kind : Int) (w : List UInt8) : Option ParL :=
  if (cutC 61 w).2.2 = true then
    (if foldL (cutC 61 w).1 = bSize then (if kind = 2 ∧ numL 9 (cutC 61 w).2.1 = true then some (kSize, (cutC 61 w).2.1) else none)
     else if foldL (cutC 61 w).1 = bRet then (if kind = 2 then (if foldL (cutC 61 w).2.1 = [102, 117, 108, 108] then some (kRet, vFull) else if foldL (cutC 61 w).2.1 = [104, 100, 114, 115] then some (kRet, vHdrs) else none) else none)
     else if foldL (cutC 61 w).1 = bNotify then (if kind = 3 then (if foldL (cutC 61 w).2.1 = [110, 101, 118, 101, 114] then some (kNotify, vNever) else if foldL (cutC 61 w).2.1 = [102, 97, 105, 108, 117, 114, 101] then some (kNotify, vFail) else none) else none)
     else none)
  else none
theorem parOne_eq (kind : Int) (w : List UInt8) : parOne kind w = parR kind w := by
  have f1 : foldL vFull = [102, 117, 108, 108] := by decide
  have f2 : foldL vHdrs = [104, 100, 114, 115] := by decide
  have f3 : foldL vNever = [110, 101, 118, 101, 114] := by decide
  have f4 : foldL vFail = [102, 97, 105, 108, 117, 114, 101] := by decide
  unfold parOne parR
  by_cases hc : (cutC 61 w).2.2 = true
  · rw [if_pos hc, if_pos hc, one_keys]
    by_cases h1 : foldL (cutC 61 w).1 = bSize
    · simp only [if_pos h1, Option.bind_some]
      by_cases hk : kind = 2
      · rw [valueT, if_pos ⟨hk, rfl⟩]
        cases numL 9 (cutC 61 w).2.1 <;> simp [hk]
      · rw [valueT, if_neg (fun h => hk h.1), if_neg (fun h => hk h.1), if_neg (fun h => absurd h.2 (by decide)), if_neg (fun h => hk h.1)]; rfl
    · simp only [if_neg h1]
      by_cases h2 : foldL (cutC 61 w).1 = bRet
      · simp only [if_pos h2, Option.bind_some]
        by_cases hk : kind = 2
        · rw [valueT, if_neg (fun h => absurd h.2 (by decide)), if_pos ⟨hk, rfl⟩, oneL_two, f1, f2, if_pos hk]
          by_cases g1 : foldL (cutC 61 w).2.1 = [102, 117, 108, 108]
          · rw [if_pos g1.symm, if_pos g1]; rfl
          · rw [if_neg (Ne.symm g1), if_neg g1]
            by_cases g2 : foldL (cutC 61 w).2.1 = [104, 100, 114, 115]
            · rw [if_pos g2.symm, if_pos g2]; rfl
            · rw [if_neg (Ne.symm g2), if_neg g2]; rfl
        · rw [valueT, if_neg (fun h => hk h.1), if_neg (fun h => hk h.1), if_neg (fun h => absurd h.2 (by decide)), if_neg hk]; rfl
      · simp only [if_neg h2]
        by_cases h3 : foldL (cutC 61 w).1 = bNotify
        · simp only [if_pos h3, Option.bind_some]
          by_cases hk : kind = 3
          · rw [valueT, if_neg (fun h => absurd h.2 (by decide)), if_neg (fun h => absurd h.2 (by decide)), if_pos ⟨hk, rfl⟩, oneL_two, f3, f4, if_pos hk]
            by_cases g1 : foldL (cutC 61 w).2.1 = [110, 101, 118, 101, 114]
            · rw [if_pos g1.symm, if_pos g1]; rfl
            · rw [if_neg (Ne.symm g1), if_neg g1]
              by_cases g2 : foldL (cutC 61 w).2.1 = [102, 97, 105, 108, 117, 114, 101]
              · rw [if_pos g2.symm, if_pos g2]; rfl
              · rw [if_neg (Ne.symm g2), if_neg g2]; rfl
          · rw [valueT, if_neg (fun h => absurd h.2 (by decide)), if_neg (fun h => absurd h.2 (by decide)), if_neg (fun h => hk h.1), if_neg hk]; rfl
        · simp only [if_neg h3]; rfl
  · rw [if_neg hc, if_neg hc]
end Go.Proofs.YthcdjgekmfnmnaaGreatDoor.PVerb
end
section
namespace Go.Proofs.YthcdjgekmfnmnaaGreatDoor.PVerb
open Go.RowKit Go.Proofs.YthcdjgekmfnmnaaGreatDoorW.PrintWords Go.Proofs.YthcdjgekmfnmnaaGreatDoorW.PrintLast Go.Proofs.YthcdjgekmfnmnaaGreatDoorW.PrintMore
set_option linter.unusedSimpArgs false
set_option linter.unusedVariables false
theorem local_chars {d : List UInt8} (h : localL d = true) : ∀ c ∈ d, signC c = true ∨ c = 46 := by
 intro c hc
 simp only [localL, Bool.and_eq_true] at h
 cases hp : pieces 46 d with
 | nil => exact absurd hp (pieces_ne 46 d)
 | cons h2 t2 =>
  obtain ⟨e1, _, _⟩ := pieces_join hp
  have hin : ∀ w, (w = h2 ∨ w ∈ t2) → ∀ c ∈ w, signC c = true := by
   intro w hw c hcw
   have := List.all_eq_true.1 h.2 w (by rw [hp]; simpa using hw)
   rw [atom_split, Bool.and_eq_true] at this
   exact List.all_eq_true.1 this.1 c hcw
  rw [e1] at hc
  rcases List.mem_append.1 hc with hc | hc
  ·
   exact .inl (hin h2 (.inl rfl) c hc)
  ·
   obtain ⟨w, hw, hcw⟩ := List.mem_flatMap.1 hc
   rcases List.mem_cons.1 hcw with k | k
   ·
    exact .inr k
   ·
    exact .inl (hin w (.inr hw) c k)
theorem path_end {h : List UInt8} {p : Bool × List UInt8 × List UInt8} (e : pathT h = some p) : ∃ g, h = g ++ [62] ∧ (62 : UInt8) ∉ g ∧ (32 : UInt8) ∉ h := by
 obtain ⟨h1, h2⟩ := path_text e
 cases hn : p.1 with
 | true =>
  rw [hn, if_pos rfl] at h1
  exact ⟨[60], h1, by decide, by rw [h1]; decide⟩
 | false =>
  rw [hn, if_neg (by decide)] at h1
  rw [hn, checkL, if_neg (by decide), Bool.and_eq_true] at h2
  have c1 := local_chars h2.1
  have c2 := domain_chars h2.2
  have hx : ∀ c, signC c = false → c ≠ 46 → plainC c = false → c ≠ 45 → c ≠ 60 → c ≠ 64 → c ∉ 60 :: p.2.1 ++ 64 :: p.2.2 := by
   intro c k1 k2 k3 k4 k5 k6 hm
   rcases List.mem_append.1 hm with hm | hm
   ·
    rcases List.mem_cons.1 hm with hm | hm
    ·
     exact k5 hm
    ·
     rcases c1 c hm with q | q
     ·
      rw [k1] at q; cases q
     ·
      exact k2 q
   ·
    rcases List.mem_cons.1 hm with hm | hm
    ·
     exact k6 hm
    ·
     rcases c2 c hm with q | q | q
     ·
      rw [k3] at q; cases q
     ·
      exact k4 q
     ·
      exact k2 q
  refine ⟨60 :: p.2.1 ++ 64 :: p.2.2, h1, hx 62 (by decide) (by decide) (by decide) (by decide) (by decide) (by decide), ?_⟩
  rw [h1]
  intro hm
  rcases List.mem_append.1 hm with hm | hm
  ·
   exact hx 32 (by decide) (by decide) (by decide) (by decide) (by decide) (by decide) hm
  ·
   exact absurd hm (by decide)
def answerB (o : Option CmdL) : CmdL × Int := match o with | some c => (c, 0) | none => (noL, 501)
end Go.Proofs.YthcdjgekmfnmnaaGreatDoor.PVerb
end
section
namespace Go.Proofs.YthcdjgekmfnmnaaGreatDoor.PVerb
open Go.RowKit Go.Proofs.YthcdjgekmfnmnaaGreatDoorW.PrintWords Go.Proofs.YthcdjgekmfnmnaaGreatDoorW.PrintLast Go.Proofs.YthcdjgekmfnmnaaGreatDoorW.PrintMore
theorem wakes_60 : wherrylaw12_wakes.f 60 = some true := by kernel_rfl
theorem wakes_k (k : Nat) (h : 60 ≤ k) : wherrylaw12_wakes.f k = some true := by
 obtain ⟨d, rfl⟩ : ∃ d, k = 60 + d := ⟨k - 60, by omega⟩
 clear h
 induction d with
 | zero => exact wakes_60
 | succ d ih => exact wherrylaw12_wakes.mono _ _ ih
end Go.Proofs.YthcdjgekmfnmnaaGreatDoor.PVerb
end
