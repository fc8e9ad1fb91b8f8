/- Parts of the proof, put together by program. -/
import Derived.Test.YthcdjgekmfnmnaaGreatDoorK6
section
namespace Go.Proofs.YthcdjgekmfnmnaaGreatDoor.PVerb
open Go.RowKit Go.Proofs.YthcdjgekmfnmnaaGreatDoorW.PrintWords Go.Proofs.YthcdjgekmfnmnaaGreatDoorW.PrintLast Go.Proofs.YthcdjgekmfnmnaaGreatDoorW.PrintMore
set_option linter.unusedSimpArgs false
set_option linter.unusedVariables false
abbrev SP := S47
def mkP (p : ParL) : SP := ⟨bs p.1, bs p.2⟩
def ret7 {β : Type} (c : CmdL) (b : β) : Int × ByteArray × Bool × ByteArray × ByteArray × List SP × β :=
 (c.1, bs c.2.1, c.2.2.1, bs c.2.2.2.1, bs c.2.2.2.2.1, c.2.2.2.2.2.map mkP, b)
theorem extract_list (s : ByteArray) (a b : Nat) : s.extract a b = bs ((s.data.toList.take b).drop a) := by
 rw [← bs_of (s.extract a b)]
 congr 1
 simp [ByteArray.data_extract, List.extract_eq_take_drop]
 rw [List.drop_take]
theorem one_eq (s : ByteArray) (L : List (List UInt8)) (hs : s.size < 4294967281) (hl : L.length < 100) (hL : ∀ x ∈ L, x.length < 4294967281) :
  verb_one.f s (L.map bs) = some (bs ((oneL s.data.toList L).getD []), (oneL s.data.toList L).isSome) := by
 have hm : (L.map bs).find? (eqFold s) = (oneL s.data.toList L).map bs := by
  unfold oneL
  rw [List.find?_map]
  rfl
 unfold verb_one.f
 rw [if_pos ⟨hs, by simpa using hl, by
  intro x hx
  obtain ⟨y, hy, rfl⟩ := List.mem_map.1 hx
  rw [bs_size]; exact hL y hy⟩, hm]
 cases oneL s.data.toList L <;> rfl
theorem value_eq (kind : Int) (key val : ByteArray) (hs : val.size < 4294967281) :
  ∃ r, verb_value.f 3 kind key val = some (r, (valueT kind key.data.toList val.data.toList).isSome) ∧ ∀ v, valueT kind key.data.toList val.data.toList = some v → r = bs v := by
 have hn : verb_number.f val = some (numL 9 val.data.toList) := by rw [verb_number.f, if_pos hs]
 have h1 := one_eq val [vFull, vHdrs] hs (by decide) (by decide)
 have h2 := one_eq val [vNever, vFail] hs (by decide) (by decide)
 have e1 : ([vFull, vHdrs] : List (List UInt8)).map bs = [(⟨#[70, 85, 76, 76]⟩ : ByteArray), (⟨#[72, 68, 82, 83]⟩ : ByteArray)] := rfl
 have e2 : ([vNever, vFail] : List (List UInt8)).map bs = [(⟨#[78, 69, 86, 69, 82]⟩ : ByteArray), (⟨#[70, 65, 73, 76, 85, 82, 69]⟩ : ByteArray)] := rfl
 rw [e1] at h1
 rw [e2] at h2
 by_cases k2 : kind = 2
 ·
  subst k2
  simp only [verb_value.f, verb_value.j0, verb_value.j1, toList_data, if_true, hn, h1, h2, Option.bind_some]
  by_cases ks : key.data.toList = kSize
  ·
   rw [if_pos (by rw [ks]; rfl)]
   have e : valueT 2 key.data.toList val.data.toList = if numL 9 val.data.toList then some val.data.toList else none := by rw [valueT, if_pos ⟨rfl, ks⟩]
   rw [e]
   refine ⟨val, by cases numL 9 val.data.toList <;> rfl, ?_⟩
   intro v hv
   split at hv
   ·
    cases hv; rfl
   ·
    cases hv
  ·
   rw [if_neg (by intro h; exact ks (beq_iff_eq.1 h))]
   by_cases kr : key.data.toList = kRet
   ·
    rw [if_pos (by rw [kr]; rfl)]
    have e : valueT 2 key.data.toList val.data.toList = oneL val.data.toList [vFull, vHdrs] := by rw [valueT, if_neg (fun h => ks h.2), if_pos ⟨rfl, kr⟩]
    rw [e]
    exact ⟨_, rfl, fun v hv => by rw [hv]; rfl⟩
   ·
    rw [if_neg (by intro h; exact kr (beq_iff_eq.1 h)), if_neg (by decide)]
    have e : valueT 2 key.data.toList val.data.toList = none := by rw [valueT, if_neg (fun h => ks h.2), if_neg (fun h => kr h.2), if_neg (fun h => absurd h.1 (by decide))]
    rw [e]
    exact ⟨_, rfl, fun v hv => by cases hv⟩
 ·
  simp only [verb_value.f, verb_value.j0, verb_value.j1, toList_data, if_neg k2, Bool.false_eq_true, if_false, h2, Option.bind_some]
  by_cases k3 : kind = 3 ∧ key.data.toList = kNotify
  ·
   rw [if_pos k3.1, if_pos (show key.data.toList = [78, 79, 84, 73, 70, 89] from k3.2)]
   have e : valueT kind key.data.toList val.data.toList = oneL val.data.toList [vNever, vFail] := by rw [valueT, if_neg (fun h => k2 h.1), if_neg (fun h => k2 h.1), if_pos k3]
   rw [e]
   exact ⟨_, rfl, fun v hv => by rw [hv]; rfl⟩
  ·
   have e : valueT kind key.data.toList val.data.toList = none := by rw [valueT, if_neg (fun h => k2 h.1), if_neg (fun h => k2 h.1), if_neg k3]
   rw [e]
   refine ⟨bs [], ?_, fun v hv => by cases hv⟩
   by_cases k : kind = 3
   ·
    rw [if_pos k, if_neg (show ¬ key.data.toList = [78, 79, 84, 73, 70, 89] from fun h => k3 ⟨k, h⟩)]; rfl
   ·
    rw [if_neg k]; rfl
theorem cut_len {s : UInt8} (l : List UInt8) : (cutC s l).1.length ≤ l.length ∧ (cutC s l).2.1.length ≤ l.length := by
 induction l with
 | nil => simp [cutC]
 | cons c l ih =>
  rw [cutC]
  split
  ·
   simp
  ·
   simp only [List.length_cons]; omega
theorem any_map (k : List UInt8) (out : List ParL) : (out.map mkP).any (keyIs (bs k)) = out.any fun q => q.1 == k := by
 rw [List.any_map]; rfl
theorem params_eq (kind : Int) : ∀ (ws : List (List UInt8)) (out : List ParL), (∀ w ∈ ws, w.length < 4294967281) →
  verb_params.l kind (ws.map bs) (out.map mkP) = some (match paramsT kind ws out with | some ps => (ps.map mkP, true) | none => ([], false))
 | [], out, _ => rfl
 | w :: ws, out, hw => by
  have hwl := hw w (by simp)
  have hc := cut_len (s := 61) w
  have h0 : strings_Cut.f (bs w) ⟨#[61]⟩ = some (bs (cutC 61 w).1, bs (cutC 61 w).2.1, (cutC 61 w).2.2) := by
   rw [strings_Cut.f, if_pos (by rw [bs_size]; exact hwl)]
   have : Lib.cut (bs w).data.toList (⟨#[61]⟩ : ByteArray).data.toList = cutC 61 w := cut_one 61 w
   rw [this]
  have h1 := one_eq (bs (cutC 61 w).1) [kSize, kRet, kNotify] (by rw [bs_size]; omega) (by decide) (by decide)
  rw [bs_data] at h1
  have e1 : ([kSize, kRet, kNotify] : List (List UInt8)).map bs = [(⟨#[83, 73, 90, 69]⟩ : ByteArray), (⟨#[82, 69, 84]⟩ : ByteArray), (⟨#[78, 79, 84, 73, 70, 89]⟩ : ByteArray)] := rfl
  rw [e1] at h1
  rw [List.map_cons, verb_params.l, h0, Option.bind_some, h1, Option.bind_some]
  obtain ⟨r, hv, hr⟩ := value_eq kind (bs ((oneL (cutC 61 w).1 [kSize, kRet, kNotify]).getD [])) (bs (cutC 61 w).2.1) (by rw [bs_size]; omega)
  rw [hv, Option.bind_some]
  rw [paramsT]
  unfold parOne
  simp only [bs_data] at hr ⊢
  cases hcc : (cutC 61 w).2.2 with
  | false => simp
  | true =>
   cases ho : oneL (cutC 61 w).1 [kSize, kRet, kNotify] with
   | none => simp
   | some key =>
    rw [ho] at hr
    simp only [Option.getD_some, Option.isSome_some, true_and, if_true, Option.bind_some] at hr ⊢
    cases hvv : valueT kind key (cutC 61 w).2.1 with
    | none => simp
    | some v =>
     obtain rfl := hr v hvv
     simp only [Option.isSome_some, true_and, Option.map_some, Option.bind_some, any_map]
     by_cases hd : out.any (fun q => q.1 == key) = true
     ·
      rw [hd]; simp
     ·
      rw [Bool.not_eq_true] at hd
      rw [hd]
      simp only [if_true, Bool.false_eq_true, if_false]
      have := params_eq kind ws (out ++ [(key, v)]) fun x hx => hw x (by simp [hx])
      rw [List.map_append] at this
      exact this
theorem cutprefix_eq (c : UInt8) (l : List UInt8) : strings_CutPrefix.f (bs l) ⟨#[c]⟩ = some (match l with | a :: m => if a = c then (bs m, true) else (bs (a :: m), false) | [] => (bs [], false)) := by
 have e1 : (⟨#[c]⟩ : ByteArray).size = 1 := rfl
 unfold strings_CutPrefix.f stringslite_CutPrefix.f stringslite_HasPrefix.f
 simp only [e1, bs_size]
 cases l with
 | nil => simp
 | cons a m =>
  have e2 : ((1 : Nat) : Int).toNat = 1 := rfl
  have e5 : ((1 : Nat) : Int) ≤ ((a :: m).length : Int) := by rw [List.length_cons]; omega
  rw [if_pos e5, if_pos (by omega), if_pos e5, e2]
  simp only [Option.bind_some, extract_list, toList_data, bs_data, List.take_succ_cons, List.take_zero, List.drop_zero]
  by_cases h : a = c
  ·
   subst h
   rw [if_pos (by simp), if_pos (by omega), if_pos e5]
   simp
  ·
   rw [if_neg (by simp [h])]
   simp [h]
theorem cutsuffix_eq (c : UInt8) (l : List UInt8) (hl : l.length < 4611686018427387904) : strings_CutSuffix.f (bs l) ⟨#[c]⟩ = some (if l.getLast? = some c then (bs l.dropLast, true) else (bs l, false)) := by
 have e1 : (⟨#[c]⟩ : ByteArray).size = 1 := rfl
 unfold strings_CutSuffix.f stringslite_CutSuffix.f stringslite_HasSuffix.f
 simp only [e1, bs_size]
 by_cases h0 : l = []
 ·
  subst h0; simp
 ·
  have hp : 1 ≤ l.length := List.length_pos_iff.2 h0
  have ew : wrap64 ((l.length : Int) - ((1 : Nat) : Int)) = ((l.length - 1 : Nat) : Int) := by rw [wrap_small (by omega) (by omega)]; omega
  rw [ew, if_pos (by omega), if_pos (by omega), if_pos (by omega)]
  simp only [Option.bind_some, extract_list, toList_data, bs_data, Int.toNat_natCast]
  obtain ⟨m, a, rfl⟩ : ∃ m a, l = m ++ [a] := ⟨l.dropLast, l.getLast h0, (List.dropLast_concat_getLast h0).symm⟩
  have e4 : List.drop ((m ++ [a]).length - 1) (List.take (m ++ [a]).length (m ++ [a])) = [a] := by rw [List.take_length]; simp
  rw [e4, List.getLast?_concat]
  by_cases h : a = c
  ·
   subst h
   rw [if_pos (by simp), if_pos (by omega), if_pos (by omega), if_pos rfl]
   simp
  ·
   rw [if_neg (by simp [h]), if_neg (by simpa using h)]; rfl
theorem path_eq (h : List UInt8) (hs : h.length < 2147483648) :
  path_Parse.f (bs h) = some (match pathT h with | some p => (p.1, bs p.2.1, bs p.2.2, 0) | none => (false, bs [], bs [], 5)) := by
 unfold path_Parse.f
 rw [toList_data, bs_data]
 by_cases h0 : h = [60, 62]
 ·
  subst h0; rfl
 ·
  rw [if_neg h0]
  unfold pathT
  rw [if_neg h0]
  have hcut : ∀ l : List UInt8, l.length < 2147483648 → strings_Cut.f (bs l) ⟨#[64]⟩ = some (bs (cutC 64 l).1, bs (cutC 64 l).2.1, (cutC 64 l).2.2) := by
   intro l hl
   rw [strings_Cut.f, if_pos (by rw [bs_size]; omega)]
   have : Lib.cut (bs l).data.toList (⟨#[64]⟩ : ByteArray).data.toList = cutC 64 l := cut_one 64 l
   rw [this]
  rw [cutprefix_eq]
  cases h with
  | nil =>
   simp only [Option.bind_some]
   rw [cutsuffix_eq _ _ (by simp), Option.bind_some]
   split
   ·
    rw [hcut _ (by simp), Option.bind_some, if_neg (by decide)]; rfl
   ·
    rw [hcut _ (by simp), Option.bind_some, if_neg (by decide)]; rfl
  | cons a m =>
   have hm : m.length < 2147483648 := by simp at hs; omega
   simp only [Option.bind_some]
   by_cases ha : a = 60
   ·
    rw [if_pos ha]
    simp only
    rw [cutsuffix_eq _ _ (by omega), Option.bind_some]
    by_cases hl : m.getLast? = some 62
    ·
     rw [if_pos hl]
     have hd : m.dropLast.length < 2147483648 := by simp; omega
     have hc := cut_len (s := 64) m.dropLast
     rw [hcut _ hd, Option.bind_some]
     simp only [if_true]
     by_cases ht : (cutC 64 m.dropLast).2.2 = true
     ·
      rw [if_pos ht, path_Check.f, if_pos ⟨by rw [bs_size]; omega, by rw [bs_size]; omega⟩, Option.bind_some, bs_data, bs_data]
      by_cases hk : checkL false (cutC 64 m.dropLast).1 (cutC 64 m.dropLast).2.1 = true
      ·
       rw [if_pos (by rw [if_pos hk]), if_pos ⟨ha, hl, ht, hk⟩]
      ·
       rw [if_neg (by rw [if_neg hk]; decide), if_neg (fun k => hk k.2.2.2)]; rfl
     ·
      rw [if_neg ht, if_neg (fun k => ht k.2.2.1)]; rfl
    ·
     rw [if_neg hl, if_neg (fun k => hl k.2.1)]
     simp only
     rw [hcut _ (by omega), Option.bind_some, if_pos trivial, if_neg (by decide)]; rfl
   ·
    rw [if_neg ha, if_neg (fun k => ha k.1)]
    simp only
    rw [cutsuffix_eq _ _ (by simp; omega), Option.bind_some]
    split
    ·
     rw [hcut _ (by simp; omega), Option.bind_some, if_neg (by decide)]; rfl
    ·
     rw [hcut _ (by simp; omega), Option.bind_some, if_neg (by decide)]; rfl
theorem named_eq (kind : Int) (d : List UInt8) (hs : d.length < 2147483648) :
  verb_named.f kind (bs d) = some (match namedT kind d with | some c => ret7 c true | none => ret7 noL false) := by
 unfold verb_named.f
 rw [path_Domain.f, if_pos (by rw [bs_size]; omega), Option.bind_some, bs_data]
 unfold namedT
 cases domainL d <;> rfl
theorem pieces_len {s : UInt8} {l : List UInt8} {w : List UInt8} (h : w ∈ pieces s l) : w.length ≤ l.length := by
 cases hp : pieces s l with
 | nil => exact absurd hp (pieces_ne s l)
 | cons b t =>
  obtain ⟨e, _, _⟩ := pieces_join hp
  rw [hp] at h
  rw [e, List.length_append]
  rcases List.mem_cons.1 h with rfl | h
  ·
   omega
  ·
   obtain ⟨a, b', rfl⟩ := List.append_of_mem h
   simp only [List.flatMap_append, List.flatMap_cons, List.length_append, List.length_cons]
   omega
theorem pieces_count {s : UInt8} : ∀ l : List UInt8, (pieces s l).length ≤ l.length + 1
 | [] => by simp [pieces]
 | c :: l => by
  have ih := pieces_count (s := s) l
  rw [pieces]
  split
  ·
   simp; omega
  ·
   split
   ·
    simp
   ·
    rename_i e; rw [e] at ih; simp at ih ⊢; omega
theorem mailbox_eq (kind : Int) (r : List UInt8) (hs : r.length < 90000) :
  verb_mailbox.f kind (bs r) = some (match mailboxT kind r with | some c => ret7 c true | none => ret7 noL false) := by
 unfold verb_mailbox.f
 rw [strings_Split.f, if_pos ⟨by rw [bs_size]; omega, rfl⟩, Option.bind_some, bs_data]
 have e1 : (⟨#[32]⟩ : ByteArray).data.toList.headD 0 = 32 := rfl
 rw [e1]
 have hcnt := pieces_count (s := 32) r
 have hlen := fun w h => pieces_len (s := 32) (l := r) (w := w) h
 cases hp : pieces 32 r with
 | nil => exact absurd hp (pieces_ne 32 r)
 | cons b t =>
  have hM : mailboxT kind r = (pathT b).bind fun p => (paramsT kind t []).bind fun ps => if kind = 3 ∧ p.1 = true then none else some (kind, [], p.1, p.2.1, p.2.2, ps) := by
   unfold mailboxT
   rw [hp]
  rw [hM]
  rw [hp] at hcnt hlen
  rw [List.map_cons, if_pos (by simp only [List.length_cons]; omega)]
  have e2 : rdOf ByteArray.empty (bs b :: t.map bs) 0 = bs b := rfl
  have hb := hlen b (by simp)
  rw [e2, path_eq b (by omega), Option.bind_some, if_pos (by simp only [List.length_cons]; omega)]
  have e3 : (bs b :: t.map bs).drop 1 = t.map bs := rfl
  have e4 := params_eq kind t [] fun w hw => by have := hlen w (by simp [hw]); omega
  have e5 : ([] : List ParL).map mkP = [] := rfl
  rw [e5] at e4
  rw [e3, verb_params.f, if_pos (by rw [List.length_map]; simp at hcnt; omega), e4, Option.bind_some]
  cases pathT b with
  | none => simp; rfl
  | some p =>
   simp only [Option.bind_some, if_true]
   cases paramsT kind t [] with
   | none => simp; rfl
   | some ps =>
    simp only [Option.bind_some, if_true]
    by_cases hk : kind = 3
    ·
     by_cases hn : p.1 = true
     ·
      rw [if_pos hk, if_pos hn, if_pos ⟨hk, hn⟩]; rfl
     ·
      rw [if_pos hk, if_neg hn, if_neg (fun k => hn k.2)]; rfl
    ·
     rw [if_neg hk, if_neg (fun k => hk k.1)]; rfl
theorem after_eq (l b : List UInt8) (h : l.length < 4294967281) (hb : b.length < 4294967281) : verb_after.f (bs l) (bs b) = some (if begL l b then bs (l.drop b.length) else bs [], begL l b) := by
 rw [verb_after.f, if_pos ⟨by rw [bs_size]; exact h, by rw [bs_size]; exact hb⟩, bs_size]
 rfl
theorem read_eq (l : List UInt8) (hs : l.length < 90000) : verb_read.f (bs l) = some (match readT l with | some c => ret7 c true | none => ret7 noL false) := by
 unfold verb_read.f readT
 rw [verb_alone.f, if_pos (by rw [bs_size]; omega), Option.bind_some, bs_data]
 cases ha : aloneL l with
 | some k => rfl
 | none =>
  simp only [Option.isSome_none, Bool.false_eq_true, if_false]
  have hd : ∀ n, (l.drop n).length < 90000 := fun n => by simp; omega
  have a1 : verb_after.f (bs l) ⟨#[101, 104, 108, 111, 32]⟩ = _ := after_eq l sEhlo (by omega) (by decide)
  have a2 : verb_after.f (bs l) ⟨#[104, 101, 108, 111, 32]⟩ = _ := after_eq l sHelo (by omega) (by decide)
  have a3 : verb_after.f (bs l) ⟨#[109, 97, 105, 108, 32, 102, 114, 111, 109, 58]⟩ = _ := after_eq l sMail (by omega) (by decide)
  have a4 : verb_after.f (bs l) ⟨#[114, 99, 112, 116, 32, 116, 111, 58]⟩ = _ := after_eq l sRcpt (by omega) (by decide)
  have a5 : verb_after.f (bs l) ⟨#[101, 116, 114, 110, 32]⟩ = _ := after_eq l sEtrn (by omega) (by decide)
  have a6 : verb_after.f (bs l) ⟨#[97, 116, 114, 110, 32]⟩ = _ := after_eq l sAtrn (by omega) (by decide)
  have a7 : verb_after.f (bs l) ⟨#[110, 111, 111, 112, 32]⟩ = _ := after_eq l sNoop (by omega) (by decide)
  have a8 : verb_after.f (bs l) ⟨#[118, 114, 102, 121, 32]⟩ = _ := after_eq l sVrfy (by omega) (by decide)
  unfold readTab
  simp only [verb_read.rows, verb_read.tail, a1, a2, a3, a4, a5, a6, a7, a8, Option.bind_some]
  by_cases b1 : begL l sEhlo = true
  ·
   simp only [if_pos b1, Bool.false_eq_true, if_false]; exact named_eq _ _ (by have := hd 5; show (l.drop 5).length < _; omega)
  simp only [if_neg b1]
  by_cases b2 : begL l sHelo = true
  ·
   simp only [if_pos b2, Bool.false_eq_true, if_false]; exact named_eq _ _ (by have := hd 5; show (l.drop 5).length < _; omega)
  simp only [if_neg b2]
  by_cases b3 : begL l sMail = true
  ·
   simp only [if_pos b3, if_true]; exact mailbox_eq _ _ (hd 10)
  simp only [if_neg b3]
  by_cases b4 : begL l sRcpt = true
  ·
   simp only [if_pos b4, if_true]; exact mailbox_eq _ _ (hd 8)
  simp only [if_neg b4]
  by_cases b5 : begL l sEtrn = true
  ·
   simp only [if_pos b5, Bool.false_eq_true, if_false]; exact named_eq _ _ (by have := hd 5; show (l.drop 5).length < _; omega)
  simp only [if_neg b5]
  by_cases b6 : begL l sAtrn = true
  ·
   simp only [if_pos b6, Bool.false_eq_true, if_false]; exact named_eq _ _ (by have := hd 5; show (l.drop 5).length < _; omega)
  simp only [if_neg b6]
  by_cases b7 : begL l sNoop = true
  ·
   simp only [if_pos b7]; rfl
  simp only [if_neg b7]
  by_cases b8 : begL l sVrfy = true
  ·
   simp only [if_pos b8, bs_data]
   by_cases hn : l.drop 5 = []
   ·
    rw [if_neg (fun k => k.2 hn), if_neg (fun k => k.2 hn)]; rfl
   ·
    rw [if_pos ⟨b8, hn⟩, if_pos ⟨b8, hn⟩]; rfl
  ·
   rw [if_neg (fun k => b8 k.1), if_neg (fun k => b8 k.1)]; rfl
end Go.Proofs.YthcdjgekmfnmnaaGreatDoor.PVerb
end
section
namespace Go.Proofs.YthcdjgekmfnmnaaGreatDoor.PVerb
open Go.RowKit Go.Proofs.YthcdjgekmfnmnaaGreatDoorW.PrintWords Go.Proofs.YthcdjgekmfnmnaaGreatDoorW.PrintLast Go.Proofs.YthcdjgekmfnmnaaGreatDoorW.PrintMore
set_option linter.unusedSimpArgs false
set_option linter.unusedVariables false
theorem idx_l0 (L : List ByteArray) (x : ByteArray) (hL : L.length < 4611686018427387904) : ∀ (d k i : Nat), L.length - i = d → i ≤ L.length → d < k →
  ∃ r, slices_Index_string_string.l0 k L x (L.length : Int) (i : Int) = some r ∧ decide (r ≥ 0) = (L.drop i).any (fun y => x.data.toList == y.data.toList) := by
 intro d
 induction d with
 | zero =>
  intro k i hd hi hk
  obtain ⟨k, rfl⟩ : ∃ m, k = m + 1 := ⟨k - 1, by omega⟩
  refine ⟨-1, ?_, ?_⟩
  ·
   rw [slices_Index_string_string.l0, if_neg (by omega)]
  ·
   rw [List.drop_of_length_le (by omega)]; rfl
 | succ d ih =>
  intro k i hd hi hk
  obtain ⟨k, rfl⟩ : ∃ m, k = m + 1 := ⟨k - 1, by omega⟩
  have hil : i < L.length := by omega
  have ew : wrap64 ((i : Int) + 1) = ((i + 1 : Nat) : Int) := by rw [wrap_small (by omega) (by omega)]; omega
  rw [slices_Index_string_string.l0, if_pos (by omega), if_pos (by omega), if_pos (by omega), rdOf_get hil, List.drop_eq_getElem_cons hil, List.any_cons, ew, toList_data, toList_data]
  by_cases h : x.data.toList = (L[i]).data.toList
  ·
   rw [if_pos h]
   exact ⟨_, rfl, by rw [h]; simp⟩
  ·
   rw [if_neg h]
   obtain ⟨r, h1, h2⟩ := ih k (i + 1) (by omega) (by omega) (by omega)
   refine ⟨r, h1, ?_⟩
   rw [h2, beq_eq_false_iff_ne.2 h, Bool.false_or]
theorem contains_eq (k : Nat) (L : List (List UInt8)) (x : List UInt8) (hL : L.length < 4611686018427387904) (hk : L.length < k) :
  slices_Contains_string_string.f k (L.map bs) (bs x) = some (L.contains x) := by
 obtain ⟨r, h1, h2⟩ := idx_l0 (L.map bs) (bs x) (by simpa using hL) (L.map bs).length k 0 (by simp) (by omega) (by simpa using hk)
 unfold slices_Contains_string_string.f slices_Index_string_string.f
 rw [show ((0 : Nat) : Int) = 0 from rfl] at h1
 rw [h1, Option.bind_some, h2, List.drop_zero, List.any_map, List.contains_eq_any_beq]
 rfl
theorem strange_l0 (r : List UInt8) (b : Bool) (hr : r.length < 4611686018427387904) : ∀ (d k i : Nat), r.length - i = d → i ≤ r.length → d < k →
  verb_strange.l0 k (bs r) b (r.length : Int) (i : Int) = some (b && (r.drop i).all (fun c => plainC c || c == 45) && !r.isEmpty) := by
 intro d
 induction d with
 | zero =>
  intro k i hd hi hk
  obtain ⟨k, rfl⟩ : ∃ m, k = m + 1 := ⟨k - 1, by omega⟩
  rw [verb_strange.l0, if_neg (by omega), List.drop_of_length_le (by omega), List.all_nil, toList_data, bs_data]
  cases b <;> simp
 | succ d ih =>
  intro k i hd hi hk
  obtain ⟨k, rfl⟩ : ∃ m, k = m + 1 := ⟨k - 1, by omega⟩
  have hil : i < r.length := by omega
  have ew : wrap64 ((i : Int) + 1) = ((i + 1 : Nat) : Int) := by rw [wrap_small (by omega) (by omega)]; omega
  rw [verb_strange.l0, if_pos (by omega), if_pos (by omega), if_pos (by rw [bs_size]; omega), bt_get (bs r) i (by rw [bs_data]; exact hil), List.drop_eq_getElem_cons hil, List.all_cons, ew]
  have hrr := ih k (i + 1) (by omega) (by omega) (by omega)
  rw [hrr]
  have hc : ((bs r).data.toList[i]'(by rw [bs_data]; exact hil)) = r[i] := rfl
  rw [hc]
  generalize r[i] = c
  have hp : (plainC c || c == 45) = true ↔ (97 ≤ c.toNat ∧ c.toNat ≤ 122) ∨ (65 ≤ c.toNat ∧ c.toNat ≤ 90) ∨ (48 ≤ c.toNat ∧ c.toNat ≤ 57) ∨ c.toNat = 45 := by
   have e45 : c = 45 ↔ c.toNat = 45 := ⟨fun h => by rw [h]; rfl, fun h => UInt8.toNat_inj.1 h⟩
   simp only [plainC, Bool.or_eq_true, Bool.and_eq_true, decide_eq_true_eq, UInt8.le_iff_toNat_le, beq_iff_eq, e45]
   have e97 : (97 : UInt8).toNat = 97 := rfl
   have e122 : (122 : UInt8).toNat = 122 := rfl
   have e65 : (65 : UInt8).toNat = 65 := rfl
   have e90 : (90 : UInt8).toNat = 90 := rfl
   have e48 : (48 : UInt8).toNat = 48 := rfl
   have e57 : (57 : UInt8).toNat = 57 := rfl
   omega
  cases hq : (plainC c || c == 45) with
  | true =>
   have := hp.1 hq
   simp only [Bool.true_and]
   repeat' split
   all_goals first | rfl | (exfalso; omega)
  | false =>
   have : ¬ _ := fun h => by have := hp.2 h; rw [hq] at this; cases this
   simp only [Bool.false_and, Bool.and_false]
   repeat' split
   all_goals first | rfl | (exfalso; omega)
theorem strange_eq (k : Nat) (l : List UInt8) (hl : l.length < 90000) (hk : l.length + 1 < k) : verb_strange.f k (bs l) = some (strangeL l) := by
 unfold verb_strange.f
 have a : verb_after.f (bs l) ⟨#[97, 117, 116, 104, 32]⟩ = _ := after_eq l sAuth (by omega) (by decide)
 rw [a, Option.bind_some]
 unfold strangeL
 by_cases h : begL l sAuth = true
 ·
  have e5 : sAuth.length = 5 := rfl
  rw [h, if_pos rfl, e5]
  simp only [bs_size]
  have hd : (l.drop 5).length ≤ l.length := by simp
  have := strange_l0 (l.drop 5) true (by omega) (l.drop 5).length k 0 (by omega) (by omega) (by omega)
  rw [show ((0 : Nat) : Int) = 0 from rfl] at this
  rw [this, List.drop_zero]
 ·
  rw [Bool.not_eq_true] at h
  simp only [h, Bool.false_eq_true, if_false, bs_size, Bool.false_and]
  have := strange_l0 [] false (by simp) 0 k 0 (by simp) (by simp) (by omega)
  simpa using this
theorem words_eq : strings_Split.f (⟨#[101, 104, 108, 111, 32, 104, 101, 108, 111, 32, 109, 97, 105, 108, 32, 114, 99, 112, 116, 32, 100, 97, 116, 97, 32, 114, 115, 101, 116, 32, 113, 117, 105, 116, 32, 110, 111, 111, 112, 32, 118, 114, 102, 121, 32, 101, 116, 114, 110, 32, 97, 117, 116, 104, 32, 97, 116, 114, 110]⟩ : ByteArray) (⟨#[32]⟩ : ByteArray) = some (wordsL.map bs) := by kernel_rfl
theorem parse_tail (k : Nat) (l : List UInt8) (hl : l.length ≤ 510) (hk : 600 < k) :
  verb_Parse.l0 k (bs l) (l.length : Int) (l.length : Int) = some (ret7 (parseT l).1 (parseT l).2) ∨ l.all printC = false := by
 cases hp : l.all printC with
 | false => exact .inr rfl
 | true =>
  left
  obtain ⟨k, rfl⟩ : ∃ m, k = m + 1 := ⟨k - 1, by omega⟩
  rw [verb_Parse.l0, if_neg (by omega)]
  have hc := cut_len (s := 32) l
  have h0 : strings_Cut.f (bs l) ⟨#[32]⟩ = some (bs (cutC 32 l).1, bs (cutC 32 l).2.1, (cutC 32 l).2.2) := by
   rw [strings_Cut.f, if_pos (by rw [bs_size]; omega)]
   have : Lib.cut (bs l).data.toList (⟨#[32]⟩ : ByteArray).data.toList = cutC 32 l := cut_one 32 l
   rw [this]
  rw [h0, Option.bind_some, path_Fold.f, if_pos (by rw [bs_size]; omega), Option.bind_some, toList_data, bs_data, bs_data, words_eq]
  have hj : ∀ q, verb_Parse.j1 k (bs l) q = some (if q = true then ret7 noL (500 : Int) else match readT l with | some c => ret7 c (0 : Int) | none => ret7 noL (if strangeL l then (504 : Int) else 501)) := by
   intro q
   obtain ⟨k, rfl⟩ : ∃ m, k = m + 1 := ⟨k - 1, by omega⟩
   rw [verb_Parse.j1]
   by_cases hq : q = true
   ·
    rw [if_pos hq, if_pos hq]; rfl
   ·
    rw [if_neg hq, if_neg hq, read_eq l (by omega), Option.bind_some]
    cases readT l with
    | some c =>
     have : (ret7 c true).2.2.2.2.2.2 = true := rfl
     simp only [this, if_true]; rfl
    | none =>
     have : (ret7 noL false).2.2.2.2.2.2 = false := rfl
     simp only [this, Bool.false_eq_true, if_false]
     rw [strange_eq k l (by omega) (by omega), Option.bind_some]
     cases strangeL l <;> rfl
  have hgood : goodL l = wordsL.contains (foldL (cutC 32 l).1) := by rw [goodL, decide_eq_true hl, hp]; simp
  have hw : wordsL.length = 12 := rfl
  by_cases he : foldL (cutC 32 l).1 = []
  ·
   rw [if_pos he, hj, if_pos rfl]
   have : goodL l = false := by rw [hgood, he]; decide
   rw [parseT, if_neg (by rw [this]; decide)]
  ·
   rw [if_neg he, Option.bind_some, contains_eq _ _ _ (by omega) (by omega), Option.bind_some, hj]
   rw [parseT, hgood]
   cases hg : wordsL.contains (foldL (cutC 32 l).1) with
   | true =>
    simp only [Bool.not_true, Bool.false_eq_true, if_false, if_true]
    cases readT l <;> rfl
   | false => rfl
theorem parse_l0 (l : List UInt8) (hl : l.length ≤ 510) : ∀ (d k i : Nat), l.length - i = d → i ≤ l.length → d + 600 < k →
  verb_Parse.l0 k (bs l) (l.length : Int) (i : Int) = some (ret7 (if (l.drop i).all printC && !(l.all printC) then (noL, 500) else (parseT l)).1 (if (l.drop i).all printC && !(l.all printC) then (noL, 500) else (parseT l)).2) ∨ (l.take i).all printC = false := by
 intro d
 induction d with
 | zero =>
  intro k i hd hi hk
  obtain rfl : i = l.length := by omega
  rcases parse_tail k l hl (by omega) with h | h
  ·
   left
   rw [h, List.drop_length, List.all_nil, Bool.true_and]
   by_cases hp : l.all printC = true
   ·
    rw [hp]; rfl
   ·
    rw [Bool.not_eq_true] at hp
    have : goodL l = false := by rw [goodL, hp]; simp
    have e : parseT l = (noL, 500) := by rw [parseT, if_neg (by rw [this]; decide)]
    rw [hp, e]; rfl
  ·
   right; rw [List.take_length]; exact h
 | succ d ih =>
  intro k i hd hi hk
  obtain ⟨k, rfl⟩ : ∃ m, k = m + 1 := ⟨k - 1, by omega⟩
  have hil : i < l.length := by omega
  cases ht : (l.take i).all printC with
  | false => exact .inr rfl
  | true =>
   left
   have ew : wrap64 ((i : Int) + 1) = ((i + 1 : Nat) : Int) := by rw [wrap_small (by omega) (by omega)]; omega
   rw [verb_Parse.l0, if_pos (by omega), if_pos (by omega), if_pos (by rw [bs_size]; omega), bt_get (bs l) i (by rw [bs_data]; exact hil), ew]
   have hc : ((bs l).data.toList[i]'(by rw [bs_data]; exact hil)) = l[i] := rfl
   rw [hc]
   have hpc : printC l[i] = true ↔ 32 ≤ (l[i]).toNat ∧ (l[i]).toNat ≤ 126 := by
    simp only [printC, Bool.and_eq_true, decide_eq_true_eq, UInt8.le_iff_toNat_le]
    exact Iff.rfl
   have hbad : printC l[i] = false → l.all printC = false := fun h => by
    cases ha : l.all printC with
    | false => rfl
    | true => rw [List.all_eq_true.1 ha _ (List.getElem_mem hil)] at h; cases h
   have hnot : l.all printC = false → parseT l = (noL, 500) := fun h => by
    have : goodL l = false := by rw [goodL, h]; simp
    rw [parseT, if_neg (by rw [this]; decide)]
   cases hq : printC l[i] with
   | false =>
    have hn := hbad hq
    have : ¬ (32 ≤ (l[i]).toNat ∧ (l[i]).toNat ≤ 126) := fun h => by rw [hpc.2 h] at hq; cases hq
    rw [hnot hn, ite_self]
    by_cases h32 : ((l[i]).toNat : Int) < 32
    ·
     rw [if_pos h32]; rfl
    ·
     rw [if_neg h32, if_pos (by omega)]; rfl
   | true =>
    have := hpc.1 hq
    rw [if_neg (by omega), if_neg (by omega)]
    rcases ih k (i + 1) (by omega) (by omega) (by omega) with h | h
    ·
     rw [h, List.drop_eq_getElem_cons hil, List.all_cons, hq, Bool.true_and]
    ·
     exfalso
     rw [List.take_succ_eq_append_getElem hil, List.all_append, ht, List.all_cons, hq] at h
     cases h
theorem parse_eq (k : Nat) (l : List UInt8) (hk : 1200 < k) : verb_Parse.f k (bs l) = some (ret7 (parseT l).1 (parseT l).2) := by
 unfold verb_Parse.f
 rw [bs_size]
 by_cases h : (l.length : Int) > 510
 ·
  rw [if_pos h]
  have : goodL l = false := by rw [goodL, decide_eq_false (by omega)]; rfl
  rw [parseT, if_neg (by rw [this]; decide)]
  rfl
 ·
  rw [if_neg h]
  rcases parse_l0 l (by omega) l.length k 0 (by omega) (by omega) (by omega) with h | h
  ·
   rw [show ((0 : Nat) : Int) = 0 from rfl] at h
   rw [h, List.drop_zero]
   cases hp : l.all printC with
   | true => rfl
   | false => rfl
  ·
   rw [List.take_zero] at h; cases h
end Go.Proofs.YthcdjgekmfnmnaaGreatDoor.PVerb
end
section
namespace Go.Proofs.YthcdjgekmfnmnaaGreatDoor.PVerb
open Go.RowKit Go.Proofs.YthcdjgekmfnmnaaGreatDoorW.PrintWords Go.Proofs.YthcdjgekmfnmnaaGreatDoorW.PrintLast Go.Proofs.YthcdjgekmfnmnaaGreatDoorW.PrintMore
set_option linter.unusedSimpArgs false
set_option linter.unusedVariables false
structure Small (c : CmdL) : Prop where
 text : c.2.1.length < 100000
 loc : c.2.2.2.1.length < 100000
 dom : c.2.2.2.2.1.length < 100000
 num : c.2.2.2.2.2.length < 100000
 pars : ∀ p ∈ c.2.2.2.2.2, p.1.length < 100000 ∧ p.2.length < 100000
 kind : (Lit.int .i64 c.1).wf = true
def sameB (a b : CmdL) : Bool := decide (a.1 = b.1) && (a.2.1 == b.2.1 && ((a.2.2.1 == b.2.2.1 && (a.2.2.2.1 == b.2.2.2.1 && a.2.2.2.2.1 == b.2.2.2.2.1)) && a.2.2.2.2.2 == b.2.2.2.2.2))
theorem sameB_iff {a b : CmdL} : sameB a b = true ↔ a = b := by
 obtain ⟨a0, a1, a2, a3, a4, a5⟩ := a
 obtain ⟨b0, b1, b2, b3, b4, b5⟩ := b
 simp [sameB, and_assoc]
theorem sameB_refl (a : CmdL) : sameB a a = true := sameB_iff.2 rfl
theorem rd_mk (a : List ParL) (i : Nat) (h : i < a.length) : rd_T47 (a.map mkP) (i : Int) = mkP a[i] := by
 unfold rd_T47
 rw [Int.toNat_natCast, List.getD_eq_getElem?_getD, List.getElem?_map, List.getElem?_eq_getElem h]
 rfl
theorem pars_l0 (a b : List ParL) (hab : a.length = b.length) (ha : a.length < 4611686018427387904) : ∀ (d k i : Nat), a.length - i = d → i ≤ a.length → d < k →
  api_Param_50.l0 k (a.map mkP) (b.map mkP) (a.length : Int) (i : Int) = some (a.drop i == b.drop i) := by
 intro d
 induction d with
 | zero =>
  intro k i hd hi hk
  obtain ⟨k, rfl⟩ : ∃ m, k = m + 1 := ⟨k - 1, by omega⟩
  rw [api_Param_50.l0, if_neg (by omega), List.drop_of_length_le (by omega), List.drop_of_length_le (by omega)]
  rfl
 | succ d ih =>
  intro k i hd hi hk
  obtain ⟨k, rfl⟩ : ∃ m, k = m + 1 := ⟨k - 1, by omega⟩
  have hia : i < a.length := by omega
  have hib : i < b.length := by omega
  have ew : wrap64 ((i : Int) + 1) = ((i + 1 : Nat) : Int) := by rw [wrap_small (by omega) (by omega)]; omega
  rw [api_Param_50.l0, if_pos (by omega), if_pos (by omega), if_pos (by rw [List.length_map]; omega), if_pos (by rw [List.length_map]; omega), rd_mk a i hia, rd_mk b i hib, ew, ih k (i + 1) (by omega) (by omega) (by omega), List.drop_eq_getElem_cons hia, List.drop_eq_getElem_cons hib]
  simp only [mkP, toList_data, bs_data]
  generalize a[i] = x
  generalize b[i] = y
  have e : ((x :: a.drop (i + 1)) == (y :: b.drop (i + 1))) = ((x.1 == y.1 && x.2 == y.2) && (a.drop (i + 1) == b.drop (i + 1))) := rfl
  rw [e]
  cases (x.1 == y.1) <;> cases (x.2 == y.2) <;> simp
theorem pars_eq (k : Nat) (a b : List ParL) (ha : a.length < 4611686018427387904) (hk : a.length < k) :
  api_Param_50.f k (a.map mkP) (b.map mkP) = some (a == b) := by
 unfold api_Param_50.f
 simp only [List.length_map]
 by_cases h : a.length = b.length
 ·
  rw [if_pos (by omega)]
  have := pars_l0 a b h ha a.length k 0 (by omega) (by omega) (by omega)
  simpa using this
 ·
  rw [if_neg (by omega)]
  have : (a == b) = false := beq_eq_false_iff_ne.2 fun e => h (by rw [e])
  rw [this]
theorem same_eq (k : Nat) (a b : CmdL) (ha : a.2.2.2.2.2.length < 4611686018427387904) (hk : a.2.2.2.2.2.length < k) :
  verb_same.f k a.1 (bs a.2.1) a.2.2.1 (bs a.2.2.2.1) (bs a.2.2.2.2.1) (a.2.2.2.2.2.map mkP) b.1 (bs b.2.1) b.2.2.1 (bs b.2.2.2.1) (bs b.2.2.2.2.1) (b.2.2.2.2.2.map mkP) = some (sameB a b) := by
 unfold verb_same.f sameB
 simp only [toList_data, bs_data]
 rw [pars_eq k _ _ ha hk, Option.bind_some]
 by_cases h1 : a.1 = b.1
 ·
  rw [if_pos h1, decide_eq_true h1, Bool.true_and]
  by_cases h2 : a.2.1 = b.2.1
  ·
   rw [if_pos h2, beq_iff_eq.2 h2, Bool.true_and]
   cases (a.2.2.1 == b.2.2.1 && (a.2.2.2.1 == b.2.2.2.1 && a.2.2.2.2.1 == b.2.2.2.2.1)) <;> rfl
  ·
   rw [if_neg h2, beq_eq_false_iff_ne.2 h2]; rfl
 ·
  rw [if_neg h1, decide_eq_false h1]; rfl
theorem keep_l0 (a b : CmdL) (hab : a.2.2.2.2.2.length = b.2.2.2.2.2.length) (ha : a.2.2.2.2.2.length < 4611686018427387904) : ∀ (d k i : Nat), a.2.2.2.2.2.length - i = d → i ≤ a.2.2.2.2.2.length → d < k →
  wherrykeep_Cmd.l0 k (i : Int) a.1 (bs a.2.1) a.2.2.1 (bs a.2.2.2.1) (bs a.2.2.2.2.1) (a.2.2.2.2.2.map mkP) b.1 (bs b.2.1) b.2.2.1 (bs b.2.2.2.1) (bs b.2.2.2.2.1) (b.2.2.2.2.2.map mkP) = some (a.2.2.2.2.2.drop i == b.2.2.2.2.2.drop i) := by
 intro d
 induction d with
 | zero =>
  intro k i hd hi hk
  obtain ⟨k, rfl⟩ : ∃ m, k = m + 1 := ⟨k - 1, by omega⟩
  rw [wherrykeep_Cmd.l0, if_neg (by rw [List.length_map]; omega), List.drop_of_length_le (by omega), List.drop_of_length_le (by omega)]
  rfl
 | succ d ih =>
  intro k i hd hi hk
  obtain ⟨k, rfl⟩ : ∃ m, k = m + 1 := ⟨k - 1, by omega⟩
  have hia : i < a.2.2.2.2.2.length := by omega
  have hib : i < b.2.2.2.2.2.length := by omega
  have ew : wrap64 ((i : Int) + 1) = ((i + 1 : Nat) : Int) := by rw [wrap_small (by omega) (by omega)]; omega
  rw [wherrykeep_Cmd.l0, if_pos (by rw [List.length_map]; omega), if_pos (by omega), if_pos (by rw [List.length_map]; omega), rd_mk _ i hia, rd_mk _ i hib, ew, ih k (i + 1) (by omega) (by omega) (by omega), List.drop_eq_getElem_cons hia, List.drop_eq_getElem_cons hib]
  simp only [mkP, toList_data, bs_data]
  generalize a.2.2.2.2.2[i] = x
  generalize b.2.2.2.2.2[i] = y
  have e : ((x :: a.2.2.2.2.2.drop (i + 1)) == (y :: b.2.2.2.2.2.drop (i + 1))) = ((x.1 == y.1 && x.2 == y.2) && (a.2.2.2.2.2.drop (i + 1) == b.2.2.2.2.2.drop (i + 1))) := rfl
  rw [e]
  by_cases h1 : x.1 = y.1
  ·
   rw [if_pos h1, beq_iff_eq.2 h1]
   by_cases h2 : x.2 = y.2
   ·
    rw [if_pos h2, beq_iff_eq.2 h2]; rfl
   ·
    rw [if_neg h2, beq_eq_false_iff_ne.2 h2]; rfl
  ·
   rw [if_neg h1, beq_eq_false_iff_ne.2 h1]; rfl
theorem keep_eq (k : Nat) (a b : CmdL) (ha : a.2.2.2.2.2.length < 4611686018427387904) (hk : a.2.2.2.2.2.length + 1 < k) :
  wherrykeep_Cmd.f k a.1 (bs a.2.1) a.2.2.1 (bs a.2.2.2.1) (bs a.2.2.2.2.1) (a.2.2.2.2.2.map mkP) b.1 (bs b.2.1) b.2.2.1 (bs b.2.2.2.1) (bs b.2.2.2.2.1) (b.2.2.2.2.2.map mkP) = some (sameB a b) := by
 obtain ⟨k, rfl⟩ : ∃ m, k = m + 1 := ⟨k - 1, by omega⟩
 have hj : ∀ q : Bool, (q = false → a.2.2.2.2.2.length = b.2.2.2.2.2.length) → wherrykeep_Cmd.j0 (k + 1) q a.1 (bs a.2.1) a.2.2.1 (bs a.2.2.2.1) (bs a.2.2.2.2.1) (a.2.2.2.2.2.map mkP) b.1 (bs b.2.1) b.2.2.1 (bs b.2.2.2.1) (bs b.2.2.2.2.1) (b.2.2.2.2.2.map mkP) = some (!q && a.2.2.2.2.2 == b.2.2.2.2.2) := by
  intro q hq
  rw [wherrykeep_Cmd.j0]
  cases q with
  | true => rfl
  | false =>
   rw [if_neg (by decide)]
   have := keep_l0 a b (hq rfl) ha _ k 0 rfl (by omega) (by omega)
   simpa using this
 unfold wherrykeep_Cmd.f wherrykeep_Path.f sameB
 simp only [toList_data, bs_data, List.length_map]
 have ht : wherrykeep_Cmd.j0 (k + 1) true a.1 (bs a.2.1) a.2.2.1 (bs a.2.2.2.1) (bs a.2.2.2.2.1) (a.2.2.2.2.2.map mkP) b.1 (bs b.2.1) b.2.2.1 (bs b.2.2.2.1) (bs b.2.2.2.2.1) (b.2.2.2.2.2.map mkP) = some false := by
  have := hj true (fun h => by cases h)
  simpa using this
 have hl : wherrykeep_Cmd.j0 (k + 1) ((a.2.2.2.2.2.length : Int) != (b.2.2.2.2.2.length : Int)) a.1 (bs a.2.1) a.2.2.1 (bs a.2.2.2.1) (bs a.2.2.2.2.1) (a.2.2.2.2.2.map mkP) b.1 (bs b.2.1) b.2.2.1 (bs b.2.2.2.1) (bs b.2.2.2.2.1) (b.2.2.2.2.2.map mkP) = some (a.2.2.2.2.2 == b.2.2.2.2.2) := by
  rw [hj _ (fun h => by have := bne_eq_false_iff_eq.1 h; omega)]
  by_cases hn : a.2.2.2.2.2.length = b.2.2.2.2.2.length
  ·
   have : ((a.2.2.2.2.2.length : Int) != (b.2.2.2.2.2.length : Int)) = false := bne_eq_false_iff_eq.2 (by omega)
   rw [this]; rfl
  ·
   have h2 : (a.2.2.2.2.2 == b.2.2.2.2.2) = false := beq_eq_false_iff_ne.2 fun e => hn (by rw [e])
   rw [h2, Bool.and_false]
 by_cases h1 : a.1 = b.1
 ·
  rw [if_pos h1, decide_eq_true h1, Bool.true_and]
  by_cases h2 : a.2.1 = b.2.1
  ·
   rw [if_pos h2, beq_iff_eq.2 h2, Bool.true_and]
   cases h3 : (a.2.2.1 == b.2.2.1) with
   | false => simp [ht]
   | true =>
    by_cases h4 : a.2.2.2.1 = b.2.2.2.1
    ·
     rw [if_pos rfl, if_pos h4, beq_iff_eq.2 h4, Option.bind_some]
     cases h5 : (a.2.2.2.2.1 == b.2.2.2.2.1) with
     | true => simp [hl]
     | false => simp [ht]
    ·
     rw [if_pos rfl, if_neg h4, beq_eq_false_iff_ne.2 h4, Option.bind_some]
     simp [ht]
  ·
   rw [if_neg h2, beq_eq_false_iff_ne.2 h2, ht]; rfl
 ·
  rw [if_neg h1, decide_eq_false h1, ht]; rfl
theorem line_eq (c : CmdL) (h : Small c) : verb_line.f c.1 (bs c.2.1) c.2.2.1 (bs c.2.2.2.1) (bs c.2.2.2.2.1) (c.2.2.2.2.2.map mkP) = some (bs (lineT c)) := by
 have h1 := h.text
 have h2 := h.loc
 have h3 := h.dom
 have h4 := h.num
 have hps : ∀ p ∈ c.2.2.2.2.2.map mkP, p.f0.size < 2147483648 ∧ p.f1.size < 2147483648 := by
  intro p hp
  obtain ⟨q, hq, rfl⟩ := List.mem_map.1 hp
  have := h.pars q hq
  exact ⟨by show (bs q.1).size < _; rw [bs_size]; omega, by show (bs q.2).size < _; rw [bs_size]; omega⟩
 have ht : path_Text.f c.2.2.1 (bs c.2.2.2.1) (bs c.2.2.2.2.1) = some (bs (if checkL c.2.2.1 c.2.2.2.1 c.2.2.2.2.1 = true then textL c.2.2.1 c.2.2.2.1 c.2.2.2.2.1 else []), if checkL c.2.2.1 c.2.2.2.1 c.2.2.2.2.1 = true then 0 else 5) := by
  rw [path_Text.f, if_pos ⟨by rw [bs_size]; omega, by rw [bs_size]; omega⟩]
  show some (if checkL c.2.2.1 c.2.2.2.1 c.2.2.2.2.1 = true then (bs (textL c.2.2.1 c.2.2.2.1 c.2.2.2.2.1), (0 : Int)) else (bs [], 5)) = _
  cases checkL c.2.2.1 c.2.2.2.1 c.2.2.2.2.1 <;> rfl
 have hl : (if checkL c.2.2.1 c.2.2.2.1 c.2.2.2.2.1 = true then textL c.2.2.1 c.2.2.2.1 c.2.2.2.2.1 else []).length < 8589934592 := by
  split
  ·
   unfold textL
   split
   ·
    simp
   ·
    simp only [List.length_append, List.length_cons, List.length_nil]; omega
  ·
   simp
 have e : lineL c.1 c.2.1 (if checkL c.2.2.1 c.2.2.2.1 c.2.2.2.2.1 = true then textL c.2.2.1 c.2.2.2.1 c.2.2.2.2.1 else []) (c.2.2.2.2.2.map mkP) = lineT c := by
  unfold lineL lineT headL headT
  congr 1
  rw [List.flatMap_map]
  rfl
 unfold verb_line.f
 rw [if_pos ⟨by rw [bs_size]; omega, by rw [List.length_map]; exact h4, hps, h.kind⟩, ht, Option.bind_some, if_pos (by rw [bs_size]; exact hl)]
 show some (bs (lineL c.1 c.2.1 (if checkL c.2.2.1 c.2.2.2.1 c.2.2.2.2.1 = true then textL c.2.2.1 c.2.2.2.1 c.2.2.2.2.1 else []) (c.2.2.2.2.2.map mkP))) = _
 rw [e]
def okT (c : CmdL) : Bool := decide ((parseT (lineT c)).2 = 0) && sameB (parseT (lineT c)).1 c
theorem okT_iff {c : CmdL} : okT c = true ↔ parseT (lineT c) = (c, 0) := by
 simp only [okT, Bool.and_eq_true, decide_eq_true_eq, sameB_iff]
 exact ⟨fun h => Prod.ext h.2 h.1, fun h => by rw [h]; exact ⟨rfl, rfl⟩⟩
theorem paramsT_len {kind : Int} : ∀ {t : List (List UInt8)} {out ps : List ParL}, paramsT kind t out = some ps → ps.length ≤ out.length + t.length
 | [], out, ps, h => by
  simp only [paramsT, Option.some.injEq] at h
  subst h; simp
 | w :: t, out, ps, h => by
  rw [paramsT] at h
  obtain ⟨p, _, h⟩ := Option.bind_eq_some_iff.1 h
  split at h
  ·
   cases h
  ·
   have := paramsT_len h
   simp at this ⊢; omega
theorem mailbox_few {kind : Int} {r : List UInt8} {c : CmdL} (h : mailboxT kind r = some c) : c.2.2.2.2.2.length ≤ r.length := by
 unfold mailboxT at h
 cases hp : pieces 32 r with
 | nil => exact absurd hp (pieces_ne 32 r)
 | cons b t =>
  rw [hp] at h
  simp only at h
  obtain ⟨p, _, h⟩ := Option.bind_eq_some_iff.1 h
  obtain ⟨ps, hps, h⟩ := Option.bind_eq_some_iff.1 h
  split at h
  ·
   cases h
  ·
   obtain rfl := Option.some.inj h
   have h1 := paramsT_len hps
   have h2 := pieces_count (s := 32) r
   rw [hp] at h2
   simp at h1 h2 ⊢; omega
theorem named_few {kind : Int} {r : List UInt8} {c : CmdL} (h : namedT kind r = some c) : c.2.2.2.2.2.length ≤ r.length := by
 obtain ⟨_, rfl⟩ := named_again h
 simp
theorem read_few {l : List UInt8} {c : CmdL} (h : readT l = some c) : c.2.2.2.2.2.length ≤ l.length := by
 have hd : ∀ n, (l.drop n).length ≤ l.length := fun n => by simp
 unfold readT at h
 split at h
 ·
  obtain rfl := Option.some.inj h; simp
 ·
  split at h
  ·
   exact Nat.le_trans (named_few h) (hd 5)
  split at h
  ·
   exact Nat.le_trans (named_few h) (hd 5)
  split at h
  ·
   exact Nat.le_trans (mailbox_few h) (hd 10)
  split at h
  ·
   exact Nat.le_trans (mailbox_few h) (hd 8)
  split at h
  ·
   exact Nat.le_trans (named_few h) (hd 5)
  split at h
  ·
   exact Nat.le_trans (named_few h) (hd 5)
  split at h
  ·
   obtain rfl := Option.some.inj h; simp
  split at h
  ·
   obtain rfl := Option.some.inj h; simp
  ·
   cases h
theorem parse_few (l : List UInt8) : (parseT l).1.2.2.2.2.2.length ≤ 510 := by
 unfold parseT
 split
 ·
  rename_i hg
  have h1 := (good_inv hg).1
  split
  ·
   rename_i c hc
   exact Nat.le_trans (read_few hc) h1
  ·
   simp [noL]
 ·
  simp [noL]
theorem text_eq (k : Nat) (c : CmdL) (h : Small c) (hk : 1200 < k) :
  verb_Text.f k c.1 (bs c.2.1) c.2.2.1 (bs c.2.2.2.1) (bs c.2.2.2.2.1) (c.2.2.2.2.2.map mkP) = some (if okT c then (bs (lineT c), 0) else (bs [], 5)) := by
 unfold verb_Text.f
 rw [line_eq c h, Option.bind_some, parse_eq k _ hk, Option.bind_some]
 have hf := parse_few (lineT c)
 unfold okT
 by_cases h0 : (parseT (lineT c)).2 = 0
 ·
  rw [if_pos (show (ret7 (parseT (lineT c)).1 (parseT (lineT c)).2).2.2.2.2.2.2 = 0 from h0), decide_eq_true h0, Bool.true_and]
  have := same_eq k (parseT (lineT c)).1 c (by omega) (by omega)
  have e : verb_same.f k (ret7 (parseT (lineT c)).1 (parseT (lineT c)).2).1 (ret7 (parseT (lineT c)).1 (parseT (lineT c)).2).2.1 (ret7 (parseT (lineT c)).1 (parseT (lineT c)).2).2.2.1 (ret7 (parseT (lineT c)).1 (parseT (lineT c)).2).2.2.2.1 (ret7 (parseT (lineT c)).1 (parseT (lineT c)).2).2.2.2.2.1 (ret7 (parseT (lineT c)).1 (parseT (lineT c)).2).2.2.2.2.2.1 c.1 (bs c.2.1) c.2.2.1 (bs c.2.2.2.1) (bs c.2.2.2.2.1) (c.2.2.2.2.2.map mkP) = some (sameB (parseT (lineT c)).1 c) := this
  rw [e, Option.bind_some]
  cases sameB (parseT (lineT c)).1 c <;> rfl
 ·
  rw [if_neg (show ¬ (ret7 (parseT (lineT c)).1 (parseT (lineT c)).2).2.2.2.2.2.2 = 0 from h0), decide_eq_false h0]
  rfl
theorem param_eq (c : CmdL) (key : List UInt8) (h : c.2.2.2.2.2.length < 2147483648) :
  verb_Param.f c.1 (bs c.2.1) c.2.2.1 (bs c.2.2.2.1) (bs c.2.2.2.2.1) (c.2.2.2.2.2.map mkP) (bs key) = some (bs (((c.2.2.2.2.2.find? fun p => p.1 == key).map (·.2)).getD []), (c.2.2.2.2.2.find? fun p => p.1 == key).isSome) := by
 unfold verb_Param.f
 rw [if_pos (by rw [List.length_map]; exact h), List.find?_map]
 have e : (keyIs (bs key) ∘ mkP) = fun p : ParL => p.1 == key := rfl
 rw [e]
 cases c.2.2.2.2.2.find? fun p => p.1 == key <;> rfl
end Go.Proofs.YthcdjgekmfnmnaaGreatDoor.PVerb
end
section
namespace Go.Proofs.YthcdjgekmfnmnaaGreatDoor.PVerb
open Go.RowKit Go.Proofs.YthcdjgekmfnmnaaGreatDoorW.PrintWords Go.Proofs.YthcdjgekmfnmnaaGreatDoorW.PrintLast Go.Proofs.YthcdjgekmfnmnaaGreatDoorW.PrintMore
set_option linter.unusedSimpArgs false
set_option linter.unusedVariables false
structure Sized (c : CmdL) : Prop where
 text : c.2.1.length ≤ 140737488351232
 loc : c.2.2.2.1.length ≤ 140737488351232
 dom : c.2.2.2.2.1.length ≤ 140737488351232
 num : c.2.2.2.2.2.length ≤ 140737488351232
 pars : ∀ p ∈ c.2.2.2.2.2, p.1.length ≤ 140737488351232 ∧ p.2.length ≤ 140737488351232
 kind : (Lit.int .i64 c.1).wf = true
def sumP : List ParL → Nat
 | [] => 0
 | p :: l => p.1.length + p.2.length + sumP l
theorem sumP_le : ∀ l : List ParL, (∀ p ∈ l, p.1.length ≤ 140737488351232 ∧ p.2.length ≤ 140737488351232) → sumP l ≤ l.length * 281474976702464
 | [], _ => by simp [sumP]
 | p :: l, h => by
  have h1 := h p (by simp)
  have h2 := sumP_le l fun q hq => h q (by simp [hq])
  simp only [sumP, List.length_cons]
  omega
theorem sumP_mem : ∀ {l : List ParL} {p : ParL}, p ∈ l → p.1.length + p.2.length ≤ sumP l
 | q :: l, p, h => by
  rcases List.mem_cons.1 h with rfl | h
  ·
   simp only [sumP]; omega
  ·
   have := sumP_mem h
   simp only [sumP]; omega
theorem wrap_add (a b : Nat) (h : a + b ≤ 9007199254740992) : wrap64 ((a : Int) + (b : Int)) = ((a + b : Nat) : Int) := by
 rw [wrap_small (by omega) (by omega)]; omega
theorem heavy_many (L : List ParL) (hl : 20 < L.length) (h : L.length ≤ 140737488351232) (x0 : Int) (x1 : ByteArray) (x2 : Bool) (x3 x4 : ByteArray) : ∀ (d k i : Nat) (n : Int), L.length - i = d → i ≤ L.length → d < k →
  wherrylaw12_heavy.l0 k n (i : Int) x0 x1 x2 x3 x4 (L.map mkP) = some true := by
 intro d
 induction d with
 | zero =>
  intro k i n hd hi hk
  obtain ⟨k, rfl⟩ : ∃ m, k = m + 1 := ⟨k - 1, by omega⟩
  rw [wherrylaw12_heavy.l0, if_neg (by rw [List.length_map]; omega), List.length_map, decide_eq_true (by omega), ite_self]
 | succ d ih =>
  intro k i n hd hi hk
  obtain ⟨k, rfl⟩ : ∃ m, k = m + 1 := ⟨k - 1, by omega⟩
  have ew : wrap64 ((i : Int) + 1) = ((i + 1 : Nat) : Int) := by rw [wrap_small (by omega) (by omega)]; omega
  rw [wherrylaw12_heavy.l0, if_pos (by rw [List.length_map]; omega), if_pos (by omega), ew]
  exact ih k (i + 1) _ (by omega) (by omega) (by omega)
theorem heavy_few (L : List ParL) (hl : L.length ≤ 20) (hp : ∀ p ∈ L, p.1.length ≤ 140737488351232 ∧ p.2.length ≤ 140737488351232) (x0 : Int) (x1 : ByteArray) (x2 : Bool) (x3 x4 : ByteArray) : ∀ (d k i n : Nat), L.length - i = d → i ≤ L.length → d < k → n + sumP (L.drop i) ≤ 9007199254740992 →
  wherrylaw12_heavy.l0 k (n : Int) (i : Int) x0 x1 x2 x3 x4 (L.map mkP) = some (decide (3000 < n + sumP (L.drop i))) := by
 intro d
 induction d with
 | zero =>
  intro k i n hd hi hk hn
  obtain ⟨k, rfl⟩ : ∃ m, k = m + 1 := ⟨k - 1, by omega⟩
  have ed : L.drop i = [] := List.drop_of_length_le (by omega)
  rw [wherrylaw12_heavy.l0, if_neg (by rw [List.length_map]; omega), List.length_map, decide_eq_false (by omega), ed]
  by_cases h : (n : Int) > 3000
  ·
   rw [if_pos h, decide_eq_true (by simp only [sumP]; omega)]
  ·
   rw [if_neg h, decide_eq_false (by simp only [sumP]; omega)]
 | succ d ih =>
  intro k i n hd hi hk hn
  obtain ⟨k, rfl⟩ : ∃ m, k = m + 1 := ⟨k - 1, by omega⟩
  have hil : i < L.length := by omega
  have ew : wrap64 ((i : Int) + 1) = ((i + 1 : Nat) : Int) := by rw [wrap_small (by omega) (by omega)]; omega
  rw [List.drop_eq_getElem_cons hil] at hn ⊢
  simp only [sumP] at hn ⊢
  rw [wherrylaw12_heavy.l0, if_pos (by rw [List.length_map]; omega), if_pos (by omega), ew, rd_mk L i hil]
  have e1 : (mkP L[i]).f0.size = (L[i]).1.length := bs_size _
  have e2 : (mkP L[i]).f1.size = (L[i]).2.length := bs_size _
  rw [e1, e2]
  have h1 := hp _ (List.getElem_mem hil)
  have hih := ih k (i + 1) (n + L[i].1.length + L[i].2.length) (by omega) (by omega) (by omega) (by omega)
  rw [wrap_add n L[i].1.length (by omega), wrap_add (n + L[i].1.length) L[i].2.length (by omega), hih]
  exact congrArg some (decide_eq_decide.2 (by omega))
theorem heavy_f (k : Nat) (L : List ParL) (x0 : Int) (x1 : ByteArray) (x2 : Bool) (x3 x4 : ByteArray) (a b d : Nat) (ha : x1.size = a) (hb : x3.size = b) (hd : x4.size = d) (h1 : a ≤ 140737488351232) (h2 : b ≤ 140737488351232) (h3 : d ≤ 140737488351232)
  (hl : L.length ≤ 20) (hp : ∀ p ∈ L, p.1.length ≤ 140737488351232 ∧ p.2.length ≤ 140737488351232) (hk : L.length < k) :
  wherrylaw12_heavy.f k x0 x1 x2 x3 x4 (L.map mkP) = some (decide (3000 < a + b + d + sumP L)) := by
 have h4 := sumP_le L hp
 have h5 : sumP L ≤ 5629499534049280 := by omega
 clear h4
 have h6 : a + b + d + sumP L ≤ 9007199254740992 := by omega
 have e := heavy_few L hl hp x0 x1 x2 x3 x4 L.length k 0 (a + b + d) rfl (Nat.zero_le _) hk (by rw [List.drop_zero]; exact h6)
 rw [List.drop_zero, show ((0 : Nat) : Int) = 0 from rfl] at e
 rw [← e, wherrylaw12_heavy.f, ha, hb, hd, wrap_add a b (by omega), wrap_add (a + b) d (by omega)]
theorem heavy_eq (k : Nat) (c : CmdL) (h : Sized c) (hk : c.2.2.2.2.2.length < k) : ∃ b, wherrylaw12_heavy.f k c.1 (bs c.2.1) c.2.2.1 (bs c.2.2.2.1) (bs c.2.2.2.2.1) (c.2.2.2.2.2.map mkP) = some b ∧ (b = false → Small c ∧ c.2.2.2.2.2.length ≤ 20) := by
 by_cases hl : 20 < c.2.2.2.2.2.length
 ·
  refine ⟨true, ?_, fun h => by cases h⟩
  exact heavy_many c.2.2.2.2.2 hl h.num c.1 (bs c.2.1) c.2.2.1 (bs c.2.2.2.1) (bs c.2.2.2.2.1) c.2.2.2.2.2.length k 0 _ rfl (Nat.zero_le _) hk
 ·
  refine ⟨_, heavy_f k c.2.2.2.2.2 c.1 (bs c.2.1) c.2.2.1 (bs c.2.2.2.1) (bs c.2.2.2.2.1) _ _ _ (bs_size _) (bs_size _) (bs_size _) h.text h.loc h.dom (by omega) h.pars hk, fun hb => ?_⟩
  have hb := of_decide_eq_false hb
  refine ⟨⟨by omega, by omega, by omega, by omega, fun p hp => ?_, h.kind⟩, by omega⟩
  have := sumP_mem hp
  omega
end Go.Proofs.YthcdjgekmfnmnaaGreatDoor.PVerb
end
section
namespace Go.Proofs.YthcdjgekmfnmnaaGreatDoor.PVerb
open Go.RowKit Go.Proofs.YthcdjgekmfnmnaaGreatDoorW.PrintWords Go.Proofs.YthcdjgekmfnmnaaGreatDoorW.PrintLast Go.Proofs.YthcdjgekmfnmnaaGreatDoorW.PrintMore
set_option linter.unusedSimpArgs false
set_option linter.unusedVariables false
theorem letter_fin : ∀ c : Fin 256, ((wherryref11_letter.f (c.val : Int)).bind fun a => (wherryref11_digit.f (c.val : Int)).bind fun b => some (a, b)) = some (((97 ≤ c.val ∧ c.val ≤ 122) || (65 ≤ c.val ∧ c.val ≤ 90) : Bool), ((48 ≤ c.val ∧ c.val ≤ 57 : Bool))) := by decide +kernel
theorem refin_eq (n lo hi : Int) : wherryref11_in.f n lo hi = some (decide (lo ≤ n ∧ n ≤ hi)) := by
 unfold wherryref11_in.f
 by_cases h : n ≥ lo
 ·
  rw [if_pos h]
  congr 1
  rw [decide_eq_decide]
  exact ⟨fun k => ⟨h, k⟩, fun k => k.2⟩
 ·
  rw [if_neg h, decide_eq_false (fun k => h k.1)]
def labC (c : UInt8) : Bool := plainC c || c == 45
theorem labL_eq (l : List UInt8) : labelL l = (l.all labC && !l.isEmpty && decide (l.length ≤ 63) && !(l.head? == some 45) && !(l.getLast? == some 45)) := rfl
theorem lab_j1 (k : Nat) (x0 : ByteArray) (f i : Nat) (h : i < x0.data.toList.length) (hs : x0.size < 4611686018427387904) :
  wherryref11_Domain.j1 (k + 2) x0 (f : Int) (i : Int) true = if labC x0.data.toList[i] = true then wherryref11_Domain.l0 k x0 (f : Int) ((i + 1 : Nat) : Int) else some false := by
 have hsz := data_size x0
 have ew : wrap64 ((i : Int) + 1) = ((i + 1 : Nat) : Int) := by rw [wrap_small (by omega) (by omega)]; omega
 have hj : ∀ q, wherryref11_Domain.j2 (k + 1) x0 (f : Int) (i : Int) q = if q = true then some false else wherryref11_Domain.l0 k x0 (f : Int) ((i + 1 : Nat) : Int) := by
  intro q
  rw [wherryref11_Domain.j2, ew]
 rw [wherryref11_Domain.j1, if_pos rfl, if_pos (by omega), if_pos (by omega), bt_get x0 i h, hj, hj]
 generalize x0.data.toList[i] = c
 have hf := letter_fin ⟨c.toNat, c.toNat_lt⟩
 obtain ⟨a, ha, hf⟩ := Option.bind_eq_some_iff.1 hf
 obtain ⟨b, hb, hf⟩ := Option.bind_eq_some_iff.1 hf
 simp only [Option.some.injEq, Prod.mk.injEq] at hf
 obtain ⟨rfl, rfl⟩ := hf
 simp only at ha hb
 rw [ha, Option.bind_some, hb, Option.bind_some]
 have e45 : c = 45 ↔ c.toNat = 45 := ⟨fun h => by rw [h]; rfl, fun h => UInt8.toNat_inj.1 h⟩
 have hq : labC c = true ↔ (97 ≤ c.toNat ∧ c.toNat ≤ 122) ∨ (65 ≤ c.toNat ∧ c.toNat ≤ 90) ∨ (48 ≤ c.toNat ∧ c.toNat ≤ 57) ∨ c.toNat = 45 := by
  simp only [labC, plainC, Bool.or_eq_true, Bool.and_eq_true, decide_eq_true_eq, UInt8.le_iff_toNat_le, beq_iff_eq, e45]
  have e97 : (97 : UInt8).toNat = 97 := rfl
  have e122 : (122 : UInt8).toNat = 122 := rfl
  have e65 : (65 : UInt8).toNat = 65 := rfl
  have e90 : (90 : UInt8).toNat = 90 := rfl
  have e48 : (48 : UInt8).toNat = 48 := rfl
  have e57 : (57 : UInt8).toNat = 57 := rfl
  omega
 by_cases h1 : (97 ≤ c.toNat ∧ c.toNat ≤ 122) ∨ (65 ≤ c.toNat ∧ c.toNat ≤ 90)
 ·
  have : labC c = true := hq.2 (by omega)
  rw [if_pos this, if_pos (by simpa using h1)]
  rfl
 ·
  rw [if_neg (by simpa using h1)]
  by_cases h2 : 48 ≤ c.toNat ∧ c.toNat ≤ 57
  ·
   have : labC c = true := hq.2 (by omega)
   rw [if_pos this, if_pos (by simpa using h2)]
   rfl
  ·
   rw [if_neg (by simpa using h2)]
   by_cases h3 : c.toNat = 45
   ·
    have : labC c = true := hq.2 (by omega)
    have e : ((c.toNat : Int) != 45) = false := bne_eq_false_iff_eq.2 (by omega)
    rw [if_pos this, e, if_neg (by decide)]
   ·
    have : ¬ labC c = true := fun h => by have := hq.1 h; omega
    have e : ((c.toNat : Int) != 45) = true := bne_iff_ne.2 (by omega)
    rw [if_neg this, e, if_pos rfl]
def labEnd (l : List UInt8) : Bool := !l.isEmpty && decide (l.length ≤ 63) && !(l.head? == some 45) && !(l.getLast? == some 45)
theorem lab_split (l : List UInt8) : labelL l = (l.all labC && labEnd l) := by simp [labL_eq, labEnd, Bool.and_assoc]
theorem lab_end (k : Nat) (x0 : ByteArray) (f i : Nat) (hs : x0.size < 4611686018427387904) (hf : f ≤ i) (hi : i ≤ x0.data.toList.length) :
  wherryref11_Domain.j1 (k + 1) x0 (f : Int) (i : Int) false = if labEnd ((x0.data.toList.drop f).take (i - f)) = true then wherryref11_Domain.l0 k x0 ((i + 1 : Nat) : Int) ((i + 1 : Nat) : Int) else some false := by
 have hsz := data_size x0
 have ew : wrap64 ((i : Int) + 1) = ((i + 1 : Nat) : Int) := by rw [wrap_small (by omega) (by omega)]; omega
 have ed : wrap64 ((i : Int) - (f : Int)) = ((i - f : Nat) : Int) := by rw [wrap_small (by omega) (by omega)]; omega
 rw [wherryref11_Domain.j1, if_neg (by decide), ed, refin_eq, Option.bind_some, ew]
 have hlen : ((x0.data.toList.drop f).take (i - f)).length = i - f := by rw [List.length_take, List.length_drop]; omega
 by_cases h1 : (1 : Int) ≤ ((i - f : Nat) : Int) ∧ ((i - f : Nat) : Int) ≤ 63
 ·
  have hfl : f < x0.data.toList.length := by omega
  have el : wrap64 ((i : Int) - 1) = ((i - 1 : Nat) : Int) := by rw [wrap_small (by omega) (by omega)]; omega
  rw [decide_eq_true h1, if_pos rfl, if_pos (by omega), if_pos (by omega), bt_get x0 f hfl, el, bt_get x0 (i - 1) (by omega)]
  have hh : ((x0.data.toList.drop f).take (i - f)).head? = some x0.data.toList[f] := by
   rw [List.head?_eq_getElem?, List.getElem?_take, if_pos (by omega), List.getElem?_drop]
   exact List.getElem?_eq_getElem _
  have hl : ((x0.data.toList.drop f).take (i - f)).getLast? = some (x0.data.toList[i - 1]'(by omega)) := by
   rw [List.getLast?_eq_getElem?, hlen, List.getElem?_take, if_pos (by omega), List.getElem?_drop, show f + (i - f - 1) = i - 1 by omega]
   exact List.getElem?_eq_getElem _
  have he : ((x0.data.toList.drop f).take (i - f)).isEmpty = false := by
   rw [List.isEmpty_eq_false_iff]
   intro h
   rw [h] at hlen
   simp at hlen
   omega
  unfold labEnd
  rw [hh, hl, hlen, he, decide_eq_true (by omega)]
  generalize x0.data.toList[f] = a
  generalize x0.data.toList[i - 1]'(by omega) = b
  have e45 : ∀ c : UInt8, (c.toNat : Int) = 45 ↔ c = 45 := fun c => ⟨fun h => UInt8.toNat_inj.1 (by show c.toNat = 45; omega), fun h => by rw [h]; rfl⟩
  by_cases ha : a = 45
  ·
   rw [if_pos ((e45 a).2 ha), ha]; rfl
  ·
   rw [if_neg (fun h => ha ((e45 a).1 h)), if_pos (by omega), if_pos (by omega)]
   have na : (some a == some (45 : UInt8)) = false := beq_eq_false_iff_ne.2 (fun h => ha (Option.some.inj h))
   by_cases hb : b = 45
   ·
    rw [if_pos ((e45 b).2 hb), hb, na]; rfl
   ·
    have nb : (some b == some (45 : UInt8)) = false := beq_eq_false_iff_ne.2 (fun h => hb (Option.some.inj h))
    rw [if_neg (fun h => hb ((e45 b).1 h)), na, nb]; rfl
 ·
  rw [decide_eq_false h1, if_neg (by decide)]
  have : labEnd ((x0.data.toList.drop f).take (i - f)) = false := by
   unfold labEnd
   rw [hlen]
   by_cases h0 : i - f = 0
   ·
    rw [h0, List.take_zero]; rfl
   ·
    rw [decide_eq_false (by omega)]; simp
  rw [this]; rfl
theorem pieces_pre {s : UInt8} {r p : List UInt8} {ps : List (List UInt8)} (hr : pieces s r = p :: ps) : ∀ {a : List UInt8}, s ∉ a → pieces s (a ++ r) = (a ++ p) :: ps
 | [], _ => hr
 | c :: a, hn => by
  have hc : c ≠ s := fun e => hn (by simp [e])
  have ha : s ∉ a := fun e => hn (by simp [e])
  rw [List.cons_append, pieces, if_neg hc, pieces_pre hr ha]
  rfl
theorem dom_l0 (x0 : ByteArray) (hs : x0.size < 4611686018427387904) : ∀ (d k f i : Nat), x0.data.toList.length + 1 - i = d → f ≤ i → i ≤ x0.data.toList.length → (∀ c ∈ (x0.data.toList.drop f).take (i - f), labC c = true) → 3 * d + 3 < k →
  wherryref11_Domain.l0 k x0 (f : Int) (i : Int) = some ((pieces 46 (x0.data.toList.drop f)).all labelL) := by
 have hsz := data_size x0
 intro d
 induction d with
 | zero => intro k f i hd hf hi; omega
 | succ d ih =>
  intro k f i hd hf hi hseen hk
  obtain ⟨k, rfl⟩ : ∃ m, k = m + 3 := ⟨k - 3, by omega⟩
  have hno : (46 : UInt8) ∉ (x0.data.toList.drop f).take (i - f) := fun h => by have := hseen _ h; exact absurd this (by decide)
  have hall : ((x0.data.toList.drop f).take (i - f)).all labC = true := List.all_eq_true.2 hseen
  have hsp : x0.data.toList.drop f = (x0.data.toList.drop f).take (i - f) ++ x0.data.toList.drop i := by
   have := List.take_append_drop (i - f) (x0.data.toList.drop f)
   rw [List.drop_drop, show f + (i - f) = i by omega] at this
   exact this.symm
  rw [wherryref11_Domain.l0, if_pos (by omega)]
  by_cases hin : i < x0.data.toList.length
  ·
   rw [if_pos (by omega), if_pos (by omega), bt_get x0 i hin]
   have hdi := List.drop_eq_getElem_cons hin
   have e46 : ∀ c : UInt8, (c.toNat : Int) = 46 ↔ c = 46 := fun c => ⟨fun h => UInt8.toNat_inj.1 (by show c.toNat = 46; omega), fun h => by rw [h]; rfl⟩
   by_cases h46 : x0.data.toList[i] = 46
   ·
    have e : ((x0.data.toList[i].toNat : Int) != 46) = false := bne_eq_false_iff_eq.2 ((e46 _).2 h46)
    rw [e, lab_end (k + 1) x0 f i hs hf hi]
    rw [h46] at hdi
    rw [hdi] at hsp
    have hp : pieces 46 (x0.data.toList.drop f) = (x0.data.toList.drop f).take (i - f) :: pieces 46 (x0.data.toList.drop (i + 1)) := by
     conv => lhs; rw [hsp]
     exact pieces_sep _ hno
    rw [hp, List.all_cons, lab_split, hall, Bool.true_and]
    cases hle : labEnd ((x0.data.toList.drop f).take (i - f)) with
    | false => rfl
    | true =>
     rw [if_pos rfl, Bool.true_and]
     exact ih (k + 1) (i + 1) (i + 1) (by omega) (by omega) (by omega) (by simp) (by omega)
   ·
    have e : ((x0.data.toList[i].toNat : Int) != 46) = true := bne_iff_ne.2 (fun h => h46 ((e46 _).1 h))
    rw [e, lab_j1 k x0 f i hin hs]
    by_cases hc : labC x0.data.toList[i] = true
    ·
     rw [if_pos hc]
     refine ih k f (i + 1) (by omega) (by omega) (by omega) ?_ (by omega)
     intro c hcm
     have et : (x0.data.toList.drop f).take (i + 1 - f) = (x0.data.toList.drop f).take (i - f) ++ [x0.data.toList[i]] := by
      rw [show i + 1 - f = (i - f) + 1 by omega, List.take_succ_eq_append_getElem (by rw [List.length_drop]; omega)]
      congr 2
      rw [List.getElem_drop]
      congr 1
      omega
     rw [et] at hcm
     rcases List.mem_append.1 hcm with h | h
     ·
      exact hseen c h
     ·
      rw [List.mem_singleton.1 h]; exact hc
    ·
     rw [if_neg hc]
     cases hp : pieces 46 (x0.data.toList.drop (i + 1)) with
     | nil => exact absurd hp (pieces_ne _ _)
     | cons p ps =>
      have hq : pieces 46 (x0.data.toList.drop i) = (x0.data.toList[i] :: p) :: ps := by
       rw [hdi, pieces, if_neg h46, hp]
      have hr : pieces 46 (x0.data.toList.drop f) = ((x0.data.toList.drop f).take (i - f) ++ (x0.data.toList[i] :: p)) :: ps := by
       conv => lhs; rw [hsp]
       exact pieces_pre hq hno
      rw [hr, List.all_cons, lab_split, List.all_append, List.all_cons, Bool.not_eq_true] at *
      rw [hc]
      simp
  ·
   obtain rfl : i = x0.data.toList.length := by omega
   rw [if_neg (by omega), lab_end (k + 1) x0 f _ hs hf hi]
   have hseg : (x0.data.toList.drop f).take (x0.data.toList.length - f) = x0.data.toList.drop f := List.take_of_length_le (by rw [List.length_drop]; omega)
   rw [hseg] at hno hall ⊢
   rw [pieces_no hno, List.all_cons, List.all_nil, Bool.and_true, lab_split, hall, Bool.true_and]
   cases labEnd (x0.data.toList.drop f) with
   | false => rfl
   | true =>
    rw [if_pos rfl, wherryref11_Domain.l0, if_neg (by omega)]
theorem refDomain_eq (k : Nat) (x0 : ByteArray) (hk : 3 * x0.size + 10 < k) (hs : x0.size < 4611686018427387904 := by omega) : wherryref11_Domain.f k x0 = some (domainL x0.data.toList) := by
 have hsz := data_size x0
 unfold wherryref11_Domain.f domainL
 rw [refin_eq, Option.bind_some]
 by_cases h : (1 : Int) ≤ (x0.size : Int) ∧ (x0.size : Int) ≤ 255
 ·
  rw [if_pos (decide_eq_true h), decide_eq_true (by omega), Bool.true_and]
  have := dom_l0 x0 hs (x0.data.toList.length + 1) k 0 0 (by omega) (Nat.le_refl _) (Nat.zero_le _) (by simp) (by omega)
  simpa using this
 ·
  rw [if_neg (by simpa using h)]
  by_cases h0 : x0.data.toList = []
  ·
   rw [h0]; rfl
  ·
   have := List.length_pos_iff.2 h0
   rw [decide_eq_false (by omega), Bool.false_and]
end Go.Proofs.YthcdjgekmfnmnaaGreatDoor.PVerb
end
section
namespace Go.Proofs.YthcdjgekmfnmnaaGreatDoor.PVerb
open Go.RowKit Go.Proofs.YthcdjgekmfnmnaaGreatDoorW.PrintWords Go.Proofs.YthcdjgekmfnmnaaGreatDoorW.PrintLast Go.Proofs.YthcdjgekmfnmnaaGreatDoorW.PrintMore
set_option linter.unusedSimpArgs false
set_option linter.unusedVariables false
theorem strOfNums_bs (l : List UInt8) : strOfNums (l.map fun c => (c.toNat : Int)) = bs l := by
 unfold strOfNums bs
 congr 2
 rw [List.map_map]
 conv => rhs; rw [← List.map_id l]
 apply List.map_congr_left
 intro c _
 simp
theorem foldC_nat (c : UInt8) : ((foldC c).toNat : Int) = if 65 ≤ (c.toNat : Int) ∧ (c.toNat : Int) ≤ 90 then ((c.toNat : Int) + 32) % 256 else (c.toNat : Int) := by
 have e65 : (65 : UInt8).toNat = 65 := rfl
 have e90 : (90 : UInt8).toNat = 90 := rfl
 have e32 : (32 : UInt8).toNat = 32 := rfl
 unfold foldC
 by_cases h : 65 ≤ c ∧ c ≤ 90
 ·
  rw [if_pos h]
  simp only [UInt8.le_iff_toNat_le, e65, e90] at h
  rw [if_pos (by omega), UInt8.toNat_add, e32]
  omega
 ·
  rw [if_neg h]
  simp only [UInt8.le_iff_toNat_le, e65, e90] at h
  rw [if_neg (by omega)]
theorem reffold_l0 (x : ByteArray) (hs : x.size < 140737488355328) : ∀ (d i : Nat) (acc : List UInt8), x.data.toList.length - i = d → i ≤ x.data.toList.length → acc.length = i →
  Ev (fun k => wherryref11_Fold.l0 k x (acc.map fun c => (c.toNat : Int)) (i : Int)) (bs (acc ++ foldL (x.data.toList.drop i))) := by
 have hsz := data_size x
 intro d
 induction d with
 | zero =>
  intro i acc hd hi ha
  refine Ev.step (f := fun _ => some (bs (acc ++ foldL (x.data.toList.drop i)))) (fun k => ?_) (Ev.now _)
  rw [wherryref11_Fold.l0, if_neg (by omega), strOfNums_bs, List.drop_of_length_le (by omega)]
  simp [foldL]
 | succ d ih =>
  intro i acc hd hi ha
  have hil : i < x.data.toList.length := by omega
  have ew : wrap64 ((i : Int) + 1) = ((i + 1 : Nat) : Int) := by rw [wrap_small (by omega) (by omega)]; omega
  have hl : (acc.map fun c => (c.toNat : Int)).length < 140737488355328 := by rw [List.length_map]; omega
  have ih2 := ih (i + 1) (acc ++ [foldC x.data.toList[i]]) (by omega) (by omega) (by simp [ha])
  rw [List.append_assoc] at ih2
  have er : [foldC x.data.toList[i]] ++ foldL (x.data.toList.drop (i + 1)) = foldL (x.data.toList.drop i) := by rw [List.drop_eq_getElem_cons hil]; rfl
  rw [er] at ih2
  refine Ev.step (fun k => ?_) ih2
  rw [wherryref11_Fold.l0, if_pos (by omega), if_pos (by omega), bt_get x i hil, ew, List.map_append, List.map_singleton, foldC_nat]
  generalize (x.data.toList[i]).toNat = n
  by_cases h1 : (n : Int) ≥ 65
  ·
   rw [if_pos h1]
   by_cases h2 : (n : Int) ≤ 90
   ·
    rw [if_pos h2, if_pos hl, if_pos ⟨h1, h2⟩]
   ·
    rw [if_neg h2, if_pos hl, if_neg (by omega)]
  ·
   rw [if_neg h1, if_pos hl, if_neg (by omega)]
theorem reffold_ev (x : ByteArray) (hs : x.size < 140737488355328) : Ev (fun k => wherryref11_Fold.f k x) (bs (foldL x.data.toList)) := by
 have := reffold_l0 x hs _ 0 [] rfl (Nat.zero_le _) rfl
 rw [List.nil_append, List.drop_zero] at this
 exact this
theorem cutC_none {s : UInt8} : ∀ {l : List UInt8}, s ∉ l → cutC s l = (l, [], false)
 | [], _ => rfl
 | c :: l, h => by
  have hc : c ≠ s := fun e => h (by simp [e])
  have hh : s ∉ l := fun e => h (by simp [e])
  rw [cutC, if_neg hc, cutC_none hh]
theorem reffirst_l0 (x : ByteArray) (hs : x.size < 140737488355328) : ∀ (d i : Nat), x.data.toList.length - i = d → i ≤ x.data.toList.length → (32 : UInt8) ∉ x.data.toList.take i →
  Ev (fun k => wherryref11_first.l0 k x (i : Int)) (bs (foldL (cutC 32 x.data.toList).1)) := by
 have hsz := data_size x
 intro d
 induction d with
 | zero =>
  intro i hd hi hno
  rw [List.take_of_length_le (by omega)] at hno
  rw [cutC_none hno]
  refine Ev.step (f := fun k => (wherryref11_Fold.f k x).bind fun t188 => some t188) (fun k => ?_) (Ev.bind (reffold_ev x hs) (Ev.now _))
  rw [wherryref11_first.l0, if_neg (by omega)]
 | succ d ih =>
  intro i hd hi hno
  have hil : i < x.data.toList.length := by omega
  have ew : wrap64 ((i : Int) + 1) = ((i + 1 : Nat) : Int) := by rw [wrap_small (by omega) (by omega)]; omega
  by_cases h : x.data.toList[i] = 32
  ·
   have hx : x.data.toList = x.data.toList.take i ++ 32 :: x.data.toList.drop (i + 1) := by
    rw [← h, ← List.drop_eq_getElem_cons hil, List.take_append_drop]
   have hc : (cutC 32 x.data.toList).1 = x.data.toList.take i := by
    conv => lhs; rw [hx]
    rw [cutC_mk _ hno]
   rw [hc]
   have hf := reffold_ev (x.extract 0 i) (by rw [extract_list, bs_size, List.drop_zero, List.length_take]; omega)
   rw [extract_list, bs_data, List.drop_zero] at hf
   refine Ev.step (f := fun k => (wherryref11_Fold.f k (bs (x.data.toList.take i))).bind fun t => some t) (fun k => ?_) (Ev.bind hf (Ev.now _))
   rw [wherryref11_first.l0, if_pos (by omega), if_pos (by omega), bt_get x i hil, h, if_pos (by rfl), if_pos (by omega), Int.toNat_natCast, extract_list, List.drop_zero]
  ·
   refine Ev.step (fun k => ?_) (ih (i + 1) (by omega) (by omega) ?_)
   ·
    rw [wherryref11_first.l0, if_pos (by omega), if_pos (by omega), bt_get x i hil, if_neg (fun e => h (UInt8.toNat_inj.1 (by show _ = 32; omega))), ew]
   ·
    rw [List.take_succ_eq_append_getElem hil]
    simp only [List.mem_append, List.mem_singleton, not_or]
    exact ⟨hno, fun e => h e.symm⟩
theorem reffirst_ev (x : ByteArray) (hs : x.size < 140737488355328) : Ev (fun k => wherryref11_first.f k x) (bs (foldL (cutC 32 x.data.toList).1)) :=
 reffirst_l0 x hs _ 0 rfl (Nat.zero_le _) (by simp)
theorem refamong_l0 (L : List (List UInt8)) (x : List UInt8) (hL : L.length < 4611686018427387904) : ∀ (d i : Nat), L.length - i = d → i ≤ L.length →
  Ev (fun k => wherryref11_among.l0 k (bs x) (L.map bs) (i : Int)) ((L.drop i).contains x) := by
 intro d
 induction d with
 | zero =>
  intro i hd hi
  refine Ev.step (f := fun _ => some ((L.drop i).contains x)) (fun k => ?_) (Ev.now _)
  rw [wherryref11_among.l0, if_neg (by rw [List.length_map]; omega), List.drop_of_length_le (by omega)]
  rfl
 | succ d ih =>
  intro i hd hi
  have hil : i < L.length := by omega
  have ew : wrap64 ((i : Int) + 1) = ((i + 1 : Nat) : Int) := by rw [wrap_small (by omega) (by omega)]; omega
  have hg : rdOf ByteArray.empty (L.map bs) (i : Int) = bs L[i] := by
   rw [rdOf_get (by rw [List.length_map]; exact hil), List.getElem_map]
  rw [List.drop_eq_getElem_cons hil, List.contains_cons]
  by_cases h : x = L[i]
  ·
   refine Ev.step (f := fun _ => some true) (fun k => ?_) ?_
   ·
    rw [wherryref11_among.l0, if_pos (by rw [List.length_map]; omega), if_pos (by omega), hg, toList_data, toList_data, bs_data, bs_data, if_pos h.symm]
   ·
    rw [beq_iff_eq.2 h, Bool.true_or]; exact Ev.now _
  ·
   rw [beq_eq_false_iff_ne.2 h, Bool.false_or]
   refine Ev.step (fun k => ?_) (ih (i + 1) (by omega) (by omega))
   rw [wherryref11_among.l0, if_pos (by rw [List.length_map]; omega), if_pos (by omega), hg, toList_data, toList_data, bs_data, bs_data, if_neg (Ne.symm h), ew]
theorem refamong_ev (L : List (List UInt8)) (x : List UInt8) (hL : L.length < 4611686018427387904) : Ev (fun k => wherryref11_among.f k (bs x) (L.map bs)) (L.contains x) := by
 have := refamong_l0 L x hL _ 0 rfl (Nat.zero_le _)
 rw [List.drop_zero] at this
 exact this
theorem refbegins_ev (s b : List UInt8) (hs : s.length < 140737488355328) (hb : foldL b = b) :
  Ev (fun k => wherryref11_begins.f k (bs s) (bs b)) (if begL s b then (bs (s.drop b.length), true) else (bs [], false)) := by
 unfold begL
 by_cases h : s.length < b.length
 ·
  rw [if_neg (by rw [decide_eq_false (by omega), Bool.false_and]; decide)]
  refine ⟨0, fun k _ => ?_⟩
  show wherryref11_begins.f k (bs s) (bs b) = _
  rw [wherryref11_begins.f, bs_size, bs_size, if_pos (by omega)]; rfl
 ·
  have hf := reffold_ev (bs (s.take b.length)) (by rw [bs_size, List.length_take]; omega)
  rw [bs_data] at hf
  refine Ev.congr (f := fun k => (wherryref11_Fold.f k (bs (s.take b.length))).bind fun t => if t.toList = b then some (bs (s.drop b.length), true) else some (bs [], false)) (fun k => ?_) (Ev.bind hf ?_)
  ·
   rw [wherryref11_begins.f, bs_size, bs_size, if_neg (by omega), if_pos (by omega), if_pos (by omega)]
   simp only [extract_list, bs_data, toList_data, List.drop_zero]
   have e : (s.take s.length).drop b.length = s.drop b.length := by rw [List.take_length]
   rw [e]; rfl
  ·
   rw [decide_eq_true (by omega), Bool.true_and, hb, toList_data, bs_data]
   by_cases he : foldL (s.take b.length) = b
   ·
    rw [beq_iff_eq.2 he, if_pos he, if_pos rfl]; exact Ev.now _
   ·
    rw [beq_eq_false_iff_ne.2 he, if_neg he, if_neg (by decide)]; exact Ev.now _
def signC (c : UInt8) : Bool := plainC c || marksL.contains c
theorem sign_fin : ∀ c : Fin 256, wherryref11_sign.f 24 (c.val : Int) = some (signC (UInt8.ofNat c.val)) := by decide +kernel
theorem sign_ev (c : UInt8) : Ev (fun k => wherryref11_sign.f k (c.toNat : Int)) (signC c) := by
 have := sign_fin ⟨c.toNat, c.toNat_lt⟩
 simp only [UInt8.ofNat_toNat] at this
 exact Ev.of (fun k => wherryref11_sign.mono _ k) this
def locG : UInt8 → List UInt8 → Bool
 | _, [] => true
 | p, c :: r => if c = 46 then (p != 46) && locG 46 r else signC c && locG c r
theorem atom_split (l : List UInt8) : atomL l = (l.all signC && !l.isEmpty) := rfl
theorem locG_pieces : ∀ (l : List UInt8), l.getLast? ≠ some 46 →
  (∀ p, p ≠ 46 → locG p l = (match pieces 46 l with | [] => false | h :: t => h.all signC && t.all atomL)) ∧ (l ≠ [] → locG 46 l = (pieces 46 l).all atomL)
 | [], _ => ⟨fun p _ => rfl, fun h => absurd rfl h⟩
 | c :: r, hl => by
  have hr : r.getLast? ≠ some 46 := by
   cases r with
   | nil => simp
   | cons d r => rwa [List.getLast?_cons_cons] at hl
  obtain ⟨i1, i2⟩ := locG_pieces r hr
  by_cases hc : c = 46
  ·
   subst hc
   have hne : r ≠ [] := fun e => hl (by rw [e]; rfl)
   constructor
   ·
    intro p hp
    rw [locG, if_pos rfl, pieces, if_pos rfl, i2 hne, bne_iff_ne.2 hp]; rfl
   ·
    intro _
    rw [locG, if_pos rfl, pieces, if_pos rfl]; rfl
  ·
   cases hp : pieces 46 r with
   | nil => exact absurd hp (pieces_ne 46 r)
   | cons h t =>
    have e1 := i1 c hc
    rw [hp] at e1
    simp only at e1
    constructor
    ·
     intro p _
     rw [locG, if_neg hc, pieces, if_neg hc, hp, e1]
     simp only [List.all_cons, Bool.and_assoc]
    ·
     intro _
     rw [locG, if_neg hc, pieces, if_neg hc, hp, e1]
     simp only [List.all_cons, atom_split, List.isEmpty_cons, Bool.not_false, Bool.and_true, Bool.and_assoc]
theorem reflocal_l0 (x : ByteArray) (hs : x.size < 4611686018427387904) : ∀ (d i : Nat) (hi : i < x.data.toList.length), x.data.toList.length - (i + 1) = d →
  Ev (fun k => wherryref11_Local.l0 k x ((i + 1 : Nat) : Int)) (locG x.data.toList[i] (x.data.toList.drop (i + 1))) := by
 have hsz := data_size x
 intro d
 induction d with
 | zero =>
  intro i hi hd
  refine Ev.step (f := fun _ => some (locG x.data.toList[i] (x.data.toList.drop (i + 1)))) (fun k => ?_) (Ev.now _)
  rw [wherryref11_Local.l0, if_neg (by omega), List.drop_of_length_le (by omega)]; rfl
 | succ d ih =>
  intro i hi hd
  have hil : i + 1 < x.data.toList.length := by omega
  have ew : wrap64 (((i + 1 : Nat) : Int) + 1) = ((i + 1 + 1 : Nat) : Int) := by rw [wrap_small (by omega) (by omega)]; omega
  have em : wrap64 (((i + 1 : Nat) : Int) - 1) = (i : Int) := by rw [wrap_small (by omega) (by omega)]; omega
  have e46 : ∀ c : UInt8, (c.toNat : Int) = 46 ↔ c = 46 := fun c => ⟨fun h => UInt8.toNat_inj.1 (by show c.toNat = 46; omega), fun h => by rw [h]; rfl⟩
  rw [List.drop_eq_getElem_cons hil, locG]
  have ih2 := ih (i + 1) hil (by omega)
  by_cases h : x.data.toList[i + 1] = 46
  ·
   rw [if_pos h]
   rw [h] at ih2
   by_cases hp : x.data.toList[i] = 46
   ·
    refine Ev.step (f := fun _ => some false) (fun k => ?_) ?_
    ·
     rw [wherryref11_Local.l0, if_pos (by omega), if_pos (by omega), bt_get x (i + 1) hil, if_pos ((e46 _).2 h), em, if_pos (by omega), if_pos (by omega), bt_get x i hi, if_pos ((e46 _).2 hp)]
    ·
     rw [hp]; exact Ev.now _
   ·
    rw [bne_iff_ne.2 hp, Bool.true_and]
    refine Ev.step (fun k => ?_) ih2
    rw [wherryref11_Local.l0, if_pos (by omega), if_pos (by omega), bt_get x (i + 1) hil, if_pos ((e46 _).2 h), em, if_pos (by omega), if_pos (by omega), bt_get x i hi, if_neg (fun k => hp ((e46 _).1 k)), ew]
  ·
   rw [if_neg h]
   have hs := sign_ev x.data.toList[i + 1]
   generalize hc : x.data.toList[i + 1] = c at *
   have hb : Ev (fun k => (wherryref11_sign.f k (c.toNat : Int)).bind fun t => if t = true then wherryref11_Local.l0 k x ((i + 1 + 1 : Nat) : Int) else some false) (signC c && locG c (x.data.toList.drop (i + 1 + 1))) := by
    refine Ev.bind hs ?_
    cases signC c with
    | true => simpa using ih2
    | false => simpa using Ev.now false
   refine Ev.step (fun k => ?_) hb
   ·
    rw [wherryref11_Local.l0, if_pos (by omega), if_pos (by omega), bt_get x (i + 1) hil, hc, if_neg (fun k => h ((e46 _).1 k)), ew]
theorem reflocal_ev (l : List UInt8) (hs : l.length < 4611686018427387904) : Ev (fun k => wherryref11_Local.f k (bs l)) (localL l) := by
 have hsz := bs_size l
 have e46 : ∀ c : UInt8, (c.toNat : Int) = 46 ↔ c = 46 := fun c => ⟨fun h => UInt8.toNat_inj.1 (by show c.toNat = 46; omega), fun h => by rw [h]; rfl⟩
 have hj : ∀ q r, (q = true → r = false) → (q = false → Ev (fun k => wherryref11_Local.l0 k (bs l) 0) r) → Ev (fun k => wherryref11_Local.j0 k (bs l) q) r := by
  intro q r h1 h2
  cases q with
  | true =>
   refine Ev.step (f := fun _ => some false) (fun k => ?_) (by rw [h1 rfl]; exact Ev.now _)
   rw [wherryref11_Local.j0, if_pos rfl]
  | false =>
   refine Ev.step (fun k => ?_) (h2 rfl)
   rw [wherryref11_Local.j0, if_neg (by decide)]
 by_cases h : (1 : Int) ≤ ((bs l).size : Int) ∧ ((bs l).size : Int) ≤ 64
 ·
  have hin : wherryref11_in.f ((bs l).size : Int) 1 64 = some true := by rw [refin_eq, decide_eq_true h]
  have hun : ∀ k, wherryref11_Local.f k (bs l) = if 0 < ((bs l).size : Int) then (if (bt (bs l) 0) = 46 then (wherryref11_Local.j0 k (bs l) true) else (if 0 ≤ (wrap64 (((bs l).size : Int) - 1)) then (if (wrap64 (((bs l).size : Int) - 1)) < ((bs l).size : Int) then (wherryref11_Local.j0 k (bs l) ((bt (bs l) (wrap64 (((bs l).size : Int) - 1))) == 46)) else (none)) else (none))) else (none) := fun k => by rw [wherryref11_Local.f, hin, Option.bind_some, if_pos rfl]
  have hpos : 0 < l.length := by omega
  have b0 : bt (bs l) 0 = ((l[0]).toNat : Int) := bt_get (bs l) 0 hpos
  have hh : l.head? = some l[0] := by rw [List.head?_eq_getElem?, List.getElem?_eq_getElem hpos]
  have el : wrap64 (((bs l).size : Int) - 1) = ((l.length - 1 : Nat) : Int) := by rw [wrap_small (by omega) (by omega)]; omega
  have b1 : bt (bs l) ((l.length - 1 : Nat) : Int) = ((l[l.length - 1]'(by omega)).toNat : Int) := bt_get (bs l) (l.length - 1) (by rw [bs_data]; omega)
  have hla : l.getLast? = some (l[l.length - 1]'(by omega)) := by rw [List.getLast?_eq_getElem?, List.getElem?_eq_getElem]
  have hloc : localL l = (pieces 46 l).all atomL := by unfold localL; rw [decide_eq_true (by omega), Bool.true_and]
  have hne : l ≠ [] := List.length_pos_iff.1 hpos
  rw [hloc]
  by_cases h0 : l[0] = 46
  ·
   refine Ev.congr (f := fun k => wherryref11_Local.j0 k (bs l) true) (fun k => by rw [hun, if_pos (by omega), b0, if_pos ((e46 _).2 h0)]) (hj true _ (fun _ => ?_) (fun h => by cases h))
   obtain ⟨m, rfl⟩ : ∃ m, l = 46 :: m := by
    cases l with
    | nil => exact absurd rfl hne
    | cons a m => exact ⟨m, by rw [show a = 46 from h0]⟩
   rw [pieces, if_pos rfl]; rfl
  ·
   refine Ev.congr (f := fun k => wherryref11_Local.j0 k (bs l) (((l[l.length - 1]'(by omega)).toNat : Int) == 46)) (fun k => by rw [hun, if_pos (by omega), b0, if_neg (fun k => h0 ((e46 _).1 k)), el, if_pos (by omega), if_pos (by omega), b1]) (hj _ _ (fun hq => ?_) (fun hq => ?_))
   ·
    have hlast : l[l.length - 1]'(by omega) = 46 := (e46 _).1 (beq_iff_eq.1 hq)
    rw [hlast] at hla
    obtain ⟨ys, rfl⟩ := List.getLast?_eq_some_iff.1 hla
    have key : ∀ a : List UInt8, ∃ b, pieces 46 (a ++ [46]) = b ++ [[]] := by
     intro a
     induction a with
     | nil => exact ⟨[[]], rfl⟩
     | cons c a ih =>
      obtain ⟨b, hb⟩ := ih
      rw [List.cons_append, pieces]
      split
      ·
       exact ⟨[] :: b, by rw [hb]; rfl⟩
      ·
       rw [hb]
       cases b with
       | nil =>
        have h1 := congrArg List.length hb
        have h2 : 2 ≤ (pieces 46 (a ++ [46])).length := by
         clear hb h1
         induction a with
         | nil => decide
         | cons d a ih =>
          rw [List.cons_append, pieces]
          split
          ·
           simp; omega
          ·
           split
           ·
            rename_i e; rw [e] at ih; simp at ih
           ·
            rename_i e; rw [e] at ih; simpa using ih
        simp at h1; omega
       | cons p b => exact ⟨(c :: p) :: b, rfl⟩
    obtain ⟨b, hb⟩ := key ys
    rw [hb, List.all_append]
    simp [atomL]
   ·
    have hlast : l.getLast? ≠ some 46 := by
     rw [hla]
     intro e
     rw [beq_eq_false_iff_ne] at hq
     exact hq ((e46 _).2 (Option.some.inj e))
    rw [← (locG_pieces l hlast).2 hne]
    have hG : locG 46 l = (signC l[0] && locG l[0] (l.drop 1)) := by
     cases l with
     | nil => exact absurd rfl hne
     | cons a m =>
      rw [locG, if_neg (by exact h0)]; rfl
    rw [hG]
    have hl1 := reflocal_l0 (bs l) (by omega) _ 0 hpos rfl
    have hl2 : (bs l).data.toList[0] = l[0] := rfl
    rw [hl2] at hl1
    have hl3 : (bs l).data.toList.drop (0 + 1) = l.drop 1 := rfl
    rw [hl3] at hl1
    have hs := sign_ev l[0]
    generalize l[0] = c at *
    generalize l.drop 1 = m at *
    have hb : Ev (fun k => (wherryref11_sign.f k (c.toNat : Int)).bind fun t => if t = true then wherryref11_Local.l0 k (bs l) ((0 + 1 : Nat) : Int) else some false) (signC c && locG c m) := by
     refine Ev.bind hs ?_
     cases signC c with
     | true => simpa using hl1
     | false => simpa using Ev.now false
    refine Ev.step (fun k => ?_) hb
    ·
     rw [wherryref11_Local.l0, if_pos (by omega), if_pos (by omega), b0, if_neg (fun k => h0 ((e46 _).1 k))]
     have : wrap64 ((0 : Int) + 1) = ((0 + 1 : Nat) : Int) := by decide +kernel
     rw [this]
 ·
  have hin : wherryref11_in.f ((bs l).size : Int) 1 64 = some false := by rw [refin_eq, decide_eq_false h]
  refine Ev.congr (f := fun k => wherryref11_Local.j0 k (bs l) true) (fun k => by rw [wherryref11_Local.f, hin, Option.bind_some, if_neg (by decide)]) (hj true _ (fun _ => ?_) (fun h => by cases h))
  unfold localL
  by_cases h0 : l = []
  ·
   rw [h0]; rfl
  ·
   have := List.length_pos_iff.2 h0
   rw [decide_eq_false (by omega), Bool.false_and]
theorem refdomain_ev (l : List UInt8) (hs : l.length < 4611686018427387904) : Ev (fun k => wherryref11_Domain.f k (bs l)) (domainL l) :=
 ⟨3 * l.length + 11, fun k hk => by
  have := refDomain_eq k (bs l) (by rw [bs_size]; omega) (by rw [bs_size]; exact hs)
  rwa [bs_data] at this⟩
theorem refpath_ev (n : Bool) (a b : List UInt8) (ha : a.length < 4611686018427387904) (hb : b.length < 4611686018427387904) : Ev (fun k => wherryref11_Path.f k n (bs a) (bs b)) (checkL n a b) := by
 cases n with
 | true =>
  refine ⟨0, fun k _ => ?_⟩
  show wherryref11_Path.f k true (bs a) (bs b) = _
  rw [wherryref11_Path.f, if_pos rfl, toList_data, toList_data, bs_data, bs_data]
  unfold checkL
  rw [if_pos rfl]
  cases a with
  | nil => rw [if_pos rfl]; rfl
  | cons c a => rw [if_neg (by simp)]; rfl
 | false =>
  refine Ev.congr (f := fun k => (wherryref11_Local.f k (bs a)).bind fun t => if t = true then (wherryref11_Domain.f k (bs b)).bind fun t => some t else some false) (fun k => by rw [wherryref11_Path.f, if_neg (by decide)]) (Ev.bind (reflocal_ev a ha) ?_)
  unfold checkL
  rw [if_neg (by decide)]
  cases localL a with
  | true => simpa using Ev.bind (refdomain_ev b hb) (Ev.now _)
  | false => simpa using Ev.now false
end Go.Proofs.YthcdjgekmfnmnaaGreatDoor.PVerb
end
section
namespace Go.Proofs.YthcdjgekmfnmnaaGreatDoor.PVerb
open Go.RowKit Go.Proofs.YthcdjgekmfnmnaaGreatDoorW.PrintWords Go.Proofs.YthcdjgekmfnmnaaGreatDoorW.PrintLast Go.Proofs.YthcdjgekmfnmnaaGreatDoorW.PrintMore
set_option linter.unusedSimpArgs false
set_option linter.unusedVariables false
def retP : Option (Bool × List UInt8 × List UInt8) → Bool × ByteArray × ByteArray × Bool
  | some p => (p.1, bs p.2.1, bs p.2.2, true)
  | none => (false, bs [], bs [], false)
theorem eN (c n : UInt8) (m : Int) (hm : (n.toNat : Int) = m) : (c.toNat : Int) = m ↔ c = n := ⟨fun h => UInt8.toNat_inj.1 (by omega), fun h => by rw [h]; exact hm⟩
theorem refparse_l0 (t : List UInt8) (hs : t.length < 4611686018427387904) : ∀ (d i : Nat), t.length - i = d → i ≤ t.length → (64 : UInt8) ∉ t.take i →
    Ev (fun k => wherryref11_Parse.l0 k (bs t) (i : Int)) (retP (if (cutC 64 t).2.2 = true ∧ checkL false (cutC 64 t).1 (cutC 64 t).2.1 = true then some (false, (cutC 64 t).1, (cutC 64 t).2.1) else none)) := by
  have hsz := bs_size t
  intro d
  induction d with
  | zero =>
    intro i hd hi hno
    rw [List.take_of_length_le (by omega)] at hno
    rw [cutC_none hno, if_neg (fun h => by cases h.1)]
    refine Ev.step (f := fun _ => some (false, bs [], bs [], false)) (fun k => ?_) (Ev.now _)
    rw [wherryref11_Parse.l0, if_neg (by omega)]; rfl
  | succ d ih =>
    intro i hd hi hno
    have hil : i < t.length := by omega
    have ew : wrap64 ((i : Int) + 1) = ((i + 1 : Nat) : Int) := by rw [wrap_small (by omega) (by omega)]; omega
    have hb : bt (bs t) (i : Int) = ((t[i]).toNat : Int) := bt_get (bs t) i hil
    by_cases h : t[i] = 64
    · have hx : t = t.take i ++ 64 :: t.drop (i + 1) := by rw [← h, ← List.drop_eq_getElem_cons hil, List.take_append_drop]
      have hc : cutC 64 t = (t.take i, t.drop (i + 1), true) := by
        conv => lhs; rw [hx]
        exact cutC_mk _ hno
      rw [hc]
      simp only [true_and]
      have hp := refpath_ev false (t.take i) (t.drop (i + 1)) (by simp; omega) (by simp; omega)
      refine Ev.step (f := fun k => (wherryref11_Path.f k false (bs (t.take i)) (bs (t.drop (i + 1)))).bind fun q => (wherryref11_keep.f false (bs (t.take i)) (bs (t.drop (i + 1))) q).bind fun r => some (r.1, r.2.1, r.2.2.1, r.2.2.2)) (fun k => ?_) (Ev.bind hp ?_)
      · have e1 : (bs t).extract 0 i = bs (t.take i) := by rw [extract_list, bs_data, List.drop_zero]
        have e2 : (bs t).extract (i + 1) (bs t).size = bs (t.drop (i + 1)) := by rw [extract_list, bs_data, bs_size, List.take_length]
        rw [wherryref11_Parse.l0, if_pos (by omega), if_pos (by omega), hb, h, if_pos (by rfl), if_pos (by omega), ew, if_pos (by omega), if_pos (by omega), Int.toNat_natCast, Int.toNat_natCast, e1, e2]
      · cases checkL false (t.take i) (t.drop (i + 1)) with
        | true => exact Ev.now _
        | false => exact Ev.now _
    · refine Ev.step (fun k => ?_) (ih (i + 1) (by omega) (by omega) ?_)
      · rw [wherryref11_Parse.l0, if_pos (by omega), if_pos (by omega), hb, if_neg (fun e => h ((eN _ 64 64 rfl).1 e)), ew]
      · rw [List.take_succ_eq_append_getElem hil]
        simp only [List.mem_append, List.mem_singleton, not_or]
        exact ⟨hno, fun e => h e.symm⟩
theorem refparse_ev (s : List UInt8) (hs : s.length < 4611686018427387904) : Ev (fun k => wherryref11_Parse.f k (bs s)) (retP (pathT s)) := by
  have hsz := bs_size s
  have hj : ∀ q r, (q = true → r = retP none) → (q = false → 2 ≤ s.length ∧ Ev (fun k => wherryref11_Parse.l0 k (bs ((s.drop 1).dropLast)) 0) r) → Ev (fun k => wherryref11_Parse.j0 k (bs s) q) r := by
    intro q r h1 h2
    cases q with
    | true =>
      refine Ev.step (f := fun _ => some (retP none)) (fun k => ?_) (by rw [h1 rfl]; exact Ev.now _)
      rw [wherryref11_Parse.j0, if_pos rfl]; rfl
    | false =>
      obtain ⟨hl, h2⟩ := h2 rfl
      have el : wrap64 (((bs s).size : Int) - 1) = ((s.length - 1 : Nat) : Int) := by rw [wrap_small (by omega) (by omega)]; omega
      refine Ev.step (fun k => ?_) h2
      have e1 : (bs s).extract 1 (s.length - 1) = bs ((s.drop 1).dropLast) := by
        rw [extract_list, bs_data, ← List.dropLast_eq_take]
        cases s with
        | nil => rfl
        | cons a m =>
          cases m with
          | nil => rfl
          | cons b m => rfl
      rw [wherryref11_Parse.j0, if_neg (by decide), el, if_pos (by omega), if_pos (by omega), Int.toNat_natCast, e1]
  by_cases h0 : s = [60, 62]
  · refine ⟨0, fun k _ => ?_⟩
    show wherryref11_Parse.f k (bs s) = _
    rw [wherryref11_Parse.f, toList_data, bs_data, if_pos h0]
    unfold pathT
    rw [if_pos h0]
    rfl
  · have hun : ∀ k, wherryref11_Parse.f k (bs s) = if ((bs s).size : Int) < 2 then (wherryref11_Parse.j0 k (bs s) true) else (if 0 < ((bs s).size : Int) then (if (bt (bs s) 0) = 60 then (if 0 ≤ (wrap64 (((bs s).size : Int) - 1)) then (if (wrap64 (((bs s).size : Int) - 1)) < ((bs s).size : Int) then (wherryref11_Parse.j0 k (bs s) ((bt (bs s) (wrap64 (((bs s).size : Int) - 1))) != 62)) else (none)) else (none)) else (wherryref11_Parse.j0 k (bs s) true)) else (none)) := fun k => by
      rw [wherryref11_Parse.f, toList_data, bs_data, if_neg h0]
    cases s with
    | nil =>
      refine Ev.congr (f := fun k => wherryref11_Parse.j0 k (bs []) true) (fun k => by rw [hun, if_pos (by rw [bs_size]; decide)]) (hj true _ (fun _ => rfl) (fun h => by cases h))
    | cons a m =>
      have hpt : pathT (a :: m) = if a = 60 ∧ m.getLast? = some 62 ∧ (cutC 64 m.dropLast).2.2 = true ∧ checkL false (cutC 64 m.dropLast).1 (cutC 64 m.dropLast).2.1 = true then
          some (false, (cutC 64 m.dropLast).1, (cutC 64 m.dropLast).2.1) else none := by rw [pathT, if_neg h0]
      rw [hpt]
      cases m with
      | nil =>
        refine Ev.congr (f := fun k => wherryref11_Parse.j0 k (bs [a]) true) (fun k => by rw [hun, if_pos (by rw [bs_size]; simp)]) (hj true _ (fun _ => ?_) (fun h => by cases h))
        rw [if_neg (fun h => by cases h.2.1)]
      | cons b m =>
        have hl2 : (a :: b :: m).length = m.length + 2 := rfl
        have b0 : bt (bs (a :: b :: m)) 0 = (a.toNat : Int) := bt_get (bs (a :: b :: m)) 0 (by rw [bs_data]; omega)
        have el : wrap64 (((bs (a :: b :: m)).size : Int) - 1) = ((m.length + 1 : Nat) : Int) := by rw [wrap_small (by omega) (by omega)]; omega
        have b1 : bt (bs (a :: b :: m)) ((m.length + 1 : Nat) : Int) = (((a :: b :: m)[m.length + 1]'(by omega)).toNat : Int) := bt_get (bs (a :: b :: m)) (m.length + 1) (by rw [bs_data]; omega)
        have hla : (b :: m).getLast? = some ((a :: b :: m)[m.length + 1]'(by omega)) := by
          rw [List.getLast?_eq_getElem?]
          exact List.getElem?_eq_getElem (by simp)
        by_cases ha : a = 60
        · refine Ev.congr (f := fun k => wherryref11_Parse.j0 k (bs (a :: b :: m)) ((((a :: b :: m)[m.length + 1]'(by omega)).toNat : Int) != 62)) (fun k => by rw [hun, if_neg (by omega), if_pos (by omega), b0, if_pos (by rw [ha]; rfl), el, if_pos (by omega), if_pos (by omega), b1]) (hj _ _ (fun hq => ?_) (fun hq => ⟨by omega, ?_⟩))
          · rw [if_neg (fun h => ?_)]
            have := h.2.1
            rw [hla] at this
            rw [Option.some.inj this] at hq
            cases hq
          · have h62 : (a :: b :: m)[m.length + 1]'(by omega) = 62 := (eN _ 62 62 rfl).1 (bne_eq_false_iff_eq.1 hq)
            have := refparse_l0 ((b :: m).dropLast) (by simp; omega) _ 0 rfl (Nat.zero_le _) (by simp)
            rw [h62] at hla
            have e : ∀ X Y : Prop, ∀ (_ : Decidable X) (_ : Decidable (X ∧ Y)), True := fun _ _ _ _ => trivial
            by_cases hc : (cutC 64 (b :: m).dropLast).2.2 = true ∧ checkL false (cutC 64 (b :: m).dropLast).1 (cutC 64 (b :: m).dropLast).2.1 = true
            · rw [if_pos hc] at this
              rw [if_pos ⟨ha, hla, hc⟩]; exact this
            · rw [if_neg hc] at this
              rw [if_neg (fun h => hc h.2.2)]; exact this
        · refine Ev.congr (f := fun k => wherryref11_Parse.j0 k (bs (a :: b :: m)) true) (fun k => by rw [hun, if_neg (by omega), if_pos (by omega), b0, if_neg (fun h => ha ((eN _ 60 60 rfl).1 h))]) (hj true _ (fun _ => ?_) (fun h => by cases h))
          rw [if_neg (fun h => ha h.1)]
theorem refdigit_eq (c : UInt8) : wherryref11_digit.f (c.toNat : Int) = some (digitC c) := by
  have h := digitC_iff c
  unfold wherryref11_digit.f
  by_cases h1 : (c.toNat : Int) ≥ 48
  · rw [if_pos h1]
    congr 1
    rw [Bool.eq_iff_iff, decide_eq_true_iff, h]
    omega
  · rw [if_neg h1]
    congr 1
    rw [Bool.eq_iff_iff, h]
    simp; omega
theorem refnum_l0 (s : List UInt8) (hs : s.length ≤ 10) : ∀ (d i : Nat), s.length - i = d → i ≤ s.length → valL (s.take i) < 10 ^ i →
    Ev (fun k => wherryref11_number.l0 k (bs s) (valL (s.take i) : Int) (i : Int)) (if (s.drop i).all digitC then (valL s : Int) else -1) := by
  have hsz := bs_size s
  intro d
  induction d with
  | zero =>
    intro i hd hi hv
    refine Ev.step (f := fun _ => some (valL s : Int)) (fun k => ?_) ?_
    · rw [wherryref11_number.l0, if_neg (by omega), List.take_of_length_le (by omega)]
    · rw [List.drop_of_length_le (by omega)]; exact Ev.now _
  | succ d ih =>
    intro i hd hi hv
    have hil : i < s.length := by omega
    have ew : wrap64 ((i : Int) + 1) = ((i + 1 : Nat) : Int) := by rw [wrap_small (by omega) (by omega)]; omega
    have hb : bt (bs s) (i : Int) = ((s[i]).toNat : Int) := bt_get (bs s) i hil
    have ht : valL (s.take (i + 1)) = 10 * valL (s.take i) + ((s[i]).toNat - 48) := by rw [List.take_succ_eq_append_getElem hil, valL_snoc]
    rw [List.drop_eq_getElem_cons hil, List.all_cons]
    have ih2 := ih (i + 1) (by omega) (by omega)
    have hlt := (s[i]).toNat_lt
    have hdd := digitC_iff s[i]
    have hde := refdigit_eq s[i]
    generalize s[i] = c at *
    by_cases h : digitC c = true
    · have hd1 := hdd.1 h
      have h10 : 10 ^ i ≤ 10 ^ 9 := Nat.pow_le_pow_right (by omega) (by omega)
      have e9 : 10 ^ 9 = 1000000000 := by decide
      rw [h, Bool.true_and]
      refine Ev.step (fun k => ?_) (ih2 ?_)
      · rw [wherryref11_number.l0, if_pos (by omega), if_pos (by omega), hb, hde, Option.bind_some, if_pos h, ew]
        congr 1
        rw [ht, wrap_small (n := 10 * _) (by omega) (by omega), wrap_small (by omega) (by omega)]
        omega
      · rw [ht, Nat.pow_succ]; omega
    · rw [Bool.not_eq_true] at h
      rw [h, Bool.false_and]
      refine Ev.step (f := fun _ => some (-1)) (fun k => ?_) (Ev.now _)
      rw [wherryref11_number.l0, if_pos (by omega), if_pos (by omega), hb, hde, Option.bind_some, h, if_neg (by decide)]
theorem refnum_ev (s : List UInt8) (most : Nat) (hm : most ≤ 10) (hs : s.length < 4611686018427387904) : Ev (fun k => wherryref11_number.f k (bs s) (most : Int)) (if numL most s then (valL s : Int) else -1) := by
  have hsz := bs_size s
  have hj : ∀ q r, (q = true → r = -1) → (q = false → Ev (fun k => wherryref11_number.l0 k (bs s) 0 0) r) → Ev (fun k => wherryref11_number.j0 k (bs s) q) r := by
    intro q r h1 h2
    cases q with
    | true =>
      refine Ev.step (f := fun _ => some (-1)) (fun k => ?_) (by rw [h1 rfl]; exact Ev.now _)
      rw [wherryref11_number.j0, if_pos rfl]
    | false =>
      refine Ev.step (fun k => ?_) (h2 rfl)
      rw [wherryref11_number.j0, if_neg (by decide)]
  by_cases h : (1 : Int) ≤ ((bs s).size : Int) ∧ ((bs s).size : Int) ≤ (most : Int)
  · have hin : wherryref11_in.f ((bs s).size : Int) 1 (most : Int) = some true := by rw [refin_eq, decide_eq_true h]
    have hl0 := refnum_l0 s (by omega) _ 0 rfl (Nat.zero_le _) (by simp [valL])
    rw [List.drop_zero, List.take_zero] at hl0
    have hpos : 0 < s.length := by omega
    have hne : s.isEmpty = false := List.isEmpty_eq_false_iff.2 (List.length_pos_iff.1 hpos)
    have b0 : bt (bs s) 0 = ((s[0]).toNat : Int) := bt_get (bs s) 0 hpos
    have hh : s.head? = some s[0] := by rw [List.head?_eq_getElem?, List.getElem?_eq_getElem hpos]
    unfold numL
    rw [hne, decide_eq_true (show s.length ≤ most by omega), Bool.not_false, Bool.and_true, Bool.and_true, hh]
    by_cases h1 : 1 < s.length
    · rw [decide_eq_true h1, Bool.true_and]
      refine Ev.congr (f := fun k => wherryref11_number.j0 k (bs s) (((s[0]).toNat : Int) == 48)) (fun k => by rw [wherryref11_number.f, hin, Option.bind_some, if_pos rfl, if_pos (by omega), if_pos (by omega), b0]) (hj _ _ (fun hq => ?_) (fun hq => ?_))
      · have : s[0] = 48 := (eN _ 48 48 rfl).1 (beq_iff_eq.1 hq)
        rw [this]
        simp
      · have : (some s[0] == some (48 : UInt8)) = false := beq_eq_false_iff_ne.2 fun e => by
          rw [beq_eq_false_iff_ne] at hq
          exact hq ((eN _ 48 48 rfl).2 (Option.some.inj e))
        rw [this, Bool.not_false, Bool.and_true]
        exact hl0
    · rw [decide_eq_false h1, Bool.false_and, Bool.not_false, Bool.and_true]
      refine Ev.congr (f := fun k => wherryref11_number.j0 k (bs s) false) (fun k => by rw [wherryref11_number.f, hin, Option.bind_some, if_pos rfl, if_neg (by omega)]) (hj _ _ (fun hq => by cases hq) (fun _ => hl0))
  · have hin : wherryref11_in.f ((bs s).size : Int) 1 (most : Int) = some false := by rw [refin_eq, decide_eq_false h]
    refine Ev.congr (f := fun k => wherryref11_number.j0 k (bs s) true) (fun k => by rw [wherryref11_number.f, hin, Option.bind_some, if_neg (by decide)]) (hj true _ (fun _ => ?_) (fun h => by cases h))
    have : numL most s = false := by
      unfold numL
      by_cases h0 : s = []
      · rw [h0]; rfl
      · have := List.length_pos_iff.2 h0
        rw [decide_eq_false (show ¬ s.length ≤ most by omega)]; simp
    rw [this]; rfl
theorem fold61_fin : ∀ c : Fin 256, foldC (UInt8.ofNat c.val) = 61 → UInt8.ofNat c.val = 61 := by decide +kernel
theorem fold61 {c : UInt8} (h : foldC c = 61) : c = 61 := by
  have := fold61_fin ⟨c.toNat, c.toNat_lt⟩
  simp only [UInt8.ofNat_toNat] at this
  exact this h
theorem begL_cut {b w : List UInt8} (hb : foldL b = b) (h61 : (61 : UInt8) ∉ b) :
    begL w (b ++ [61]) = ((cutC 61 w).2.2 && foldL (cutC 61 w).1 == b) ∧ (begL w (b ++ [61]) = true → w.drop (b ++ [61]).length = (cutC 61 w).2.1) := by
  have hl : (b ++ [61]).length = b.length + 1 := by simp
  have hf : foldL (b ++ [61]) = b ++ [61] := by rw [foldL_append, hb]; rfl
  have key : begL w (b ++ [61]) = true → (cutC 61 w).2.2 = true ∧ foldL (cutC 61 w).1 = b ∧ w.drop (b ++ [61]).length = (cutC 61 w).2.1 := by
    intro h
    simp only [begL, Bool.and_eq_true, decide_eq_true_eq, beq_iff_eq, hl, hf] at h
    obtain ⟨h1, h2⟩ := h
    have hn : b.length < w.length := by omega
    rw [List.take_succ_eq_append_getElem hn, foldL_append] at h2
    obtain ⟨h3, h4⟩ := List.append_inj h2 (by rw [foldL_length, List.length_take]; omega)
    have h5 : w[b.length] = 61 := fold61 (by simpa [foldL] using h4)
    have h6 : (61 : UInt8) ∉ w.take b.length := fun hm => h61 (by
      rw [← h3]
      exact List.mem_map.2 ⟨61, hm, rfl⟩)
    have hw : w = w.take b.length ++ 61 :: w.drop (b.length + 1) := by rw [← h5, ← List.drop_eq_getElem_cons hn, List.take_append_drop]
    have hc : cutC 61 w = (w.take b.length, w.drop (b.length + 1), true) := by
      conv => lhs; rw [hw]
      exact cutC_mk _ h6
    rw [hc, hl]
    exact ⟨rfl, h3, rfl⟩
  refine ⟨?_, fun h => (key h).2.2⟩
  cases hq : begL w (b ++ [61]) with
  | true =>
    obtain ⟨h1, h2, _⟩ := key hq
    rw [h1, beq_iff_eq.2 h2]; rfl
  | false =>
    cases hc : (cutC 61 w).2.2 with
    | false => rfl
    | true =>
      rw [Bool.true_and]
      symm
      rw [beq_eq_false_iff_ne]
      intro he
      obtain ⟨hw, _⟩ := cutC_true hc
      have hlen : (cutC 61 w).1.length = b.length := by rw [← foldL_length, he]
      have : begL w (b ++ [61]) = true := by
        simp only [begL, Bool.and_eq_true, decide_eq_true_eq, beq_iff_eq, hl, hf]
        have h1 : b.length + 1 ≤ w.length := by rw [hw]; simp; omega
        refine ⟨h1, ?_⟩
        have : w.take (b.length + 1) = (cutC 61 w).1 ++ [61] := by
          conv => lhs; rw [hw]
          rw [← hlen, List.take_append, List.take_of_length_le (by omega)]
          simp
        rw [this, foldL_append, he]; rfl
      rw [this] at hq; cases hq
theorem refbeg_cut (w b : List UInt8) (hw : w.length < 140737488355328) (hb : foldL b = b) (h61 : (61 : UInt8) ∉ b) :
    ∃ v, Ev (fun k => wherryref11_begins.f k (bs w) (bs (b ++ [61]))) (bs v, (cutC 61 w).2.2 && foldL (cutC 61 w).1 == b) ∧ (((cutC 61 w).2.2 && foldL (cutC 61 w).1 == b) = true → v = (cutC 61 w).2.1) := by
  obtain ⟨h1, h2⟩ := begL_cut (w := w) hb h61
  have h := refbegins_ev w (b ++ [61]) hw (by rw [foldL_append, hb]; rfl)
  rw [← h1]
  cases hq : begL w (b ++ [61]) with
  | true =>
    rw [hq, if_pos rfl, h2 hq] at h
    exact ⟨_, h, fun _ => rfl⟩
  | false =>
    rw [hq, if_neg (by decide)] at h
    exact ⟨_, h, fun h => by cases h⟩
def bSize : List UInt8 := [115, 105, 122, 101]
def bRet : List UInt8 := [114, 101, 116]
def bNotify : List UInt8 := [110, 111, 116, 105, 102, 121]
def ret3 : Option ParL → ByteArray × ByteArray × Bool
  | some p => (bs p.1, bs p.2, true)
  | none => (bs [], bs [], false)
theorem oneL_two (v a b : List UInt8) : oneL v [a, b] = if foldL a = foldL v then some a else if foldL b = foldL v then some b else none := by
  unfold oneL
  rw [List.find?_cons]
  by_cases h : foldL a = foldL v
  · rw [if_pos h, beq_iff_eq.2 h]
  · rw [if_neg h, beq_eq_false_iff_ne.2 h]
    simp only
    rw [List.find?_cons]
    by_cases h2 : foldL b = foldL v
    · rw [if_pos h2, beq_iff_eq.2 h2]
    · rw [if_neg h2, beq_eq_false_iff_ne.2 h2]; rfl
theorem one_keys (v : List UInt8) : oneL v [kSize, kRet, kNotify] = if foldL v = bSize then some kSize else if foldL v = bRet then some kRet else if foldL v = bNotify then some kNotify else none := by
  have e1 : foldL kSize = bSize := by decide
  have e2 : foldL kRet = bRet := by decide
  have e3 : foldL kNotify = bNotify := by decide
  unfold oneL
  rw [List.find?_cons, e1]
  by_cases h : foldL v = bSize
  · rw [if_pos h, h]; rfl
  · rw [if_neg h, beq_eq_false_iff_ne.2 (Ne.symm h)]
    simp only
    rw [List.find?_cons, e2]
    by_cases h2 : foldL v = bRet
    · rw [if_pos h2, h2]; rfl
    · rw [if_neg h2, beq_eq_false_iff_ne.2 (Ne.symm h2)]
      simp only
      rw [List.find?_cons, e3]
      by_cases h3 : foldL v = bNotify
      · rw [if_pos h3, h3]; rfl
      · rw [if_neg h3, beq_eq_false_iff_ne.2 (Ne.symm h3)]; rfl
theorem refparam_j3 (w : List UInt8) (kind : Int) (hw : w.length < 140737488355328) (q : Bool) : Ev (fun k => wherryref11_param.j3 k (bs w) kind q)
    (if q then ret3 (some (kNotify, vNever)) else ret3 (if ((cutC 61 w).2.2 && foldL (cutC 61 w).1 == bNotify) = true ∧ kind = 3 ∧ foldL (cutC 61 w).2.1 = [102, 97, 105, 108, 117, 114, 101] then some (kNotify, vFail) else none)) := by
  cases q with
  | true =>
    refine Ev.step (f := fun _ => some (ret3 (some (kNotify, vNever)))) (fun k => ?_) (Ev.now _)
    rw [wherryref11_param.j3, if_pos rfl]; rfl
  | false =>
    obtain ⟨v, h1, h2⟩ := refbeg_cut w bNotify hw (by decide) (by decide)
    rw [if_neg (by decide)]
    generalize ((cutC 61 w).2.2 && foldL (cutC 61 w).1 == bNotify) = b at *
    have hv : v.length ≤ w.length ∨ b = false := by
      cases b with
      | true => left; rw [h2 rfl]; exact (cut_len w).2
      | false => right; rfl
    refine Ev.step (fun k => ?_) (Ev.bind (f := fun k bt226 => if bt226.2 = true then (if kind = 3 then ((wherryref11_Fold.f k bt226.1).bind fun t228 => (if t228.toList = ([102, 97, 105, 108, 117, 114, 101] : List UInt8) then (some (ret3 (some (kNotify, vFail)))) else (some (ret3 none)))) else (some (ret3 none))) else (some (ret3 none))) h1 ?_)
    · rw [wherryref11_param.j3, if_neg (by decide)]; rfl
    · cases b with
      | false => simpa using Ev.now _
      | true =>
        obtain rfl := h2 rfl
        simp only [if_true, true_and]
        by_cases hk : kind = 3
        · simp only [if_pos hk]
          have hf := reffold_ev (bs (cutC 61 w).2.1) (by rw [bs_size]; have := (cut_len (s := 61) w).2; omega)
          rw [bs_data] at hf
          refine Ev.bind hf ?_
          rw [toList_data, bs_data]
          by_cases he : foldL (cutC 61 w).2.1 = [102, 97, 105, 108, 117, 114, 101]
          · rw [if_pos he, if_pos ⟨hk, he⟩]; exact Ev.now _
          · rw [if_neg he, if_neg (fun h => he h.2)]; exact Ev.now _
        · rw [if_neg (fun h => hk h.1)]; simp only [if_neg hk]; exact Ev.now _
def parR (kind : Int) (w : List UInt8) : Option ParL :=
  if (cutC 61 w).2.2 = true then
    (if foldL (cutC 61 w).1 = bSize then (if kind = 2 ∧ numL 9 (cutC 61 w).2.1 = true then some (kSize, (cutC 61 w).2.1) else none)
     else if foldL (cutC 61 w).1 = bRet then (if kind = 2 then (if foldL (cutC 61 w).2.1 = [102, 117, 108, 108] then some (kRet, vFull) else if foldL (cutC 61 w).2.1 = [104, 100, 114, 115] then some (kRet, vHdrs) else none) else none)
     else if foldL (cutC 61 w).1 = bNotify then (if kind = 3 then (if foldL (cutC 61 w).2.1 = [110, 101, 118, 101, 114] then some (kNotify, vNever) else if foldL (cutC 61 w).2.1 = [102, 97, 105, 108, 117, 114, 101] then some (kNotify, vFail) else none) else none)
     else none)
  else none
theorem parOne_eq (kind : Int) (w : List UInt8) : parOne kind w = parR kind w := by
  have f1 : foldL vFull = [102, 117, 108, 108] := by decide
  have f2 : foldL vHdrs = [104, 100, 114, 115] := by decide
  have f3 : foldL vNever = [110, 101, 118, 101, 114] := by decide
  have f4 : foldL vFail = [102, 97, 105, 108, 117, 114, 101] := by decide
  unfold parOne parR
  by_cases hc : (cutC 61 w).2.2 = true
  · rw [if_pos hc, if_pos hc, one_keys]
    by_cases h1 : foldL (cutC 61 w).1 = bSize
    · simp only [if_pos h1, Option.bind_some]
      by_cases hk : kind = 2
      · rw [valueT, if_pos ⟨hk, rfl⟩]
        cases numL 9 (cutC 61 w).2.1 <;> simp [hk]
      · rw [valueT, if_neg (fun h => hk h.1), if_neg (fun h => hk h.1), if_neg (fun h => absurd h.2 (by decide)), if_neg (fun h => hk h.1)]; rfl
    · simp only [if_neg h1]
      by_cases h2 : foldL (cutC 61 w).1 = bRet
      · simp only [if_pos h2, Option.bind_some]
        by_cases hk : kind = 2
        · rw [valueT, if_neg (fun h => absurd h.2 (by decide)), if_pos ⟨hk, rfl⟩, oneL_two, f1, f2, if_pos hk]
          by_cases g1 : foldL (cutC 61 w).2.1 = [102, 117, 108, 108]
          · rw [if_pos g1.symm, if_pos g1]; rfl
          · rw [if_neg (Ne.symm g1), if_neg g1]
            by_cases g2 : foldL (cutC 61 w).2.1 = [104, 100, 114, 115]
            · rw [if_pos g2.symm, if_pos g2]; rfl
            · rw [if_neg (Ne.symm g2), if_neg g2]; rfl
        · rw [valueT, if_neg (fun h => hk h.1), if_neg (fun h => hk h.1), if_neg (fun h => absurd h.2 (by decide)), if_neg hk]; rfl
      · simp only [if_neg h2]
        by_cases h3 : foldL (cutC 61 w).1 = bNotify
        · simp only [if_pos h3, Option.bind_some]
          by_cases hk : kind = 3
          · rw [valueT, if_neg (fun h => absurd h.2 (by decide)), if_neg (fun h => absurd h.2 (by decide)), if_pos ⟨hk, rfl⟩, oneL_two, f3, f4, if_pos hk]
            by_cases g1 : foldL (cutC 61 w).2.1 = [110, 101, 118, 101, 114]
            · rw [if_pos g1.symm, if_pos g1]; rfl
            · rw [if_neg (Ne.symm g1), if_neg g1]
              by_cases g2 : foldL (cutC 61 w).2.1 = [102, 97, 105, 108, 117, 114, 101]
              · rw [if_pos g2.symm, if_pos g2]; rfl
              · rw [if_neg (Ne.symm g2), if_neg g2]; rfl
          · rw [valueT, if_neg (fun h => absurd h.2 (by decide)), if_neg (fun h => absurd h.2 (by decide)), if_neg (fun h => hk h.1), if_neg hk]; rfl
        · simp only [if_neg h3]; rfl
  · rw [if_neg hc, if_neg hc]
theorem reftest (w b val : List UInt8) (kind kd : Int) (hw : w.length < 140737488355328) (hb : foldL b = b) (h61 : (61 : UInt8) ∉ b) {β : Type} (g : Nat → Bool → Option β) (r : β)
    (hg : Ev (fun k => g k (((cutC 61 w).2.2 && foldL (cutC 61 w).1 == b) && decide (kind = kd) && (foldL (cutC 61 w).2.1 == val))) r) :
    Ev (fun k => (wherryref11_begins.f k (bs w) (bs (b ++ [61]))).bind fun bt => if bt.2 = true then (if kind = kd then ((wherryref11_Fold.f k bt.1).bind fun t => g k (t.toList == val)) else g k false) else g k false) r := by
  obtain ⟨v, h1, h2⟩ := refbeg_cut w b hw hb h61
  generalize ((cutC 61 w).2.2 && foldL (cutC 61 w).1 == b) = q at *
  refine Ev.bind (f := fun k bt => if bt.2 = true then (if kind = kd then ((wherryref11_Fold.f k bt.1).bind fun t => g k (t.toList == val)) else g k false) else g k false) h1 ?_
  cases q with
  | false => simpa using hg
  | true =>
    obtain rfl := h2 rfl
    simp only [if_true]
    by_cases hk : kind = kd
    · simp only [if_pos hk]
      have hf := reffold_ev (bs (cutC 61 w).2.1) (by rw [bs_size]; have := (cut_len (s := 61) w).2; omega)
      rw [bs_data] at hf
      refine Ev.bind (f := fun k t => g k (t.toList == val)) hf ?_
      rw [toList_data, bs_data]
      simpa [hk] using hg
    · simp only [if_neg hk]
      simpa [hk] using hg
theorem refparam_ev (w : List UInt8) (kind : Int) (hw : w.length < 140737488355328) : Ev (fun k => wherryref11_param.f k (bs w) kind) (ret3 (parOne kind w)) := by
  rw [parOne_eq]
  have e1 : bs (bSize ++ [61]) = (⟨#[115, 105, 122, 101, 61]⟩ : ByteArray) := rfl
  have e2 : bs (bRet ++ [61]) = (⟨#[114, 101, 116, 61]⟩ : ByteArray) := rfl
  have e3 : bs (bNotify ++ [61]) = (⟨#[110, 111, 116, 105, 102, 121, 61]⟩ : ByteArray) := rfl
  have j2 : ∀ q r, (q = true → r = ret3 (some (kRet, vHdrs))) → (q = false → r = ret3 (if ((cutC 61 w).2.2 && foldL (cutC 61 w).1 == bNotify) = true ∧ kind = 3 then (if foldL (cutC 61 w).2.1 = [110, 101, 118, 101, 114] then some (kNotify, vNever) else if foldL (cutC 61 w).2.1 = [102, 97, 105, 108, 117, 114, 101] then some (kNotify, vFail) else none) else none)) →
      Ev (fun k => wherryref11_param.j2 k (bs w) kind q) r := by
    intro q r h1 h2
    cases q with
    | true =>
      refine Ev.step (f := fun _ => some (ret3 (some (kRet, vHdrs)))) (fun k => ?_) (by rw [h1 rfl]; exact Ev.now _)
      rw [wherryref11_param.j2, if_pos rfl]; rfl
    | false =>
      have ht := reftest w bNotify [110, 101, 118, 101, 114] kind 3 hw (by decide) (by decide) (fun k b => wherryref11_param.j3 k (bs w) kind b) r (by
        refine Ev.congr (fun _ => rfl) ?_
        rw [h2 rfl]
        have := refparam_j3 w kind hw (((cutC 61 w).2.2 && foldL (cutC 61 w).1 == bNotify) && decide (kind = 3) && (foldL (cutC 61 w).2.1 == [110, 101, 118, 101, 114]))
        generalize ((cutC 61 w).2.2 && foldL (cutC 61 w).1 == bNotify) = b at *
        cases b with
        | false => simpa using this
        | true =>
          by_cases hk : kind = 3
          · by_cases hv : foldL (cutC 61 w).2.1 = [110, 101, 118, 101, 114]
            · simpa [hk, hv] using this
            · simpa [hk, hv] using this
          · simpa [hk] using this)
      refine Ev.step (fun k => ?_) ht
      rw [wherryref11_param.j2, if_neg (by decide), ← e3]
  have j1 : ∀ q r, (q = true → r = ret3 (some (kRet, vFull))) → (q = false → r = ret3 (if ((cutC 61 w).2.2 && foldL (cutC 61 w).1 == bRet) = true ∧ kind = 2 ∧ foldL (cutC 61 w).2.1 = [104, 100, 114, 115] then some (kRet, vHdrs) else (if ((cutC 61 w).2.2 && foldL (cutC 61 w).1 == bNotify) = true ∧ kind = 3 then (if foldL (cutC 61 w).2.1 = [110, 101, 118, 101, 114] then some (kNotify, vNever) else if foldL (cutC 61 w).2.1 = [102, 97, 105, 108, 117, 114, 101] then some (kNotify, vFail) else none) else none))) →
      Ev (fun k => wherryref11_param.j1 k (bs w) kind q) r := by
    intro q r h1 h2
    cases q with
    | true =>
      refine Ev.step (f := fun _ => some (ret3 (some (kRet, vFull)))) (fun k => ?_) (by rw [h1 rfl]; exact Ev.now _)
      rw [wherryref11_param.j1, if_pos rfl]; rfl
    | false =>
      have ht := reftest w bRet [104, 100, 114, 115] kind 2 hw (by decide) (by decide) (fun k b => wherryref11_param.j2 k (bs w) kind b) r (by
        refine j2 _ r (fun hq => ?_) (fun hq => ?_)
        · simp only [Bool.and_eq_true, decide_eq_true_eq, beq_iff_eq] at hq
          rw [h2 rfl, if_pos (by simp only [Bool.and_eq_true, beq_iff_eq]; exact ⟨hq.1.1, hq.1.2, hq.2⟩)]
        · rw [h2 rfl, if_neg (fun h => ?_)]
          have : (((cutC 61 w).2.2 && foldL (cutC 61 w).1 == bRet) && decide (kind = 2) && (foldL (cutC 61 w).2.1 == [104, 100, 114, 115])) = true := by
            rw [h.1, decide_eq_true h.2.1, beq_iff_eq.2 h.2.2]; rfl
          rw [this] at hq; cases hq)
      refine Ev.step (fun k => ?_) ht
      rw [wherryref11_param.j1, if_neg (by decide), ← e2]
  have j0 : ∀ q v r, (q = true → r = ret3 (some (kSize, v))) → (q = false → r = ret3 (if ((cutC 61 w).2.2 && foldL (cutC 61 w).1 == bRet) = true ∧ kind = 2 ∧ foldL (cutC 61 w).2.1 = [102, 117, 108, 108] then some (kRet, vFull) else if ((cutC 61 w).2.2 && foldL (cutC 61 w).1 == bRet) = true ∧ kind = 2 ∧ foldL (cutC 61 w).2.1 = [104, 100, 114, 115] then some (kRet, vHdrs) else (if ((cutC 61 w).2.2 && foldL (cutC 61 w).1 == bNotify) = true ∧ kind = 3 then (if foldL (cutC 61 w).2.1 = [110, 101, 118, 101, 114] then some (kNotify, vNever) else if foldL (cutC 61 w).2.1 = [102, 97, 105, 108, 117, 114, 101] then some (kNotify, vFail) else none) else none))) →
      Ev (fun k => wherryref11_param.j0 k (bs w) kind (bs v) q) r := by
    intro q v r h1 h2
    cases q with
    | true =>
      refine Ev.step (f := fun _ => some (ret3 (some (kSize, v)))) (fun k => ?_) (by rw [h1 rfl]; exact Ev.now _)
      rw [wherryref11_param.j0, if_pos rfl]; rfl
    | false =>
      have ht := reftest w bRet [102, 117, 108, 108] kind 2 hw (by decide) (by decide) (fun k b => wherryref11_param.j1 k (bs w) kind b) r (by
        refine j1 _ r (fun hq => ?_) (fun hq => ?_)
        · simp only [Bool.and_eq_true, decide_eq_true_eq, beq_iff_eq] at hq
          rw [h2 rfl, if_pos (by simp only [Bool.and_eq_true, beq_iff_eq]; exact ⟨hq.1.1, hq.1.2, hq.2⟩)]
        · rw [h2 rfl, if_neg (fun h => ?_)]
          have : (((cutC 61 w).2.2 && foldL (cutC 61 w).1 == bRet) && decide (kind = 2) && (foldL (cutC 61 w).2.1 == [102, 117, 108, 108])) = true := by
            rw [h.1, decide_eq_true h.2.1, beq_iff_eq.2 h.2.2]; rfl
          rw [this] at hq; cases hq)
      refine Ev.step (fun k => ?_) ht
      rw [wherryref11_param.j0, if_neg (by decide), ← e2]
  obtain ⟨v, h1, h2⟩ := refbeg_cut w bSize hw (by decide) (by decide)
  have n1 : bSize ≠ bRet := by decide
  have n2 : bSize ≠ bNotify := by decide
  have n3 : bRet ≠ bNotify := by decide
  have hb : Ev (fun k => (wherryref11_begins.f k (bs w) (bs (bSize ++ [61]))).bind fun bt214 => (if bt214.2 = true then (if kind = 2 then ((wherryref11_number.f k bt214.1 9).bind fun t216 => (wherryref11_param.j0 k (bs w) kind bt214.1 (decide (t216 ≥ 0)))) else (wherryref11_param.j0 k (bs w) kind bt214.1 false)) else (wherryref11_param.j0 k (bs w) kind bt214.1 false))) (ret3 (parR kind w)) := by
    refine Ev.bind (f := fun k bt214 => (if bt214.2 = true then (if kind = 2 then ((wherryref11_number.f k bt214.1 9).bind fun t216 => (wherryref11_param.j0 k (bs w) kind bt214.1 (decide (t216 ≥ 0)))) else (wherryref11_param.j0 k (bs w) kind bt214.1 false)) else (wherryref11_param.j0 k (bs w) kind bt214.1 false))) h1 ?_
    cases hc : (cutC 61 w).2.2 with
    | false =>
      simp only [Bool.false_and, Bool.false_eq_true, if_false]
      refine j0 _ v _ (fun h => by cases h) (fun _ => ?_)
      simp [parR, hc]
    | true =>
      rw [hc] at h2
      by_cases f1 : foldL (cutC 61 w).1 = bSize
      · have e : (foldL (cutC 61 w).1 == bSize) = true := beq_iff_eq.2 f1
        rw [e] at h2 ⊢
        obtain rfl := h2 rfl
        have g1 : (foldL (cutC 61 w).1 == bRet) = false := by rw [f1]; decide
        have g2 : (foldL (cutC 61 w).1 == bNotify) = false := by rw [f1]; decide
        simp only [Bool.and_self, if_true]
        have hlen := (cut_len (s := 61) w).2
        by_cases hk : kind = 2
        · simp only [if_pos hk]
          have hn := refnum_ev (cutC 61 w).2.1 9 (by omega) (by omega)
          refine Ev.bind (f := fun k t216 => wherryref11_param.j0 k (bs w) kind (bs (cutC 61 w).2.1) (decide (t216 ≥ 0))) hn ?_
          cases hnum : numL 9 (cutC 61 w).2.1 with
          | true =>
            refine j0 _ _ _ (fun _ => by simp [parR, hc, f1, hk, hnum]) (fun h => ?_)
            rw [if_pos rfl] at h
            have := of_decide_eq_false h
            omega
          | false =>
            refine j0 _ _ _ (fun h => ?_) (fun _ => by simp [parR, hc, f1, hk, hnum, g1, g2, n1, n2])
            rw [if_neg (by decide)] at h
            have := of_decide_eq_true h
            omega
        · simp only [if_neg hk]
          exact j0 _ _ _ (fun h => by cases h) (fun _ => by simp [parR, hc, f1, hk, g1, g2, n1, n2])
      · have e : (foldL (cutC 61 w).1 == bSize) = false := beq_eq_false_iff_ne.2 f1
        rw [e]
        simp only [Bool.and_false, Bool.false_eq_true, if_false]
        refine j0 _ v _ (fun h => by cases h) (fun _ => ?_)
        by_cases f2 : foldL (cutC 61 w).1 = bRet
        · have g2 : (foldL (cutC 61 w).1 == bNotify) = false := by rw [f2]; decide
          by_cases hk : kind = 2
          · have e3 : ¬ kind = 3 := by omega
            simp [parR, hc, f2, hk, g2, Ne.symm n1]
          · simp [parR, hc, f2, hk, g2, Ne.symm n1, n3]
        · by_cases f3 : foldL (cutC 61 w).1 = bNotify
          · by_cases hk : kind = 3
            · simp [parR, hc, f3, hk, Ne.symm n2, Ne.symm n3]
            · simp [parR, hc, f3, hk, Ne.symm n2, Ne.symm n3]
          · simp [parR, hc, f1, f2, f3]
  refine Ev.congr (fun k => ?_) hb
  rw [wherryref11_param.f, ← e1]
end Go.Proofs.YthcdjgekmfnmnaaGreatDoor.PVerb
end
section
namespace Go.Proofs.YthcdjgekmfnmnaaGreatDoor.PVerb
open Go.RowKit Go.Proofs.YthcdjgekmfnmnaaGreatDoorW.PrintWords Go.Proofs.YthcdjgekmfnmnaaGreatDoorW.PrintLast Go.Proofs.YthcdjgekmfnmnaaGreatDoorW.PrintMore
set_option linter.unusedSimpArgs false
set_option linter.unusedVariables false
def restT (kind : Int) : List UInt8 → List ParL → Option (List ParL)
 | [], out => some out
 | a :: r, out => if a = 32 then paramsT kind (pieces 32 r) out else none
def retL : Option (List ParL) → List SP × Bool
 | some ps => (ps.map mkP, true)
 | none => ([], false)
theorem pieces_cut {s : UInt8} : ∀ l : List UInt8, pieces s l = (cutC s l).1 :: (if (cutC s l).2.2 then pieces s (cutC s l).2.1 else [])
 | [] => rfl
 | c :: l => by
  have ih := pieces_cut (s := s) l
  rw [pieces, cutC]
  by_cases h : c = s
  ·
   rw [if_pos h, if_pos h]; rfl
  ·
   rw [if_neg h, if_neg h, ih]
theorem cut_drop {s : UInt8} (l : List UInt8) : l.drop (cutC s l).1.length = if (cutC s l).2.2 then s :: (cutC s l).2.1 else [] := by
 induction l with
 | nil => rfl
 | cons c l ih =>
  rw [cutC]
  by_cases h : c = s
  ·
   rw [if_pos h, h]; rfl
  ·
   rw [if_neg h]
   simpa using ih
theorem cut_take {s : UInt8} (l : List UInt8) : l.take (cutC s l).1.length = (cutC s l).1 := by
 induction l with
 | nil => rfl
 | cons c l ih =>
  rw [cutC]
  by_cases h : c = s
  ·
   rw [if_pos h]; rfl
  ·
   rw [if_neg h]
   simpa using ih
theorem cut_get {s : UInt8} (l : List UInt8) : (∀ i (h : i < l.length), i < (cutC s l).1.length → l[i] ≠ s) ∧ (∀ (h : (cutC s l).1.length < l.length), l[(cutC s l).1.length] = s) := by
 induction l with
 | nil => exact ⟨fun i h => absurd h (by simp), fun h => absurd h (by simp)⟩
 | cons c l ih =>
  rw [cutC]
  by_cases h : c = s
  ·
   rw [if_pos h]
   exact ⟨fun i _ hi => absurd hi (by simp), fun _ => h⟩
  ·
   rw [if_neg h]
   refine ⟨fun i hi hl => ?_, fun hl => ?_⟩
   ·
    cases i with
    | zero => exact h
    | succ i => exact ih.1 i (by simpa using hi) (by simpa using hl)
   ·
    exact ih.2 (by simpa using hl)
theorem rest_step (kind : Int) (r : List UInt8) (out : List ParL) :
  restT kind (32 :: r) out = (parOne kind (cutC 32 r).1).bind fun p => if out.any (fun q => q.1 == p.1) then none else restT kind (r.drop (cutC 32 r).1.length) (out ++ [p]) := by
 rw [restT, if_pos rfl, pieces_cut, paramsT, cut_drop]
 congr 1
 funext p
 split
 ·
  rfl
 ·
  cases (cutC 32 r).2.2 with
  | true => rw [if_pos rfl, if_pos rfl, restT, if_pos rfl]
  | false => rfl
theorem refparams_l2 (r : List UInt8) (kind : Int) (n : Nat) (p : ParL) (hn : n ≤ r.length) (hr : r.length < 4611686018427387904) (res : List SP × Bool) (out : List ParL) (ho : out.length < 4398046511104)
  (h : out.any (fun q => q.1 == p.1) = false → Ev (fun k => wherryref11_params.l0 k (bs (r.drop n)) kind ((out ++ [p]).map mkP)) res) : ∀ (d i : Nat), out.length - i = d → i ≤ out.length → (out.take i).any (fun q => q.1 == p.1) = false →
  Ev (fun k => wherryref11_params.l2 k (bs r) kind (out.map mkP) (n : Int) (i : Int) (bs p.1) (bs p.2)) (if out.any (fun q => q.1 == p.1) then ([], false) else res) := by
 have hsz := bs_size r
 intro d
 induction d with
 | zero =>
  intro i hd hi hno
  rw [List.take_of_length_le (by omega)] at hno
  rw [hno, if_neg (by decide)]
  refine Ev.step (fun k => ?_) (h hno)
  have e2 : (bs r).extract n (bs r).size = bs (r.drop n) := by rw [extract_list, bs_data, bs_size, List.take_length]
  rw [wherryref11_params.l2, if_neg (by rw [List.length_map]; omega), if_pos (by rw [List.length_map]; exact ho), if_pos (by omega), if_pos (by omega), Int.toNat_natCast, e2, List.map_append]
  rfl
 | succ d ih =>
  intro i hd hi hno
  have hil : i < out.length := by omega
  have ew : wrap64 ((i : Int) + 1) = ((i + 1 : Nat) : Int) := by rw [wrap_small (by omega) (by omega)]; omega
  by_cases hp : out[i].1 = p.1
  ·
   have : out.any (fun q => q.1 == p.1) = true := List.any_eq_true.2 ⟨_, List.getElem_mem hil, beq_iff_eq.2 hp⟩
   rw [this, if_pos rfl]
   refine Ev.step (f := fun _ => some ([], false)) (fun k => ?_) (Ev.now _)
   rw [wherryref11_params.l2, if_pos (by rw [List.length_map]; omega), if_pos (by omega), rd_mk out i hil, toList_data, toList_data]
   exact if_pos hp
  ·
   refine Ev.step (fun k => ?_) (ih (i + 1) (by omega) (by omega) ?_)
   ·
    rw [wherryref11_params.l2, if_pos (by rw [List.length_map]; omega), if_pos (by omega), rd_mk out i hil, toList_data, toList_data, ew]
    exact if_neg hp
   ·
    rw [List.take_succ_eq_append_getElem hil, List.any_append, hno]
    simpa using hp
theorem refparams_l1 (r : List UInt8) (kind : Int) (hr : r.length < 4611686018427387904) (res : List SP × Bool) (out : List ParL)
  (h : Ev (fun k => wherryref11_params.j2 k (bs r) kind (out.map mkP) ((cutC 32 r).1.length : Int)) res) : ∀ (d i : Nat), (cutC 32 r).1.length - i = d → i ≤ (cutC 32 r).1.length →
  Ev (fun k => wherryref11_params.l1 k (bs r) kind (out.map mkP) (i : Int)) res := by
 have hsz := bs_size r
 have hlen := (cut_len (s := 32) r).1
 obtain ⟨g1, g2⟩ := cut_get (s := 32) r
 generalize (cutC 32 r).1.length = n at *
 intro d
 induction d with
 | zero =>
  intro i hd hi
  obtain rfl : i = n := by omega
  refine Ev.step (fun k => ?_) h
  by_cases hn : i < r.length
  ·
   have hb : bt (bs r) (i : Int) = ((r[i]).toNat : Int) := bt_get (bs r) i hn
   rw [wherryref11_params.l1, if_pos (by omega), if_pos (by omega), hb, g2 hn]
   rfl
  ·
   rw [wherryref11_params.l1, if_neg (by omega)]
 | succ d ih =>
  intro i hd hi
  have hil : i < r.length := by omega
  have ew : wrap64 ((i : Int) + 1) = ((i + 1 : Nat) : Int) := by rw [wrap_small (by omega) (by omega)]; omega
  have hb : bt (bs r) (i : Int) = ((r[i]).toNat : Int) := bt_get (bs r) i hil
  have hne := g1 i hil (by omega)
  refine Ev.step (fun k => ?_) (ih (i + 1) (by omega) (by omega))
  rw [wherryref11_params.l1, if_pos (by omega), if_pos (by omega), hb, if_neg (fun e => hne ((eN _ 32 32 rfl).1 e)), ew]
theorem refparams_ev (kind : Int) : ∀ (m : Nat) (s : List UInt8) (out : List ParL), s.length ≤ m → out.length + s.length < 4398046511104 →
  Ev (fun k => wherryref11_params.l0 k (bs s) kind (out.map mkP)) (retL (restT kind s out)) := by
 intro m
 induction m with
 | zero =>
  intro s out hs _
  obtain rfl := List.eq_nil_of_length_eq_zero (Nat.le_zero.1 hs)
  refine Ev.step (f := fun _ => some (out.map mkP, true)) (fun k => ?_) (Ev.now _)
  rw [wherryref11_params.l0, if_neg (by rw [bs_size]; simp)]
 | succ m ih =>
  intro s out hs hb
  cases s with
  | nil =>
   refine Ev.step (f := fun _ => some (out.map mkP, true)) (fun k => ?_) (Ev.now _)
   rw [wherryref11_params.l0, if_neg (by rw [bs_size]; simp)]
  | cons a r =>
   have hsz := bs_size (a :: r)
   have hl : (a :: r).length = r.length + 1 := rfl
   have b0 : bt (bs (a :: r)) 0 = (a.toNat : Int) := bt_get (bs (a :: r)) 0 (by rw [bs_data]; omega)
   by_cases ha : a = 32
   ·
    subst ha
    rw [rest_step]
    have hlen := (cut_len (s := 32) r).1
    have hj2 : Ev (fun k => wherryref11_params.j2 k (bs r) kind (out.map mkP) ((cutC 32 r).1.length : Int)) (retL ((parOne kind (cutC 32 r).1).bind fun p => if out.any (fun q => q.1 == p.1) then none else restT kind (r.drop (cutC 32 r).1.length) (out ++ [p]))) := by
     have hp := refparam_ev (cutC 32 r).1 kind (by omega)
     refine Ev.step (f := fun k => (wherryref11_param.f k (bs (cutC 32 r).1) kind).bind fun bt229 => (if bt229.2.2 = true then (wherryref11_params.l2 k (bs r) kind (out.map mkP) ((cutC 32 r).1.length : Int) 0 bt229.1 bt229.2.1) else (some (([] : List SP), false)))) (fun k => ?_) (Ev.bind (f := fun k bt229 => (if bt229.2.2 = true then (wherryref11_params.l2 k (bs r) kind (out.map mkP) ((cutC 32 r).1.length : Int) 0 bt229.1 bt229.2.1) else (some (([] : List SP), false)))) hp ?_)
     ·
      have e1 : (bs r).extract 0 (cutC 32 r).1.length = bs (cutC 32 r).1 := by rw [extract_list, bs_data, List.drop_zero, cut_take]
      rw [wherryref11_params.j2, if_pos (by omega), if_pos (by rw [bs_size]; omega), Int.toNat_natCast, e1]
     ·
      cases parOne kind (cutC 32 r).1 with
      | none => exact Ev.now _
      | some p =>
       have hres := refparams_l2 r kind (cutC 32 r).1.length p hlen (by omega) (retL (restT kind (r.drop (cutC 32 r).1.length) (out ++ [p]))) out (by omega)
        (fun _ => ih _ _ (by simp; omega) (by simp; omega)) _ 0 rfl (Nat.zero_le _) (by simp)
       rw [Option.bind_some]
       have e : (if out.any (fun q => q.1 == p.1) then (([] : List SP), false) else retL (restT kind (r.drop (cutC 32 r).1.length) (out ++ [p]))) = retL (if out.any (fun q => q.1 == p.1) then none else restT kind (r.drop (cutC 32 r).1.length) (out ++ [p])) := by
        split <;> rfl
       rw [e] at hres
       exact hres
    refine Ev.step (fun k => ?_) (refparams_l1 r kind (by omega) _ out hj2 _ 0 rfl (Nat.zero_le _))
    have e1 : (bs (32 :: r)).extract 1 (bs (32 :: r)).size = bs r := by rw [extract_list, bs_data, bs_size, List.take_length]; rfl
    rw [wherryref11_params.l0, if_pos (by omega), if_pos (by omega), b0, if_pos (by rfl), if_pos (by omega), e1]
    rfl
   ·
    refine Ev.step (f := fun _ => some ([], false)) (fun k => ?_) ?_
    ·
     rw [wherryref11_params.l0, if_pos (by omega), if_pos (by omega), b0, if_neg (fun e => ha ((eN _ 32 32 rfl).1 e))]
    ·
     rw [restT, if_neg ha]; exact Ev.now _
theorem local_chars {d : List UInt8} (h : localL d = true) : ∀ c ∈ d, signC c = true ∨ c = 46 := by
 intro c hc
 simp only [localL, Bool.and_eq_true] at h
 cases hp : pieces 46 d with
 | nil => exact absurd hp (pieces_ne 46 d)
 | cons h2 t2 =>
  obtain ⟨e1, _, _⟩ := pieces_join hp
  have hin : ∀ w, (w = h2 ∨ w ∈ t2) → ∀ c ∈ w, signC c = true := by
   intro w hw c hcw
   have := List.all_eq_true.1 h.2 w (by rw [hp]; simpa using hw)
   rw [atom_split, Bool.and_eq_true] at this
   exact List.all_eq_true.1 this.1 c hcw
  rw [e1] at hc
  rcases List.mem_append.1 hc with hc | hc
  ·
   exact .inl (hin h2 (.inl rfl) c hc)
  ·
   obtain ⟨w, hw, hcw⟩ := List.mem_flatMap.1 hc
   rcases List.mem_cons.1 hcw with k | k
   ·
    exact .inr k
   ·
    exact .inl (hin w (.inr hw) c k)
theorem path_end {h : List UInt8} {p : Bool × List UInt8 × List UInt8} (e : pathT h = some p) : ∃ g, h = g ++ [62] ∧ (62 : UInt8) ∉ g ∧ (32 : UInt8) ∉ h := by
 obtain ⟨h1, h2⟩ := path_text e
 cases hn : p.1 with
 | true =>
  rw [hn, if_pos rfl] at h1
  exact ⟨[60], h1, by decide, by rw [h1]; decide⟩
 | false =>
  rw [hn, if_neg (by decide)] at h1
  rw [hn, checkL, if_neg (by decide), Bool.and_eq_true] at h2
  have c1 := local_chars h2.1
  have c2 := domain_chars h2.2
  have hx : ∀ c, signC c = false → c ≠ 46 → plainC c = false → c ≠ 45 → c ≠ 60 → c ≠ 64 → c ∉ 60 :: p.2.1 ++ 64 :: p.2.2 := by
   intro c k1 k2 k3 k4 k5 k6 hm
   rcases List.mem_append.1 hm with hm | hm
   ·
    rcases List.mem_cons.1 hm with hm | hm
    ·
     exact k5 hm
    ·
     rcases c1 c hm with q | q
     ·
      rw [k1] at q; cases q
     ·
      exact k2 q
   ·
    rcases List.mem_cons.1 hm with hm | hm
    ·
     exact k6 hm
    ·
     rcases c2 c hm with q | q | q
     ·
      rw [k3] at q; cases q
     ·
      exact k4 q
     ·
      exact k2 q
  refine ⟨60 :: p.2.1 ++ 64 :: p.2.2, h1, hx 62 (by decide) (by decide) (by decide) (by decide) (by decide) (by decide), ?_⟩
  rw [h1]
  intro hm
  rcases List.mem_append.1 hm with hm | hm
  ·
   exact hx 32 (by decide) (by decide) (by decide) (by decide) (by decide) (by decide) hm
  ·
   exact absurd hm (by decide)
theorem mailbox_ref (kind : Int) (s : List UInt8) : mailboxT kind s = if (cutC 62 s).2.2 = true then
  (pathT ((cutC 62 s).1 ++ [62])).bind fun p => (restT kind (cutC 62 s).2.1 []).bind fun ps => if kind = 3 ∧ p.1 = true then none else some (kind, [], p.1, p.2.1, p.2.2, ps) else none := by
 unfold mailboxT
 cases hp : pieces 32 s with
 | nil => exact absurd hp (pieces_ne 32 s)
 | cons h t =>
  obtain ⟨e1, e2, e3⟩ := pieces_join hp
  simp only
  cases hpt : pathT h with
  | some p =>
   obtain ⟨g, rfl, g1, g2⟩ := path_end hpt
   have hc : cutC 62 s = (g, t.flatMap fun w => 32 :: w, true) := by
    conv => lhs; rw [e1]
    rw [List.append_assoc]
    exact cutC_mk _ g1
   rw [hc, if_pos rfl]
   simp only [hpt, Option.bind_some]
   have hr : restT kind (t.flatMap fun w => 32 :: w) [] = paramsT kind t [] := by
    cases t with
    | nil => rfl
    | cons w ws =>
     rw [List.flatMap_cons, List.cons_append, restT, if_pos rfl, pieces_mk ws w (e3 w (by simp)) fun x hx => e3 x (by simp [hx])]
   rw [hr]
  | none =>
   rw [Option.bind_none]
   symm
   split
   ·
    rename_i hc
    obtain ⟨k1, k2⟩ := cutC_true hc
    cases hq : pathT ((cutC 62 s).1 ++ [62]) with
    | none => rfl
    | some p =>
     obtain ⟨_, _, _, q2⟩ := path_end hq
     rw [Option.bind_some]
     generalize (cutC 62 s).1 = g at *
     generalize hr : (cutC 62 s).2.1 = r at *
     have hs : s = (g ++ [62]) ++ r := by rw [k1]; simp
     cases r with
     | nil =>
      exfalso
      rw [List.append_nil] at hs
      rw [hs, pieces_no q2] at hp
      rw [← (List.cons.inj hp).1, hq] at hpt
      cases hpt
     | cons a r =>
      by_cases ha : a = 32
      ·
       exfalso
       rw [hs, ha, pieces_sep r q2] at hp
       rw [← (List.cons.inj hp).1, hq] at hpt
       cases hpt
      ·
       rw [restT, if_neg ha]; rfl
   ·
    rfl
theorem take_one_more (f : List UInt8) (a : UInt8) (r : List UInt8) : (f ++ a :: r).take (f.length + 1) = f ++ [a] := by
 rw [List.take_append, List.take_of_length_le (by omega)]; simp
theorem drop_one_more (f : List UInt8) (a : UInt8) (r : List UInt8) : (f ++ a :: r).drop (f.length + 1) = r := by
 rw [List.drop_append, List.drop_of_length_le (by omega)]; simp
def answerB (o : Option CmdL) : CmdL × Int := match o with | some c => (c, 0) | none => (noL, 501)
def ret7p (p : CmdL × Int) : Int × ByteArray × Bool × ByteArray × ByteArray × List SP × Int := ret7 p.1 p.2
theorem refpathed_ev (kind : Int) (s : List UInt8) (hs : s.length < 1000000000) : Ev (fun k => wherryref11_pathed.f k (bs s) kind) (ret7p (answerB (mailboxT kind s))) := by
 have hsz := bs_size s
 have hlen := (cut_len (s := 62) s).1
 have hj1 : Ev (fun k => wherryref11_pathed.j1 k (bs s) kind ((cutC 62 s).1.length : Int)) (ret7p (answerB (mailboxT kind s))) := by
  rw [mailbox_ref]
  cases hc : (cutC 62 s).2.2 with
  | false =>
   have hd := cut_drop (s := 62) s
   rw [hc, if_neg (by decide), List.drop_eq_nil_iff] at hd
   refine Ev.step (f := fun _ => some (ret7p (noL, 501))) (fun k => ?_) (Ev.now _)
   rw [wherryref11_pathed.j1, if_pos (by omega)]; rfl
  | true =>
   obtain ⟨k1, k2⟩ := cutC_true hc
   have h1 := congrArg List.length k1
   rw [List.length_append, List.length_cons] at h1
   have ew : wrap64 (((cutC 62 s).1.length : Int) + 1) = (((cutC 62 s).1.length + 1 : Nat) : Int) := by rw [wrap_small (by omega) (by omega)]; omega
   have et : s.take ((cutC 62 s).1.length + 1) = (cutC 62 s).1 ++ [62] := (congrArg (List.take _) k1).trans (take_one_more _ _ _)
   have ed : s.drop ((cutC 62 s).1.length + 1) = (cutC 62 s).2.1 := (congrArg (List.drop _) k1).trans (drop_one_more _ _ _)
   have hp := refparse_ev ((cutC 62 s).1 ++ [62]) (by simp; omega)
   have hl := refparams_ev kind _ (cutC 62 s).2.1 [] (Nat.le_refl _) (by simp; omega)
   rw [if_pos rfl]
   have hg : Ev (fun k => (wherryref11_Parse.f k (bs ((cutC 62 s).1 ++ [62]))).bind fun bt238 => ((wherryref11_params.f k (bs (cutC 62 s).2.1) kind).bind fun bt243 => (if bt238.2.2.2 = true then (if bt243.2 = true then (if kind = 3 then (if bt238.1 = true then (some (ret7p (noL, 501))) else (some (kind, bs [], bt238.1, bt238.2.1, bt238.2.2.1, bt243.1, 0))) else (some (kind, bs [], bt238.1, bt238.2.1, bt238.2.2.1, bt243.1, 0))) else (some (ret7p (noL, 501)))) else (some (ret7p (noL, 501))))))
     (ret7p (answerB ((pathT ((cutC 62 s).1 ++ [62])).bind fun p => (restT kind (cutC 62 s).2.1 []).bind fun ps => if kind = 3 ∧ p.1 = true then none else some (kind, [], p.1, p.2.1, p.2.2, ps)))) := by
    refine Ev.bind (f := fun k bt238 => ((wherryref11_params.f k (bs (cutC 62 s).2.1) kind).bind fun bt243 => (if bt238.2.2.2 = true then (if bt243.2 = true then (if kind = 3 then (if bt238.1 = true then (some (ret7p (noL, 501))) else (some (kind, bs [], bt238.1, bt238.2.1, bt238.2.2.1, bt243.1, 0))) else (some (kind, bs [], bt238.1, bt238.2.1, bt238.2.2.1, bt243.1, 0))) else (some (ret7p (noL, 501)))) else (some (ret7p (noL, 501)))))) hp ?_
    refine Ev.bind (g := fun k => wherryref11_params.f k (bs (cutC 62 s).2.1) kind) hl ?_
    cases pathT ((cutC 62 s).1 ++ [62]) with
    | none => exact Ev.now _
    | some p =>
     cases restT kind (cutC 62 s).2.1 [] with
     | none => exact Ev.now _
     | some ps =>
      obtain ⟨n, a, b⟩ := p
      by_cases hk : kind = 3
      ·
       subst hk
       cases n with
       | true => exact Ev.now _
       | false => exact Ev.now _
      ·
       have e : ((some (n, a, b) : Option (Bool × List UInt8 × List UInt8)).bind fun p => (some ps).bind fun ps => if kind = 3 ∧ p.1 = true then none else some (kind, [], p.1, p.2.1, p.2.2, ps)) = (some (kind, [], n, a, b, ps) : Option CmdL) := if_neg (fun h => hk h.1)
       rw [e]
       simp only [if_neg hk]
       exact Ev.now _
   refine Ev.step (fun k => ?_) hg
   have e1 : (bs s).extract 0 ((cutC 62 s).1.length + 1) = bs ((cutC 62 s).1 ++ [62]) := by rw [extract_list, bs_data, List.drop_zero, et]
   have e2 : (bs s).extract ((cutC 62 s).1.length + 1) (bs s).size = bs (cutC 62 s).2.1 := by rw [extract_list, bs_data, bs_size, List.take_length, ed]
   rw [wherryref11_pathed.j1, if_neg (by omega), ew, if_pos (by omega), if_pos (by omega), Int.toNat_natCast, e1, e2]
   rfl
 obtain ⟨g1, g2⟩ := cut_get (s := 62) s
 generalize hn : (cutC 62 s).1.length = n at *
 have key : ∀ (d i : Nat), n - i = d → i ≤ n → Ev (fun k => wherryref11_pathed.l0 k (bs s) kind (i : Int)) (ret7p (answerB (mailboxT kind s))) := by
  intro d
  induction d with
  | zero =>
   intro i hd hi
   obtain rfl : i = n := by omega
   refine Ev.step (fun k => ?_) hj1
   by_cases hl : i < s.length
   ·
    have hb : bt (bs s) (i : Int) = ((s[i]).toNat : Int) := bt_get (bs s) i hl
    rw [wherryref11_pathed.l0, if_pos (by omega), if_pos (by omega), hb, g2 hl]
    rfl
   ·
    rw [wherryref11_pathed.l0, if_neg (by omega)]
  | succ d ih =>
   intro i hd hi
   have hil : i < s.length := by omega
   have ew : wrap64 ((i : Int) + 1) = ((i + 1 : Nat) : Int) := by rw [wrap_small (by omega) (by omega)]; omega
   have hb : bt (bs s) (i : Int) = ((s[i]).toNat : Int) := bt_get (bs s) i hil
   have hne := g1 i hil (by omega)
   refine Ev.step (fun k => ?_) (ih (i + 1) (by omega) (by omega))
   rw [wherryref11_pathed.l0, if_pos (by omega), if_pos (by omega), hb, if_neg (fun e => hne ((eN _ 62 62 rfl).1 e)), ew]
 exact key _ 0 rfl (Nat.zero_le _)
def wEhlo : List UInt8 := [101, 104, 108, 111]
def wHelo : List UInt8 := [104, 101, 108, 111]
def wMail : List UInt8 := [109, 97, 105, 108]
def wRcpt : List UInt8 := [114, 99, 112, 116]
def wData : List UInt8 := [100, 97, 116, 97]
def wRset : List UInt8 := [114, 115, 101, 116]
def wQuit : List UInt8 := [113, 117, 105, 116]
def wNoop : List UInt8 := [110, 111, 111, 112]
def wVrfy : List UInt8 := [118, 114, 102, 121]
def wEtrn : List UInt8 := [101, 116, 114, 110]
def wAuth : List UInt8 := [97, 117, 116, 104]
def wAtrn : List UInt8 := [97, 116, 114, 110]
def cram : List UInt8 := [99, 114, 97, 109, 45, 109, 100, 53]
def mechL (l : List UInt8) : Bool := l.all labC && !l.isEmpty
def switchT (w : List UInt8) (bare : Bool) (r : List UInt8) : CmdL × Int :=
 if w = wEhlo ∨ w = wHelo then (if bare then (noL, 501) else answerB (namedT 1 r))
 else if w = wMail then (if bare then (noL, 501) else if begL r [102, 114, 111, 109, 58] then answerB (mailboxT 2 (r.drop 5)) else (noL, 501))
 else if w = wRcpt then (if bare then (noL, 501) else if begL r [116, 111, 58] then answerB (mailboxT 3 (r.drop 3)) else (noL, 501))
 else if w = wData then (if bare then ((4, [], false, [], [], []), 0) else (noL, 501))
 else if w = wRset then (if bare then ((5, [], false, [], [], []), 0) else (noL, 501))
 else if w = wQuit then (if bare then ((8, [], false, [], [], []), 0) else (noL, 501))
 else if w = wNoop then ((7, [], false, [], [], []), 0)
 else if w = wVrfy then (if bare then (noL, 501) else if r = [] then (noL, 501) else ((6, r, false, [], [], []), 0))
 else if w = wEtrn then (if bare then (noL, 501) else answerB (namedT 9 r))
 else if w = wAuth then (if foldL r = cram then ((10, [], false, [], [], []), 0) else if mechL r then (noL, 504) else (noL, 501))
 else if w = wAtrn then (if bare then ((11, [], false, [], [], []), 0) else answerB (namedT 11 r))
 else (noL, 501)
theorem words_in {w : List UInt8} (h : wordsL.contains w = true) : w = wEhlo ∨ w = wHelo ∨ w = wMail ∨ w = wRcpt ∨ w = wData ∨ w = wRset ∨ w = wQuit ∨ w = wNoop ∨ w = wVrfy ∨ w = wEtrn ∨ w = wAuth ∨ w = wAtrn := by
 rw [List.contains_iff_mem] at h
 simpa [wordsL, wEhlo, wHelo, wMail, wRcpt, wData, wRset, wQuit, wNoop, wVrfy, wEtrn, wAuth, wAtrn] using h
theorem beg5 {f b : List UInt8} (r m : List UInt8) (hf : f.length = 4) (hb : b.length = 4) : begL (f ++ 32 :: r) (b ++ 32 :: m) = (foldL f == foldL b && begL r m) := by
 unfold begL
 have h1 : (b ++ 32 :: m).length = 4 + (m.length + 1) := by simp [hb]
 have h2 : (f ++ 32 :: r).length = 4 + (r.length + 1) := by simp [hf]
 have h3 : (f ++ 32 :: r).take (4 + (m.length + 1)) = f ++ 32 :: r.take m.length := by
  rw [← hf, List.take_length_add_append]; rfl
 have h4 : foldL (f ++ 32 :: r.take m.length) = foldL f ++ 32 :: foldL (r.take m.length) := by rw [foldL_append]; rfl
 have h5 : foldL (b ++ 32 :: m) = foldL b ++ 32 :: foldL m := by rw [foldL_append]; rfl
 rw [h1, h2, h3, h4, h5]
 have h6 : decide (4 + (m.length + 1) ≤ 4 + (r.length + 1)) = decide (m.length ≤ r.length) := by rw [decide_eq_decide]; omega
 rw [h6]
 have h7 : (foldL f ++ 32 :: foldL (r.take m.length) == foldL b ++ 32 :: foldL m) = (foldL f == foldL b && foldL (r.take m.length) == foldL m) := by
  rw [Bool.eq_iff_iff, Bool.and_eq_true, beq_iff_eq, beq_iff_eq, beq_iff_eq]
  constructor
  ·
   intro h
   obtain ⟨e1, e2⟩ := List.append_inj h (by rw [foldL_length, foldL_length, hf, hb])
   exact ⟨e1, (List.cons.inj e2).2⟩
  ·
   rintro ⟨e1, e2⟩; rw [e1, e2]
 rw [h7]
 cases (foldL f == foldL b) <;> cases decide (m.length ≤ r.length) <;> simp
theorem beg_nil (r : List UInt8) : begL r [] = true := by simp [begL, foldL]
theorem beg_short {s b : List UInt8} (h : s.length < b.length) : begL s b = false := by
 unfold begL
 rw [decide_eq_false (by omega), Bool.false_and]
theorem cut_nothing {s : UInt8} : ∀ {l : List UInt8}, (cutC s l).2.2 = false → (cutC s l).2.1 = []
 | [], _ => rfl
 | c :: l, h => by
  rw [cutC] at h ⊢
  by_cases hc : c = s
  ·
   rw [if_pos hc] at h; cases h
  ·
   rw [if_neg hc] at h ⊢; exact cut_nothing h
theorem parse_switch {s : List UInt8} (hg : goodL s = true) : parseT s = switchT (foldL (cutC 32 s).1) (!(cutC 32 s).2.2) (cutC 32 s).2.1 := by
 obtain ⟨g1, g2, g3⟩ := good_inv hg
 have hw := words_in g3
 have h4 : (cutC 32 s).1.length = 4 := by
  rw [← foldL_length]
  rcases hw with h | h | h | h | h | h | h | h | h | h | h | h <;> rw [h] <;> rfl
 unfold parseT
 rw [if_pos hg]
 cases hc : (cutC 32 s).2.2 with
 | true =>
  obtain ⟨k1, k2⟩ := cutC_true hc
  generalize (cutC 32 s).1 = f at *
  generalize (cutC 32 s).2.1 = r at *
  have b1 : begL s sEhlo = (foldL f == wEhlo && begL r []) := by rw [k1]; exact beg5 (b := wEhlo) r [] h4 rfl
  have b2 : begL s sHelo = (foldL f == wHelo && begL r []) := by rw [k1]; exact beg5 (b := wHelo) r [] h4 rfl
  have b3 : begL s sMail = (foldL f == wMail && begL r [102, 114, 111, 109, 58]) := by rw [k1]; exact beg5 (b := wMail) r [102, 114, 111, 109, 58] h4 rfl
  have b4 : begL s sRcpt = (foldL f == wRcpt && begL r [116, 111, 58]) := by rw [k1]; exact beg5 (b := wRcpt) r [116, 111, 58] h4 rfl
  have b5 : begL s sEtrn = (foldL f == wEtrn && begL r []) := by rw [k1]; exact beg5 (b := wEtrn) r [] h4 rfl
  have b6 : begL s sAtrn = (foldL f == wAtrn && begL r []) := by rw [k1]; exact beg5 (b := wAtrn) r [] h4 rfl
  have b7 : begL s sNoop = (foldL f == wNoop && begL r []) := by rw [k1]; exact beg5 (b := wNoop) r [] h4 rfl
  have b8 : begL s sVrfy = (foldL f == wVrfy && begL r []) := by rw [k1]; exact beg5 (b := wVrfy) r [] h4 rfl
  have b9 : begL s sAuth = (foldL f == wAuth && begL r []) := by rw [k1]; exact beg5 (b := wAuth) r [] h4 rfl
  have d5 : s.drop 5 = r := by
   have : s.drop (f.length + 1) = r := by rw [k1]; exact drop_one_more f 32 r
   rwa [h4] at this
  have d8 : s.drop 8 = r.drop 3 := by rw [← d5, List.drop_drop]
  have d10 : s.drop 10 = r.drop 5 := by rw [← d5, List.drop_drop]
  have hal : aloneL s = if foldL f = wAuth ∧ foldL r = cram then some 10 else none := by
   have hf : foldL s = foldL f ++ 32 :: foldL r := by rw [k1, foldL_append]; rfl
   have hlen : (foldL s).length = 5 + r.length := by rw [hf]; simp [foldL_length, h4]; omega
   have n4 : ∀ x : List UInt8, x.length = 4 → ¬ foldL s = x := fun x hx e => by rw [e, hx] at hlen; omega
   simp only [aloneL]
   rw [if_neg (n4 _ rfl), if_neg (n4 _ rfl), if_neg (n4 _ rfl), if_neg (n4 _ rfl), if_neg (n4 _ rfl)]
   by_cases h : foldL f = wAuth ∧ foldL r = cram
   ·
    rw [if_pos h, if_pos (by rw [hf, h.1, h.2]; rfl)]
   ·
    rw [if_neg h, if_neg (fun e => h ?_)]
    rw [hf] at e
    obtain ⟨e1, e2⟩ := List.append_inj (t₁ := 32 :: foldL r) (s₂ := wAuth) (t₂ := 32 :: cram) e (by rw [foldL_length, h4]; rfl)
    exact ⟨e1, (List.cons.inj e2).2⟩
  unfold readT strangeL
  rw [b1, b2, b3, b4, b5, b6, b7, b8, b9, d5, d8, d10, hal, beg_nil]
  generalize hfw : foldL f = w at *
  rcases hw with rfl | rfl | rfl | rfl | rfl | rfl | rfl | rfl | rfl | rfl | rfl | rfl
  all_goals simp only [switchT, wEhlo, wHelo, wMail, wRcpt, wData, wRset, wQuit, wNoop, wVrfy, wEtrn, wAuth, wAtrn, Bool.and_true, Bool.not_true, answerB, mechL]
  all_goals simp
  all_goals first
   | (cases namedT 1 r <;> rfl)
   | (cases namedT 9 r <;> rfl)
   | (cases namedT 11 r <;> rfl)
   | (cases begL r [102, 114, 111, 109, 58] <;> first | rfl | (cases mailboxT 2 (r.drop 5) <;> rfl))
   | (cases begL r [116, 111, 58] <;> first | rfl | (cases mailboxT 3 (r.drop 3) <;> rfl))
   | (by_cases h : r = [] <;> simp [h]; done)
   | (by_cases h : foldL r = cram <;> simp [h, labC] <;> split <;> rfl; done)
 | false =>
  have hd := cut_drop (s := 32) s
  rw [hc, if_neg (by decide), List.drop_eq_nil_iff] at hd
  have hl := (cut_len (s := 32) s).1
  have hs4 : s.length = 4 := by omega
  have hft : (cutC 32 s).1 = s := by
   have := cut_take (s := 32) s
   rwa [h4, ← hs4, List.take_length, eq_comm] at this
  have hr : (cutC 32 s).2.1 = [] := cut_nothing hc
  rw [hft] at hw ⊢
  rw [hr]
  have bb : ∀ b : List UInt8, 4 < b.length → begL s b = false := fun b hb => beg_short (by omega)
  unfold readT strangeL
  rw [bb sEhlo (by decide), bb sHelo (by decide), bb sMail (by decide), bb sRcpt (by decide), bb sEtrn (by decide), bb sAtrn (by decide), bb sNoop (by decide), bb sVrfy (by decide), bb sAuth (by decide)]
  unfold aloneL
  generalize foldL s = w at *
  rcases hw with rfl | rfl | rfl | rfl | rfl | rfl | rfl | rfl | rfl | rfl | rfl | rfl
  all_goals first | rfl | simp [switchT, wEhlo, wHelo, wMail, wRcpt, wData, wRset, wQuit, wNoop, wVrfy, wEtrn, wAuth, wAtrn, mechL, cram, foldL]
theorem refmech_ev (r : List UInt8) (hr : r.length < 4611686018427387904) : Ev (fun k => wherryref11_mechanism.f k (bs r)) (mechL r) := by
 have hsz := bs_size r
 have key : ∀ (d i : Nat), r.length - i = d → i ≤ r.length → Ev (fun k => wherryref11_mechanism.l0 k (bs r) (i : Int)) ((r.drop i).all labC && !r.isEmpty) := by
  intro d
  induction d with
  | zero =>
   intro i hd hi
   refine Ev.step (f := fun _ => some ((r.drop i).all labC && !r.isEmpty)) (fun k => ?_) (Ev.now _)
   rw [wherryref11_mechanism.l0, if_neg (by omega), List.drop_of_length_le (by omega), hsz]
   cases r with
   | nil => rfl
   | cons a r => simp
  | succ d ih =>
   intro i hd hi
   have hil : i < r.length := by omega
   have ew : wrap64 ((i : Int) + 1) = ((i + 1 : Nat) : Int) := by rw [wrap_small (by omega) (by omega)]; omega
   have hb : bt (bs r) (i : Int) = ((r[i]).toNat : Int) := bt_get (bs r) i hil
   have ih2 := ih (i + 1) (by omega) (by omega)
   rw [List.drop_eq_getElem_cons hil, List.all_cons]
   generalize r[i] = c at *
   have hf := letter_fin ⟨c.toNat, c.toNat_lt⟩
   obtain ⟨a, ha, hf⟩ := Option.bind_eq_some_iff.1 hf
   obtain ⟨b, hbb, hf⟩ := Option.bind_eq_some_iff.1 hf
   simp only [Option.some.injEq, Prod.mk.injEq] at hf
   obtain ⟨hf1, hf2⟩ := hf
   simp only at ha hbb
   have e45 : c = 45 ↔ c.toNat = 45 := ⟨fun h => by rw [h]; rfl, fun h => UInt8.toNat_inj.1 h⟩
   have hq : labC c = (a || (b || (c == 45))) := by
    rw [Bool.eq_iff_iff, hf1, hf2]
    simp only [labC, plainC, Bool.or_eq_true, Bool.and_eq_true, decide_eq_true_eq, UInt8.le_iff_toNat_le, beq_iff_eq, e45]
    have e97 : (97 : UInt8).toNat = 97 := rfl
    have e122 : (122 : UInt8).toNat = 122 := rfl
    have e65 : (65 : UInt8).toNat = 65 := rfl
    have e90 : (90 : UInt8).toNat = 90 := rfl
    have e48 : (48 : UInt8).toNat = 48 := rfl
    have e57 : (57 : UInt8).toNat = 57 := rfl
    omega
   rw [hq]
   have hu : ∀ k, wherryref11_mechanism.l0 (k + 1) (bs r) (i : Int) = if (a || (b || (c == 45))) = true then wherryref11_mechanism.l0 k (bs r) ((i + 1 : Nat) : Int) else some false := by
    intro k
    rw [wherryref11_mechanism.l0, if_pos (by omega), if_pos (by omega), hb, ha, Option.bind_some, hbb, Option.bind_some, ew]
    by_cases h : c = 45
    ·
     have h1 : (c == 45) = true := beq_iff_eq.2 h
     rw [h1, if_pos ((eN c 45 45 rfl).2 h)]
     cases a <;> cases b <;> rfl
    ·
     have h1 : (c == 45) = false := beq_eq_false_iff_ne.2 h
     rw [h1, if_neg (fun e => h ((eN c 45 45 rfl).1 e))]
     cases a <;> cases b <;> rfl
   cases hv : (a || (b || (c == 45))) with
   | true =>
    refine Ev.step (fun k => ?_) ih2
    rw [hu, hv, if_pos rfl]
   | false =>
    refine Ev.step (f := fun _ => some false) (fun k => ?_) (Ev.now _)
    rw [hu, hv, if_neg (by decide)]
 have := key _ 0 rfl (Nat.zero_le _)
 rw [List.drop_zero] at this
 exact this
theorem vj1 (w r : List UInt8) (b : Bool) (k : Nat) : wherryref11_Verb.j1 (k + 1) (bs w) b (bs r) = wherryref11_Verb.j2 k (bs w) b (bs r) (bs w) (decide (w = wEhlo ∨ w = wHelo)) := by
 rw [wherryref11_Verb.j1, toList_data, bs_data]
 by_cases h : w = wEhlo
 ·
  rw [if_pos (show w = [101, 104, 108, 111] from h), decide_eq_true (.inl h), beq_iff_eq.2 (show w = [101, 104, 108, 111] from h)]
 ·
  rw [if_neg (show ¬ w = [101, 104, 108, 111] from h)]
  congr 1
  rw [Bool.eq_iff_iff, beq_iff_eq, decide_eq_true_iff]
  exact ⟨fun e => .inr e, fun e => e.resolve_left h⟩
theorem dom_ev (k0 : Int) (b : Bool) (r : List UInt8) (hr : r.length < 4611686018427387904) (p : CmdL × Int) (g : Nat → Option (Int × ByteArray × Bool × ByteArray × ByteArray × List SP × Int)) (h : ∀ k, g (k + 1) = if b = true then some (ret7p p) else (wherryref11_Domain.f k (bs r)).bind fun t => if t = true then some (k0, bs r, false, bs [], bs [], [], 0) else some (ret7p (noL, 501))) :
  Ev g (ret7p (if b then p else answerB (namedT k0 r))) := by
 cases b with
 | true =>
  refine Ev.step (f := fun _ => some (ret7p p)) (fun k => ?_) (Ev.now _)
  rw [h, if_pos rfl]
 | false =>
  refine Ev.step (f := fun k => (wherryref11_Domain.f k (bs r)).bind fun t => if t = true then some (k0, bs r, false, bs [], bs [], [], 0) else some (ret7p (noL, 501))) (fun k => ?_) (Ev.bind (refdomain_ev r hr) ?_)
  ·
   rw [h, if_neg (by decide)]
  ·
   unfold namedT
   cases domainL r with
   | true => exact Ev.now _
   | false => exact Ev.now _
theorem box_ev (kind : Int) (b : Bool) (r m : List UInt8) (hr : r.length < 1000000000) (hm : foldL m = m) (g : Nat → Option (Int × ByteArray × Bool × ByteArray × ByteArray × List SP × Int))
  (h : ∀ k, g (k + 1) = (wherryref11_begins.f k (bs r) (bs m)).bind fun bt => if b = true then some (ret7p (noL, 501)) else (if bt.2 = true then ((wherryref11_pathed.f k bt.1 kind).bind fun x => some (x.1, x.2.1, x.2.2.1, x.2.2.2.1, x.2.2.2.2.1, x.2.2.2.2.2.1, x.2.2.2.2.2.2)) else some (ret7p (noL, 501)))) :
  Ev g (ret7p (if b then (noL, 501) else if begL r m then answerB (mailboxT kind (r.drop m.length)) else (noL, 501))) := by
 refine Ev.step h (Ev.bind (f := fun k bt => if b = true then some (ret7p (noL, 501)) else (if bt.2 = true then ((wherryref11_pathed.f k bt.1 kind).bind fun x => some (x.1, x.2.1, x.2.2.1, x.2.2.2.1, x.2.2.2.2.1, x.2.2.2.2.2.1, x.2.2.2.2.2.2)) else some (ret7p (noL, 501)))) (refbegins_ev r m (by omega) hm) ?_)
 cases b with
 | true => exact Ev.now _
 | false =>
  cases begL r m with
  | false => exact Ev.now _
  | true =>
   have hp := refpathed_ev kind (r.drop m.length) (by simp; omega)
   simp only [if_true, Bool.false_eq_true, if_false]
   exact Ev.bind (f := fun _ x => some (x.1, x.2.1, x.2.2.1, x.2.2.2.1, x.2.2.2.2.1, x.2.2.2.2.2.1, x.2.2.2.2.2.2)) hp (Ev.now _)
theorem vj2 (w r : List UInt8) (b : Bool) (h : w ≠ wEhlo ∧ w ≠ wHelo ∧ w ≠ wMail ∧ w ≠ wRcpt ∧ w ≠ wData ∧ w ≠ wRset ∧ w ≠ wQuit) (k : Nat) : wherryref11_Verb.j2 (k + 1) (bs w) b (bs r) (bs w) (decide (w = wEhlo ∨ w = wHelo)) = wherryref11_Verb.j3 k (bs w) b (bs r) (bs w) false := by
 obtain ⟨h1, h2, h3, h4, h5, h6, h7⟩ := h
 rw [decide_eq_false (by rintro (e | e); exact h1 e; exact h2 e), wherryref11_Verb.j2, if_neg (by decide), toList_data, bs_data, if_neg (show ¬ w = [109, 97, 105, 108] from h3), if_neg (show ¬ w = [114, 99, 112, 116] from h4), if_neg (show ¬ w = [100, 97, 116, 97] from h5), if_neg (show ¬ w = [114, 115, 101, 116] from h6)]
 rw [beq_eq_false_iff_ne.2 (show w ≠ [113, 117, 105, 116] from h7)]
theorem refswitch_ev (w r : List UInt8) (b : Bool) (hr : r.length < 1000000000) (hb : b = true → r = []) (hw : wordsL.contains w = true) : Ev (fun k => wherryref11_Verb.j1 k (bs w) b (bs r)) (ret7p (switchT w b r)) := by
 refine Ev.step (vj1 w r b) ?_
 have hr' : r.length < 4611686018427387904 := by omega
 rcases words_in hw with rfl | rfl | rfl | rfl | rfl | rfl | rfl | rfl | rfl | rfl | rfl | rfl
 ·
  exact dom_ev 1 b r hr' (noL, 501) _ fun k => by rw [show decide (wEhlo = wEhlo ∨ wEhlo = wHelo) = true by decide, wherryref11_Verb.j2, if_pos rfl]; rfl
 ·
  exact dom_ev 1 b r hr' (noL, 501) _ fun k => by rw [show decide (wHelo = wEhlo ∨ wHelo = wHelo) = true by decide, wherryref11_Verb.j2, if_pos rfl]; rfl
 ·
  exact box_ev 2 b r [102, 114, 111, 109, 58] hr (by decide) _ fun k => by rw [show decide (wMail = wEhlo ∨ wMail = wHelo) = false by decide, wherryref11_Verb.j2, if_neg (by decide), toList_data, bs_data, if_pos (by decide)]; rfl
 ·
  exact box_ev 3 b r [116, 111, 58] hr (by decide) _ fun k => by rw [show decide (wRcpt = wEhlo ∨ wRcpt = wHelo) = false by decide, wherryref11_Verb.j2, if_neg (by decide), toList_data, bs_data, if_neg (by decide), if_pos (by decide)]; rfl
 ·
  refine Ev.step (fun k => by rw [show decide (wData = wEhlo ∨ wData = wHelo) = false by decide, wherryref11_Verb.j2, if_neg (by decide), toList_data, bs_data, if_neg (by decide), if_neg (by decide), if_pos (by decide)]) (?_ : Ev (fun k => wherryref11_Verb.j3 k (bs wData) b (bs r) (bs wData) (wData == [100, 97, 116, 97])) _)
  cases b with
  | true => exact Ev.step (f := fun _ => some (ret7p ((4, [], false, [], [], []), 0))) (fun k => by rw [wherryref11_Verb.j3, if_pos (by decide), if_pos rfl, toList_data, bs_data, if_neg (by decide), if_neg (by decide)]; rfl) (Ev.now _)
  | false => exact Ev.step (f := fun _ => some (ret7p (noL, 501))) (fun k => by rw [wherryref11_Verb.j3, if_pos (by decide), if_neg (by decide)]; rfl) (Ev.now _)
 ·
  refine Ev.step (fun k => by rw [show decide (wRset = wEhlo ∨ wRset = wHelo) = false by decide, wherryref11_Verb.j2, if_neg (by decide), toList_data, bs_data, if_neg (by decide), if_neg (by decide), if_neg (by decide), if_pos (by decide)]) (?_ : Ev (fun k => wherryref11_Verb.j3 k (bs wRset) b (bs r) (bs wRset) (wRset == [114, 115, 101, 116])) _)
  cases b with
  | true => exact Ev.step (f := fun _ => some (ret7p ((5, [], false, [], [], []), 0))) (fun k => by rw [wherryref11_Verb.j3, if_pos (by decide), if_pos rfl, toList_data, bs_data, if_pos (by decide)]; rfl) (Ev.now _)
  | false => exact Ev.step (f := fun _ => some (ret7p (noL, 501))) (fun k => by rw [wherryref11_Verb.j3, if_pos (by decide), if_neg (by decide)]; rfl) (Ev.now _)
 ·
  refine Ev.step (fun k => by rw [show decide (wQuit = wEhlo ∨ wQuit = wHelo) = false by decide, wherryref11_Verb.j2, if_neg (by decide), toList_data, bs_data, if_neg (by decide), if_neg (by decide), if_neg (by decide), if_neg (by decide)]) (?_ : Ev (fun k => wherryref11_Verb.j3 k (bs wQuit) b (bs r) (bs wQuit) (wQuit == [113, 117, 105, 116])) _)
  cases b with
  | true => exact Ev.step (f := fun _ => some (ret7p ((8, [], false, [], [], []), 0))) (fun k => by rw [wherryref11_Verb.j3, if_pos (by decide), if_pos rfl, toList_data, bs_data, if_neg (by decide), if_pos (by decide)]; rfl) (Ev.now _)
  | false => exact Ev.step (f := fun _ => some (ret7p (noL, 501))) (fun k => by rw [wherryref11_Verb.j3, if_pos (by decide), if_neg (by decide)]; rfl) (Ev.now _)
 ·
  refine Ev.step (vj2 wNoop r b (by decide)) ?_
  exact Ev.step (f := fun _ => some (ret7p ((7, [], false, [], [], []), 0))) (fun k => by rw [wherryref11_Verb.j3, if_neg (by decide), toList_data, bs_data, if_pos (by decide)]; rfl) (Ev.now _)
 ·
  refine Ev.step (vj2 wVrfy r b (by decide)) ?_
  cases b with
  | true => exact Ev.step (f := fun _ => some (ret7p (noL, 501))) (fun k => by rw [wherryref11_Verb.j3, if_neg (by decide), toList_data, bs_data, if_neg (by decide), if_pos (by decide), if_pos rfl]; rfl) (Ev.now _)
  | false =>
   by_cases h : r = []
   ·
    subst h
    exact Ev.step (f := fun _ => some (ret7p (noL, 501))) (fun k => by rw [wherryref11_Verb.j3, if_neg (by decide), toList_data, bs_data, if_neg (by decide), if_pos (by decide), if_neg (by decide), toList_data, bs_data, if_pos rfl]; rfl) (Ev.now _)
   ·
    have e : switchT wVrfy false r = ((6, r, false, [], [], []), 0) := by
     show (if r = [] then (noL, (501 : Int)) else ((6, r, false, [], [], []), 0)) = _
     rw [if_neg h]
    rw [e]
    exact Ev.step (f := fun _ => some (ret7p ((6, r, false, [], [], []), 0))) (fun k => by rw [wherryref11_Verb.j3, if_neg (by decide), toList_data, bs_data, if_neg (by decide), if_pos (by decide), if_neg (by decide), toList_data, bs_data, if_neg h]; rfl) (Ev.now _)
 ·
  refine Ev.step (vj2 wEtrn r b (by decide)) ?_
  exact dom_ev 9 b r hr' (noL, 501) _ fun k => by rw [wherryref11_Verb.j3, if_neg (by decide), toList_data, bs_data, if_neg (by decide), if_neg (by decide), if_pos (by decide)]; rfl
 ·
  refine Ev.step (vj2 wAuth r b (by decide)) ?_
  have hf := reffold_ev (bs r) (by rw [bs_size]; omega)
  rw [bs_data] at hf
  have hm := refmech_ev r hr'
  refine Ev.step (f := fun k => (wherryref11_Fold.f k (bs r)).bind fun t279 => (if t279.toList = cram then (some (ret7p ((10, [], false, [], [], []), 0))) else ((wherryref11_mechanism.f k (bs r)).bind fun t280 => (if t280 = true then (some (ret7p (noL, 504))) else (some (ret7p (noL, 501))))))) (fun k => by rw [wherryref11_Verb.j3, if_neg (by decide), toList_data, bs_data, if_neg (by decide), if_neg (by decide), if_neg (by decide), if_pos (by decide)]; rfl) (Ev.bind (f := fun k t279 => (if t279.toList = cram then (some (ret7p ((10, [], false, [], [], []), 0))) else ((wherryref11_mechanism.f k (bs r)).bind fun t280 => (if t280 = true then (some (ret7p (noL, 504))) else (some (ret7p (noL, 501))))))) hf ?_)
  have e : switchT wAuth b r = if foldL r = cram then ((10, [], false, [], [], []), 0) else if mechL r then (noL, 504) else (noL, 501) := rfl
  rw [e, toList_data, bs_data]
  by_cases h : foldL r = cram
  ·
   rw [if_pos h]; simp only [if_pos h]; exact Ev.now _
  ·
   rw [if_neg h]; simp only [if_neg h]
   refine Ev.bind (f := fun k t280 => (if t280 = true then (some (ret7p (noL, 504))) else (some (ret7p (noL, 501))))) hm ?_
   cases mechL r with
   | true => exact Ev.now _
   | false => exact Ev.now _
 ·
  refine Ev.step (vj2 wAtrn r b (by decide)) ?_
  exact dom_ev 11 b r hr' ((11, [], false, [], [], []), 0) _ fun k => by rw [wherryref11_Verb.j3, if_neg (by decide), toList_data, bs_data, if_neg (by decide), if_neg (by decide), if_neg (by decide), if_neg (by decide), if_pos (by decide)]; rfl
theorem refverb_ev (s : List UInt8) (hs : s.length < 4611686018427387904) : Ev (fun k => wherryref11_Verb.f k (bs s)) (ret7p (parseT s)) := by
 have hsz := bs_size s
 by_cases hl : s.length ≤ 510
 ·
  have hun : ∀ k, wherryref11_Verb.f k (bs s) = wherryref11_Verb.l0 k (bs s) 0 := fun k => by rw [wherryref11_Verb.f, if_neg (by omega)]
  refine Ev.congr hun ?_
  have key : ∀ (d i : Nat), s.length - i = d → i ≤ s.length → (s.take i).all printC = true → Ev (fun k => wherryref11_Verb.l0 k (bs s) (i : Int)) (ret7p (parseT s)) := by
   intro d
   induction d with
   | zero =>
    intro i hd hi hp
    rw [List.take_of_length_le (by omega)] at hp
    have h1 := reffirst_ev (bs s) (by omega)
    rw [bs_data] at h1
    have e12 : (wordsL.map bs) = ([(⟨#[101, 104, 108, 111]⟩ : ByteArray), (⟨#[104, 101, 108, 111]⟩ : ByteArray), (⟨#[109, 97, 105, 108]⟩ : ByteArray), (⟨#[114, 99, 112, 116]⟩ : ByteArray), (⟨#[100, 97, 116, 97]⟩ : ByteArray), (⟨#[114, 115, 101, 116]⟩ : ByteArray), (⟨#[113, 117, 105, 116]⟩ : ByteArray), (⟨#[110, 111, 111, 112]⟩ : ByteArray), (⟨#[118, 114, 102, 121]⟩ : ByteArray), (⟨#[101, 116, 114, 110]⟩ : ByteArray), (⟨#[97, 117, 116, 104]⟩ : ByteArray), (⟨#[97, 116, 114, 110]⟩ : ByteArray)] : List ByteArray) := rfl
    have h2 := refamong_ev wordsL (foldL (cutC 32 s).1) (by decide)
    have hgood : goodL s = wordsL.contains (foldL (cutC 32 s).1) := by rw [goodL, decide_eq_true hl, hp]; simp
    have hwl : (foldL (cutC 32 s).1).length = (cutC 32 s).1.length := foldL_length _
    have hcl := (cut_len (s := 32) s).1
    have hbw := bs_size (foldL (cutC 32 s).1)
    have hcd := cut_drop (s := 32) s
    refine Ev.step (fun k => by rw [wherryref11_Verb.l0, if_neg (by omega)]) (Ev.bind (g := fun k => wherryref11_first.f k (bs s)) h1 (Ev.bind (g := fun k => wherryref11_among.f k (bs (foldL (cutC 32 s).1)) (wordsL.map bs)) h2 ?_))
    rw [← hgood]
    cases hg : goodL s with
    | false =>
     have : parseT s = (noL, 500) := by rw [parseT, if_neg (by rw [hg]; decide)]
     rw [this]
     simp only [Bool.false_eq_true, if_false]
     exact Ev.now _
    | true =>
     have hr := refswitch_ev (foldL (cutC 32 s).1) (cutC 32 s).2.1 (!(cutC 32 s).2.2) (by have := (cut_len (s := 32) s).2; omega) (fun h => cut_nothing (by simpa using h)) (by rw [← hgood]; exact hg)
     rw [← parse_switch hg] at hr
     simp only [if_true]
     cases hc : (cutC 32 s).2.2 with
     | false =>
      rw [hc, if_neg (by decide), List.drop_eq_nil_iff] at hcd
      rw [hc, cut_nothing hc] at hr
      refine Ev.congr (fun k => ?_) hr
      rw [if_pos (by omega)]
      have : (((bs (foldL (cutC 32 s).1)).size : Int) == ((bs s).size : Int)) = true := beq_iff_eq.2 (by omega)
      rw [this]
      rfl
     | true =>
      obtain ⟨k1, k2⟩ := cutC_true hc
      have hle := congrArg List.length k1
      rw [List.length_append, List.length_cons] at hle
      rw [hc] at hr
      refine Ev.congr (fun k => ?_) hr
      have ew : wrap64 (((bs (foldL (cutC 32 s).1)).size : Int) + 1) = (((cutC 32 s).1.length + 1 : Nat) : Int) := by rw [wrap_small (by omega) (by omega)]; omega
      have : (((bs (foldL (cutC 32 s).1)).size : Int) == ((bs s).size : Int)) = false := beq_eq_false_iff_ne.2 (by omega)
      have ed : s.drop ((cutC 32 s).1.length + 1) = (cutC 32 s).2.1 := (congrArg (List.drop _) k1).trans (drop_one_more _ _ _)
      have e2 : (bs s).extract ((cutC 32 s).1.length + 1) (bs s).size = bs (cutC 32 s).2.1 := by rw [extract_list, bs_data, bs_size, List.take_length, ed]
      rw [if_neg (by omega), ew, if_pos (by omega), if_pos (by omega), this, Int.toNat_natCast, e2]
      rfl
   | succ d ih =>
    intro i hd hi hp
    have hil : i < s.length := by omega
    have ew : wrap64 ((i : Int) + 1) = ((i + 1 : Nat) : Int) := by rw [wrap_small (by omega) (by omega)]; omega
    have hb : bt (bs s) (i : Int) = ((s[i]).toNat : Int) := bt_get (bs s) i hil
    have hpc : printC s[i] = true ↔ 32 ≤ (s[i]).toNat ∧ (s[i]).toNat ≤ 126 := by
     simp only [printC, Bool.and_eq_true, decide_eq_true_eq, UInt8.le_iff_toNat_le]
     exact Iff.rfl
    by_cases hq : printC s[i] = true
    ·
     have := hpc.1 hq
     refine Ev.step (fun k => ?_) (ih (i + 1) (by omega) (by omega) ?_)
     ·
      rw [wherryref11_Verb.l0, if_pos (by omega), if_pos (by omega), hb, if_neg (by omega), if_neg (by omega), ew]
     ·
      rw [List.take_succ_eq_append_getElem hil, List.all_append, hp]
      simpa using hq
    ·
     have hn : ¬ (32 ≤ (s[i]).toNat ∧ (s[i]).toNat ≤ 126) := fun h => hq (hpc.2 h)
     have hg : goodL s = false := by
      have : s.all printC = false := by
       rw [Bool.eq_false_iff]
       intro ha
       exact hq (List.all_eq_true.1 ha _ (List.getElem_mem hil))
      rw [goodL, this]; simp
     have : parseT s = (noL, 500) := by rw [parseT, if_neg (by rw [hg]; decide)]
     rw [this]
     refine Ev.step (f := fun _ => some (ret7p (noL, 500))) (fun k => ?_) (Ev.now _)
     rw [wherryref11_Verb.l0, if_pos (by omega), if_pos (by omega), hb]
     by_cases h32 : ((s[i]).toNat : Int) < 32
     ·
      rw [if_pos h32]; rfl
     ·
      rw [if_neg h32, if_pos (by omega)]; rfl
  exact key _ 0 rfl (Nat.zero_le _) (by simp)
 ·
  have hg : goodL s = false := by rw [goodL, decide_eq_false hl]; rfl
  have : parseT s = (noL, 500) := by rw [parseT, if_neg (by rw [hg]; decide)]
  rw [this]
  refine ⟨0, fun k _ => ?_⟩
  show wherryref11_Verb.f k (bs s) = _
  rw [wherryref11_Verb.f, if_pos (by omega)]
  rfl
end Go.Proofs.YthcdjgekmfnmnaaGreatDoor.PVerb
end
section
namespace Go.Proofs.YthcdjgekmfnmnaaGreatDoor.PVerb
open Go.RowKit Go.Proofs.YthcdjgekmfnmnaaGreatDoorW.PrintWords Go.Proofs.YthcdjgekmfnmnaaGreatDoorW.PrintLast Go.Proofs.YthcdjgekmfnmnaaGreatDoorW.PrintMore
set_option linter.unusedSimpArgs false
set_option linter.unusedVariables false
def rtextT (c : CmdL) : List UInt8 := if c.2.2.1 then [60, 62] else 60 :: c.2.2.2.1 ++ 64 :: c.2.2.2.2.1 ++ [62]
def parsT (l : List ParL) : List UInt8 := l.flatMap fun p => 32 :: joinP p
def rlineT (c : CmdL) : List UInt8 :=
 if c.1 = 1 then [69, 72, 76, 79, 32] ++ c.2.1
 else if c.1 = 2 then ([77, 65, 73, 76, 32, 70, 82, 79, 77, 58] ++ rtextT c) ++ parsT c.2.2.2.2.2
 else if c.1 = 3 then ([82, 67, 80, 84, 32, 84, 79, 58] ++ rtextT c) ++ parsT c.2.2.2.2.2
 else if c.1 = 4 then [68, 65, 84, 65]
 else if c.1 = 5 then [82, 83, 69, 84]
 else if c.1 = 6 then [86, 82, 70, 89, 32] ++ c.2.1
 else if c.1 = 7 then [78, 79, 79, 80]
 else if c.1 = 8 then [81, 85, 73, 84]
 else if c.1 = 9 then [69, 84, 82, 78, 32] ++ c.2.1
 else if c.1 = 10 then [65, 85, 84, 72, 32, 67, 82, 65, 77, 45, 77, 68, 53]
 else if c.1 = 11 then (if c.2.1 = [] then [65, 84, 82, 78] else [65, 84, 82, 78, 32] ++ c.2.1)
 else [] ++ parsT c.2.2.2.2.2
theorem refline_l0 (L : List ParL) (hL : L.length < 4611686018427387904) (hp : ∀ p ∈ L, p.1.length < 100000 ∧ p.2.length < 100000) (x0 : Int) (x1 : ByteArray) (x2 : Bool) (x3 x4 : ByteArray) : ∀ (d i : Nat) (acc : List UInt8), L.length - i = d → i ≤ L.length → acc.length + d * 300000 ≤ 1000000000000 →
  Ev (fun k => wherryref11_line.l0 k (bs acc) (i : Int) x0 x1 x2 x3 x4 (L.map mkP)) (bs (acc ++ parsT (L.drop i))) := by
 intro d
 induction d with
 | zero =>
  intro i acc hd hi hb
  refine Ev.step (f := fun _ => some (bs (acc ++ parsT (L.drop i)))) (fun k => ?_) (Ev.now _)
  rw [wherryref11_line.l0, if_neg (by rw [List.length_map]; omega), List.drop_of_length_le (by omega)]
  show some (bs acc) = some (bs (acc ++ []))
  rw [List.append_nil]
 | succ d ih =>
  intro i acc hd hi hb
  have hil : i < L.length := by omega
  have ew : wrap64 ((i : Int) + 1) = ((i + 1 : Nat) : Int) := by rw [wrap_small (by omega) (by omega)]; omega
  obtain ⟨p1, p2⟩ := hp L[i] (List.getElem_mem hil)
  have ih2 := ih (i + 1) (((acc ++ [32]) ++ L[i].1 ++ [61]) ++ L[i].2) (by omega) (by omega) (by simp only [List.length_append, List.length_cons, List.length_nil]; omega)
  have er : (((acc ++ [32]) ++ L[i].1 ++ [61]) ++ L[i].2) ++ parsT (L.drop (i + 1)) = acc ++ parsT (L.drop i) := by
   rw [List.drop_eq_getElem_cons hil]
   have e : parsT (L[i] :: L.drop (i + 1)) = (32 :: joinP L[i]) ++ parsT (L.drop (i + 1)) := rfl
   rw [e, joinP]
   simp only [List.append_assoc, List.cons_append, List.nil_append]
  rw [er] at ih2
  refine Ev.step (fun k => ?_) ih2
  have a1 : bs acc ++ (⟨#[32]⟩ : ByteArray) = bs (acc ++ [32]) := bs_app acc [32]
  have a2 : bs (acc ++ [32]) ++ (mkP L[i]).f0 = bs ((acc ++ [32]) ++ L[i].1) := bs_app _ _
  have a3 : bs ((acc ++ [32]) ++ L[i].1) ++ (⟨#[61]⟩ : ByteArray) = bs ((acc ++ [32]) ++ L[i].1 ++ [61]) := bs_app _ [61]
  have a4 : bs ((acc ++ [32]) ++ L[i].1 ++ [61]) ++ (mkP L[i]).f1 = bs (((acc ++ [32]) ++ L[i].1 ++ [61]) ++ L[i].2) := bs_app _ _
  have z1 : (mkP L[i]).f0.size = L[i].1.length := bs_size _
  have z2 : (mkP L[i]).f1.size = L[i].2.length := bs_size _
  rw [wherryref11_line.l0, if_pos (by rw [List.length_map]; omega), if_pos (by rw [bs_size]; omega), if_pos (by omega), rd_mk L i hil, a1,
   if_pos (by rw [bs_size, z1]; simp only [List.length_append, List.length_cons, List.length_nil]; omega), a2,
   if_pos (by rw [bs_size]; simp only [List.length_append, List.length_cons, List.length_nil]; omega), a3,
   if_pos (by rw [bs_size, z2]; simp only [List.length_append, List.length_cons, List.length_nil]; omega), a4, ew]
theorem refline_ev (c : CmdL) (h : Small c) : Ev (fun k => wherryref11_line.f k c.1 (bs c.2.1) c.2.2.1 (bs c.2.2.2.1) (bs c.2.2.2.2.1) (c.2.2.2.2.2.map mkP)) (bs (rlineT c)) := by
 have h1 := h.text
 have h2 := h.loc
 have h3 := h.dom
 have h4 := h.num
 have ht : wherryref11_Text.f c.2.2.1 (bs c.2.2.2.1) (bs c.2.2.2.2.1) = some (bs (rtextT c)) := by
  rw [wherryref11_Text.f, if_pos ⟨by rw [bs_size]; omega, by rw [bs_size]; omega⟩]
  unfold rtextT
  cases c.2.2.1 <;> rfl
 have hl : (rtextT c).length ≤ 200003 := by
  unfold rtextT
  split
  ·
   simp
  ·
   simp only [List.length_append, List.length_cons, List.length_nil]; omega
 have hj : ∀ acc : List UInt8, acc.length ≤ 1000000 → Ev (fun k => wherryref11_line.j0 k (bs acc) c.1 (bs c.2.1) c.2.2.1 (bs c.2.2.2.1) (bs c.2.2.2.2.1) (c.2.2.2.2.2.map mkP)) (bs (acc ++ parsT c.2.2.2.2.2)) := by
  intro acc ha
  have := refline_l0 c.2.2.2.2.2 (by omega) h.pars c.1 (bs c.2.1) c.2.2.1 (bs c.2.2.2.1) (bs c.2.2.2.2.1) _ 0 acc rfl (Nat.zero_le _) (by omega)
  rw [List.drop_zero] at this
  exact Ev.step (fun k => by rw [wherryref11_line.j0]; rfl) this
 have hsz := bs_size c.2.1
 have hsz2 := bs_size (rtextT c)
 unfold rlineT
 have now : ∀ r, (∀ k, wherryref11_line.f k c.1 (bs c.2.1) c.2.2.1 (bs c.2.2.2.1) (bs c.2.2.2.2.1) (c.2.2.2.2.2.map mkP) = some r) → Ev (fun k => wherryref11_line.f k c.1 (bs c.2.1) c.2.2.1 (bs c.2.2.2.1) (bs c.2.2.2.2.1) (c.2.2.2.2.2.map mkP)) r := fun r hr => Ev.congr hr (Ev.now _)
 by_cases k1 : c.1 = 1
 ·
  rw [if_pos k1]; exact now _ fun k => by rw [wherryref11_line.f, if_pos k1, if_pos (by omega)]; exact congrArg some (bs_app _ _)
 rw [if_neg k1]
 by_cases k2 : c.1 = 2
 ·
  rw [if_pos k2]
  refine Ev.congr (fun k => ?_) (hj ([77, 65, 73, 76, 32, 70, 82, 79, 77, 58] ++ rtextT c) (by simp; omega))
  rw [wherryref11_line.f, if_neg k1, if_pos k2, ht, Option.bind_some, if_pos (by omega)]
  rw [show (⟨#[77, 65, 73, 76, 32, 70, 82, 79, 77, 58]⟩ : ByteArray) ++ bs (rtextT c) = bs ([77, 65, 73, 76, 32, 70, 82, 79, 77, 58] ++ rtextT c) from bs_app _ _]
 rw [if_neg k2]
 by_cases k3 : c.1 = 3
 ·
  rw [if_pos k3]
  refine Ev.congr (fun k => ?_) (hj ([82, 67, 80, 84, 32, 84, 79, 58] ++ rtextT c) (by simp; omega))
  rw [wherryref11_line.f, if_neg k1, if_neg k2, if_pos k3, ht, Option.bind_some, if_pos (by omega)]
  rw [show (⟨#[82, 67, 80, 84, 32, 84, 79, 58]⟩ : ByteArray) ++ bs (rtextT c) = bs ([82, 67, 80, 84, 32, 84, 79, 58] ++ rtextT c) from bs_app _ _]
 rw [if_neg k3]
 by_cases k4 : c.1 = 4
 ·
  rw [if_pos k4]; exact now _ fun k => by rw [wherryref11_line.f, if_neg k1, if_neg k2, if_neg k3, if_pos k4]; rfl
 rw [if_neg k4]
 by_cases k5 : c.1 = 5
 ·
  rw [if_pos k5]; exact now _ fun k => by rw [wherryref11_line.f, if_neg k1, if_neg k2, if_neg k3, if_neg k4, if_pos k5]; rfl
 rw [if_neg k5]
 by_cases k6 : c.1 = 6
 ·
  rw [if_pos k6]; exact now _ fun k => by rw [wherryref11_line.f, if_neg k1, if_neg k2, if_neg k3, if_neg k4, if_neg k5, if_pos k6, if_pos (by omega)]; exact congrArg some (bs_app _ _)
 rw [if_neg k6]
 by_cases k7 : c.1 = 7
 ·
  rw [if_pos k7]; exact now _ fun k => by rw [wherryref11_line.f, if_neg k1, if_neg k2, if_neg k3, if_neg k4, if_neg k5, if_neg k6, if_pos k7]; rfl
 rw [if_neg k7]
 by_cases k8 : c.1 = 8
 ·
  rw [if_pos k8]; exact now _ fun k => by rw [wherryref11_line.f, if_neg k1, if_neg k2, if_neg k3, if_neg k4, if_neg k5, if_neg k6, if_neg k7, if_pos k8]; rfl
 rw [if_neg k8]
 by_cases k9 : c.1 = 9
 ·
  rw [if_pos k9]; exact now _ fun k => by rw [wherryref11_line.f, if_neg k1, if_neg k2, if_neg k3, if_neg k4, if_neg k5, if_neg k6, if_neg k7, if_neg k8, if_pos k9, if_pos (by omega)]; exact congrArg some (bs_app _ _)
 rw [if_neg k9]
 by_cases k10 : c.1 = 10
 ·
  rw [if_pos k10]; exact now _ fun k => by rw [wherryref11_line.f, if_neg k1, if_neg k2, if_neg k3, if_neg k4, if_neg k5, if_neg k6, if_neg k7, if_neg k8, if_neg k9, if_pos k10]; rfl
 rw [if_neg k10]
 by_cases k11 : c.1 = 11
 ·
  rw [if_pos k11]
  by_cases ke : c.2.1 = []
  ·
   rw [if_pos ke]; exact now _ fun k => by rw [wherryref11_line.f, if_neg k1, if_neg k2, if_neg k3, if_neg k4, if_neg k5, if_neg k6, if_neg k7, if_neg k8, if_neg k9, if_neg k10, if_pos k11, toList_data, bs_data, if_pos ke]; rfl
  ·
   rw [if_neg ke]; exact now _ fun k => by rw [wherryref11_line.f, if_neg k1, if_neg k2, if_neg k3, if_neg k4, if_neg k5, if_neg k6, if_neg k7, if_neg k8, if_neg k9, if_neg k10, if_pos k11, toList_data, bs_data, if_neg ke, if_pos (by omega)]; exact congrArg some (bs_app _ _)
 rw [if_neg k11]
 refine Ev.congr (fun k => ?_) (hj [] (by simp))
 rw [wherryref11_line.f, if_neg k1, if_neg k2, if_neg k3, if_neg k4, if_neg k5, if_neg k6, if_neg k7, if_neg k8, if_neg k9, if_neg k10, if_neg k11]
 rfl
def wellT (c : CmdL) : Prop := ((c.1 = 2 ∨ c.1 = 3) ∧ checkL c.2.2.1 c.2.2.2.1 c.2.2.2.2.1 = true) ∨ ((c.1 = 1 ∨ c.1 = 4 ∨ c.1 = 5 ∨ c.1 = 6 ∨ c.1 = 7 ∨ c.1 = 8 ∨ c.1 = 9 ∨ c.1 = 10 ∨ c.1 = 11) ∧ c.2.2.2.2.2 = [])
theorem mailbox_well {kind : Int} {r : List UInt8} {c : CmdL} (h : mailboxT kind r = some c) : c.1 = kind ∧ checkL c.2.2.1 c.2.2.2.1 c.2.2.2.2.1 = true := by
 unfold mailboxT at h
 cases hp : pieces 32 r with
 | nil => exact absurd hp (pieces_ne 32 r)
 | cons b t =>
  rw [hp] at h
  simp only at h
  obtain ⟨p, hpa, h⟩ := Option.bind_eq_some_iff.1 h
  obtain ⟨ps, hps, h⟩ := Option.bind_eq_some_iff.1 h
  split at h
  ·
   cases h
  ·
   obtain rfl := Option.some.inj h
   exact ⟨rfl, (path_text hpa).2⟩
theorem named_well {kind : Int} {r : List UInt8} {c : CmdL} (h : namedT kind r = some c) : c.1 = kind ∧ c.2.2.2.2.2 = [] := by
 obtain ⟨_, rfl⟩ := named_again h
 exact ⟨rfl, rfl⟩
theorem parse_well {l : List UInt8} {c : CmdL} (h : parseT l = (c, 0)) : wellT c := by
 obtain ⟨_, h⟩ := parse_inv h
 unfold readT at h
 split at h
 ·
  rename_i k hk
  obtain rfl := Option.some.inj h
  refine .inr ⟨?_, rfl⟩
  rcases alone_cases hk with rfl | rfl | rfl | rfl | rfl | rfl <;> simp
 ·
  split at h
  ·
   obtain ⟨e1, e2⟩ := named_well h
   exact .inr ⟨.inl e1, e2⟩
  split at h
  ·
   obtain ⟨e1, e2⟩ := named_well h
   exact .inr ⟨.inl e1, e2⟩
  split at h
  ·
   obtain ⟨e1, e2⟩ := mailbox_well h
   exact .inl ⟨.inl e1, e2⟩
  split at h
  ·
   obtain ⟨e1, e2⟩ := mailbox_well h
   exact .inl ⟨.inr e1, e2⟩
  split at h
  ·
   obtain ⟨e1, e2⟩ := named_well h
   exact .inr ⟨by rw [e1]; simp, e2⟩
  split at h
  ·
   obtain ⟨e1, e2⟩ := named_well h
   exact .inr ⟨by rw [e1]; simp, e2⟩
  split at h
  ·
   obtain rfl := Option.some.inj h
   exact .inr ⟨by simp, rfl⟩
  split at h
  ·
   obtain rfl := Option.some.inj h
   exact .inr ⟨by simp, rfl⟩
  ·
   cases h
theorem line_same {c : CmdL} (h : wellT c) : rlineT c = lineT c := by
 obtain ⟨c0, c1, c2, c3, c4, c5⟩ := c
 rcases h with ⟨h1, h2⟩ | ⟨h1, h2⟩
 ·
  simp only at h1 h2
  rcases h1 with rfl | rfl
  ·
   simp [rlineT, lineT, headT, rtextT, parsT, h2]
  ·
   simp [rlineT, lineT, headT, rtextT, parsT, h2]
 ·
  simp only at h1 h2
  subst h2
  rcases h1 with rfl | rfl | rfl | rfl | rfl | rfl | rfl | rfl | rfl
  all_goals first
   | (simp [rlineT, lineT, headT]; done)
   | (by_cases h : c1 = [] <;> simp [rlineT, lineT, headT, h]; done)
theorem okR_eq (c : CmdL) : (decide ((parseT (rlineT c)).2 = 0) && sameB (parseT (rlineT c)).1 c) = okT c := by
 have key : ∀ l, (decide ((parseT l).2 = 0) && sameB (parseT l).1 c) = true ↔ parseT l = (c, 0) := by
  intro l
  simp only [Bool.and_eq_true, decide_eq_true_eq, sameB_iff]
  exact ⟨fun h => Prod.ext h.2 h.1, fun h => by rw [h]; exact ⟨rfl, rfl⟩⟩
 rw [Bool.eq_iff_iff, key, okT_iff]
 constructor
 ·
  intro h
  have := line_same (parse_well h)
  rwa [this] at h
 ·
  intro h
  rw [line_same (parse_well h)]; exact h
theorem refLine_ev (c : CmdL) (h : Small c) : Ev (fun k => wherryref11_Line.f k c.1 (bs c.2.1) c.2.2.1 (bs c.2.2.2.1) (bs c.2.2.2.2.1) (c.2.2.2.2.2.map mkP)) (if okT c then (bs (lineT c), true) else (bs [], false)) := by
 have h4 := h.num
 have hl : (rlineT c).length < 4611686018427387904 := by
  obtain ⟨h1, h2, h3, h4, h5, _⟩ := h
  have hx : (rtextT c).length ≤ 200003 := by
   unfold rtextT
   split
   ·
    simp
   ·
    simp only [List.length_append, List.length_cons, List.length_nil]; omega
  have hy : ∀ L : List ParL, (∀ p ∈ L, p.1.length < 100000 ∧ p.2.length < 100000) → (parsT L).length ≤ L.length * 300000 := by
   intro L
   induction L with
   | nil => intro _; simp [parsT]
   | cons p L ih =>
    intro hp
    have := ih fun q hq => hp q (by simp [hq])
    have hpp := hp p (by simp)
    have e : parsT (p :: L) = (32 :: joinP p) ++ parsT L := rfl
    rw [e]
    simp only [joinP, List.length_append, List.length_cons]
    omega
  have := hy _ h5
  unfold rlineT
  have li : ∀ (p : Prop) (_ : Decidable p) (a b : List UInt8), a.length < 4611686018427387904 → b.length < 4611686018427387904 → (if p then a else b).length < 4611686018427387904 := by
   intro p _ a b ha hb
   split
   ·
    exact ha
   ·
    exact hb
  repeat' refine li _ _ _ _ ?_ ?_
  all_goals (try simp only [List.length_append, List.length_cons, List.length_nil])
  all_goals omega
 refine Ev.bind (g := fun k => wherryref11_line.f k c.1 (bs c.2.1) c.2.2.1 (bs c.2.2.2.1) (bs c.2.2.2.2.1) (c.2.2.2.2.2.map mkP)) (refline_ev c h) (Ev.bind (g := fun k => wherryref11_Verb.f k (bs (rlineT c))) (refverb_ev (rlineT c) hl) ?_)
 have hk := okR_eq c
 have hfew := parse_few (rlineT c)
 by_cases h0 : (parseT (rlineT c)).2 = 0
 ·
  rw [decide_eq_true h0, Bool.true_and] at hk
  rw [← hk]
  have hkeep : Ev (fun k => wherrykeep_Cmd.f k (parseT (rlineT c)).1.1 (bs (parseT (rlineT c)).1.2.1) (parseT (rlineT c)).1.2.2.1 (bs (parseT (rlineT c)).1.2.2.2.1) (bs (parseT (rlineT c)).1.2.2.2.2.1) ((parseT (rlineT c)).1.2.2.2.2.2.map mkP) c.1 (bs c.2.1) c.2.2.1 (bs c.2.2.2.1) (bs c.2.2.2.2.1) (c.2.2.2.2.2.map mkP)) (sameB (parseT (rlineT c)).1 c) :=
   ⟨600, fun k hk => keep_eq k _ c (by omega) (by omega)⟩
  refine Ev.congr (fun k => if_pos h0) (Ev.bind hkeep ?_)
  cases hs : sameB (parseT (rlineT c)).1 c with
  | false => exact Ev.now _
  | true =>
   rw [hs] at hk
   rw [line_same (parse_well (okT_iff.1 hk.symm |> fun h => h))]
   exact Ev.now _
 ·
  rw [decide_eq_false h0, Bool.false_and] at hk
  rw [← hk]
  exact Ev.congr (fun k => if_neg h0) (Ev.now _)
theorem refParam_ev (c : CmdL) (key : List UInt8) (h : c.2.2.2.2.2.length < 2147483648) :
  Ev (fun k => wherryref11_Param.f k c.1 (bs c.2.1) c.2.2.1 (bs c.2.2.2.1) (bs c.2.2.2.2.1) (c.2.2.2.2.2.map mkP) (bs key)) (bs (((c.2.2.2.2.2.find? fun p => p.1 == key).map (·.2)).getD []), (c.2.2.2.2.2.find? fun p => p.1 == key).isSome) := by
 generalize c.2.2.2.2.2 = L at *
 have loop : ∀ (d i : Nat), L.length - i = d → i ≤ L.length → Ev (fun k => wherryref11_Param.l0 k (bs key) (i : Int) c.1 (bs c.2.1) c.2.2.1 (bs c.2.2.2.1) (bs c.2.2.2.2.1) (L.map mkP)) (bs ((((L.drop i).find? fun p => p.1 == key).map (·.2)).getD []), ((L.drop i).find? fun p => p.1 == key).isSome) := by
  intro d
  induction d with
  | zero =>
   intro i hd hi
   rw [List.drop_of_length_le (by omega)]
   refine Ev.step (f := fun _ => some (bs [], false)) (fun k => ?_) (Ev.now _)
   rw [wherryref11_Param.l0, if_neg (by rw [List.length_map]; omega)]; rfl
  | succ d ih =>
   intro i hd hi
   have hil : i < L.length := by omega
   have ew : wrap64 ((i : Int) + 1) = ((i + 1 : Nat) : Int) := by rw [wrap_small (by omega) (by omega)]; omega
   rw [List.drop_eq_getElem_cons hil, List.find?_cons]
   have ih2 := ih (i + 1) (by omega) (by omega)
   have hu : ∀ k, wherryref11_Param.l0 (k + 1) (bs key) (i : Int) c.1 (bs c.2.1) c.2.2.1 (bs c.2.2.2.1) (bs c.2.2.2.2.1) (L.map mkP) = if L[i].1 = key then some (bs L[i].2, true) else wherryref11_Param.l0 k (bs key) ((i + 1 : Nat) : Int) c.1 (bs c.2.1) c.2.2.1 (bs c.2.2.2.1) (bs c.2.2.2.2.1) (L.map mkP) := by
    intro k
    rw [wherryref11_Param.l0, if_pos (by rw [List.length_map]; omega), if_pos (by omega), rd_mk L i hil, toList_data, toList_data, ew]
    rfl
   by_cases he : L[i].1 = key
   ·
    rw [beq_iff_eq.2 he]
    exact Ev.step (f := fun _ => some (bs L[i].2, true)) (fun k => by rw [hu, if_pos he]) (Ev.now _)
   ·
    rw [beq_eq_false_iff_ne.2 he]
    exact Ev.step (fun k => by rw [hu, if_neg he]) ih2
 have := loop _ 0 rfl (Nat.zero_le _)
 rw [List.drop_zero] at this
 exact this
end Go.Proofs.YthcdjgekmfnmnaaGreatDoor.PVerb
end
section
namespace Go.Proofs.YthcdjgekmfnmnaaGreatDoor.PVerb
open Go.RowKit Go.Proofs.YthcdjgekmfnmnaaGreatDoorW.PrintWords Go.Proofs.YthcdjgekmfnmnaaGreatDoorW.PrintLast Go.Proofs.YthcdjgekmfnmnaaGreatDoorW.PrintMore
theorem wakes_60 : wherrylaw12_wakes.f 60 = some true := by kernel_rfl
theorem wakes_k (k : Nat) (h : 60 ≤ k) : wherrylaw12_wakes.f k = some true := by
 obtain ⟨d, rfl⟩ : ∃ d, k = 60 + d := ⟨k - 60, by omega⟩
 clear h
 induction d with
 | zero => exact wakes_60
 | succ d ih => exact wherrylaw12_wakes.mono _ _ ih
end Go.Proofs.YthcdjgekmfnmnaaGreatDoor.PVerb
end
