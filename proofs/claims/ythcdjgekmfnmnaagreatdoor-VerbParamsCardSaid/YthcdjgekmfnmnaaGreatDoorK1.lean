/- Parts of the proof, put together by program. -/
import Derived.Test.YthcdjgekmfnmnaaGreatDoorK0
import Derived.Lib.Bytealg
import Derived.Lib.Index
import Derived.Lib.IndexMore
import Derived.Test.YthcdjgekmfnmnaaGreatDoorProg
import Derived.Below
import Derived.Deep.Draws
import Derived.WalkKit
import Derived.WalkSmall
import Derived.Lib.LaidTab
import Derived.Lib.ItoaNum
import Derived.Lib.ItoaMem
import Derived.Lib.Split
import Derived.Lib.SplitLaws
import Derived.Laws.Strings
import Derived.KernelRfl
import Derived.Shelf.Small.Strs
import Derived.Shelf.Strconv.Atoi
import Derived.Shelf.Strconv.Itoa0
import Derived.Shelf.Strconv.Itoa1
import Derived.Shelf.LaysM
import Derived.Shelf.Strconv.Itoa2
import Derived.Shelf.Strconv.Itoa3
import Derived.Shelf.Strconv.AtoiErrFast
import Derived.Shelf.Strconv.ParseIntEmpty
import Derived.Shelf.Strconv.AtoiFail
import Derived.Shelf.Strconv.Clone
import Derived.Shelf.Strconv.SyntaxError
import Derived.Shelf.LaysC
import Derived.Shelf.Strconv.ToError
import Derived.Shelf.Strconv.Lower
import Derived.Shelf.Strconv.ParseUint10
import Derived.Shelf.Strconv.ParseUint10Empty
import Derived.Shelf.Strconv.ParseUint10Any
import Derived.Shelf.Strconv.ParseInt10
import Derived.Shelf.Strconv.AtoiLong
import Derived.Shelf.Strconv.AtoiInnerAll
import Derived.Shelf.Strconv.RangeError
import Derived.Shelf.Strconv.ToErrorRange
import Derived.Shelf.Strconv.AtoiAll
import Derived.Shelf.Strconv.ErrVarAll
import Derived.Shelf.Strings.Search1
import Derived.Shelf.Strings.Search2
import Derived.Shelf.Strings.Search3
import Derived.Shelf.Strings.Cut
import Derived.Shelf.Strings.Count
import Derived.Shelf.Strings.Shaped
import Derived.Shelf.Strings.Split
import Derived.Shelf.Strings.SplitShaped
import Derived.Shelf.Unicode.DecodeSlow
import Derived.Ground.SlgfProg
import Derived.Shelf.SlicesE.IndexFunc
import Derived.Lib.AtoiAll
import Derived.Lib.AtoiAllCases
import Derived.Deep.AppendLies
import Derived.Maps.AppendAt
import Derived.OwnWalk
import Derived.Laws.BytesArg
import Derived.Laws.MakeOwn
import Derived.Laws.OwnMore
import Derived.Deep.OwnRows
import Derived.Tactics
import Derived.Lib.ConvBytes
import Derived.Laws.Slices
import Derived.RowKit3
import Derived.Deep.LoopGhost
import Derived.Deep.QuietTactic
import Derived.BigQuiet
import Derived.WideLaws
import Derived.Deep.DeepCutAuto
import Derived.Deep.CutBlock
import Derived.Deep.RegionHeld3
import Derived.Laws.Rows
import Derived.Lib.AppendStr
import Derived.ArgAppend
import Derived.Laws.IdiomCopy
import Derived.OrdersHeld
import Derived.Laws.BitsLemmas
import Derived.RowKit
import Derived.Shelf.AbstractIn
section
namespace Go.Proofs.YthcdjgekmfnmnaaGreatDoor
open Go.Lib
def bs (l : List UInt8) : ByteArray := ⟨l.toArray⟩
def foldC (c : UInt8) : UInt8 := if 65 ≤ c ∧ c ≤ 90 then c + 32 else c
def foldL (l : List UInt8) : List UInt8 := l.map foldC
def pieces (sep : UInt8) : List UInt8 → List (List UInt8)
  | [] => [[]]
  | c :: r => if c = sep then [] :: pieces sep r else
      match pieces sep r with
      | [] => [[c]]
      | p :: ps => (c :: p) :: ps
def cutC (sep : UInt8) : List UInt8 → List UInt8 × List UInt8 × Bool
  | [] => ([], [], false)
  | c :: r => if c = sep then ([], r, true) else ((c :: (cutC sep r).1), (cutC sep r).2.1, (cutC sep r).2.2)
def plainC (c : UInt8) : Bool := (97 ≤ c && c ≤ 122) || (65 ≤ c && c ≤ 90) || (48 ≤ c && c ≤ 57)
def marksL : List UInt8 := [33, 35, 36, 37, 38, 39, 42, 43, 45, 47, 61, 63, 94, 95, 96, 123, 124, 125, 126]
def atomL (l : List UInt8) : Bool := l.all (fun c => plainC c || marksL.contains c) && !l.isEmpty
def labelL (l : List UInt8) : Bool :=
  l.all (fun c => plainC c || c == 45) && !l.isEmpty && decide (l.length ≤ 63) && !(l.head? == some 45) && !(l.getLast? == some 45)
def domainL (l : List UInt8) : Bool := decide (l.length ≤ 255) && (pieces 46 l).all labelL
def localL (l : List UInt8) : Bool := decide (l.length ≤ 64) && (pieces 46 l).all atomL
def checkL (null : Bool) (loc dom : List UInt8) : Bool := if null then loc.isEmpty && dom.isEmpty else localL loc && domainL dom
def digitC (c : UInt8) : Bool := 48 ≤ c && c ≤ 57
def numL (most : Nat) (l : List UInt8) : Bool := l.all digitC && !l.isEmpty && decide (l.length ≤ most) && !(decide (1 < l.length) && l.head? == some 48)
def valL (l : List UInt8) : Nat := l.foldl (fun n c => 10 * n + (c.toNat - 48)) 0
def aloneL (l : List UInt8) : Option Int :=
  let f := foldL l
  if f = [100, 97, 116, 97] then some 4 else if f = [114, 115, 101, 116] then some 5 else if f = [113, 117, 105, 116] then some 8
  else if f = [110, 111, 111, 112] then some 7 else if f = [97, 116, 114, 110] then some 11 else if f = [97, 117, 116, 104, 32, 99, 114, 97, 109, 45, 109, 100, 53] then some 10 else none
end Go.Proofs.YthcdjgekmfnmnaaGreatDoor
end
section
namespace Go.Proofs.YthcdjgekmfnmnaaGreatDoor
open Go.RowKit
structure Glob (w : World) : Prop where
  lt : 7 < w.heap.size
  ml : ∃ m, w.cell? ⟨0, 0, none⟩ = some (.int .i64 m)
  es : ∃ tp p, w.var? Tryz.prog "strconv.ErrSyntax" = some #[.iface tp p]
  er : ∃ tp p, w.var? Tryz.prog "strconv.ErrRange" = some #[.iface tp p]
  tab : Lib.TabIs Tryz.prog w "internal/strconv.uint64pow10" .u64 Lib.pow10Tab
theorem Glob.below {w w' : World} (h : Glob w) (hb : Below w.heap.size w w') : Glob w' := by
  have hl := h.lt
  refine ⟨Nat.lt_of_lt_of_le h.lt hb.size, ?_, ?_, ?_, ?_⟩
  · obtain ⟨m, hm⟩ := h.ml
    exact ⟨m, (hb.cell (p := ⟨0, 0, none⟩) (by show 0 < _; omega)).trans hm⟩
  · obtain ⟨tp, p, hv⟩ := h.es
    exact ⟨tp, p, var?_below hb (g := 3) (by kernel_rfl) (by omega) hv⟩
  · obtain ⟨tp, p, hv⟩ := h.er
    exact ⟨tp, p, var?_below hb (g := 4) (by kernel_rfl) (by omega) hv⟩
  · exact var?_below hb (g := 5) (by kernel_rfl) (by omega) h.tab
end Go.Proofs.YthcdjgekmfnmnaaGreatDoor
end
section
namespace Go.Proofs.YthcdjgekmfnmnaaGreatDoor
open Go.Lib
theorem bs_data (l : List UInt8) : (bs l).data.toList = l := rfl
theorem bs_of (s : ByteArray) : bs s.data.toList = s := rfl
theorem bs_size (l : List UInt8) : (bs l).size = l.length := by simp [bs, ByteArray.size]
theorem data_size (s : ByteArray) : s.data.toList.length = s.size := by rw [Array.length_toList]; rfl
theorem toList_data (s : ByteArray) : s.toList = s.data.toList := Go.ByteArray.toList_eq s
theorem index_one_eq (c : UInt8) (l : List UInt8) : index (c :: l) [c] = 0 := by simp [index]
theorem index_one_ne {b c : UInt8} (h : b ≠ c) (l : List UInt8) : index (b :: l) [c] = if index l [c] = -1 then -1 else index l [c] + 1 := by
  have : ¬ ([c].isPrefixOf (b :: l)) = true := by simp [List.isPrefixOf, Ne.symm h]
  rw [index, if_neg this]
  by_cases e : index l [c] = -1
  · rw [if_pos e, if_pos (by simpa using e)]
  · rw [if_neg e, if_neg (by simpa using e)]
theorem cut_one (c : UInt8) : ∀ s : List UInt8, Lib.cut s [c] = cutC c s
  | [] => rfl
  | b :: l => by
    have ih := cut_one c l
    by_cases h : b = c
    · subst h
      unfold Lib.cut
      rw [index_one_eq]
      simp [cutC]
    · have g := index_ge l [c]
      unfold Lib.cut at ih ⊢
      rw [index_one_ne h, cutC, if_neg h]
      by_cases e : index l [c] = -1
      · rw [if_pos e]
        rw [if_neg (by omega)] at ih
        rw [if_neg (by omega), ← ih]
      · rw [if_neg e]
        rw [if_pos (by omega)] at ih
        have e1 : (index l [c] + 1).toNat = (index l [c]).toNat + 1 := by omega
        rw [if_pos (by omega), ← ih, e1]
        simp
theorem pieces_ne (c : UInt8) (l : List UInt8) : pieces c l ≠ [] := by
  cases l with
  | nil => simp [pieces]
  | cons b l =>
    unfold pieces
    split
    · simp
    · split <;> simp
theorem split_pieces (c : UInt8) : ∀ l : List UInt8, splitK [c] 0 (l.count c) l = pieces c l
  | [] => rfl
  | b :: l => by
    have ih := split_pieces c l
    by_cases h : b = c
    · subst h
      rw [List.count_cons_self, splitK, index_one_eq, if_neg (by decide)]
      simp [pieces, ih]
    · rw [List.count_cons_of_ne h, pieces, if_neg h, ← ih]
      have hg := index_ge l [c]
      cases k : l.count c with
      | zero => simp [splitK]
      | succ k =>
        have e : index l [c] ≠ -1 := by
          intro e
          have := count_miss (s := l) (sub := [c]) e
          rw [count_one] at this
          omega
        rw [splitK, splitK, index_one_ne h, if_neg e, if_neg (by simp; omega), if_neg (by simpa using e)]
        have e1 : (index l [c] + 1).toNat = (index l [c]).toNat + 1 := by omega
        simp [e1]
theorem map_bs (l : List ByteArray) : (l.map fun s => s.data.toList).map bs = l := by
  rw [List.map_map]
  have : (bs ∘ fun s : ByteArray => s.data.toList) = id := by funext s; rfl
  rw [this, List.map_id]
end Go.Proofs.YthcdjgekmfnmnaaGreatDoor
end
section
namespace Go.Proofs.YthcdjgekmfnmnaaGreatDoor
abbrev ParL := List UInt8 × List UInt8
abbrev CmdL := Int × List UInt8 × Bool × List UInt8 × List UInt8 × List ParL
def noL : CmdL := (0, [], false, [], [], [])
def kSize : List UInt8 := [83, 73, 90, 69]
def kRet : List UInt8 := [82, 69, 84]
def kNotify : List UInt8 := [78, 79, 84, 73, 70, 89]
def vFull : List UInt8 := [70, 85, 76, 76]
def vHdrs : List UInt8 := [72, 68, 82, 83]
def vNever : List UInt8 := [78, 69, 86, 69, 82]
def vFail : List UInt8 := [70, 65, 73, 76, 85, 82, 69]
def begL (a b : List UInt8) : Bool := decide (b.length ≤ a.length) && foldL (a.take b.length) == foldL b
def oneL (s : List UInt8) (l : List (List UInt8)) : Option (List UInt8) := l.find? fun x => foldL x == foldL s
def valueT (kind : Int) (key val : List UInt8) : Option (List UInt8) :=
  if kind = 2 ∧ key = kSize then (if numL 9 val then some val else none)
  else if kind = 2 ∧ key = kRet then oneL val [vFull, vHdrs]
  else if kind = 3 ∧ key = kNotify then oneL val [vNever, vFail] else none
def parOne (kind : Int) (w : List UInt8) : Option ParL :=
  if (cutC 61 w).2.2 then (oneL (cutC 61 w).1 [kSize, kRet, kNotify]).bind fun key => (valueT kind key (cutC 61 w).2.1).map fun v => (key, v) else none
def paramsT (kind : Int) : List (List UInt8) → List ParL → Option (List ParL)
  | [], out => some out
  | w :: l, out => (parOne kind w).bind fun p => if out.any (fun q => q.1 == p.1) then none else paramsT kind l (out ++ [p])
def pathT (h : List UInt8) : Option (Bool × List UInt8 × List UInt8) :=
  if h = [60, 62] then some (true, [], []) else
  match h with
  | [] => none
  | a :: m => if a = 60 ∧ m.getLast? = some 62 ∧ (cutC 64 m.dropLast).2.2 = true ∧ checkL false (cutC 64 m.dropLast).1 (cutC 64 m.dropLast).2.1 = true then
      some (false, (cutC 64 m.dropLast).1, (cutC 64 m.dropLast).2.1) else none
def mailboxT (kind : Int) (rest : List UInt8) : Option CmdL :=
  match pieces 32 rest with
  | [] => none
  | h :: t => (pathT h).bind fun p => (paramsT kind t []).bind fun ps => if kind = 3 ∧ p.1 = true then none else some (kind, [], p.1, p.2.1, p.2.2, ps)
def namedT (kind : Int) (rest : List UInt8) : Option CmdL := if domainL rest then some (kind, rest, false, [], [], []) else none
def sEhlo : List UInt8 := [101, 104, 108, 111, 32]
def sHelo : List UInt8 := [104, 101, 108, 111, 32]
def sMail : List UInt8 := [109, 97, 105, 108, 32, 102, 114, 111, 109, 58]
def sRcpt : List UInt8 := [114, 99, 112, 116, 32, 116, 111, 58]
def sEtrn : List UInt8 := [101, 116, 114, 110, 32]
def sAtrn : List UInt8 := [97, 116, 114, 110, 32]
def sNoop : List UInt8 := [110, 111, 111, 112, 32]
def sVrfy : List UInt8 := [118, 114, 102, 121, 32]
def sAuth : List UInt8 := [97, 117, 116, 104, 32]
def readT (l : List UInt8) : Option CmdL :=
  match aloneL l with
  | some k => some (k, [], false, [], [], [])
  | none =>
    if begL l sEhlo then namedT 1 (l.drop 5) else if begL l sHelo then namedT 1 (l.drop 5) else if begL l sMail then mailboxT 2 (l.drop 10)
    else if begL l sRcpt then mailboxT 3 (l.drop 8) else if begL l sEtrn then namedT 9 (l.drop 5) else if begL l sAtrn then namedT 11 (l.drop 5)
    else if begL l sNoop then some (7, [], false, [], [], []) else if begL l sVrfy ∧ l.drop 5 ≠ [] then some (6, l.drop 5, false, [], [], []) else none
def printC (c : UInt8) : Bool := 32 ≤ c && c ≤ 126
def wordsL : List (List UInt8) := [[101, 104, 108, 111], [104, 101, 108, 111], [109, 97, 105, 108], [114, 99, 112, 116], [100, 97, 116, 97], [114, 115, 101, 116], [113, 117, 105, 116], [110, 111, 111, 112], [118, 114, 102, 121], [101, 116, 114, 110], [97, 117, 116, 104], [97, 116, 114, 110]]
def strangeL (l : List UInt8) : Bool := begL l sAuth && (l.drop 5).all (fun c => plainC c || c == 45) && !(l.drop 5).isEmpty
def goodL (l : List UInt8) : Bool := decide (l.length ≤ 510) && l.all printC && wordsL.contains (foldL (cutC 32 l).1)
def parseT (l : List UInt8) : CmdL × Int :=
  if goodL l then (match readT l with | some c => (c, 0) | none => (noL, if strangeL l then 504 else 501)) else (noL, 500)
theorem pieces_no {s : UInt8} : ∀ {h : List UInt8}, s ∉ h → pieces s h = [h]
  | [], _ => rfl
  | c :: h, hn => by
    have hc : c ≠ s := fun e => hn (by simp [e])
    have hh : s ∉ h := fun e => hn (by simp [e])
    rw [pieces, if_neg hc, pieces_no hh]
theorem pieces_sep {s : UInt8} (r : List UInt8) : ∀ {h : List UInt8}, s ∉ h → pieces s (h ++ s :: r) = h :: pieces s r
  | [], _ => by simp [pieces]
  | c :: h, hn => by
    have hc : c ≠ s := fun e => hn (by simp [e])
    have hh : s ∉ h := fun e => hn (by simp [e])
    rw [List.cons_append, pieces, if_neg hc, pieces_sep r hh]
theorem pieces_mk {s : UInt8} : ∀ (ws : List (List UInt8)) (h : List UInt8), s ∉ h → (∀ w ∈ ws, s ∉ w) → pieces s (h ++ ws.flatMap fun w => s :: w) = h :: ws
  | [], h, hn, _ => by simpa using pieces_no hn
  | w :: ws, h, hn, hw => by
    rw [List.flatMap_cons, List.cons_append, pieces_sep _ hn, pieces_mk ws w (hw w (by simp)) fun x hx => hw x (by simp [hx])]
theorem pieces_join {s : UInt8} : ∀ {l h : List UInt8} {t : List (List UInt8)}, pieces s l = h :: t → l = h ++ t.flatMap (fun w => s :: w) ∧ s ∉ h ∧ ∀ w ∈ t, s ∉ w
  | [], h, t, e => by
    simp only [pieces, List.cons.injEq] at e
    obtain ⟨rfl, rfl⟩ := e
    simp
  | c :: l, h, t, e => by
    rw [pieces] at e
    by_cases hc : c = s
    · rw [if_pos hc] at e
      simp only [List.cons.injEq] at e
      obtain ⟨rfl, rfl⟩ := e
      cases hp : pieces s l with
      | nil => exact absurd hp (pieces_ne s l)
      | cons h2 t2 =>
        obtain ⟨e1, e2, e3⟩ := pieces_join hp
        refine ⟨?_, by simp, ?_⟩
        · rw [List.flatMap_cons, hc]; simp [e1]
        · intro w hw
          rcases List.mem_cons.1 hw with rfl | hw
          · exact e2
          · exact e3 w hw
    · rw [if_neg hc] at e
      cases hp : pieces s l with
      | nil => exact absurd hp (pieces_ne s l)
      | cons h2 t2 =>
        rw [hp] at e
        simp only [List.cons.injEq] at e
        obtain ⟨rfl, rfl⟩ := e
        obtain ⟨e1, e2, e3⟩ := pieces_join hp
        exact ⟨by rw [List.cons_append, ← e1], by simp [Ne.symm hc, e2], e3⟩
theorem cutC_true {s : UInt8} : ∀ {l : List UInt8}, (cutC s l).2.2 = true → l = (cutC s l).1 ++ s :: (cutC s l).2.1 ∧ s ∉ (cutC s l).1
  | [], h => by simp [cutC] at h
  | c :: l, h => by
    rw [cutC] at h ⊢
    by_cases hc : c = s
    · rw [if_pos hc]; simp [hc]
    · rw [if_neg hc] at h ⊢
      obtain ⟨e1, e2⟩ := cutC_true (s := s) (l := l) h
      exact ⟨by simpa using e1, by simp [Ne.symm hc, e2]⟩
theorem cutC_mk {s : UInt8} (r : List UInt8) : ∀ {h : List UInt8}, s ∉ h → cutC s (h ++ s :: r) = (h, r, true)
  | [], _ => by simp [cutC]
  | c :: h, hn => by
    have hc : c ≠ s := fun e => hn (by simp [e])
    have hh : s ∉ h := fun e => hn (by simp [e])
    rw [List.cons_append, cutC, if_neg hc, cutC_mk r hh]
theorem begL_head {x y : UInt8} {a b : List UInt8} (h : foldC x ≠ foldC y) : begL (x :: a) (y :: b) = false := by
  simp [begL, foldL, h]
theorem domain_chars {d : List UInt8} (h : domainL d = true) : ∀ c ∈ d, plainC c = true ∨ c = 45 ∨ c = 46 := by
  intro c hc
  simp only [domainL, Bool.and_eq_true] at h
  cases hp : pieces 46 d with
  | nil => exact absurd hp (pieces_ne 46 d)
  | cons h2 t2 =>
    obtain ⟨e1, _, _⟩ := pieces_join hp
    have hin : ∀ w, (w = h2 ∨ w ∈ t2) → ∀ c ∈ w, plainC c = true ∨ c = 45 := by
      intro w hw c hcw
      have := List.all_eq_true.1 h.2 w (by rw [hp]; simpa using hw)
      simp only [labelL, Bool.and_eq_true] at this
      have := List.all_eq_true.1 this.1.1.1.1 c hcw
      simpa using this
    rw [e1] at hc
    rcases List.mem_append.1 hc with hc | hc
    · rcases hin h2 (.inl rfl) c hc with k | k
      · exact .inl k
      · exact .inr (.inl k)
    · obtain ⟨w, hw, hcw⟩ := List.mem_flatMap.1 hc
      rcases List.mem_cons.1 hcw with k | k
      · exact .inr (.inr k)
      · rcases hin w (.inr hw) c k with k | k
        · exact .inl k
        · exact .inr (.inl k)
theorem plain_print {c : UInt8} (h : plainC c = true) : printC c = true := by
  simp only [plainC, printC, Bool.or_eq_true, Bool.and_eq_true, decide_eq_true_eq, UInt8.le_iff_toNat_le] at h ⊢
  have e97 : (97 : UInt8).toNat = 97 := rfl
  have e122 : (122 : UInt8).toNat = 122 := rfl
  have e65 : (65 : UInt8).toNat = 65 := rfl
  have e90 : (90 : UInt8).toNat = 90 := rfl
  have e48 : (48 : UInt8).toNat = 48 := rfl
  have e57 : (57 : UInt8).toNat = 57 := rfl
  have e32 : (32 : UInt8).toNat = 32 := rfl
  have e126 : (126 : UInt8).toNat = 126 := rfl
  omega
theorem domain_print {d : List UInt8} (h : domainL d = true) : d.all printC = true := by
  refine List.all_eq_true.2 fun c hc => ?_
  rcases domain_chars h c hc with k | rfl | rfl
  · exact plain_print k
  · rfl
  · rfl
theorem digit_print {c : UInt8} (h : digitC c = true) : printC c = true := by
  refine plain_print ?_
  simp only [digitC, plainC, Bool.or_eq_true, Bool.and_eq_true] at h ⊢
  exact .inr h
end Go.Proofs.YthcdjgekmfnmnaaGreatDoor
end
section
namespace Go.Proofs.YthcdjgekmfnmnaaGreatDoor
theorem path_text {h : List UInt8} {p : Bool × List UInt8 × List UInt8} (e : pathT h = some p) :
    h = (if p.1 then [60, 62] else 60 :: p.2.1 ++ 64 :: p.2.2 ++ [62]) ∧ checkL p.1 p.2.1 p.2.2 = true := by
  unfold pathT at e
  by_cases h0 : h = [60, 62]
  · rw [if_pos h0] at e
    obtain rfl := Option.some.inj e
    exact ⟨h0, rfl⟩
  · rw [if_neg h0] at e
    cases h with
    | nil => cases e
    | cons a m =>
      simp only at e
      by_cases hc : a = 60 ∧ m.getLast? = some 62 ∧ (cutC 64 m.dropLast).2.2 = true ∧ checkL false (cutC 64 m.dropLast).1 (cutC 64 m.dropLast).2.1 = true
      · rw [if_pos hc] at e
        obtain rfl := Option.some.inj e
        obtain ⟨c1, c2, c3, c4⟩ := hc
        have e1 := (cutC_true c3).1
        have e2 : m = m.dropLast ++ [62] := by
          obtain ⟨ys, hy⟩ := List.getLast?_eq_some_iff.1 c2
          rw [hy, List.dropLast_concat]
        refine ⟨?_, c4⟩
        rw [c1, if_neg (by simp)]
        have e3 := e2.trans (congrArg (fun l => l ++ [62]) e1)
        exact (congrArg (fun l => 60 :: l) e3).trans (by simp)
      · rw [if_neg hc] at e; cases e
theorem alone_not {a : UInt8} {b c d e : UInt8} {l : List UInt8} (h : ¬ (foldC a = 97 ∧ foldC b = 117)) (_ : foldC e = 32) : aloneL (a :: b :: c :: d :: e :: l) = none := by
  simp only [aloneL, foldL, List.map_cons, List.cons.injEq]
  simp only [reduceCtorEq, and_false, if_false]
  rw [if_neg (fun k => h ⟨k.1, k.2.1⟩)]
theorem good_mk {l : List UInt8} (h1 : l.length ≤ 510) (h2 : l.all printC = true) (h3 : wordsL.contains (foldL (cutC 32 l).1) = true) : goodL l = true := by
  simp only [goodL, decide_eq_true h1, h2, h3, Bool.and_self]
theorem mail_line {r : List UInt8} (h : r.length ≤ 500) (hp : r.all printC = true) : parseT ([77, 65, 73, 76, 32, 70, 82, 79, 77, 58] ++ r) = match mailboxT 2 r with | some c => (c, 0) | none => (noL, 501) := by
  have hg : goodL ([77, 65, 73, 76, 32, 70, 82, 79, 77, 58] ++ r) = true := good_mk (by simp; omega) (by rw [List.all_append, hp]; decide) (by simp [cutC]; decide)
  have hr : readT ([77, 65, 73, 76, 32, 70, 82, 79, 77, 58] ++ r) = mailboxT 2 r := by
    unfold readT
    rw [show ([77, 65, 73, 76, 32, 70, 82, 79, 77, 58] : List UInt8) ++ r = 77 :: 65 :: 73 :: 76 :: 32 :: 70 :: 82 :: 79 :: 77 :: 58 :: r from rfl, alone_not (by decide) (by decide)]
    have h1 : begL (77 :: 65 :: 73 :: 76 :: 32 :: 70 :: 82 :: 79 :: 77 :: 58 :: r) sEhlo = false := begL_head (by decide)
    have h2 : begL (77 :: 65 :: 73 :: 76 :: 32 :: 70 :: 82 :: 79 :: 77 :: 58 :: r) sHelo = false := begL_head (by decide)
    have h3 : begL (77 :: 65 :: 73 :: 76 :: 32 :: 70 :: 82 :: 79 :: 77 :: 58 :: r) sMail = true := by simp [begL, sMail, foldL]; decide
    simp only [h1, h2, h3, if_true, Bool.false_eq_true, if_false, List.drop_succ_cons, List.drop_zero]
  unfold parseT
  rw [if_pos hg, hr]
  cases mailboxT 2 r with
  | some c => rfl
  | none =>
    have : strangeL ([77, 65, 73, 76, 32, 70, 82, 79, 77, 58] ++ r) = false := by
      simp only [strangeL, Bool.and_eq_false_iff]
      exact .inl (.inl (begL_head (by decide)))
    show (noL, if strangeL ([77, 65, 73, 76, 32, 70, 82, 79, 77, 58] ++ r) then (504 : Int) else 501) = (noL, 501)
    rw [this]; rfl
theorem rcpt_line {r : List UInt8} (h : r.length ≤ 502) (hp : r.all printC = true) : parseT ([82, 67, 80, 84, 32, 84, 79, 58] ++ r) = match mailboxT 3 r with | some c => (c, 0) | none => (noL, 501) := by
  have hg : goodL ([82, 67, 80, 84, 32, 84, 79, 58] ++ r) = true := good_mk (by simp; omega) (by rw [List.all_append, hp]; decide) (by simp [cutC]; decide)
  have hr : readT ([82, 67, 80, 84, 32, 84, 79, 58] ++ r) = mailboxT 3 r := by
    unfold readT
    rw [show ([82, 67, 80, 84, 32, 84, 79, 58] : List UInt8) ++ r = 82 :: 67 :: 80 :: 84 :: 32 :: 84 :: 79 :: 58 :: r from rfl, alone_not (by decide) (by decide)]
    have h1 : begL (82 :: 67 :: 80 :: 84 :: 32 :: 84 :: 79 :: 58 :: r) sEhlo = false := begL_head (by decide)
    have h2 : begL (82 :: 67 :: 80 :: 84 :: 32 :: 84 :: 79 :: 58 :: r) sHelo = false := begL_head (by decide)
    have h3 : begL (82 :: 67 :: 80 :: 84 :: 32 :: 84 :: 79 :: 58 :: r) sMail = false := begL_head (by decide)
    have h4 : begL (82 :: 67 :: 80 :: 84 :: 32 :: 84 :: 79 :: 58 :: r) sRcpt = true := by simp [begL, sRcpt, foldL]; decide
    simp only [h1, h2, h3, h4, if_true, Bool.false_eq_true, if_false, List.drop_succ_cons, List.drop_zero]
  unfold parseT
  rw [if_pos hg, hr]
  cases mailboxT 3 r with
  | some c => rfl
  | none =>
    have : strangeL ([82, 67, 80, 84, 32, 84, 79, 58] ++ r) = false := by
      simp only [strangeL, Bool.and_eq_false_iff]
      exact .inl (.inl (begL_head (by decide)))
    show (noL, if strangeL ([82, 67, 80, 84, 32, 84, 79, 58] ++ r) then (504 : Int) else 501) = (noL, 501)
    rw [this]; rfl
end Go.Proofs.YthcdjgekmfnmnaaGreatDoor
end
section
namespace Go.Proofs
open Go.Shelf
def Tryz.lays137_ren : Go.Shelf.Ren := ⟨fun | 137 => 90 | 217 => 62 | 266 => 79 | n => n, fun | 9 => 9 | 5 => 5 | 3 => 3 | n => n, fun | n => n⟩
theorem Tryz.lays137 : Go.Proofs.Lays.n137 Tryz.prog Tryz.lays137_ren := {
  mixed := by kernel_rfl
  f137 := Tryz.func90.trans (congrArg some (by kernel_rfl))
  f217 := Tryz.func62.trans (congrArg some (by kernel_rfl))
  f266 := Tryz.func79.trans (congrArg some (by kernel_rfl))
  t3 := Tryz.underlying3
  a3 := Tryz.isAgg3
  z3 := Tryz.sizeOf3
  v3 := Tryz.zeroValue3
  t5 := Tryz.underlying5
  a5 := Tryz.isAgg5
  z5 := Tryz.sizeOf5
  v5 := Tryz.zeroValue5
  t9 := Tryz.underlying9
  a9 := Tryz.isAgg9
  z9 := Tryz.sizeOf9
  v9 := Tryz.zeroValue9 }
open Go.RowKit in
theorem Tryz.strings_IndexByte (s : ByteArray) (c : Int) (w : World) :
    Calls Tryz.prog 90 #[.string s, .int .u8 c] w fun e w' => e = .returned (.int .i64 (Lib.indexByte s.data.toList c.toNat.toUInt8)) ∧ w' = w := Any.strings_IndexByte Tryz.lays137 s c w
def Tryz.laysM171_ren : Go.Shelf.Ren := ⟨fun | 171 => 94 | 243 => 97 | 246 => 103 | 283 => 107 | 284 => 108 | 285 => 109 | 286 => 110 | 129 => 114 | 317 => 113 | 318 => 115 | 319 => 116 | 320 => 117 | 337 => 118 | 338 => 119 | n => n, fun | 3 => 3 | 9 => 9 | 2 => 2 | 4 => 4 | 171 => 126 | 0 => 0 | 53 => 120 | 37 => 62 | 5 => 5 | 173 => 129 | 212 => 137 | 51 => 98 | 20 => 20 | 213 => 138 | 46 => 42 | 232 => 142 | 233 => 143 | n => n, fun | 17 => 5 | 18 => 6 | 19 => 7 | n => n⟩
theorem Tryz.laysM171 : Go.Proofs.LaysM.n171 Tryz.prog Tryz.laysM171_ren := {
  mixed := by kernel_rfl
  f129 := Tryz.func114.trans (congrArg some (by kernel_rfl))
  f171 := Tryz.func94.trans (congrArg some (by kernel_rfl))
  f243 := Tryz.func97.trans (congrArg some (by kernel_rfl))
  f246 := Tryz.func103.trans (congrArg some (by kernel_rfl))
  f283 := Tryz.func107.trans (congrArg some (by kernel_rfl))
  f284 := Tryz.func108.trans (congrArg some (by kernel_rfl))
  f285 := Tryz.func109.trans (congrArg some (by kernel_rfl))
  f286 := Tryz.func110.trans (congrArg some (by kernel_rfl))
  f317 := Tryz.func113.trans (congrArg some (by kernel_rfl))
  f318 := Tryz.func115.trans (congrArg some (by kernel_rfl))
  f319 := Tryz.func116.trans (congrArg some (by kernel_rfl))
  f320 := Tryz.func117.trans (congrArg some (by kernel_rfl))
  f337 := Tryz.func118.trans (congrArg some (by kernel_rfl))
  f338 := Tryz.func119.trans (congrArg some (by kernel_rfl))
  t0 := Tryz.underlying0
  a0 := Tryz.isAgg0
  z0 := Tryz.sizeOf0
  v0 := Tryz.zeroValue0
  t2 := Tryz.underlying2
  a2 := Tryz.isAgg2
  z2 := Tryz.sizeOf2
  v2 := Tryz.zeroValue2
  t3 := Tryz.underlying3
  a3 := Tryz.isAgg3
  z3 := Tryz.sizeOf3
  v3 := Tryz.zeroValue3
  t4 := Tryz.underlying4
  a4 := Tryz.isAgg4
  z4 := Tryz.sizeOf4
  v4 := Tryz.zeroValue4
  t5 := Tryz.underlying5
  a5 := Tryz.isAgg5
  z5 := Tryz.sizeOf5
  v5 := Tryz.zeroValue5
  t9 := Tryz.underlying9
  a9 := Tryz.isAgg9
  z9 := Tryz.sizeOf9
  v9 := Tryz.zeroValue9
  t20 := Tryz.underlying20
  a20 := Tryz.isAgg20
  z20 := Tryz.sizeOf20
  v20 := Tryz.zeroValue20
  t37 := Tryz.underlying62
  a37 := Tryz.isAgg62
  z37 := Tryz.sizeOf62
  v37 := Tryz.zeroValue62
  t46 := Tryz.underlying42
  a46 := Tryz.isAgg42
  z46 := Tryz.sizeOf42
  v46 := Tryz.zeroValue42
  t51 := Tryz.underlying98
  a51 := Tryz.isAgg98
  z51 := Tryz.sizeOf98
  v51 := Tryz.zeroValue98
  t53 := Tryz.underlying120
  a53 := Tryz.isAgg120
  z53 := Tryz.sizeOf120
  v53 := Tryz.zeroValue120
  t171 := Tryz.underlying126
  a171 := Tryz.isAgg126
  z171 := Tryz.sizeOf126
  v171 := Tryz.zeroValue126
  t173 := Tryz.underlying129
  a173 := Tryz.isAgg129
  z173 := Tryz.sizeOf129
  v173 := Tryz.zeroValue129
  t212 := Tryz.underlying137
  a212 := Tryz.isAgg137
  z212 := Tryz.sizeOf137
  v212 := Tryz.zeroValue137
  t213 := Tryz.underlying138
  a213 := Tryz.isAgg138
  z213 := Tryz.sizeOf138
  t232 := Tryz.underlying142
  a232 := Tryz.isAgg142
  z232 := Tryz.sizeOf142
  v232 := Tryz.zeroValue142
  t233 := Tryz.underlying143
  a233 := Tryz.isAgg143
  z233 := Tryz.sizeOf143
  v233 := Tryz.zeroValue143
  g17 := by kernel_rfl
  g18 := by kernel_rfl
  g19 := by kernel_rfl
  i0 := by kernel_rfl
  i2 := by kernel_rfl
  i3 := by kernel_rfl
  i4 := by kernel_rfl
  i5 := by kernel_rfl
  i9 := by kernel_rfl
  i20 := by kernel_rfl
  i37 := by kernel_rfl
  i46 := by kernel_rfl
  i51 := by kernel_rfl
  i53 := by kernel_rfl
  i171 := by kernel_rfl
  i173 := by kernel_rfl
  i212 := by kernel_rfl
  i232 := by kernel_rfl
  i233 := by kernel_rfl
  m17 := by kernel_rfl
  m18 := by kernel_rfl
  m19 := by kernel_rfl }
open Go.RowKit Go.Sort Go.Lib in
theorem Tryz.strconv_Itoa (n : Int) (h0 : -9223372036854775808 ≤ n) (h1 : n ≤ 9223372036854775807) (w : World) (htab : Lib.TabIs Tryz.prog w "internal/strconv.uint64pow10" .u64 Lib.pow10Tab) :
    Calls Tryz.prog 94 #[.int .i64 n] w fun e w' => e = .returned (.string ⟨(Lib.itoa n).toArray⟩) ∧ ∃ k os, w' = grow (w.drewN k) os := Any.strconv_Itoa Tryz.laysM171 n h0 h1 w htab
def Tryz.laysC172_ren : Go.Shelf.Ren := ⟨fun | 172 => 93 | 244 => 95 | 245 => 96 | 247 => 98 | 279 => 99 | 280 => 100 | 281 => 101 | 282 => 102 | 287 => 104 | 316 => 105 | 171 => 94 | 205 => 106 | 321 => 111 | 322 => 112 | 243 => 97 | 246 => 103 | 283 => 107 | 284 => 108 | 285 => 109 | 286 => 110 | 129 => 114 | 317 => 113 | 318 => 115 | 319 => 116 | 320 => 117 | 337 => 118 | 338 => 119 | n => n, fun | 9 => 9 | 3 => 3 | 75 => 109 | 76 => 110 | 4 => 4 | 5 => 5 | 167 => 113 | 37 => 62 | 0 => 0 | 85 => 114 | 2 => 2 | 168 => 116 | 53 => 120 | 175 => 121 | 46 => 42 | 210 => 124 | 127 => 132 | 145 => 135 | 143 => 133 | 21 => 21 | 171 => 126 | 173 => 129 | 212 => 137 | 51 => 98 | 20 => 20 | 213 => 138 | 232 => 142 | 233 => 143 | 80 => 144 | n => n, fun | 15 => 3 | 16 => 4 | 17 => 5 | 18 => 6 | 19 => 7 | n => n⟩
theorem Tryz.laysC172 : Go.Proofs.LaysC.n172 Tryz.prog Tryz.laysC172_ren := {
  mixed := by kernel_rfl
  f129 := Tryz.func114.trans (congrArg some (by kernel_rfl))
  f171 := Tryz.func94.trans (congrArg some (by kernel_rfl))
  f172 := Tryz.func93.trans (congrArg some (by kernel_rfl))
  f205 := Tryz.func106.trans (congrArg some (by kernel_rfl))
  f243 := Tryz.func97.trans (congrArg some (by kernel_rfl))
  f244 := Tryz.func95.trans (congrArg some (by kernel_rfl))
  f245 := Tryz.func96.trans (congrArg some (by kernel_rfl))
  f246 := Tryz.func103.trans (congrArg some (by kernel_rfl))
  f247 := Tryz.func98.trans (congrArg some (by kernel_rfl))
  f279 := Tryz.func99.trans (congrArg some (by kernel_rfl))
  f280 := Tryz.func100.trans (congrArg some (by kernel_rfl))
  f281 := Tryz.func101.trans (congrArg some (by kernel_rfl))
  f282 := Tryz.func102.trans (congrArg some (by kernel_rfl))
  f283 := Tryz.func107.trans (congrArg some (by kernel_rfl))
  f284 := Tryz.func108.trans (congrArg some (by kernel_rfl))
  f285 := Tryz.func109.trans (congrArg some (by kernel_rfl))
  f286 := Tryz.func110.trans (congrArg some (by kernel_rfl))
  f287 := Tryz.func104.trans (congrArg some (by kernel_rfl))
  f316 := Tryz.func105.trans (congrArg some (by kernel_rfl))
  f317 := Tryz.func113.trans (congrArg some (by kernel_rfl))
  f318 := Tryz.func115.trans (congrArg some (by kernel_rfl))
  f319 := Tryz.func116.trans (congrArg some (by kernel_rfl))
  f320 := Tryz.func117.trans (congrArg some (by kernel_rfl))
  f321 := Tryz.func111.trans (congrArg some (by kernel_rfl))
  f322 := Tryz.func112.trans (congrArg some (by kernel_rfl))
  f337 := Tryz.func118.trans (congrArg some (by kernel_rfl))
  f338 := Tryz.func119.trans (congrArg some (by kernel_rfl))
  t0 := Tryz.underlying0
  a0 := Tryz.isAgg0
  z0 := Tryz.sizeOf0
  v0 := Tryz.zeroValue0
  t2 := Tryz.underlying2
  a2 := Tryz.isAgg2
  z2 := Tryz.sizeOf2
  v2 := Tryz.zeroValue2
  t3 := Tryz.underlying3
  a3 := Tryz.isAgg3
  z3 := Tryz.sizeOf3
  v3 := Tryz.zeroValue3
  t4 := Tryz.underlying4
  a4 := Tryz.isAgg4
  z4 := Tryz.sizeOf4
  v4 := Tryz.zeroValue4
  t5 := Tryz.underlying5
  a5 := Tryz.isAgg5
  z5 := Tryz.sizeOf5
  v5 := Tryz.zeroValue5
  t9 := Tryz.underlying9
  a9 := Tryz.isAgg9
  z9 := Tryz.sizeOf9
  v9 := Tryz.zeroValue9
  t20 := Tryz.underlying20
  a20 := Tryz.isAgg20
  z20 := Tryz.sizeOf20
  v20 := Tryz.zeroValue20
  t21 := Tryz.underlying21
  a21 := Tryz.isAgg21
  z21 := Tryz.sizeOf21
  v21 := Tryz.zeroValue21
  t37 := Tryz.underlying62
  a37 := Tryz.isAgg62
  z37 := Tryz.sizeOf62
  v37 := Tryz.zeroValue62
  t46 := Tryz.underlying42
  a46 := Tryz.isAgg42
  z46 := Tryz.sizeOf42
  v46 := Tryz.zeroValue42
  t51 := Tryz.underlying98
  a51 := Tryz.isAgg98
  z51 := Tryz.sizeOf98
  v51 := Tryz.zeroValue98
  t53 := Tryz.underlying120
  a53 := Tryz.isAgg120
  z53 := Tryz.sizeOf120
  v53 := Tryz.zeroValue120
  t75 := Tryz.underlying109
  a75 := Tryz.isAgg109
  z75 := Tryz.sizeOf109
  v75 := Tryz.zeroValue109
  t76 := Tryz.underlying110
  a76 := Tryz.isAgg110
  z76 := Tryz.sizeOf110
  v76 := Tryz.zeroValue110
  t85 := Tryz.underlying114
  a85 := Tryz.isAgg114
  z85 := Tryz.sizeOf114
  v85 := Tryz.zeroValue114
  t127 := Tryz.underlying132
  a127 := Tryz.isAgg132
  z127 := Tryz.sizeOf132
  v127 := Tryz.zeroValue132
  t143 := Tryz.underlying133
  a143 := Tryz.isAgg133
  z143 := Tryz.sizeOf133
  v143 := Tryz.zeroValue133
  t145 := Tryz.underlying135
  a145 := Tryz.isAgg135
  z145 := Tryz.sizeOf135
  v145 := Tryz.zeroValue135
  t167 := Tryz.underlying113
  a167 := Tryz.isAgg113
  z167 := Tryz.sizeOf113
  v167 := Tryz.zeroValue113
  t168 := Tryz.underlying116
  a168 := Tryz.isAgg116
  z168 := Tryz.sizeOf116
  v168 := Tryz.zeroValue116
  t171 := Tryz.underlying126
  a171 := Tryz.isAgg126
  z171 := Tryz.sizeOf126
  v171 := Tryz.zeroValue126
  t173 := Tryz.underlying129
  a173 := Tryz.isAgg129
  z173 := Tryz.sizeOf129
  v173 := Tryz.zeroValue129
  t175 := Tryz.underlying121
  a175 := Tryz.isAgg121
  z175 := Tryz.sizeOf121
  v175 := Tryz.zeroValue121
  t210 := Tryz.underlying124
  a210 := Tryz.isAgg124
  z210 := Tryz.sizeOf124
  v210 := Tryz.zeroValue124
  t212 := Tryz.underlying137
  a212 := Tryz.isAgg137
  z212 := Tryz.sizeOf137
  v212 := Tryz.zeroValue137
  t213 := Tryz.underlying138
  a213 := Tryz.isAgg138
  z213 := Tryz.sizeOf138
  t232 := Tryz.underlying142
  a232 := Tryz.isAgg142
  z232 := Tryz.sizeOf142
  v232 := Tryz.zeroValue142
  t233 := Tryz.underlying143
  a233 := Tryz.isAgg143
  z233 := Tryz.sizeOf143
  v233 := Tryz.zeroValue143
  g15 := by kernel_rfl
  g16 := by kernel_rfl
  g17 := by kernel_rfl
  g18 := by kernel_rfl
  g19 := by kernel_rfl
  t80 := Tryz.underlying144
  a80 := Tryz.isAgg144
  z80 := Tryz.sizeOf144
  v80 := Tryz.zeroValue144
  i0 := by kernel_rfl
  i2 := by kernel_rfl
  i3 := by kernel_rfl
  i4 := by kernel_rfl
  i5 := by kernel_rfl
  i9 := by kernel_rfl
  i20 := by kernel_rfl
  i21 := by kernel_rfl
  i37 := by kernel_rfl
  i46 := by kernel_rfl
  i51 := by kernel_rfl
  i53 := by kernel_rfl
  i75 := by kernel_rfl
  i76 := by kernel_rfl
  i80 := by kernel_rfl
  i85 := by kernel_rfl
  i127 := by kernel_rfl
  i143 := by kernel_rfl
  i145 := by kernel_rfl
  i167 := by kernel_rfl
  i168 := by kernel_rfl
  i171 := by kernel_rfl
  i173 := by kernel_rfl
  i175 := by kernel_rfl
  i210 := by kernel_rfl
  i212 := by kernel_rfl
  i232 := by kernel_rfl
  i233 := by kernel_rfl
  m15 := by kernel_rfl
  m16 := by kernel_rfl
  m17 := by kernel_rfl
  m18 := by kernel_rfl
  m19 := by kernel_rfl
  c0 := by kernel_rfl
  c2 := by kernel_rfl
  c3 := by kernel_rfl
  c4 := by kernel_rfl
  c5 := by kernel_rfl
  c9 := by kernel_rfl
  c20 := by kernel_rfl
  c21 := by kernel_rfl
  c37 := by kernel_rfl
  c46 := by kernel_rfl
  c51 := by kernel_rfl
  c53 := by kernel_rfl
  c75 := by kernel_rfl
  c76 := by kernel_rfl
  c80 := by kernel_rfl
  c85 := by kernel_rfl
  c127 := by kernel_rfl
  c143 := by kernel_rfl
  c145 := by kernel_rfl
  c167 := by kernel_rfl
  c168 := by kernel_rfl
  c171 := by kernel_rfl
  c173 := by kernel_rfl
  c175 := by kernel_rfl
  c210 := by kernel_rfl
  c212 := by kernel_rfl
  c213 := by kernel_rfl
  c232 := by kernel_rfl
  c233 := by kernel_rfl }
open Go.RowKit in
theorem Tryz.strconv_Atoi_ok (s : ByteArray) (hmax : s.size ≤ 9223372036854775806) (v : Int) (h : Lib.atoiAll s.data.toList = .ok v) (w : World) :
    Calls Tryz.prog 93 #[.string s] w fun e w' => e = .returned (.tuple #[.int .i64 v, .nilIface]) ∧ (w' = w ∨ ∃ t, w' = Lib.bytesWorld w 5 t) := Any.strconv_Atoi_ok Tryz.laysC172 s hmax v h w
open Go.RowKit in
theorem Tryz.strconv_Atoi_syntax_var (s : ByteArray) (hlim : s.size ≤ 281474976710656) (h : Lib.atoiAll s.data.toList = Go.Lib.NumEnd.syntax) (tp : TypeId) (p : Value) (w : World) (hvar : w.var? Tryz.prog "strconv.ErrSyntax" = some #[.iface tp p]) :
    Calls Tryz.prog 93 #[.string s] w fun e w' => ∃ N, e = .returned (.tuple #[.int .i64 0, .iface 116 (.pointer (some ⟨N, 0, none⟩))]) ∧ w.heap.size ≤ N ∧ w'.heap[N]? = some (.cells #[.string ⟨#[65, 116, 111, 105]⟩, .string s, .iface tp p] 124 (0, 0)) ∧ Below w.heap.size w w' := Any.strconv_Atoi_syntax_var Tryz.laysC172 s hlim h tp p w hvar
open Go.RowKit in
theorem Tryz.strconv_Atoi_range_var (s : ByteArray) (hlim : s.size ≤ 281474976710656) (h : Lib.atoiAll s.data.toList = .range) (tp : TypeId) (p : Value) (w : World) (hvar : w.var? Tryz.prog "strconv.ErrRange" = some #[.iface tp p]) :
    Calls Tryz.prog 93 #[.string s] w fun e w' => ∃ N, e = .returned (.tuple #[.int .i64 (Lib.atoiSat s.data.toList), .iface 116 (.pointer (some ⟨N, 0, none⟩))]) ∧ w.heap.size ≤ N ∧ w'.heap[N]? = some (.cells #[.string ⟨#[65, 116, 111, 105]⟩, .string s, .iface tp p] 124 (0, 0)) ∧ Below w.heap.size w w' := Any.strconv_Atoi_range_var Tryz.laysC172 s hlim h tp p w hvar
def Tryz.lays145_ren : Go.Shelf.Ren := ⟨fun | 145 => 18 | 220 => 37 | 219 => 52 | 217 => 62 | 225 => 63 | 224 => 64 | 267 => 65 | 266 => 79 | 314 => 80 | n => n, fun | 9 => 9 | 4 => 4 | 59 => 48 | 3 => 3 | 5 => 5 | 46 => 42 | 146 => 99 | 51 => 98 | n => n, fun | 1 => 0 | n => n⟩
theorem Tryz.lays145 : Go.Proofs.Lays.n145 Tryz.prog Tryz.lays145_ren := {
  mixed := by kernel_rfl
  f145 := Tryz.func18.trans (congrArg some (by kernel_rfl))
  f217 := Tryz.func62.trans (congrArg some (by kernel_rfl))
  f219 := Tryz.func52.trans (congrArg some (by kernel_rfl))
  f220 := Tryz.func37.trans (congrArg some (by kernel_rfl))
  f224 := Tryz.func64.trans (congrArg some (by kernel_rfl))
  f225 := Tryz.func63.trans (congrArg some (by kernel_rfl))
  f266 := Tryz.func79.trans (congrArg some (by kernel_rfl))
  f267 := Tryz.func65.trans (congrArg some (by kernel_rfl))
  f314 := Tryz.func80.trans (congrArg some (by kernel_rfl))
  t3 := Tryz.underlying3
  a3 := Tryz.isAgg3
  z3 := Tryz.sizeOf3
  v3 := Tryz.zeroValue3
  t4 := Tryz.underlying4
  a4 := Tryz.isAgg4
  z4 := Tryz.sizeOf4
  v4 := Tryz.zeroValue4
  t5 := Tryz.underlying5
  a5 := Tryz.isAgg5
  z5 := Tryz.sizeOf5
  v5 := Tryz.zeroValue5
  t9 := Tryz.underlying9
  a9 := Tryz.isAgg9
  z9 := Tryz.sizeOf9
  v9 := Tryz.zeroValue9
  t46 := Tryz.underlying42
  a46 := Tryz.isAgg42
  z46 := Tryz.sizeOf42
  v46 := Tryz.zeroValue42
  t51 := Tryz.underlying98
  a51 := Tryz.isAgg98
  z51 := Tryz.sizeOf98
  v51 := Tryz.zeroValue98
  t59 := Tryz.underlying48
  a59 := Tryz.isAgg48
  z59 := Tryz.sizeOf48
  v59 := Tryz.zeroValue48
  t146 := Tryz.underlying99
  a146 := Tryz.isAgg99
  z146 := Tryz.sizeOf99
  v146 := Tryz.zeroValue99
  g1 := by kernel_rfl }
open Go.RowKit Go.Lib in
theorem Tryz.strings_Cut (s sep : ByteArray) (m : Int) (w : World) (hs : s.size < 4294967281) (hm : w.cell? ⟨0, 0, none⟩ = some (.int .i64 m)) :
    Calls Tryz.prog 18 #[.string s, .string sep] w fun e w' => e = .returned (.tuple #[.string ⟨(Lib.cut s.data.toList sep.data.toList).1.toArray⟩, .string ⟨(Lib.cut s.data.toList sep.data.toList).2.1.toArray⟩, .bool (Lib.cut s.data.toList sep.data.toList).2.2]) ∧ ∃ n, w' = w.drewN n := Any.strings_Cut Tryz.lays145 s sep m w hs hm
def Tryz.lays146_ren : Go.Shelf.Ren := ⟨fun | 146 => 21 | 221 => 39 | 268 => 53 | 138 => 54 | 143 => 55 | 195 => 66 | 197 => 67 | 218 => 68 | 219 => 52 | 260 => 81 | 217 => 62 | 225 => 63 | 224 => 64 | 267 => 65 | 266 => 79 | 314 => 80 | n => n, fun | 9 => 9 | 31 => 43 | 3 => 3 | 4 => 4 | 0 => 0 | 105 => 91 | 21 => 21 | 5 => 5 | 46 => 42 | 119 => 103 | 139 => 106 | 138 => 105 | 146 => 99 | 51 => 98 | n => n, fun | 1 => 0 | 3 => 1 | 4 => 2 | n => n⟩
theorem Tryz.lays146 : Go.Proofs.Lays.n146 Tryz.prog Tryz.lays146_ren := {
  mixed := by kernel_rfl
  f138 := Tryz.func54.trans (congrArg some (by kernel_rfl))
  f143 := Tryz.func55.trans (congrArg some (by kernel_rfl))
  f146 := Tryz.func21.trans (congrArg some (by kernel_rfl))
  f195 := Tryz.func66.trans (congrArg some (by kernel_rfl))
  f197 := Tryz.func67.trans (congrArg some (by kernel_rfl))
  f217 := Tryz.func62.trans (congrArg some (by kernel_rfl))
  f218 := Tryz.func68.trans (congrArg some (by kernel_rfl))
  f219 := Tryz.func52.trans (congrArg some (by kernel_rfl))
  f221 := Tryz.func39.trans (congrArg some (by kernel_rfl))
  f224 := Tryz.func64.trans (congrArg some (by kernel_rfl))
  f225 := Tryz.func63.trans (congrArg some (by kernel_rfl))
  f260 := Tryz.func81.trans (congrArg some (by kernel_rfl))
  f266 := Tryz.func79.trans (congrArg some (by kernel_rfl))
  f267 := Tryz.func65.trans (congrArg some (by kernel_rfl))
  f268 := Tryz.func53.trans (congrArg some (by kernel_rfl))
  f314 := Tryz.func80.trans (congrArg some (by kernel_rfl))
  t0 := Tryz.underlying0
  a0 := Tryz.isAgg0
  z0 := Tryz.sizeOf0
  v0 := Tryz.zeroValue0
  t3 := Tryz.underlying3
  a3 := Tryz.isAgg3
  z3 := Tryz.sizeOf3
  v3 := Tryz.zeroValue3
  t4 := Tryz.underlying4
  a4 := Tryz.isAgg4
  z4 := Tryz.sizeOf4
  v4 := Tryz.zeroValue4
  t5 := Tryz.underlying5
  a5 := Tryz.isAgg5
  z5 := Tryz.sizeOf5
  v5 := Tryz.zeroValue5
  t9 := Tryz.underlying9
  a9 := Tryz.isAgg9
  z9 := Tryz.sizeOf9
  v9 := Tryz.zeroValue9
  t21 := Tryz.underlying21
  a21 := Tryz.isAgg21
  z21 := Tryz.sizeOf21
  v21 := Tryz.zeroValue21
  t31 := Tryz.underlying43
  a31 := Tryz.isAgg43
  z31 := Tryz.sizeOf43
  v31 := Tryz.zeroValue43
  t46 := Tryz.underlying42
  a46 := Tryz.isAgg42
  z46 := Tryz.sizeOf42
  v46 := Tryz.zeroValue42
  t51 := Tryz.underlying98
  a51 := Tryz.isAgg98
  z51 := Tryz.sizeOf98
  v51 := Tryz.zeroValue98
  t105 := Tryz.underlying91
  a105 := Tryz.isAgg91
  z105 := Tryz.sizeOf91
  v105 := Tryz.zeroValue91
  t119 := Tryz.underlying103
  a119 := Tryz.isAgg103
  z119 := Tryz.sizeOf103
  t138 := Tryz.underlying105
  a138 := Tryz.isAgg105
  z138 := Tryz.sizeOf105
  v138 := Tryz.zeroValue105
  t139 := Tryz.underlying106
  a139 := Tryz.isAgg106
  z139 := Tryz.sizeOf106
  v139 := Tryz.zeroValue106
  t146 := Tryz.underlying99
  a146 := Tryz.isAgg99
  z146 := Tryz.sizeOf99
  v146 := Tryz.zeroValue99
  g1 := by kernel_rfl
  g3 := by kernel_rfl
  g4 := by kernel_rfl }
open Go.RowKit Go.Lib in
theorem Tryz.strings_Split (s sep : ByteArray) (m : Int) (w : World) (hs : s.size < 4294967281) (hm : w.cell? ⟨0, 0, none⟩ = some (.int .i64 m)) (h1 : 1 ≤ sep.size) :
    Calls Tryz.prog 21 #[.string s, .string sep] w fun e w' =>
      e = .returned (.slice (some ⟨w.heap.size, 0, none⟩) (Lib.countB s sep + 1) (Lib.countB s sep + 1)) ∧ w' = w.alloc (.cells ((Lib.splitB sep 0 (Lib.countB s sep) s).map Value.string).toArray 9) := Any.strings_Split Tryz.lays146 (by kernel_rfl) s sep m w hs hm h1
end Go.Proofs
end
section
namespace Go.Proofs.YthcdjgekmfnmnaaGreatDoor
open Go.Lib
theorem head_app {m l : List UInt8} (hm : m ≠ []) : (m ++ l).head? = m.head? := by
  cases m with
  | nil => exact absurd rfl hm
  | cons a m => rfl
theorem valL_snoc (l : List UInt8) (c : UInt8) : valL (l ++ [c]) = 10 * valL l + (c.toNat - 48) := by simp [valL]
theorem digitC_iff (c : UInt8) : digitC c = true ↔ 48 ≤ c.toNat ∧ c.toNat ≤ 57 := by
  have h1 : (48 : UInt8).toNat = 48 := rfl
  have h2 : (57 : UInt8).toNat = 57 := rfl
  simp [digitC, UInt8.le_iff_toNat_le, h1, h2]
theorem ofNat_digit (c : UInt8) (h : digitC c = true) : UInt8.ofNat (48 + (c.toNat - 48)) = c := by
  have := (digitC_iff c).1 h
  rw [show 48 + (c.toNat - 48) = c.toNat by omega]
  exact UInt8.ofNat_toNat
def numB (l : List UInt8) : Bool := l.all digitC && !l.isEmpty && !(decide (1 < l.length) && l.head? == some 48)
theorem numL_eq (most : Nat) (l : List UInt8) : numL most l = (numB l && decide (l.length ≤ most)) := by
  unfold numL numB
  cases l.all digitC <;> cases l.isEmpty <;> cases decide (l.length ≤ most) <;> simp
theorem numB_iff (l : List UInt8) : numB l = true ↔ (∀ c ∈ l, digitC c = true) ∧ l ≠ [] ∧ (1 < l.length → l.head? ≠ some 48) := by
  unfold numB
  simp only [Bool.and_eq_true, List.all_eq_true, Bool.not_eq_true', List.isEmpty_eq_false_iff, Bool.and_eq_false_imp, decide_eq_true_eq, beq_eq_false_iff_ne, and_assoc]
theorem valL_pos {l : List UInt8} (hd : ∀ c ∈ l, digitC c = true) (hn : l ≠ []) (h0 : l.head? ≠ some 48) : 1 ≤ valL l := by
  have key : ∀ (m : List UInt8) (a : Nat), 1 ≤ a → 1 ≤ m.foldl (fun n c => 10 * n + (c.toNat - 48)) a := by
    intro m
    induction m with
    | nil => intro a h; exact h
    | cons b m ih => intro a h; exact ih (10 * a + (b.toNat - 48)) (by omega)
  cases l with
  | nil => exact absurd rfl hn
  | cons c m =>
    have hc := (digitC_iff c).1 (hd c (by simp))
    have h48 : c.toNat ≠ 48 := fun e => h0 (by
      have : c = 48 := UInt8.toNat_inj.1 e
      simp [this])
    exact key m (10 * 0 + (c.toNat - 48)) (by omega)
theorem decDigits_valL : ∀ (k : Nat) (l : List UInt8), l.length = k → numB l = true → decDigits (valL l) = l := by
  intro k
  induction k with
  | zero =>
    intro l hl h
    obtain ⟨_, hn, _⟩ := (numB_iff l).1 h
    exact absurd (List.length_eq_zero_iff.1 hl) hn
  | succ k ih =>
    intro l hl h
    obtain ⟨hd, hn, h0⟩ := (numB_iff l).1 h
    obtain ⟨m, c, rfl⟩ : ∃ m c, l = m ++ [c] := ⟨l.dropLast, l.getLast hn, (List.dropLast_concat_getLast hn).symm⟩
    have hc : digitC c = true := hd c (by simp)
    have hcn := (digitC_iff c).1 hc
    rw [valL_snoc]
    by_cases hm : m = []
    · subst hm
      have e : (10 * valL [] + (c.toNat - 48)) = c.toNat - 48 := by simp [valL]
      rw [e, decDigits, dif_pos (by omega), ofNat_digit c hc]
      rfl
    · have hml : m.length = k := by simpa using hl
      have hh : m.head? ≠ some 48 := by
        have h1 := h0 (by
          have : 0 < m.length := List.length_pos_iff.2 hm
          simp; omega)
        rwa [head_app hm] at h1
      have hmB : numB m = true := (numB_iff m).2 ⟨fun x hx => hd x (by simp [hx]), hm, fun _ => hh⟩
      have hpos := valL_pos (fun x hx => hd x (by simp [hx])) hm hh
      rw [decDigits, dif_neg (by omega), show (10 * valL m + (c.toNat - 48)) / 10 = valL m by omega, show (10 * valL m + (c.toNat - 48)) % 10 = c.toNat - 48 by omega, ih m hml hmB, ofNat_digit c hc]
theorem numB_decDigits (u : Nat) : numB (decDigits u) = true ∧ valL (decDigits u) = u ∧ (1 ≤ u → (decDigits u).head? ≠ some 48) := by
  induction u using Nat.strongRecOn with
  | _ u ih =>
    by_cases h : u < 10
    · rw [decDigits, dif_pos h]
      have e : (UInt8.ofNat (48 + u)).toNat = 48 + u := by simp; omega
      refine ⟨?_, ?_, ?_⟩
      · rw [numB_iff]
        refine ⟨fun c hc => ?_, by simp, fun h1 => by simp at h1⟩
        rw [List.mem_singleton.1 hc, digitC_iff, e]
        omega
      · simp only [valL, List.foldl_cons, List.foldl_nil]
        rw [e]; omega
      · intro h1 h2
        simp only [List.head?_cons, Option.some.injEq] at h2
        have := congrArg UInt8.toNat h2
        rw [e] at this
        have h48 : (48 : UInt8).toNat = 48 := rfl
        omega
    · have hd : u / 10 < u := by omega
      obtain ⟨h1, h2, h3⟩ := ih (u / 10) hd
      obtain ⟨g1, g2, g3⟩ := (numB_iff _).1 h1
      have e : (UInt8.ofNat (48 + u % 10)).toNat = 48 + u % 10 := by simp; omega
      have hh := h3 (by omega)
      rw [decDigits, dif_neg h]
      refine ⟨?_, ?_, ?_⟩
      · rw [numB_iff]
        refine ⟨fun c hc => ?_, by simp, fun _ => ?_⟩
        · rcases List.mem_append.1 hc with hc | hc
          · exact g1 c hc
          · rw [List.mem_singleton.1 hc, digitC_iff, e]; omega
        · rwa [head_app g2]
      · rw [valL_snoc, h2, e]; omega
      · intro _
        rwa [head_app g2]
theorem parseUint10_digits : ∀ (l : List UInt8) (acc k : Nat), acc < 10 ^ k → l.length + k ≤ 18 → (∀ c ∈ l, digitC c = true) → parseUint10 acc l = .ok (l.foldl (fun n c => 10 * n + (c.toNat - 48)) acc)
  | [], acc, k, _, _, _ => rfl
  | c :: r, acc, k, ha, hl, hd => by
    have hc := (digitC_iff c).1 (hd c (by simp))
    have hk : 10 ^ k ≤ 10 ^ 17 := Nat.pow_le_pow_right (by omega) (by simp at hl; omega)
    have e17 : 10 ^ 17 = 100000000000000000 := by decide
    rw [parseUint10, if_pos hc, if_neg (by omega), if_neg (by omega), show acc * 10 + (c.toNat - 48) = 10 * acc + (c.toNat - 48) by omega]
    exact parseUint10_digits r _ (k + 1) (by rw [Nat.pow_succ]; omega) (by simp at hl; omega) (fun x hx => hd x (by simp [hx]))
theorem foldl_lt : ∀ (l : List UInt8) (acc k : Nat), acc < 10 ^ k → (∀ c ∈ l, digitC c = true) → l.foldl (fun n c => 10 * n + (c.toNat - 48)) acc < 10 ^ (k + l.length)
  | [], acc, k, ha, _ => by simpa using ha
  | c :: r, acc, k, ha, hd => by
    have hc := (digitC_iff c).1 (hd c (by simp))
    have := foldl_lt r (10 * acc + (c.toNat - 48)) (k + 1) (by rw [Nat.pow_succ]; omega) (fun x hx => hd x (by simp [hx]))
    simpa [Nat.add_assoc, Nat.add_comm 1] using this
theorem valL_lt {l : List UInt8} (hd : ∀ c ∈ l, digitC c = true) : valL l < 10 ^ l.length := by
  have := foldl_lt l 0 0 (by decide) hd
  simpa [valL] using this
theorem atoi_num {l : List UInt8} (h : numB l = true) (hl : l.length ≤ 18) : atoiAll l = .ok (valL l : Int) := by
  obtain ⟨hd, hn, _⟩ := (numB_iff l).1 h
  cases l with
  | nil => exact absurd rfl hn
  | cons c r =>
    have hc := (digitC_iff c).1 (hd c (by simp))
    have hp : parseMag (c :: r) = .ok (valL (c :: r)) := by
      unfold parseMag
      rw [if_neg (by simp), parseUint10_digits (c :: r) 0 0 (by decide) (by omega) hd]
      rfl
    have hlt : valL (c :: r) < 10 ^ 18 := Nat.lt_of_lt_of_le (valL_lt hd) (Nat.pow_le_pow_right (by omega) hl)
    have e18 : 10 ^ 18 = 1000000000000000000 := by decide
    rw [atoiAll_plain c r (by omega) (by omega), hp]
    unfold signless
    simp only
    rw [if_neg (by omega)]
theorem itoa_num {l : List UInt8} (h : numB l = true) : itoa (valL l : Int) = l := by
  unfold itoa
  rw [if_neg (by omega)]
  exact decDigits_valL l.length l rfl h
theorem num_of_itoa {l : List UInt8} {v : Int} (h0 : 0 ≤ v) (h : itoa v = l) : numB l = true ∧ v = valL l := by
  unfold itoa at h
  rw [if_neg (by omega)] at h
  obtain ⟨h1, h2, _⟩ := numB_decDigits v.toNat
  rw [h] at h1 h2
  exact ⟨h1, by omega⟩
end Go.Proofs.YthcdjgekmfnmnaaGreatDoor
end
section
namespace Go.Proofs.YthcdjgekmfnmnaaGreatDoor
open Go.RowKit Go.Proofs.YthcdjgekmfnmnaaGreatDoorW.PrintWords Go.Proofs.YthcdjgekmfnmnaaGreatDoorW.PrintLast Go.Proofs.YthcdjgekmfnmnaaGreatDoorW.PrintMore
def firstAt {α : Type} (p : α → Bool) (l : List α) : Int := match l.findIdx? p with
  | none => -1
  | some i => (i : Int)
theorem firstAt_hit {α : Type} {p : α → Bool} {l : List α} {k : Nat} (hk : k < l.length) (h : p l[k] = true) (hb : ∀ j (hj : j < k), p (l[j]'(by omega)) = false) : firstAt p l = (k : Int) := by
  have : l.findIdx? p = some k := by
    rw [List.findIdx?_eq_some_iff_getElem]
    exact ⟨hk, h, fun j hj => by rw [hb j hj]; decide⟩
  simp [firstAt, this]
theorem firstAt_none {α : Type} {p : α → Bool} {l : List α} (h : ∀ j (hj : j < l.length), p l[j] = false) : firstAt p l = -1 := by
  have : l.findIdx? p = none := by
    rw [List.findIdx?_eq_none_iff]
    intro x hx
    obtain ⟨i, hi, rfl⟩ := List.mem_iff_getElem.1 hx
    exact h i hi
  simp [firstAt, this]
theorem firstAt_any {α : Type} (p : α → Bool) (l : List α) : decide (0 ≤ firstAt p l) = l.any p := by
  unfold firstAt
  cases h : l.findIdx? p with
  | none =>
    have : l.any p = false := by
      rw [List.findIdx?_eq_none_iff] at h
      simpa using h
    rw [this]; rfl
  | some i =>
    have : l.any p = true := by
      rw [List.findIdx?_eq_some_iff_getElem] at h
      obtain ⟨hi, hp, _⟩ := h
      exact List.any_eq_true.2 ⟨_, List.getElem_mem hi, hp⟩
    simp [this]
theorem rdOf_get {l : List ByteArray} {k : Nat} (hk : k < l.length) : rdOf ByteArray.empty l (k : Int) = l[k] := by
  simp [rdOf, List.getD_eq_getElem?_getD, List.getElem?_eq_getElem hk]
set_option maxHeartbeats 2000000 in
theorem indexFunc_strs (g : Nat) (lb : Array Value) (eg : ∀ args w, (callFunc g args).run Tryz.prog w = .ok (.enter g args) w) (p : ByteArray → Bool) (w : World) (A : Option Addr) (c : Nat) (l : List ByteArray)
    (hr : Kd.C Kd.string w A l.length l) (hl : l.length < 4611686018427387904)
    (hp : ∀ W x, x ∈ l → Below w.heap.size w W → Calls Tryz.prog g (#[.string x] ++ lb) W fun e w' => e = .returned (.bool (p x)) ∧ Below w.heap.size w w') :
    Calls Tryz.prog 87 #[.slice A l.length c, .func (.func g) #[] lb] w fun e w' => e = .returned (.int .i64 (firstAt p l)) ∧ Below w.heap.size w w' := by
  have HR := Aside0.mk hr
  have HP := Aside0.mk hp
  clear hr hp
  go_enter Tryz.func87, Tryz.ntmps87
  go_wp2
  go_loopg [5, 8] l.length (fun gg _ s8 wr => ∃ kk : Nat, kk ≤ l.length ∧ l.length - kk ≤ gg ∧ s8 = .int .i64 kk ∧ Aside0 (Below w.heap.size w wr) ∧ Aside0 (∀ j (hj : j < kk) (hl : j < l.length), p l[j] = false))
  case atStart => exact ⟨0, Nat.zero_le _, by omega, rfl, ⟨Below.refl _ w⟩, ⟨fun j hj => absurd hj (Nat.not_lt_zero _)⟩⟩
  case round =>
    obtain ⟨kk, hkk, hg, rfl, BW, A1⟩ := hrel
    by_cases hlt : kk < l.length
    · have hltz : (kk : Int) < (l.length : Int) := by omega
      obtain ⟨ad, ea, hx⟩ := Kd.at_string (Kd.C_below HR.out BW.out) (kk : Int) (by omega) hltz
      cases ea
      rw [rdOf_get hlt, Int.toNat_natCast] at hx
      have hcall := HP.out wr l[kk] (List.getElem_mem hlt) BW.out
      have HX := Aside0.mk (rfl : l[kk] = l[kk])
      revert HX
      generalize hy : l[kk] = y at hx hcall
      intro HX
      have HY := Aside0.mk hy
      clear hy HX
      cases hq : p y with
      | true =>
        rw [hq] at hcall
        go_wp2_with (go_at_fn g; refine hcall.mono ?_; rintro e w' ⟨rfl, hb'⟩)
        go_ret
        refine ⟨?_, hb'⟩
        rw [firstAt_hit hlt (by rw [HY.out]; exact hq) (fun j hj => A1.out j hj (by omega))]
        rfl
      | false =>
        rw [hq] at hcall
        go_wp2_with (go_at_fn g; refine hcall.mono ?_; rintro e w' ⟨rfl, hb'⟩)
        go_roundg (l.length - (kk + 1))
        case measure => omega
        case rel =>
          refine ⟨kk + 1, by omega, by omega, by go_num, ⟨hb'⟩, ⟨fun j hj hjl => ?_⟩⟩
          by_cases e : j = kk
          · subst e
            rw [HY.out]; exact hq
          · exact A1.out j (by omega) hjl
    · have hltz : ¬ (kk : Int) < (l.length : Int) := by omega
      have HK := Aside0.mk (show kk = l.length by omega)
      go_wp2
      go_ret
      refine ⟨?_, BW.out⟩
      rw [firstAt_none (fun j hj => A1.out j (by rw [HK.out]; exact hj) hj)]
      rfl
set_option maxHeartbeats 2000000 in
theorem containsFunc_strs (g : Nat) (lb : Array Value) (eg : ∀ args w, (callFunc g args).run Tryz.prog w = .ok (.enter g args) w) (p : ByteArray → Bool) (w : World) (A : Option Addr) (c : Nat) (l : List ByteArray)
    (hr : Kd.C Kd.string w A l.length l) (hl : l.length < 4611686018427387904)
    (hp : ∀ W x, x ∈ l → Below w.heap.size w W → Calls Tryz.prog g (#[.string x] ++ lb) W fun e w' => e = .returned (.bool (p x)) ∧ Below w.heap.size w w') :
    Calls Tryz.prog 82 #[.slice A l.length c, .func (.func g) #[] lb] w fun e w' => e = .returned (.bool (l.any p)) ∧ Below w.heap.size w w' := by
  have HC := Aside0.mk (indexFunc_strs g lb eg p w A c l hr hl hp)
  have HA := Aside0.mk (firstAt_any p l)
  clear hr hp eg
  generalize firstAt p l = r at HC HA
  have HC2 := HC.out
  go_enter Tryz.func82, Tryz.ntmps82
  go_wp2_with (go_at_call 87; refine HC2.mono ?_; rintro e w' ⟨rfl, hb'⟩)
  go_ret
  refine ⟨?_, hb'⟩
  rw [← HA.out]
  rfl
end Go.Proofs.YthcdjgekmfnmnaaGreatDoor
end
section
namespace Go.Proofs.YthcdjgekmfnmnaaGreatDoorW.PrintLast
open Go.RowKit Go.Proofs.YthcdjgekmfnmnaaGreatDoorW.PrintWords
theorem sB {n : Nat} {w W W' : World} (h : Below n w W) (k : Below n w W → Below n w W' := by intro h; repeat (first | (with_reducible first | exact h | apply below_alloc | apply pw_below_drewN | apply below_drew1 | refine below_set ?_ (Aside0.out (by assumption))) | exact h)) : Below n w W' := k h
theorem sK {W W' : World} {g : Nat} {o : Obj} (h : W.heap[g]? = some o) (k : W.heap[g]? = some o → W'.heap[g]? = some o := by intro h; (with_reducible repeat (first | refine blk_drewN ?_ _ | refine blk_drew ?_ | refine blk_alloc ?_ _)); exact h) : W'.heap[g]? = some o := k h
theorem sM {α : Sort _} {a b : α} (k : a = b := by (try simp only [List.map_toArray, List.map_cons, List.map_nil]); first | done | rfl | (simp only [List.length_drop, List.length_take]; rfl)) : a = b := k
theorem sA {p : Prop} (k : p := by first | (with_reducible assumption) | assumption) : p := k
theorem sC {W : World} {g : Nat} {cs : Array Value} {T : TypeId} (h : W.heap[g]? = some (.cells cs T (0, 0))) (j : Nat) {v : Value} (e : cs[j]? = some v := by rfl) : W.cell? ⟨g, j, none⟩ = some v := (blk_cell h j).trans e
theorem sR {α : Type} {d : Kd α} {e : TypeId} {base : Nat} {W W' : World} {ok : Nat → Prop} {v : Value} {xs : List α} (h : Kd.R d e W base ok v xs) (k : Kd.R d e W base ok v xs → Kd.R d e W' base ok v xs := by intro h; (with_reducible repeat (first | apply Kd.R_alloc | apply Kd.R_drewN | apply Kd.R_drew)); exact h) : Kd.R d e W' base ok v xs := k h
end Go.Proofs.YthcdjgekmfnmnaaGreatDoorW.PrintLast
end
