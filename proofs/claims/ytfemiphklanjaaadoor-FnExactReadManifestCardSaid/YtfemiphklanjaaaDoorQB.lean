/- Words of the claim's own: rows just made, and function values that are handed on. -/
import Derived.Test.YtfemiphklanjaaaDoorProg
import Derived.Test.YtfemiphklanjaaaDoorWWords
import Derived.Test.YtfemiphklanjaaaDoorWLast
import Derived.Test.YtfemiphklanjaaaDoorWTab
import Derived.Test.YtfemiphklanjaaaDoorWFour
import Derived.Test.YtfemiphklanjaaaDoorWQPut
import Derived.Test.YtfemiphklanjaaaDoorWApart
import Derived.Test.YtfemiphklanjaaaDoorWArr
import Derived.Test.YtfemiphklanjaaaDoorWZeros
import Derived.Test.YtfemiphklanjaaaDoorWFoot
import Derived.Test.YtfemiphklanjaaaDoorWKept
import Derived.Test.YtfemiphklanjaaaDoorWShare
import Derived.Test.YtfemiphklanjaaaDoorWN
import Derived.Test.YtfemiphklanjaaaDoorWFootNe
import Derived.Test.YtfemiphklanjaaaDoorWAt
import Derived.Test.YtfemiphklanjaaaDoorWEqStruct
import Derived.Test.YtfemiphklanjaaaDoorWRepsOne
import Derived.Test.YtfemiphklanjaaaDoorWInv
import Derived.Test.YtfemiphklanjaaaDoorWInvWords
import Derived.Test.YtfemiphklanjaaaDoorWGuard
import Derived.Test.YtfemiphklanjaaaDoorWNEv
import Derived.Test.YtfemiphklanjaaaDoorWMore
import Derived.Lib.AppendIntMem
import Derived.Shelf.Abstract
import Derived.Shelf.Strings.Split
namespace Go.Proofs.YtfemiphklanjaaaDoor.Q
open Go.RowKit Go.Proofs.YtfemiphklanjaaaDoorW.PrintWords Go.Proofs.YtfemiphklanjaaaDoorW.PrintLast Go.Proofs.YtfemiphklanjaaaDoorW.PrintMore
set_option linter.unusedVariables false
set_option linter.unusedSimpArgs false
/-! Words of this claim's own: rows just made, function values that are handed on. -/
theorem R_lit_alloc {α : Type} (d : Kd α) (e : Nat) (w : World) (xs : List α) (inner : List Value) (hm : xs.length ≤ 9223372036854775807)
    (hr : Reps (d.M (w.alloc (.cells inner.toArray e)) w.heap.size (fun k => True ∧ some k ≠ (Value.slice (some ⟨w.heap.size, 0, none⟩) xs.length xs.length).ownBlock)) d.sz xs inner) :
    d.R e (w.alloc (.cells inner.toArray e)) w.heap.size (fun _ => True) (.slice (some ⟨w.heap.size, 0, none⟩) xs.length xs.length) xs :=
  ⟨fun _ _ => trivial, OwnRow.lit w w.heap.size hr (Nat.le_refl _) hm⟩
theorem reps_scalar {α : Type} (enc : α → Value) (xs : List α) (R : α → List Value → Prop) (hR : ∀ x, R x [enc x]) : Reps R 1 xs (xs.map enc) := by
  refine ⟨by simp, fun j p hj => ?_⟩
  obtain ⟨hl, rfl⟩ := List.getElem?_eq_some_iff.1 hj
  rw [Nat.mul_one, List.drop_eq_getElem_cons (by simpa using hl)]
  simpa using hR _
theorem R_strs_alloc (e : Nat) (w : World) (xs : List ByteArray) (hm : xs.length ≤ 9223372036854775807) :
    Kd.string.R e (w.alloc (.cells (xs.map Value.string).toArray e)) w.heap.size (fun _ => True) (.slice (some ⟨w.heap.size, 0, none⟩) xs.length xs.length) xs :=
  R_lit_alloc Kd.string e w xs _ hm (reps_scalar Value.string xs _ (fun _ => rfl))
/-- A predicate handed on as a function value: g, what it has captured. -/
def PredK {α : Type} (P : Program) (g : Nat) (lb : Array Value) (d : Kd α) (arg : List Value → Value) (p : α → Bool) (l : List α) (w : World) : Prop :=
  ∀ (W : World) (x : α) (c : List Value), x ∈ l → Below w.heap.size w W → d.K W x c → Calls P g (#[arg c] ++ lb) W fun e w' => e = .returned (.bool (p x)) ∧ Below W.heap.size W w'
theorem PredK.later {α : Type} {P : Program} {g : Nat} {lb : Array Value} {d : Kd α} {arg : List Value → Value} {p : α → Bool} {l : List α} {w w1 : World} (h : PredK P g lb d arg p l w) (hb : Below w.heap.size w w1) : PredK P g lb d arg p l w1 :=
  fun W x c hm h1 hk => h W x c hm (hb.trans (h1.mono hb.size)) hk
/-- The first place at which p holds, or -1. -/
def idxOf {α : Type} (p : α → Bool) : List α → Int
  | [] => -1
  | x :: r => if p x = true then 0 else if idxOf p r = -1 then -1 else idxOf p r + 1
theorem idxOf_ge {α : Type} (p : α → Bool) (l : List α) : -1 ≤ idxOf p l ∧ idxOf p l < l.length := by
  induction l with
  | nil => simp [idxOf]
  | cons x r ih =>
    simp only [idxOf, List.length_cons]
    split
    · omega
    · split <;> omega
theorem idxOf_neg {α : Type} (p : α → Bool) (l : List α) : idxOf p l = -1 ↔ ∀ x ∈ l, p x = false := by
  induction l with
  | nil => simp [idxOf]
  | cons x r ih =>
    have := idxOf_ge p r
    simp only [idxOf, List.mem_cons, forall_eq_or_imp]
    by_cases h : p x = true
    · simp [h]
    · rw [if_neg h]
      by_cases h2 : idxOf p r = -1
      · rw [if_pos h2]; simp only [true_iff]; exact ⟨by simpa using h, ih.1 h2⟩
      · rw [if_neg h2]; constructor
        · omega
        · intro ⟨_, h3⟩; exact absurd (ih.2 h3) h2
theorem idxOf_append {α : Type} (p : α → Bool) (l r : List α) (h : ∀ x ∈ l, p x = false) : idxOf p (l ++ r) = if idxOf p r = -1 then -1 else idxOf p r + l.length := by
  induction l with
  | nil => simp only [List.nil_append, List.length_nil]; have := idxOf_ge p r; split <;> omega
  | cons x t ih =>
    have hx := h x (by simp)
    have ih := ih (fun y hy => h y (by simp [hy]))
    simp only [List.cons_append, idxOf, hx, List.length_cons]
    have := idxOf_ge p r
    rw [if_neg (by simp), ih]
    split <;> simp_all <;> omega
theorem idxOf_hit {α : Type} (p : α → Bool) (l : List α) (k : Nat) (x : α) (hx : l[k]? = some x) (h : p x = true) (hb : ∀ y ∈ l.take k, p y = false) : idxOf p l = k := by
  obtain ⟨hk, rfl⟩ := List.getElem?_eq_some_iff.1 hx
  rw [← List.take_append_drop k l, idxOf_append p _ _ hb, List.drop_eq_getElem_cons hk]
  simp [idxOf, h]; omega
theorem idxOf_any {α : Type} (p : α → Bool) (l : List α) : decide (0 ≤ idxOf p l) = l.any p := by
  have := idxOf_ge p l
  by_cases h : idxOf p l = -1
  · have h2 := (idxOf_neg p l).1 h
    rw [h, List.any_eq_false.2 (by simpa using h2)]; rfl
  · have h2 : ¬ ∀ x ∈ l, p x = false := fun e => h ((idxOf_neg p l).2 e)
    rw [decide_eq_true (by omega)]
    symm; rw [List.any_eq_true]
    simpa using h2
theorem take_snoc_all {α : Type} {p : α → Bool} {l : List α} {k : Nat} {x : α} (hx : l[k]? = some x) (h : p x = false) (hb : ∀ y ∈ l.take k, p y = false) : ∀ y ∈ l.take (k + 1), p y = false := by
  intro y hy
  rw [List.take_add_one, hx] at hy
  rcases List.mem_append.1 hy with hy | hy
  · exact hb y hy
  · simp at hy; subst hy; exact h
theorem not_any_not {α : Type} (p : α → Bool) (l : List α) : (!(l.any fun x => !p x)) = l.all p := by
  rw [List.all_eq_not_any_not]
/-! A text cut at a byte. -/
def splitL (c : UInt8) : List UInt8 → List (List UInt8)
  | [] => [[]]
  | b :: r => if b = c then [] :: splitL c r else match splitL c r with
    | [] => [[b]]
    | h :: t => (b :: h) :: t
theorem splitL_ne (c : UInt8) (l : List UInt8) : splitL c l ≠ [] := by
  cases l with
  | nil => simp [splitL]
  | cons b r =>
    unfold splitL
    split
    · simp
    · split <;> simp
theorem splitL_cons' (c b : UInt8) (l h : List UInt8) (t : List (List UInt8)) (hb : b ≠ c) (e : splitL c l = h :: t) : splitL c (b :: l) = (b :: h) :: t := by
  rw [splitL, if_neg hb, e]
theorem splitL_some (c : UInt8) (l : List UInt8) : ∃ h t, splitL c l = h :: t := by
  cases e : splitL c l with
  | nil => exact absurd e (splitL_ne c l)
  | cons h t => exact ⟨h, t, rfl⟩
theorem index_cons_ne (b c : UInt8) (l : List UInt8) (h : b ≠ c) : Lib.index (b :: l) [c] = if Lib.index l [c] == -1 then -1 else Lib.index l [c] + 1 := by
  rw [Lib.index]; simp [List.isPrefixOf, Ne.symm h]
theorem index_cons_eq (c : UInt8) (l : List UInt8) : Lib.index (c :: l) [c] = 0 := by
  rw [Lib.index]; simp [List.isPrefixOf]
theorem index_none (c : UInt8) (l : List UInt8) (h : Lib.index l [c] = -1) : l.count c = 0 := by
  have := Lib.count_miss (s := l) (sub := [c]) h
  rw [Lib.count_one] at this
  exact this
theorem splitK_eq (c : UInt8) (l : List UInt8) : Lib.splitK [c] 0 (l.count c) l = splitL c l := by
  induction l with
  | nil => rfl
  | cons b r ih =>
    by_cases h : b = c
    · subst h
      rw [List.count_cons_self, Lib.splitK, index_cons_eq]
      simp [splitL, ih]
    · obtain ⟨hh, tt, he⟩ := splitL_some c r
      rw [List.count_cons_of_ne (by simpa using h), splitL_cons' c b r hh tt h he]
      rw [he] at ih
      cases hk : r.count c with
      | zero =>
        rw [hk] at ih
        simp only [Lib.splitK, List.cons.injEq] at ih ⊢
        obtain ⟨rfl, rfl⟩ := ih
        simp
      | succ k =>
        rw [hk] at ih
        have hi : Lib.index r [c] ≠ -1 := fun e => by have := index_none c r e; omega
        have hge := Lib.index_ge r [c]
        obtain ⟨j, hj⟩ : ∃ j : Nat, Lib.index r [c] = j := ⟨(Lib.index r [c]).toNat, by omega⟩
        have e1 : ((j : Int) == -1) = false := beq_eq_false_iff_ne.2 (by omega)
        have e2 : ((j : Int) + 1 == -1) = false := beq_eq_false_iff_ne.2 (by omega)
        have e3 : ((j : Int) + 1).toNat = j + 1 := by omega
        rw [Lib.splitK, hj] at ih
        rw [Lib.splitK, index_cons_ne b c r h, hj]
        simp [e1, e2, e3] at ih ⊢
        exact ih
def ofL (l : List UInt8) : ByteArray := ⟨l.toArray⟩
theorem ofL_data (s : ByteArray) : ofL s.data.toList = s := by simp [ofL]
theorem data_ofL (l : List UInt8) : (ofL l).data.toList = l := by simp [ofL]
/-- A text cut at a byte. -/
def cutAt (c : UInt8) (s : ByteArray) : List ByteArray := (splitL c s.data.toList).map ofL
theorem splitB_one (c : UInt8) (s : ByteArray) : Lib.splitB ⟨#[c]⟩ 0 (Lib.countB s ⟨#[c]⟩) s = cutAt c s := by
  have h1 := Lib.splitB_data ⟨#[c]⟩ 0 (Lib.countB s ⟨#[c]⟩) s
  have h2 : Lib.countB s ⟨#[c]⟩ = s.data.toList.count c := Lib.count_one c _
  have h3 : (⟨#[c]⟩ : ByteArray).data.toList = [c] := rfl
  rw [h3, h2, splitK_eq] at h1
  rw [h2, cutAt, ← h1, List.map_map]
  have : (ofL ∘ fun x : ByteArray => x.data.toList) = id := by funext x; exact ofL_data x
  rw [this, List.map_id]
theorem cutAt_ne (c : UInt8) (s : ByteArray) : cutAt c s ≠ [] := by simp [cutAt, splitL_ne]
theorem splitL_length (c : UInt8) (l : List UInt8) : (splitL c l).length ≤ l.length + 1 := by
  induction l with
  | nil => simp [splitL]
  | cons b r ih =>
    by_cases h : b = c
    · simp only [splitL, if_pos h, List.length_cons]; omega
    · obtain ⟨hh, tt, he⟩ := splitL_some c r
      rw [he] at ih
      rw [splitL_cons' c b r hh tt h he]
      simp only [List.length_cons] at ih ⊢; omega
theorem cutAt_length (c : UInt8) (s : ByteArray) : (cutAt c s).length ≤ s.size + 1 := by
  have := splitL_length c s.data.toList
  simpa [cutAt] using this
/-! Bytes of a text. -/
theorem wrap64_of {x : Int} (h0 : -9223372036854775808 ≤ x) (h1 : x ≤ 9223372036854775807) : wrap64 x = x := by unfold wrap64; omega
theorem bt_nat (s : ByteArray) (i : Nat) (h : i < s.size) : bt s (i : Int) = ((s.data.toList[i]'(by simpa using h)).toNat : Int) := by
  unfold bt
  rw [dif_pos (by simpa using h)]
  simp [ByteArray.getElem_eq_getElem_data]
theorem size_data (s : ByteArray) : s.data.toList.length = s.size := by simp
theorem splitL_mem (c : UInt8) (l : List UInt8) : ∀ x ∈ splitL c l, x.length ≤ l.length := by
  induction l with
  | nil => simp [splitL]
  | cons b r ih =>
    intro x hx
    by_cases h : b = c
    · rw [splitL, if_pos h] at hx
      rcases List.mem_cons.1 hx with rfl | hx
      · simp
      · have := ih x hx; simp only [List.length_cons]; omega
    · obtain ⟨hh, tt, he⟩ := splitL_some c r
      rw [splitL_cons' c b r hh tt h he] at hx
      rw [he] at ih
      rcases List.mem_cons.1 hx with rfl | hx
      · have := ih hh (by simp); simp only [List.length_cons]; omega
      · have := ih x (by simp [hx]); simp only [List.length_cons]; omega
theorem cutAt_mem (c : UInt8) (s x : ByteArray) (h : x ∈ cutAt c s) : x.size ≤ s.size := by
  obtain ⟨l, hl, rfl⟩ := List.mem_map.1 h
  have := splitL_mem c _ l hl
  rw [← size_data (ofL l), data_ofL, ← size_data s]; exact this
/-! The table that numbers' texts are written by. -/
def TabW (w : World) : Prop := Lib.TabIs Tryd.prog w "internal/strconv.uint64pow10" .u64 Lib.pow10Tab
theorem TabW.later {w W : World} (h : TabW w) (hb : Below w.heap.size w W) : TabW W := Lib.tabBelow_of_tabIs h _ hb

end Go.Proofs.YtfemiphklanjaaaDoor.Q
