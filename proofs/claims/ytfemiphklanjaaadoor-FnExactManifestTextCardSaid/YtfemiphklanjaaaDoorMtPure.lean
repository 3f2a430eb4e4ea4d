/- The plain law of FnExactManifestText: what the printed functions compute answers as the statement says. -/
import Derived.Test.YtfemiphklanjaaaDoorM
namespace Go.Proofs.YtfemiphklanjaaaDoor.Q
open Go.RowKit Go.Proofs.YtfemiphklanjaaaDoorW.PrintWords Go.Proofs.YtfemiphklanjaaaDoorW.PrintLast Go.Proofs.YtfemiphklanjaaaDoorW.PrintMore
set_option linter.unusedVariables false
set_option linter.unusedSimpArgs false
-- PURE ManifestText
/-! ### plain words -/
theorem rd_nat {α : Type} (d : α) (l : List α) (i : Nat) (h : i < l.length) : rdOf d l (i : Int) = l[i] := by
  unfold rdOf; rw [Int.toNat_natCast, List.getD_eq_getElem?_getD, List.getElem?_eq_getElem h]; rfl
/-- What a row of texts counts. -/
def weigh : List ByteArray → Nat
  | [] => 0
  | x :: r => x.size + weigh r
theorem sz_l0 (l : List ByteArray) (hl : l.length ≤ 9223372036854775807) (hx : ∀ x ∈ l, x.size ≤ 9223372036854775807) (d : Nat) : ∀ (i k : Nat) (a : Int), i ≤ l.length → l.length - i = d → d < k → 0 ≤ a → a ≤ 1152921504606846976 →
    ∃ t, laws_szStringS.l0 k l a (i : Int) = some t ∧ (0 ≤ t → (weigh (l.drop i) : Int) ≤ a) := by
  induction d with
  | zero =>
    intro i k a hi hd hk h0 h1
    obtain ⟨k, rfl⟩ : ∃ m, k = m + 1 := ⟨k - 1, by omega⟩
    refine ⟨a, ?_, ?_⟩
    · simp only [laws_szStringS.l0]; rw [if_neg (by omega)]
    · intro _; rw [List.drop_of_length_le (by omega)]; simpa [weigh] using h0
  | succ d ih =>
    intro i k a hi hd hk h0 h1
    obtain ⟨k, rfl⟩ : ∃ m, k = m + 1 := ⟨k - 1, by omega⟩
    have hlt : i < l.length := by omega
    have hz := hx l[i] (List.getElem_mem hlt)
    simp only [laws_szStringS.l0]
    rw [if_pos (by omega), if_pos (by omega), rd_nat _ l i hlt, wrap64_of (by omega) (by omega), wrap64_of (by omega) (by omega), List.drop_eq_getElem_cons hlt]
    by_cases hn : a - (l[i].size : Int) < 0
    · exact ⟨-1, by rw [if_pos hn], by omega⟩
    · obtain ⟨t, ht, hw⟩ := ih (i + 1) k (a - l[i].size) (by omega) (by omega) (by omega) (by omega) (by omega)
      refine ⟨t, ?_, ?_⟩
      · rw [if_neg hn, show ((i : Int) + 1) = ((i + 1 : Nat) : Int) by omega, ht]
      · intro h; have := hw h; simp only [weigh]; omega
theorem sz_f (l : List ByteArray) (hl : l.length ≤ 9223372036854775807) (hx : ∀ x ∈ l, x.size ≤ 9223372036854775807) (a : Int) (h0 : 0 ≤ a) (h1 : a ≤ 1152921504606846976) (k : Nat) (hk : l.length < k) :
    ∃ t, laws_szStringS.f k l a = some t ∧ (0 ≤ t → (l.length : Int) + weigh l ≤ a) := by
  unfold laws_szStringS.f
  rw [wrap64_of (by omega) (by omega)]
  by_cases hn : a - (l.length : Int) < 0
  · exact ⟨-1, by rw [if_pos hn], by omega⟩
  · obtain ⟨t, ht, hw⟩ := sz_l0 l hl hx l.length 0 k (a - l.length) (by omega) (by omega) (by omega) (by omega) (by omega)
    exact ⟨t, by rw [if_neg hn]; exact ht, fun h => by have := hw h; rw [List.drop_zero] at this; omega⟩
theorem weigh_mem (l : List ByteArray) (x : ByteArray) (h : x ∈ l) : x.size ≤ weigh l := by
  induction l with
  | nil => cases h
  | cons y r ih =>
    simp only [weigh]
    rcases List.mem_cons.1 h with rfl | h
    · omega
    · have := ih h; omega
theorem to_l0 (l : List ByteArray) (hl : l.length ≤ 1152921504606846976) (d : Nat) : ∀ (i k : Nat), i ≤ l.length → l.length - i = d → d < k →
    laws_toStringS.l0 k l (l.take i ++ List.replicate (l.length - i) (⟨#[]⟩ : ByteArray)) (i : Int) = some l := by
  induction d with
  | zero =>
    intro i k hi hd hk
    obtain ⟨k, rfl⟩ : ∃ m, k = m + 1 := ⟨k - 1, by omega⟩
    have e : i = l.length := by omega
    subst e
    simp only [laws_toStringS.l0]; rw [if_neg (by omega)]; simp
  | succ d ih =>
    intro i k hi hd hk
    obtain ⟨k, rfl⟩ : ∃ m, k = m + 1 := ⟨k - 1, by omega⟩
    have hlt : i < l.length := by omega
    have ih := ih (i + 1) k (by omega) (by omega) (by omega)
    have hlen : (l.take i ++ List.replicate (l.length - i) (⟨#[]⟩ : ByteArray)).length = l.length := by simp; omega
    simp only [laws_toStringS.l0]
    rw [if_pos (by omega), if_pos (by omega), if_pos (by rw [hlen]; omega), rd_nat _ l i hlt, wrap64_of (by omega) (by omega), Int.toNat_natCast]
    rw [show ((i : Int) + 1) = ((i + 1 : Nat) : Int) by omega]
    have e1 : (l.take i ++ List.replicate (l.length - i) (⟨#[]⟩ : ByteArray)).set i l[i] = l.take (i + 1) ++ List.replicate (l.length - (i + 1)) (⟨#[]⟩ : ByteArray) := by
      rw [show l.length - i = (l.length - (i + 1)) + 1 by omega, List.replicate_succ, List.set_append_right _ _ (by simp; omega)]
      have : i - (l.take i).length = 0 := by simp; omega
      rw [this, List.set_cons_zero, List.take_succ_eq_append_getElem hlt, List.append_assoc]
      rfl
    rw [e1, ih]
theorem to_f (l : List ByteArray) (hl : l.length ≤ 17592186044416) (k : Nat) (hk : l.length < k) : laws_toStringS.f k l = some l := by
  unfold laws_toStringS.f
  rw [if_pos (by omega), Int.toNat_natCast, if_pos hl]
  have := to_l0 l (by omega) l.length 0 k (by omega) (by omega) (by omega)
  simpa using this
theorem eq_l0 (l : List ByteArray) (hl : l.length ≤ 1152921504606846976) (d : Nat) : ∀ (i k : Nat), i ≤ l.length → l.length - i = d → d < k → laws_eqStringS.l0 k l l (i : Int) = some true := by
  induction d with
  | zero =>
    intro i k hi hd hk
    obtain ⟨k, rfl⟩ : ∃ m, k = m + 1 := ⟨k - 1, by omega⟩
    simp only [laws_eqStringS.l0]; rw [if_neg (by omega)]
  | succ d ih =>
    intro i k hi hd hk
    obtain ⟨k, rfl⟩ : ∃ m, k = m + 1 := ⟨k - 1, by omega⟩
    simp only [laws_eqStringS.l0]
    rw [if_pos (by omega), if_pos (by omega), if_pos (by omega), if_pos trivial, wrap64_of (by omega) (by omega), show ((i : Int) + 1) = ((i + 1 : Nat) : Int) by omega]
    exact ih (i + 1) k (by omega) (by omega) (by omega)
theorem eq_f (l : List ByteArray) (hl : l.length ≤ 1152921504606846976) (k : Nat) (hk : l.length < k) : laws_eqStringS.f k l l = some true := by
  unfold laws_eqStringS.f
  rw [if_pos rfl]
  exact eq_l0 l hl l.length 0 k (by omega) (by omega) (by omega)
-- PURE names
theorem letter_f (c : UInt8) : spec_l00Letter.f (c.toNat : Int) = some (letc c) := by
  have hc := c.toNat_lt
  have g1 : ((c.toNat : Int) ≥ 97) = (97 ≤ c.toNat) := propext (by omega)
  have g2 : ((c.toNat : Int) ≤ 122) = (c.toNat ≤ 122) := propext (by omega)
  have g3 : ((c.toNat : Int) ≥ 65) = (65 ≤ c.toNat) := propext (by omega)
  have g4 : ((c.toNat : Int) ≤ 90) = (c.toNat ≤ 90) := propext (by omega)
  have g5 : ((c.toNat : Int) == 95) = decide (c.toNat = 95) := by rw [Bool.eq_iff_iff]; simp only [beq_iff_eq, decide_eq_true_eq]; omega
  unfold spec_l00Letter.f letc
  simp only [g1, g2, g3, g4, g5]
  by_cases a1 : 97 ≤ c.toNat <;> by_cases a2 : c.toNat ≤ 122 <;> by_cases a3 : 65 ≤ c.toNat <;> by_cases a4 : c.toNat ≤ 90 <;> by_cases a5 : c.toNat = 95 <;> first | omega | (simp only [a1, a2, a3, a4, a5]; simp)
theorem digit_f (c : UInt8) : spec_l00Digit.f (c.toNat : Int) = some (digc c) := by
  have g1 : ((c.toNat : Int) ≥ 48) = (48 ≤ c.toNat) := propext (by omega)
  have g2 : ((c.toNat : Int) ≤ 57) = (c.toNat ≤ 57) := propext (by omega)
  unfold spec_l00Digit.f digc
  simp only [g1, g2]
  by_cases a1 : 48 ≤ c.toNat <;> by_cases a2 : c.toNat ≤ 57 <;> simp [a1, a2]
theorem word_l0 (x : ByteArray) (hx : x.size ≤ 1000000000) (d : Nat) : ∀ (i k : Nat), 1 ≤ i → i ≤ x.size → x.size - i = d → d < k →
    spec_l00Word.l0 k x (i : Int) = some (nameFrom false (x.data.toList.drop i)) := by
  have hlen := size_data x
  induction d with
  | zero =>
    intro i k h1 hi hd hk
    obtain ⟨k, rfl⟩ : ∃ m, k = m + 1 := ⟨k - 1, by omega⟩
    simp only [spec_l00Word.l0]
    rw [if_neg (by omega), List.drop_of_length_le (by omega)]; rfl
  | succ d ih =>
    intro i k h1 hi hd hk
    obtain ⟨k, rfl⟩ : ∃ m, k = m + 1 := ⟨k - 1, by omega⟩
    have hlt : i < x.size := by omega
    have ih := ih (i + 1) k (by omega) (by omega) (by omega) (by omega)
    rw [List.drop_eq_getElem_cons (by omega)]
    have hb := bt_nat x i hlt
    generalize x.data.toList[i]'(by omega) = c at hb
    simp only [spec_l00Word.l0, hb, letter_f, digit_f, Option.bind_some]
    rw [if_pos (by omega), if_pos (by omega), wrap64_of (by omega) (by omega), show ((i : Int) + 1) = ((i + 1 : Nat) : Int) by omega, ih]
    simp only [nameFrom]
    cases letc c <;> cases digc c <;> simp
theorem word_f (x : ByteArray) (hx : x.size ≤ 1000000000) (k : Nat) (hk : x.size + 1 < k) : spec_l00Word.f k x = some (nameB x) := by
  have hlen := size_data x
  obtain ⟨k, rfl⟩ : ∃ m, k = m + 1 := ⟨k - 1, by omega⟩
  unfold spec_l00Word.f nameB
  simp only [spec_l00Word.j0]
  by_cases h1 : x.size < 1
  · rw [if_pos (by omega), if_pos trivial]
    have : ¬ (1 ≤ x.size ∧ x.size ≤ 12) := by omega
    simp [this]
  · rw [if_neg (by omega)]
    by_cases h2 : 12 < x.size
    · rw [if_pos (by omega), if_pos trivial]
      have : ¬ (1 ≤ x.size ∧ x.size ≤ 12) := by omega
      simp [this]
    · rw [if_neg (by omega), if_pos (by omega)]
      have hb := bt_nat x 0 (by omega)
      have hd : x.data.toList = x.data.toList[0]'(by omega) :: x.data.toList.drop 1 := by rw [← List.drop_eq_getElem_cons (by omega)]; rfl
      have e1 : decide (1 ≤ x.size ∧ x.size ≤ 12) = true := decide_eq_true (by omega)
      rw [e1, Bool.and_true]
      have hw := word_l0 x hx (x.size - 1) 1 k (by omega) (by omega) rfl (by omega)
      rw [hd]
      generalize x.data.toList[0]'(by omega) = c at hb
      rw [show bt x 0 = _ from hb, letter_f, Option.bind_some]
      rw [show ((1 : Nat) : Int) = 1 from rfl] at hw
      rw [hw]
      simp only [nameFrom]
      cases letc c <;> simp
def hasB (x : ByteArray) (l : List ByteArray) : Bool := l.any fun y => y.data.toList == x.data.toList
theorem data_inj {x y : ByteArray} (h : x.data.toList = y.data.toList) : x = y := ByteArray.ext (Array.ext' h)
theorem hasB_iff (x : ByteArray) (l : List ByteArray) : hasB x l = true ↔ x ∈ l := by
  unfold hasB; rw [List.any_eq_true]
  constructor
  · rintro ⟨y, hy, h⟩; rwa [← data_inj (beq_iff_eq.1 h)]
  · intro h; exact ⟨x, h, beq_self_eq_true _⟩
theorem has_l0 (x : ByteArray) (l : List ByteArray) (hl : l.length ≤ 1152921504606846976) (d : Nat) : ∀ (i k : Nat), i ≤ l.length → l.length - i = d → d < k →
    spec_l01Has.l0 k l x (i : Int) = some (hasB x (l.drop i)) := by
  induction d with
  | zero =>
    intro i k hi hd hk
    obtain ⟨k, rfl⟩ : ∃ m, k = m + 1 := ⟨k - 1, by omega⟩
    simp only [spec_l01Has.l0]
    rw [if_neg (by omega), List.drop_of_length_le (by omega)]; rfl
  | succ d ih =>
    intro i k hi hd hk
    obtain ⟨k, rfl⟩ : ∃ m, k = m + 1 := ⟨k - 1, by omega⟩
    have hlt : i < l.length := by omega
    simp only [spec_l01Has.l0]
    rw [if_pos (by omega), if_pos (by omega), rd_nat _ l i hlt, wrap64_of (by omega) (by omega), show ((i : Int) + 1) = ((i + 1 : Nat) : Int) by omega, ih (i + 1) k (by omega) (by omega) (by omega), List.drop_eq_getElem_cons hlt]
    have e : (l[i].toList = x.toList) = ((l[i].data.toList == x.data.toList) = true) := by
      rw [Lib.toList_data, Lib.toList_data, beq_iff_eq]
    simp only [e, hasB, List.any_cons]
    cases l[i].data.toList == x.data.toList <;> simp
theorem has_f (x : ByteArray) (l : List ByteArray) (hl : l.length ≤ 1152921504606846976) (k : Nat) (hk : l.length < k) : spec_l01Has.f k l x = some (hasB x l) := by
  have := has_l0 x l hl l.length 0 k (by omega) (by omega) hk
  simpa [spec_l01Has.f] using this
/-- Each a layer's file, and none of those ahead. -/
def freshB (seen : List ByteArray) : List ByteArray → Bool
  | [] => true
  | x :: r => okName x && (!hasB x seen && freshB (seen ++ [x]) r)
theorem names_l0 (l : List ByteArray) (hl : l.length ≤ 2000000) (hx : ∀ x ∈ l, x.size ≤ 1000000000) (K : Nat) (hK : l.length ≤ K) (hK2 : ∀ x ∈ l, x.size + 1 ≤ K) (d : Nat) : ∀ (i k : Nat), i ≤ l.length → l.length - i = d → K + d < k →
    spec_l12NamesOK.l0 k l (i : Int) = some (freshB (l.take i) (l.drop i)) := by
  induction d with
  | zero =>
    intro i k hi hd hk
    obtain ⟨k, rfl⟩ : ∃ m, k = m + 1 := ⟨k - 1, by omega⟩
    simp only [spec_l12NamesOK.l0]
    rw [if_neg (by omega), List.drop_of_length_le (by omega)]; rfl
  | succ d ih =>
    intro i k hi hd hk
    obtain ⟨k, rfl⟩ : ∃ m, k = m + 1 := ⟨k - 1, by omega⟩
    have hlt : i < l.length := by omega
    have hm := List.getElem_mem hlt
    have h2 := hK2 _ hm
    simp only [spec_l12NamesOK.l0]
    rw [if_pos (by omega), if_pos (by omega), rd_nat _ l i hlt, word_f _ (hx _ hm) k (by omega), wrap64_of (by omega) (by omega), show ((i : Int) + 1) = ((i + 1 : Nat) : Int) by omega, ih (i + 1) k (by omega) (by omega) (by omega), Int.toNat_natCast, has_f _ _ (by simp; omega) k (by simp; omega), List.drop_eq_getElem_cons hlt, if_pos (show (i : Int) ≤ (l.length : Int) by omega)]
    simp only [freshB, okName, Option.bind_some, List.take_succ_eq_append_getElem hlt]
    by_cases b1 : nameB l[i] = true
    · rw [if_pos b1, b1]
      by_cases c1 : l[i].toList = ([77, 65, 78, 73, 70, 69, 83, 84] : List UInt8)
      · rw [if_pos c1, bne_eq_false_iff_eq.mpr c1]; simp
      · rw [if_neg c1, bne_iff_ne.mpr c1]
        by_cases c2 : l[i].toList = ([116, 109, 112] : List UInt8)
        · rw [if_pos c2, bne_eq_false_iff_eq.mpr c2]; simp
        · rw [if_neg c2, bne_iff_ne.mpr c2]
          by_cases c3 : l[i].toList = ([109, 116, 109, 112] : List UInt8)
          · rw [if_pos c3, bne_eq_false_iff_eq.mpr c3]; simp
          · rw [if_neg c3, bne_iff_ne.mpr c3]
            cases hasB l[i] (l.take i) <;> simp
    · rw [if_neg b1, Bool.eq_false_iff.2 b1]; simp
theorem fresh_iff (r : List ByteArray) : ∀ seen : List ByteArray, freshB seen r = true ↔ r.all okName = true ∧ r.Nodup ∧ ∀ x ∈ r, x ∉ seen := by
  induction r with
  | nil => intro seen; simp [freshB]
  | cons y r ih =>
    intro seen
    simp only [freshB, Bool.and_eq_true, Bool.not_eq_true', ← Bool.not_eq_true, hasB_iff, ih, List.all_cons, List.nodup_cons, List.mem_cons, forall_eq_or_imp, List.mem_append, List.not_mem_nil, or_false]
    constructor
    · rintro ⟨h1, h2, h3, h4, h5⟩
      refine ⟨⟨h1, h3⟩, ⟨fun h => ?_, h4⟩, h2, fun x hx h => h5 x hx (.inl h)⟩
      exact h5 y h (.inr rfl)
    · rintro ⟨⟨h1, h3⟩, ⟨h4, h5⟩, h2, h6⟩
      refine ⟨h1, h2, h3, h5, fun x hx h => ?_⟩
      rcases h with h | rfl
      · exact h6 x hx h
      · exact h4 hx
-- PURE sorted
theorem compact_len {α : Type} [Inhabited α] [DecidableEq α] (zs : List α) : (Lib.compact zs).length = zs.length ↔ ∀ j, j < zs.length → Lib.keeps zs.toArray j = true := by
  unfold Lib.compact Lib.compactUpTo
  rw [List.length_map]
  have h := List.length_filter_eq_length_iff (l := List.range zs.length) (p := Lib.keeps zs.toArray)
  rw [List.length_range] at h
  rw [h]
  constructor
  · intro g j hj; exact g j (List.mem_range.2 hj)
  · intro g j hj; exact g j (List.mem_range.1 hj)
theorem keeps_iff {α : Type} [Inhabited α] [DecidableEq α] (zs : List α) (j : Nat) (hj : j + 1 < zs.length) : Lib.keeps zs.toArray (j + 1) = true ↔ zs[j + 1] ≠ zs[j] := by
  unfold Lib.keeps
  have e1 : zs.toArray[j + 1]! = zs[j + 1] := by simp [hj]
  have e2 : zs.toArray[j + 1 - 1]! = zs[j] := by
    have : j < zs.length := by omega
    simp [this]
  rw [e1, e2]
  simp
theorem compact_nodup {α : Type} [Inhabited α] [DecidableEq α] (R : α → α → Prop) (tr : ∀ a b c, R a b → R b c → R a c) (asy : ∀ a b, R a b → R b a → a = b) (zs : List α) (hs : zs.Pairwise R) : (Lib.compact zs).length = zs.length ↔ zs.Nodup := by
  rw [compact_len]
  constructor
  · intro h
    have hadj : ∀ j (hj : j + 1 < zs.length), zs[j + 1] ≠ zs[j] := fun j hj => (keeps_iff zs j hj).1 (h (j + 1) hj)
    rw [List.nodup_iff_pairwise_ne, List.pairwise_iff_getElem]
    intro i j hi hj hij e
    rw [List.pairwise_iff_getElem] at hs
    have h1 : R zs[i] zs[i + 1] := hs i (i + 1) hi (by omega) (by omega)
    have h2 : zs[i + 1] = zs[i] := by
      rcases Nat.lt_or_ge (i + 1) j with hl | hl
      · exact (asy _ _ h1 (by rw [e]; exact hs (i + 1) j (by omega) hj hl)).symm
      · have : j = i + 1 := by omega
        subst this; exact e.symm
    exact hadj i (by omega) h2
  · intro h j hj
    cases j with
    | zero => simp [Lib.keeps]
    | succ j =>
      rw [keeps_iff zs j hj]
      intro e
      have := (List.nodup_iff_pairwise_ne.1 h)
      rw [List.pairwise_iff_getElem] at this
      exact this j (j + 1) (by omega) hj (by omega) e.symm
theorem onces_iff (ss : List (List UInt8)) : (oncesB ss).length = ss.length ↔ ss.Nodup := by
  unfold oncesB
  have hp := List.mergeSort_perm ss (fun x y => decide (x ≤ y))
  have hs : (ss.mergeSort fun x y => decide (x ≤ y)).Pairwise (fun x y : List UInt8 => x ≤ y) := by
    have := List.pairwise_mergeSort (le := fun x y : List UInt8 => decide (x ≤ y)) (fun a b c h1 h2 => by simp only [decide_eq_true_eq] at h1 h2 ⊢; exact List.le_trans h1 h2) (fun a b => by simp only [Bool.or_eq_true, decide_eq_true_eq]; exact List.le_total a b) ss
    exact this.imp (fun h => by simpa using h)
  rw [← hp.nodup_iff, ← compact_nodup (fun x y : List UInt8 => x ≤ y) (fun _ _ _ => List.le_trans) (fun _ _ => List.le_antisymm) _ hs, List.length_mergeSort]
theorem layers_fresh (l : List ByteArray) : layersB l = (decide (l.length ≤ 5) && freshB [] l) := by
  unfold layersB
  congr 1
  rw [Bool.eq_iff_iff, fresh_iff, Bool.and_eq_true, decide_eq_true_eq]
  have e : (oncesB (l.map (·.data.toList))).length = l.length ↔ l.Nodup := by
    have := onces_iff (l.map (·.data.toList))
    rw [List.length_map] at this
    rw [this, List.nodup_iff_pairwise_ne, List.nodup_iff_pairwise_ne, List.pairwise_map]
    constructor
    · intro h; exact h.imp (fun h e => h (by rw [e]))
    · intro h; exact h.imp (fun h e => h (data_inj e))
  rw [e]
  simp
  exact And.comm
theorem names_f (l : List ByteArray) (hl : l.length ≤ 2000000) (hx : ∀ x ∈ l, x.size ≤ 1000000000) (K k : Nat) (hK : l.length ≤ K) (hK2 : ∀ x ∈ l, x.size + 1 ≤ K) (hk : K + l.length < k) : spec_l12NamesOK.f k l = some (layersB l) := by
  rw [layers_fresh]
  unfold spec_l12NamesOK.f
  by_cases h : (l.length : Int) > 5
  · rw [if_pos h, decide_eq_false (by omega)]; rfl
  · rw [if_neg h, decide_eq_true (by omega)]
    exact names_l0 l hl hx K hK hK2 l.length 0 k (by omega) (by omega) hk
-- PURE manifest
def sumFrom (a : Nat) : List UInt8 → Nat
  | [] => a
  | c :: r => sumFrom ((263 * a + c.toNat + 1) % 65521) r
theorem sumFrom_lt (l : List UInt8) : ∀ a, a < 65521 → sumFrom a l < 65521 := by
  induction l with
  | nil => intro a h; exact h
  | cons c r ih => intro a h; exact ih _ (Nat.mod_lt _ (by omega))
theorem step_sum (a : Nat) (c : UInt8) (ha : a < 65521) : Int.tmod (wrap64 ((wrap64 ((wrap64 ((a : Int) * 263)) + (wrap64 (c.toNat : Int)))) + 1)) 65521 = (((263 * a + c.toNat + 1) % 65521 : Nat) : Int) := by
  have hc := c.toNat_lt
  rw [wrap64_of (x := (a : Int) * 263) (by omega) (by omega), wrap64_of (x := (c.toNat : Int)) (by omega) (by omega), wrap64_of (x := (a : Int) * 263 + (c.toNat : Int)) (by omega) (by omega), wrap64_of (by omega) (by omega), Int.tmod_eq_emod_of_nonneg (by omega)]
  omega
theorem sum_l0 (x : ByteArray) (hx : x.size ≤ 1152921504606846976) (d : Nat) : ∀ (i k a : Nat), a < 65521 → i ≤ x.size → x.size - i = d → d < k →
    spec_l09Sum.l0 k x (a : Int) (i : Int) = some ((sumFrom a (x.data.toList.drop i) : Nat) : Int) := by
  have hlen := size_data x
  induction d with
  | zero =>
    intro i k a ha hi hd hk
    obtain ⟨k, rfl⟩ : ∃ m, k = m + 1 := ⟨k - 1, by omega⟩
    simp only [spec_l09Sum.l0]
    rw [if_neg (by omega), List.drop_of_length_le (by omega)]; rfl
  | succ d ih =>
    intro i k a ha hi hd hk
    obtain ⟨k, rfl⟩ : ∃ m, k = m + 1 := ⟨k - 1, by omega⟩
    have hlt : i < x.size := by omega
    rw [List.drop_eq_getElem_cons (by omega)]
    have hb := bt_nat x i hlt
    generalize x.data.toList[i]'(by omega) = c at hb
    simp only [spec_l09Sum.l0, hb]
    rw [if_pos (by omega), if_pos (by omega), step_sum a c ha, wrap64_of (by omega) (by omega), show ((i : Int) + 1) = ((i + 1 : Nat) : Int) by omega, ih (i + 1) k _ (Nat.mod_lt _ (by omega)) (by omega) (by omega) (by omega)]
    rfl
theorem sum_f (x : ByteArray) (hx : x.size ≤ 1152921504606846976) (k : Nat) (hk : x.size < k) : spec_l09Sum.f k x = some ((sumFrom 1 x.data.toList : Nat) : Int) := by
  have := sum_l0 x hx x.size 0 k 1 (by omega) (by omega) (by omega) hk
  simpa [spec_l09Sum.f] using this
theorem lsum_l0 (x : ByteArray) (hx : x.size ≤ 1152921504606846976) (d : Nat) : ∀ (i k a : Nat), a < 65521 → i ≤ x.size → x.size - i = d → d < k →
    impl_layerSum.l0 k x (a : Int) (x.size : Int) (i : Int) = some ((sumFrom a (x.data.toList.drop i) : Nat) : Int) := by
  have hlen := size_data x
  induction d with
  | zero =>
    intro i k a ha hi hd hk
    obtain ⟨k, rfl⟩ : ∃ m, k = m + 1 := ⟨k - 1, by omega⟩
    simp only [impl_layerSum.l0]
    rw [if_neg (by omega), List.drop_of_length_le (by omega)]; rfl
  | succ d ih =>
    intro i k a ha hi hd hk
    obtain ⟨k, rfl⟩ : ∃ m, k = m + 1 := ⟨k - 1, by omega⟩
    have hlt : i < x.size := by omega
    rw [List.drop_eq_getElem_cons (by omega)]
    have hb := bt_nat x i hlt
    generalize x.data.toList[i]'(by omega) = c at hb
    simp only [impl_layerSum.l0, hb]
    rw [if_pos (by omega), if_pos (by omega), if_pos (by omega), show (263 * (a : Int)) = (a : Int) * 263 by omega, step_sum a c ha, wrap64_of (by omega) (by omega), show ((i : Int) + 1) = ((i + 1 : Nat) : Int) by omega, ih (i + 1) k _ (Nat.mod_lt _ (by omega)) (by omega) (by omega) (by omega)]
    rfl
theorem lsum_f (x : ByteArray) (hx : x.size ≤ 1152921504606846976) (k : Nat) (hk : x.size < k) : impl_layerSum.f k x = some ((sumFrom 1 x.data.toList : Nat) : Int) := by
  have := lsum_l0 x hx x.size 0 k 1 (by omega) (by omega) (by omega) hk
  simpa [impl_layerSum.f] using this
/-! digits -/
def digB (n : Nat) : ByteArray := ⟨(Lib.decDigits n).toArray⟩
theorem digB_size (n : Nat) : (digB n).size ≤ n + 1 := by
  show (Lib.decDigits n).toArray.size ≤ n + 1
  rw [List.size_toArray]
  induction n using Nat.strongRecOn with
  | _ n ih =>
    rw [Lib.decDigits]
    split
    · simp
    · have := ih (n / 10) (by omega)
      rw [List.length_append, List.length_singleton]; omega
theorem dig_small (n : Nat) (h : n < 10) : digB n = ⟨#[UInt8.ofNat (48 + n)]⟩ := by unfold digB; rw [Lib.decDigits, dif_pos h]
theorem dig_more (n : Nat) (h : ¬ n < 10) : digB n = digB (n / 10) ++ ⟨#[UInt8.ofNat (48 + n % 10)]⟩ := by
  apply data_inj
  unfold digB
  rw [Lib.decDigits, dif_neg h]
  simp
theorem nums_one (n : Nat) (h : n < 10) : strOfNums [(wrap64 (48 + (n : Int))) % 256] = ⟨#[UInt8.ofNat (48 + n)]⟩ := by
  rw [wrap64_of (by omega) (by omega)]
  unfold strOfNums
  have : ((48 + (n : Int)) % 256).toNat = 48 + n := by omega
  simp [this]
theorem digits_f (n : Nat) : ∀ k, n < k → n ≤ 1152921504606846976 → spec_l00Digits.f k (n : Int) = some (digB n) := by
  induction n using Nat.strongRecOn with
  | _ n ih =>
    intro k hk hn
    obtain ⟨k, rfl⟩ : ∃ m, k = m + 1 := ⟨k - 1, by omega⟩
    simp only [spec_l00Digits.f]
    rw [if_neg (by omega), if_neg (by omega)]
    by_cases h : n < 10
    · rw [if_pos (by omega), nums_one n h, dig_small n h]
    · have e1 : wrap64 (Int.tdiv (n : Int) 10) = ((n / 10 : Nat) : Int) := by
        rw [Int.tdiv_eq_ediv_of_nonneg (by omega), wrap64_of (by omega) (by omega)]; omega
      have e2 : Int.tmod (n : Int) 10 = ((n % 10 : Nat) : Int) := by rw [Int.tmod_eq_emod_of_nonneg (by omega)]; omega
      have hs := digB_size (n / 10)
      rw [if_neg (by omega), e1, ih (n / 10) (by omega) k (by omega) (by omega), e2]
      simp only [Option.bind_some]
      rw [nums_one (n % 10) (by omega), if_pos (by show (digB (n / 10)).size + 1 ≤ _; omega), ← dig_more n h]
theorem itoa_f (n : Nat) (hn : n ≤ 1152921504606846976) : strconv_Itoa_41.f (n : Int) = some (digB n) := by
  unfold strconv_Itoa_41.f
  rw [if_pos (by omega)]
  unfold Lib.itoa digB
  rw [if_neg (by omega), Int.toNat_natCast]
/-! the manifest -/
def endM (acc : ByteArray) : ByteArray := ((acc ++ (⟨#[115, 117, 109, 32]⟩ : ByteArray)) ++ digB (sumFrom 1 acc.data.toList)) ++ (⟨#[10]⟩ : ByteArray)
def manM (acc : ByteArray) : List ByteArray → ByteArray
  | [] => endM acc
  | x :: r => manM (acc ++ (x ++ (⟨#[10]⟩ : ByteArray))) r
theorem size1 : (⟨#[10]⟩ : ByteArray).size = 1 := rfl
theorem size4 : (⟨#[115, 117, 109, 32]⟩ : ByteArray).size = 4 := rfl
theorem sman_l0 (l : List ByteArray) (hl : l.length ≤ 2000000) (B : Nat) (hB : B ≤ 1099511627776) (d : Nat) : ∀ (i k : Nat) (acc : ByteArray), i ≤ l.length → l.length - i = d → acc.size + weigh (l.drop i) + d ≤ B → B + d + 70000 < k →
    spec_l12Manifest.l0 k l acc (i : Int) = some (manM acc (l.drop i)) := by
  induction d with
  | zero =>
    intro i k acc hi hd hs hk
    obtain ⟨k, rfl⟩ : ∃ m, k = m + 1 := ⟨k - 1, by omega⟩
    have hlt := sumFrom_lt acc.data.toList 1 (by omega)
    have hz := digB_size (sumFrom 1 acc.data.toList)
    simp only [spec_l12Manifest.l0]
    rw [if_neg (by omega), if_pos (by omega), sum_f acc (by omega) k (by omega), Option.bind_some, digits_f _ k (by omega) (by omega), Option.bind_some]
    rw [if_pos (by rw [ByteArray.size_append, size4]; omega), if_pos (by rw [ByteArray.size_append, ByteArray.size_append, size4]; omega), List.drop_of_length_le (by omega)]
    rfl
  | succ d ih =>
    intro i k acc hi hd hs hk
    obtain ⟨k, rfl⟩ : ∃ m, k = m + 1 := ⟨k - 1, by omega⟩
    have hlt : i < l.length := by omega
    rw [List.drop_eq_getElem_cons hlt] at hs ⊢
    simp only [weigh] at hs
    simp only [spec_l12Manifest.l0]
    rw [if_pos (by omega), if_pos (by omega), rd_nat _ l i hlt, if_pos (by omega), if_pos (by rw [ByteArray.size_append, size1]; omega), wrap64_of (by omega) (by omega), show ((i : Int) + 1) = ((i + 1 : Nat) : Int) by omega]
    rw [ih (i + 1) k _ (by omega) (by omega) (by rw [ByteArray.size_append, ByteArray.size_append, size1]; omega) (by omega)]
    rfl
theorem iman_l0 (l : List ByteArray) (hl : l.length ≤ 2000000) (B : Nat) (hB : B ≤ 1099511627776) (d : Nat) : ∀ (i k : Nat) (acc : ByteArray), i ≤ l.length → l.length - i = d → acc.size + weigh (l.drop i) + d ≤ B → B + d + 70000 < k →
    impl_manifest.l0 k acc l (l.length : Int) (i : Int) = some (manM acc (l.drop i)) := by
  induction d with
  | zero =>
    intro i k acc hi hd hs hk
    obtain ⟨k, rfl⟩ : ∃ m, k = m + 1 := ⟨k - 1, by omega⟩
    have hlt := sumFrom_lt acc.data.toList 1 (by omega)
    have hz := digB_size (sumFrom 1 acc.data.toList)
    simp only [impl_manifest.l0]
    rw [if_neg (by omega), if_pos (by omega), lsum_f acc (by omega) k (by omega), Option.bind_some, itoa_f _ (by omega), Option.bind_some]
    rw [if_pos (by rw [ByteArray.size_append, size4]; omega), if_pos (by rw [ByteArray.size_append, ByteArray.size_append, size4]; omega), List.drop_of_length_le (by omega)]
    rfl
  | succ d ih =>
    intro i k acc hi hd hs hk
    obtain ⟨k, rfl⟩ : ∃ m, k = m + 1 := ⟨k - 1, by omega⟩
    have hlt : i < l.length := by omega
    rw [List.drop_eq_getElem_cons hlt] at hs ⊢
    simp only [weigh] at hs
    simp only [impl_manifest.l0]
    rw [if_pos (by omega), if_pos (by omega), if_pos (by omega), rd_nat _ l i hlt, if_pos (by omega), if_pos (by rw [ByteArray.size_append, size1]; omega), wrap64_of (by omega) (by omega), show ((i : Int) + 1) = ((i + 1 : Nat) : Int) by omega]
    rw [ih (i + 1) k _ (by omega) (by omega) (by rw [ByteArray.size_append, ByteArray.size_append, size1]; omega) (by omega)]
    rfl
-- PURE law ManifestText
theorem law_manifestText_k (l : List ByteArray) (hl : l.length ≤ 9223372036854775807) (hx : ∀ x ∈ l, x.size ≤ 9223372036854775807) (k : Nat) (hk : l.length + 10000000 ≤ k) : laws_FnExactManifestText.f k l = some true := by
  obtain ⟨t, ht, hw⟩ := sz_f l hl hx 1048576 (by omega) (by omega) k (by omega)
  unfold laws_FnExactManifestText.f
  rw [ht, Option.bind_some]
  by_cases h0 : t < 0
  · rw [if_pos h0]
  · rw [if_neg h0]
    have hw := hw (by omega)
    have hm := fun x h => weigh_mem l x h
    rw [to_f l (by omega) k (by omega)]
    simp only [Option.bind_some]
    have hnames : spec_l12NamesOK.f k l = some (layersB l) := names_f l (by omega) (fun x h => by have := hm x h; omega) 1048577 k (by omega) (fun x h => by have := hm x h; omega) (by omega)
    have hs : spec_l12Manifest.f k l = some (manM (⟨#[]⟩ : ByteArray) l) := by
      have := sman_l0 l (by omega) 4000000 (by omega) l.length 0 k (⟨#[]⟩ : ByteArray) (by omega) (by omega) (by rw [List.drop_zero]; show 0 + _ + _ ≤ _; omega) (by omega)
      simpa [spec_l12Manifest.f] using this
    have hi : impl_manifest.f k l = some (manM (⟨#[]⟩ : ByteArray) l) := by
      have := iman_l0 l (by omega) 4000000 (by omega) l.length 0 k (⟨#[]⟩ : ByteArray) (by omega) (by omega) (by rw [List.drop_zero]; show 0 + _ + _ ≤ _; omega) (by omega)
      simpa [impl_manifest.f] using this
    have ha : impl_areLayers.f l = some (layersB l) := by
      unfold impl_areLayers.f
      rw [if_pos ⟨by omega, List.all_eq_true.2 fun x h => by have := hm x h; simp; omega⟩]
    unfold spec_ManifestText.f impl_ManifestText.f
    rw [hnames, ha, hs, hi]
    simp only [Option.bind_some]
    have hj : laws_FnExactManifestText.j0 k l l false = some true := by
      obtain ⟨m, rfl⟩ : ∃ m, k = m + 1 := ⟨k - 1, by omega⟩
      simp only [laws_FnExactManifestText.j0]
      rw [if_neg (by decide), to_f l (by omega) m (by omega), Option.bind_some, eq_f l (by omega) m (by omega), Option.bind_some]
      rfl
    have hf : ∀ (p : ByteArray) (n : Int), (if p.toList = p.toList then laws_FnExactManifestText.j0 k l l (n != n) else laws_FnExactManifestText.j0 k l l true) = some true := fun p n => by rw [if_pos rfl, bne_self_eq_false]; exact hj
    by_cases h1 : (l.length : Int) > 4096
    · rw [if_pos h1, decide_eq_true h1]
      exact hf _ _
    · rw [if_neg h1, decide_eq_false h1]
      cases layersB l
      · exact hf _ _
      · exact hf _ _
theorem law_manifestText (l : List ByteArray) (hl : l.length ≤ 9223372036854775807) (hx : ∀ x ∈ l, x.size ≤ 9223372036854775807) : ∃ k, laws_FnExactManifestText.f k l = some true :=
  ⟨_, law_manifestText_k l hl hx _ (Nat.le_refl _)⟩

end Go.Proofs.YtfemiphklanjaaaDoor.Q
