/- The plain law of FnExactReadManifest: what the printed functions compute answers as the statement says. -/
import Derived.Test.YtfemiphklanjaaaDoorM
namespace Go.Proofs.YtfemiphklanjaaaDoor.Q
open Go.RowKit Go.Proofs.YtfemiphklanjaaaDoorW.PrintWords Go.Proofs.YtfemiphklanjaaaDoorW.PrintLast Go.Proofs.YtfemiphklanjaaaDoorW.PrintMore
set_option linter.unusedVariables false
set_option linter.unusedSimpArgs false
-- PURE ManifestText
/-! ### plain words -/
theorem rd_nat {α : Type} (d : α) (l : List α) (i : Nat) (h : i < l.length) : rdOf d l (i : Int) = l[i] := by
  unfold rdOf; rw [Int.toNat_natCast, List.getD_eq_getElem?_getD, List.getElem?_eq_getElem h]; rfl
/-- What a row of texts counts. -/
def weigh : List ByteArray → Nat
  | [] => 0
  | x :: r => x.size + weigh r
theorem weigh_mem (l : List ByteArray) (x : ByteArray) (h : x ∈ l) : x.size ≤ weigh l := by
  induction l with
  | nil => cases h
  | cons y r ih =>
    simp only [weigh]
    rcases List.mem_cons.1 h with rfl | h
    · omega
    · have := ih h; omega
theorem eq_l0 (l : List ByteArray) (hl : l.length ≤ 1152921504606846976) (d : Nat) : ∀ (i k : Nat), i ≤ l.length → l.length - i = d → d < k → laws_eqStringS.l0 k l l (i : Int) = some true := by
  induction d with
  | zero =>
    intro i k hi hd hk
    obtain ⟨k, rfl⟩ : ∃ m, k = m + 1 := ⟨k - 1, by omega⟩
    simp only [laws_eqStringS.l0]; rw [if_neg (by omega)]
  | succ d ih =>
    intro i k hi hd hk
    obtain ⟨k, rfl⟩ : ∃ m, k = m + 1 := ⟨k - 1, by omega⟩
    simp only [laws_eqStringS.l0]
    rw [if_pos (by omega), if_pos (by omega), if_pos (by omega), if_pos trivial, wrap64_of (by omega) (by omega), show ((i : Int) + 1) = ((i + 1 : Nat) : Int) by omega]
    exact ih (i + 1) k (by omega) (by omega) (by omega)
theorem eq_f (l : List ByteArray) (hl : l.length ≤ 1152921504606846976) (k : Nat) (hk : l.length < k) : laws_eqStringS.f k l l = some true := by
  unfold laws_eqStringS.f
  rw [if_pos rfl]
  exact eq_l0 l hl l.length 0 k (by omega) (by omega) (by omega)
-- PURE names
theorem letter_f (c : UInt8) : spec_l00Letter.f (c.toNat : Int) = some (letc c) := by
  have hc := c.toNat_lt
  have g1 : ((c.toNat : Int) ≥ 97) = (97 ≤ c.toNat) := propext (by omega)
  have g2 : ((c.toNat : Int) ≤ 122) = (c.toNat ≤ 122) := propext (by omega)
  have g3 : ((c.toNat : Int) ≥ 65) = (65 ≤ c.toNat) := propext (by omega)
  have g4 : ((c.toNat : Int) ≤ 90) = (c.toNat ≤ 90) := propext (by omega)
  have g5 : ((c.toNat : Int) == 95) = decide (c.toNat = 95) := by rw [Bool.eq_iff_iff]; simp only [beq_iff_eq, decide_eq_true_eq]; omega
  unfold spec_l00Letter.f letc
  simp only [g1, g2, g3, g4, g5]
  by_cases a1 : 97 ≤ c.toNat <;> by_cases a2 : c.toNat ≤ 122 <;> by_cases a3 : 65 ≤ c.toNat <;> by_cases a4 : c.toNat ≤ 90 <;> by_cases a5 : c.toNat = 95 <;> first | omega | (simp only [a1, a2, a3, a4, a5]; simp)
theorem digit_f (c : UInt8) : spec_l00Digit.f (c.toNat : Int) = some (digc c) := by
  have g1 : ((c.toNat : Int) ≥ 48) = (48 ≤ c.toNat) := propext (by omega)
  have g2 : ((c.toNat : Int) ≤ 57) = (c.toNat ≤ 57) := propext (by omega)
  unfold spec_l00Digit.f digc
  simp only [g1, g2]
  by_cases a1 : 48 ≤ c.toNat <;> by_cases a2 : c.toNat ≤ 57 <;> simp [a1, a2]
theorem word_l0 (x : ByteArray) (hx : x.size ≤ 1000000000) (d : Nat) : ∀ (i k : Nat), 1 ≤ i → i ≤ x.size → x.size - i = d → d < k →
    spec_l00Word.l0 k x (i : Int) = some (nameFrom false (x.data.toList.drop i)) := by
  have hlen := size_data x
  induction d with
  | zero =>
    intro i k h1 hi hd hk
    obtain ⟨k, rfl⟩ : ∃ m, k = m + 1 := ⟨k - 1, by omega⟩
    simp only [spec_l00Word.l0]
    rw [if_neg (by omega), List.drop_of_length_le (by omega)]; rfl
  | succ d ih =>
    intro i k h1 hi hd hk
    obtain ⟨k, rfl⟩ : ∃ m, k = m + 1 := ⟨k - 1, by omega⟩
    have hlt : i < x.size := by omega
    have ih := ih (i + 1) k (by omega) (by omega) (by omega) (by omega)
    rw [List.drop_eq_getElem_cons (by omega)]
    have hb := bt_nat x i hlt
    generalize x.data.toList[i]'(by omega) = c at hb
    simp only [spec_l00Word.l0, hb, letter_f, digit_f, Option.bind_some]
    rw [if_pos (by omega), if_pos (by omega), wrap64_of (by omega) (by omega), show ((i : Int) + 1) = ((i + 1 : Nat) : Int) by omega, ih]
    simp only [nameFrom]
    cases letc c <;> cases digc c <;> simp
theorem word_f (x : ByteArray) (hx : x.size ≤ 1000000000) (k : Nat) (hk : x.size + 1 < k) : spec_l00Word.f k x = some (nameB x) := by
  have hlen := size_data x
  obtain ⟨k, rfl⟩ : ∃ m, k = m + 1 := ⟨k - 1, by omega⟩
  unfold spec_l00Word.f nameB
  simp only [spec_l00Word.j0]
  by_cases h1 : x.size < 1
  · rw [if_pos (by omega), if_pos trivial]
    have : ¬ (1 ≤ x.size ∧ x.size ≤ 12) := by omega
    simp [this]
  · rw [if_neg (by omega)]
    by_cases h2 : 12 < x.size
    · rw [if_pos (by omega), if_pos trivial]
      have : ¬ (1 ≤ x.size ∧ x.size ≤ 12) := by omega
      simp [this]
    · rw [if_neg (by omega), if_pos (by omega)]
      have hb := bt_nat x 0 (by omega)
      have hd : x.data.toList = x.data.toList[0]'(by omega) :: x.data.toList.drop 1 := by rw [← List.drop_eq_getElem_cons (by omega)]; rfl
      have e1 : decide (1 ≤ x.size ∧ x.size ≤ 12) = true := decide_eq_true (by omega)
      rw [e1, Bool.and_true]
      have hw := word_l0 x hx (x.size - 1) 1 k (by omega) (by omega) rfl (by omega)
      rw [hd]
      generalize x.data.toList[0]'(by omega) = c at hb
      rw [show bt x 0 = _ from hb, letter_f, Option.bind_some]
      rw [show ((1 : Nat) : Int) = 1 from rfl] at hw
      rw [hw]
      simp only [nameFrom]
      cases letc c <;> simp
def hasB (x : ByteArray) (l : List ByteArray) : Bool := l.any fun y => y.data.toList == x.data.toList
theorem data_inj {x y : ByteArray} (h : x.data.toList = y.data.toList) : x = y := ByteArray.ext (Array.ext' h)
theorem hasB_iff (x : ByteArray) (l : List ByteArray) : hasB x l = true ↔ x ∈ l := by
  unfold hasB; rw [List.any_eq_true]
  constructor
  · rintro ⟨y, hy, h⟩; rwa [← data_inj (beq_iff_eq.1 h)]
  · intro h; exact ⟨x, h, beq_self_eq_true _⟩
theorem has_l0 (x : ByteArray) (l : List ByteArray) (hl : l.length ≤ 1152921504606846976) (d : Nat) : ∀ (i k : Nat), i ≤ l.length → l.length - i = d → d < k →
    spec_l01Has.l0 k l x (i : Int) = some (hasB x (l.drop i)) := by
  induction d with
  | zero =>
    intro i k hi hd hk
    obtain ⟨k, rfl⟩ : ∃ m, k = m + 1 := ⟨k - 1, by omega⟩
    simp only [spec_l01Has.l0]
    rw [if_neg (by omega), List.drop_of_length_le (by omega)]; rfl
  | succ d ih =>
    intro i k hi hd hk
    obtain ⟨k, rfl⟩ : ∃ m, k = m + 1 := ⟨k - 1, by omega⟩
    have hlt : i < l.length := by omega
    simp only [spec_l01Has.l0]
    rw [if_pos (by omega), if_pos (by omega), rd_nat _ l i hlt, wrap64_of (by omega) (by omega), show ((i : Int) + 1) = ((i + 1 : Nat) : Int) by omega, ih (i + 1) k (by omega) (by omega) (by omega), List.drop_eq_getElem_cons hlt]
    have e : (l[i].toList = x.toList) = ((l[i].data.toList == x.data.toList) = true) := by
      rw [Lib.toList_data, Lib.toList_data, beq_iff_eq]
    simp only [e, hasB, List.any_cons]
    cases l[i].data.toList == x.data.toList <;> simp
theorem has_f (x : ByteArray) (l : List ByteArray) (hl : l.length ≤ 1152921504606846976) (k : Nat) (hk : l.length < k) : spec_l01Has.f k l x = some (hasB x l) := by
  have := has_l0 x l hl l.length 0 k (by omega) (by omega) hk
  simpa [spec_l01Has.f] using this
/-- Each a layer's file, and none of those ahead. -/
def freshB (seen : List ByteArray) : List ByteArray → Bool
  | [] => true
  | x :: r => okName x && (!hasB x seen && freshB (seen ++ [x]) r)
theorem names_l0 (l : List ByteArray) (hl : l.length ≤ 2000000) (hx : ∀ x ∈ l, x.size ≤ 1000000000) (K : Nat) (hK : l.length ≤ K) (hK2 : ∀ x ∈ l, x.size + 1 ≤ K) (d : Nat) : ∀ (i k : Nat), i ≤ l.length → l.length - i = d → K + d < k →
    spec_l12NamesOK.l0 k l (i : Int) = some (freshB (l.take i) (l.drop i)) := by
  induction d with
  | zero =>
    intro i k hi hd hk
    obtain ⟨k, rfl⟩ : ∃ m, k = m + 1 := ⟨k - 1, by omega⟩
    simp only [spec_l12NamesOK.l0]
    rw [if_neg (by omega), List.drop_of_length_le (by omega)]; rfl
  | succ d ih =>
    intro i k hi hd hk
    obtain ⟨k, rfl⟩ : ∃ m, k = m + 1 := ⟨k - 1, by omega⟩
    have hlt : i < l.length := by omega
    have hm := List.getElem_mem hlt
    have h2 := hK2 _ hm
    simp only [spec_l12NamesOK.l0]
    rw [if_pos (by omega), if_pos (by omega), rd_nat _ l i hlt, word_f _ (hx _ hm) k (by omega), wrap64_of (by omega) (by omega), show ((i : Int) + 1) = ((i + 1 : Nat) : Int) by omega, ih (i + 1) k (by omega) (by omega) (by omega), Int.toNat_natCast, has_f _ _ (by simp; omega) k (by simp; omega), List.drop_eq_getElem_cons hlt, if_pos (show (i : Int) ≤ (l.length : Int) by omega)]
    simp only [freshB, okName, Option.bind_some, List.take_succ_eq_append_getElem hlt]
    by_cases b1 : nameB l[i] = true
    · rw [if_pos b1, b1]
      by_cases c1 : l[i].toList = ([77, 65, 78, 73, 70, 69, 83, 84] : List UInt8)
      · rw [if_pos c1, bne_eq_false_iff_eq.mpr c1]; simp
      · rw [if_neg c1, bne_iff_ne.mpr c1]
        by_cases c2 : l[i].toList = ([116, 109, 112] : List UInt8)
        · rw [if_pos c2, bne_eq_false_iff_eq.mpr c2]; simp
        · rw [if_neg c2, bne_iff_ne.mpr c2]
          by_cases c3 : l[i].toList = ([109, 116, 109, 112] : List UInt8)
          · rw [if_pos c3, bne_eq_false_iff_eq.mpr c3]; simp
          · rw [if_neg c3, bne_iff_ne.mpr c3]
            cases hasB l[i] (l.take i) <;> simp
    · rw [if_neg b1, Bool.eq_false_iff.2 b1]; simp
theorem fresh_iff (r : List ByteArray) : ∀ seen : List ByteArray, freshB seen r = true ↔ r.all okName = true ∧ r.Nodup ∧ ∀ x ∈ r, x ∉ seen := by
  induction r with
  | nil => intro seen; simp [freshB]
  | cons y r ih =>
    intro seen
    simp only [freshB, Bool.and_eq_true, Bool.not_eq_true', ← Bool.not_eq_true, hasB_iff, ih, List.all_cons, List.nodup_cons, List.mem_cons, forall_eq_or_imp, List.mem_append, List.not_mem_nil, or_false]
    constructor
    · rintro ⟨h1, h2, h3, h4, h5⟩
      refine ⟨⟨h1, h3⟩, ⟨fun h => ?_, h4⟩, h2, fun x hx h => h5 x hx (.inl h)⟩
      exact h5 y h (.inr rfl)
    · rintro ⟨⟨h1, h3⟩, ⟨h4, h5⟩, h2, h6⟩
      refine ⟨h1, h2, h3, h5, fun x hx h => ?_⟩
      rcases h with h | rfl
      · exact h6 x hx h
      · exact h4 hx
-- PURE sorted
theorem compact_len {α : Type} [Inhabited α] [DecidableEq α] (zs : List α) : (Lib.compact zs).length = zs.length ↔ ∀ j, j < zs.length → Lib.keeps zs.toArray j = true := by
  unfold Lib.compact Lib.compactUpTo
  rw [List.length_map]
  have h := List.length_filter_eq_length_iff (l := List.range zs.length) (p := Lib.keeps zs.toArray)
  rw [List.length_range] at h
  rw [h]
  constructor
  · intro g j hj; exact g j (List.mem_range.2 hj)
  · intro g j hj; exact g j (List.mem_range.1 hj)
theorem keeps_iff {α : Type} [Inhabited α] [DecidableEq α] (zs : List α) (j : Nat) (hj : j + 1 < zs.length) : Lib.keeps zs.toArray (j + 1) = true ↔ zs[j + 1] ≠ zs[j] := by
  unfold Lib.keeps
  have e1 : zs.toArray[j + 1]! = zs[j + 1] := by simp [hj]
  have e2 : zs.toArray[j + 1 - 1]! = zs[j] := by
    have : j < zs.length := by omega
    simp [this]
  rw [e1, e2]
  simp
theorem compact_nodup {α : Type} [Inhabited α] [DecidableEq α] (R : α → α → Prop) (tr : ∀ a b c, R a b → R b c → R a c) (asy : ∀ a b, R a b → R b a → a = b) (zs : List α) (hs : zs.Pairwise R) : (Lib.compact zs).length = zs.length ↔ zs.Nodup := by
  rw [compact_len]
  constructor
  · intro h
    have hadj : ∀ j (hj : j + 1 < zs.length), zs[j + 1] ≠ zs[j] := fun j hj => (keeps_iff zs j hj).1 (h (j + 1) hj)
    rw [List.nodup_iff_pairwise_ne, List.pairwise_iff_getElem]
    intro i j hi hj hij e
    rw [List.pairwise_iff_getElem] at hs
    have h1 : R zs[i] zs[i + 1] := hs i (i + 1) hi (by omega) (by omega)
    have h2 : zs[i + 1] = zs[i] := by
      rcases Nat.lt_or_ge (i + 1) j with hl | hl
      · exact (asy _ _ h1 (by rw [e]; exact hs (i + 1) j (by omega) hj hl)).symm
      · have : j = i + 1 := by omega
        subst this; exact e.symm
    exact hadj i (by omega) h2
  · intro h j hj
    cases j with
    | zero => simp [Lib.keeps]
    | succ j =>
      rw [keeps_iff zs j hj]
      intro e
      have := (List.nodup_iff_pairwise_ne.1 h)
      rw [List.pairwise_iff_getElem] at this
      exact this j (j + 1) (by omega) hj (by omega) e.symm
theorem onces_iff (ss : List (List UInt8)) : (oncesB ss).length = ss.length ↔ ss.Nodup := by
  unfold oncesB
  have hp := List.mergeSort_perm ss (fun x y => decide (x ≤ y))
  have hs : (ss.mergeSort fun x y => decide (x ≤ y)).Pairwise (fun x y : List UInt8 => x ≤ y) := by
    have := List.pairwise_mergeSort (le := fun x y : List UInt8 => decide (x ≤ y)) (fun a b c h1 h2 => by simp only [decide_eq_true_eq] at h1 h2 ⊢; exact List.le_trans h1 h2) (fun a b => by simp only [Bool.or_eq_true, decide_eq_true_eq]; exact List.le_total a b) ss
    exact this.imp (fun h => by simpa using h)
  rw [← hp.nodup_iff, ← compact_nodup (fun x y : List UInt8 => x ≤ y) (fun _ _ _ => List.le_trans) (fun _ _ => List.le_antisymm) _ hs, List.length_mergeSort]
theorem layers_fresh (l : List ByteArray) : layersB l = (decide (l.length ≤ 5) && freshB [] l) := by
  unfold layersB
  congr 1
  rw [Bool.eq_iff_iff, fresh_iff, Bool.and_eq_true, decide_eq_true_eq]
  have e : (oncesB (l.map (·.data.toList))).length = l.length ↔ l.Nodup := by
    have := onces_iff (l.map (·.data.toList))
    rw [List.length_map] at this
    rw [this, List.nodup_iff_pairwise_ne, List.nodup_iff_pairwise_ne, List.pairwise_map]
    constructor
    · intro h; exact h.imp (fun h e => h (by rw [e]))
    · intro h; exact h.imp (fun h e => h (data_inj e))
  rw [e]
  simp
  exact And.comm
theorem names_f (l : List ByteArray) (hl : l.length ≤ 2000000) (hx : ∀ x ∈ l, x.size ≤ 1000000000) (K k : Nat) (hK : l.length ≤ K) (hK2 : ∀ x ∈ l, x.size + 1 ≤ K) (hk : K + l.length < k) : spec_l12NamesOK.f k l = some (layersB l) := by
  rw [layers_fresh]
  unfold spec_l12NamesOK.f
  by_cases h : (l.length : Int) > 5
  · rw [if_pos h, decide_eq_false (by omega)]; rfl
  · rw [if_neg h, decide_eq_true (by omega)]
    exact names_l0 l hl hx K hK hK2 l.length 0 k (by omega) (by omega) hk
-- PURE manifest
def sumFrom (a : Nat) : List UInt8 → Nat
  | [] => a
  | c :: r => sumFrom ((263 * a + c.toNat + 1) % 65521) r
theorem sumFrom_lt (l : List UInt8) : ∀ a, a < 65521 → sumFrom a l < 65521 := by
  induction l with
  | nil => intro a h; exact h
  | cons c r ih => intro a h; exact ih _ (Nat.mod_lt _ (by omega))
theorem step_sum (a : Nat) (c : UInt8) (ha : a < 65521) : Int.tmod (wrap64 ((wrap64 ((wrap64 ((a : Int) * 263)) + (wrap64 (c.toNat : Int)))) + 1)) 65521 = (((263 * a + c.toNat + 1) % 65521 : Nat) : Int) := by
  have hc := c.toNat_lt
  rw [wrap64_of (x := (a : Int) * 263) (by omega) (by omega), wrap64_of (x := (c.toNat : Int)) (by omega) (by omega), wrap64_of (x := (a : Int) * 263 + (c.toNat : Int)) (by omega) (by omega), wrap64_of (by omega) (by omega), Int.tmod_eq_emod_of_nonneg (by omega)]
  omega
theorem sum_l0 (x : ByteArray) (hx : x.size ≤ 1152921504606846976) (d : Nat) : ∀ (i k a : Nat), a < 65521 → i ≤ x.size → x.size - i = d → d < k →
    spec_l09Sum.l0 k x (a : Int) (i : Int) = some ((sumFrom a (x.data.toList.drop i) : Nat) : Int) := by
  have hlen := size_data x
  induction d with
  | zero =>
    intro i k a ha hi hd hk
    obtain ⟨k, rfl⟩ : ∃ m, k = m + 1 := ⟨k - 1, by omega⟩
    simp only [spec_l09Sum.l0]
    rw [if_neg (by omega), List.drop_of_length_le (by omega)]; rfl
  | succ d ih =>
    intro i k a ha hi hd hk
    obtain ⟨k, rfl⟩ : ∃ m, k = m + 1 := ⟨k - 1, by omega⟩
    have hlt : i < x.size := by omega
    rw [List.drop_eq_getElem_cons (by omega)]
    have hb := bt_nat x i hlt
    generalize x.data.toList[i]'(by omega) = c at hb
    simp only [spec_l09Sum.l0, hb]
    rw [if_pos (by omega), if_pos (by omega), step_sum a c ha, wrap64_of (by omega) (by omega), show ((i : Int) + 1) = ((i + 1 : Nat) : Int) by omega, ih (i + 1) k _ (Nat.mod_lt _ (by omega)) (by omega) (by omega) (by omega)]
    rfl
theorem sum_f (x : ByteArray) (hx : x.size ≤ 1152921504606846976) (k : Nat) (hk : x.size < k) : spec_l09Sum.f k x = some ((sumFrom 1 x.data.toList : Nat) : Int) := by
  have := sum_l0 x hx x.size 0 k 1 (by omega) (by omega) (by omega) hk
  simpa [spec_l09Sum.f] using this
theorem lsum_l0 (x : ByteArray) (hx : x.size ≤ 1152921504606846976) (d : Nat) : ∀ (i k a : Nat), a < 65521 → i ≤ x.size → x.size - i = d → d < k →
    impl_layerSum.l0 k x (a : Int) (x.size : Int) (i : Int) = some ((sumFrom a (x.data.toList.drop i) : Nat) : Int) := by
  have hlen := size_data x
  induction d with
  | zero =>
    intro i k a ha hi hd hk
    obtain ⟨k, rfl⟩ : ∃ m, k = m + 1 := ⟨k - 1, by omega⟩
    simp only [impl_layerSum.l0]
    rw [if_neg (by omega), List.drop_of_length_le (by omega)]; rfl
  | succ d ih =>
    intro i k a ha hi hd hk
    obtain ⟨k, rfl⟩ : ∃ m, k = m + 1 := ⟨k - 1, by omega⟩
    have hlt : i < x.size := by omega
    rw [List.drop_eq_getElem_cons (by omega)]
    have hb := bt_nat x i hlt
    generalize x.data.toList[i]'(by omega) = c at hb
    simp only [impl_layerSum.l0, hb]
    rw [if_pos (by omega), if_pos (by omega), if_pos (by omega), show (263 * (a : Int)) = (a : Int) * 263 by omega, step_sum a c ha, wrap64_of (by omega) (by omega), show ((i : Int) + 1) = ((i + 1 : Nat) : Int) by omega, ih (i + 1) k _ (Nat.mod_lt _ (by omega)) (by omega) (by omega) (by omega)]
    rfl
theorem lsum_f (x : ByteArray) (hx : x.size ≤ 1152921504606846976) (k : Nat) (hk : x.size < k) : impl_layerSum.f k x = some ((sumFrom 1 x.data.toList : Nat) : Int) := by
  have := lsum_l0 x hx x.size 0 k 1 (by omega) (by omega) (by omega) hk
  simpa [impl_layerSum.f] using this
/-! digits -/
def digB (n : Nat) : ByteArray := ⟨(Lib.decDigits n).toArray⟩
theorem digB_size (n : Nat) : (digB n).size ≤ n + 1 := by
  show (Lib.decDigits n).toArray.size ≤ n + 1
  rw [List.size_toArray]
  induction n using Nat.strongRecOn with
  | _ n ih =>
    rw [Lib.decDigits]
    split
    · simp
    · have := ih (n / 10) (by omega)
      rw [List.length_append, List.length_singleton]; omega
theorem dig_small (n : Nat) (h : n < 10) : digB n = ⟨#[UInt8.ofNat (48 + n)]⟩ := by unfold digB; rw [Lib.decDigits, dif_pos h]
theorem dig_more (n : Nat) (h : ¬ n < 10) : digB n = digB (n / 10) ++ ⟨#[UInt8.ofNat (48 + n % 10)]⟩ := by
  apply data_inj
  unfold digB
  rw [Lib.decDigits, dif_neg h]
  simp
theorem nums_one (n : Nat) (h : n < 10) : strOfNums [(wrap64 (48 + (n : Int))) % 256] = ⟨#[UInt8.ofNat (48 + n)]⟩ := by
  rw [wrap64_of (by omega) (by omega)]
  unfold strOfNums
  have : ((48 + (n : Int)) % 256).toNat = 48 + n := by omega
  simp [this]
theorem digits_f (n : Nat) : ∀ k, n < k → n ≤ 1152921504606846976 → spec_l00Digits.f k (n : Int) = some (digB n) := by
  induction n using Nat.strongRecOn with
  | _ n ih =>
    intro k hk hn
    obtain ⟨k, rfl⟩ : ∃ m, k = m + 1 := ⟨k - 1, by omega⟩
    simp only [spec_l00Digits.f]
    rw [if_neg (by omega), if_neg (by omega)]
    by_cases h : n < 10
    · rw [if_pos (by omega), nums_one n h, dig_small n h]
    · have e1 : wrap64 (Int.tdiv (n : Int) 10) = ((n / 10 : Nat) : Int) := by
        rw [Int.tdiv_eq_ediv_of_nonneg (by omega), wrap64_of (by omega) (by omega)]; omega
      have e2 : Int.tmod (n : Int) 10 = ((n % 10 : Nat) : Int) := by rw [Int.tmod_eq_emod_of_nonneg (by omega)]; omega
      have hs := digB_size (n / 10)
      rw [if_neg (by omega), e1, ih (n / 10) (by omega) k (by omega) (by omega), e2]
      simp only [Option.bind_some]
      rw [nums_one (n % 10) (by omega), if_pos (by show (digB (n / 10)).size + 1 ≤ _; omega), ← dig_more n h]
theorem itoa_f (n : Nat) (hn : n ≤ 1152921504606846976) : strconv_Itoa_41.f (n : Int) = some (digB n) := by
  unfold strconv_Itoa_41.f
  rw [if_pos (by omega)]
  unfold Lib.itoa digB
  rw [if_neg (by omega), Int.toNat_natCast]
/-! the manifest -/
def endM (acc : ByteArray) : ByteArray := ((acc ++ (⟨#[115, 117, 109, 32]⟩ : ByteArray)) ++ digB (sumFrom 1 acc.data.toList)) ++ (⟨#[10]⟩ : ByteArray)
def manM (acc : ByteArray) : List ByteArray → ByteArray
  | [] => endM acc
  | x :: r => manM (acc ++ (x ++ (⟨#[10]⟩ : ByteArray))) r
theorem size1 : (⟨#[10]⟩ : ByteArray).size = 1 := rfl
theorem size4 : (⟨#[115, 117, 109, 32]⟩ : ByteArray).size = 4 := rfl
theorem sman_l0 (l : List ByteArray) (hl : l.length ≤ 2000000) (B : Nat) (hB : B ≤ 1099511627776) (d : Nat) : ∀ (i k : Nat) (acc : ByteArray), i ≤ l.length → l.length - i = d → acc.size + weigh (l.drop i) + d ≤ B → B + d + 70000 < k →
    spec_l12Manifest.l0 k l acc (i : Int) = some (manM acc (l.drop i)) := by
  induction d with
  | zero =>
    intro i k acc hi hd hs hk
    obtain ⟨k, rfl⟩ : ∃ m, k = m + 1 := ⟨k - 1, by omega⟩
    have hlt := sumFrom_lt acc.data.toList 1 (by omega)
    have hz := digB_size (sumFrom 1 acc.data.toList)
    simp only [spec_l12Manifest.l0]
    rw [if_neg (by omega), if_pos (by omega), sum_f acc (by omega) k (by omega), Option.bind_some, digits_f _ k (by omega) (by omega), Option.bind_some]
    rw [if_pos (by rw [ByteArray.size_append, size4]; omega), if_pos (by rw [ByteArray.size_append, ByteArray.size_append, size4]; omega), List.drop_of_length_le (by omega)]
    rfl
  | succ d ih =>
    intro i k acc hi hd hs hk
    obtain ⟨k, rfl⟩ : ∃ m, k = m + 1 := ⟨k - 1, by omega⟩
    have hlt : i < l.length := by omega
    rw [List.drop_eq_getElem_cons hlt] at hs ⊢
    simp only [weigh] at hs
    simp only [spec_l12Manifest.l0]
    rw [if_pos (by omega), if_pos (by omega), rd_nat _ l i hlt, if_pos (by omega), if_pos (by rw [ByteArray.size_append, size1]; omega), wrap64_of (by omega) (by omega), show ((i : Int) + 1) = ((i + 1 : Nat) : Int) by omega]
    rw [ih (i + 1) k _ (by omega) (by omega) (by rw [ByteArray.size_append, ByteArray.size_append, size1]; omega) (by omega)]
    rfl
theorem iman_l0 (l : List ByteArray) (hl : l.length ≤ 2000000) (B : Nat) (hB : B ≤ 1099511627776) (d : Nat) : ∀ (i k : Nat) (acc : ByteArray), i ≤ l.length → l.length - i = d → acc.size + weigh (l.drop i) + d ≤ B → B + d + 70000 < k →
    impl_manifest.l0 k acc l (l.length : Int) (i : Int) = some (manM acc (l.drop i)) := by
  induction d with
  | zero =>
    intro i k acc hi hd hs hk
    obtain ⟨k, rfl⟩ : ∃ m, k = m + 1 := ⟨k - 1, by omega⟩
    have hlt := sumFrom_lt acc.data.toList 1 (by omega)
    have hz := digB_size (sumFrom 1 acc.data.toList)
    simp only [impl_manifest.l0]
    rw [if_neg (by omega), if_pos (by omega), lsum_f acc (by omega) k (by omega), Option.bind_some, itoa_f _ (by omega), Option.bind_some]
    rw [if_pos (by rw [ByteArray.size_append, size4]; omega), if_pos (by rw [ByteArray.size_append, ByteArray.size_append, size4]; omega), List.drop_of_length_le (by omega)]
    rfl
  | succ d ih =>
    intro i k acc hi hd hs hk
    obtain ⟨k, rfl⟩ : ∃ m, k = m + 1 := ⟨k - 1, by omega⟩
    have hlt : i < l.length := by omega
    rw [List.drop_eq_getElem_cons hlt] at hs ⊢
    simp only [weigh] at hs
    simp only [impl_manifest.l0]
    rw [if_pos (by omega), if_pos (by omega), if_pos (by omega), rd_nat _ l i hlt, if_pos (by omega), if_pos (by rw [ByteArray.size_append, size1]; omega), wrap64_of (by omega) (by omega), show ((i : Int) + 1) = ((i + 1 : Nat) : Int) by omega]
    rw [ih (i + 1) k _ (by omega) (by omega) (by rw [ByteArray.size_append, ByteArray.size_append, size1]; omega) (by omega)]
    rfl
-- PURE cut
def glue (p : List UInt8) : List (List UInt8) → List (List UInt8)
  | [] => [p]
  | h :: t => (p ++ h) :: t
theorem glue_nil (l : List (List UInt8)) (h : l ≠ []) : glue [] l = l := by
  cases l with
  | nil => exact absurd rfl h
  | cons a t => rfl
theorem extract_ofL (x : ByteArray) (i j : Nat) : x.extract i j = ofL ((x.data.toList.drop i).take (j - i)) := by
  apply data_inj
  rw [data_ofL]
  simp [ByteArray.data_extract, List.extract_eq_take_drop]
theorem cut_l0 (c : UInt8) (x : ByteArray) (hx : x.size ≤ 1000000000) (d : Nat) : ∀ (i j k : Nat) (acc : List ByteArray), j ≤ i → i ≤ x.size → x.size - i = d → d < k → acc.length + d ≤ 2000000000 →
    spec_l00Cut.l0 k x (c.toNat : Int) acc (j : Int) (i : Int) = some (acc ++ (glue ((x.data.toList.drop j).take (i - j)) (splitL c (x.data.toList.drop i))).map ofL) := by
  have hlen := size_data x
  induction d with
  | zero =>
    intro i j k acc hj hi hd hk ha
    obtain ⟨k, rfl⟩ : ∃ m, k = m + 1 := ⟨k - 1, by omega⟩
    have e : i = x.size := by omega
    subst e
    simp only [spec_l00Cut.l0]
    rw [if_neg (by omega), if_pos (by omega), if_pos (by omega), if_pos (by omega), Int.toNat_natCast, extract_ofL, List.drop_of_length_le (i := x.size) (by omega)]
    simp [splitL, glue]
  | succ d ih =>
    intro i j k acc hj hi hd hk ha
    obtain ⟨k, rfl⟩ : ∃ m, k = m + 1 := ⟨k - 1, by omega⟩
    have hlt : i < x.size := by omega
    have hb := bt_nat x i hlt
    have hd1 : x.data.toList.drop i = x.data.toList[i]'(by omega) :: x.data.toList.drop (i + 1) := List.drop_eq_getElem_cons (by omega)
    have htk : (x.data.toList.drop j).take (i + 1 - j) = (x.data.toList.drop j).take (i - j) ++ [x.data.toList[i]'(by omega)] := by
      rw [show i + 1 - j = (i - j) + 1 by omega, List.take_succ_eq_append_getElem (by rw [List.length_drop]; omega), List.getElem_drop]
      simp [show j + (i - j) = i by omega]
    generalize x.data.toList[i]'(by omega) = b at hb hd1 htk
    simp only [spec_l00Cut.l0, hb]
    rw [if_pos (by omega), if_pos (by omega), wrap64_of (by omega) (by omega), show ((i : Int) + 1) = ((i + 1 : Nat) : Int) by omega, hd1]
    by_cases hc : b = c
    · subst hc
      rw [if_pos rfl, if_pos (by omega), if_pos (by omega), if_pos (by omega), if_pos (by omega), Int.toNat_natCast, Int.toNat_natCast, extract_ofL]
      rw [ih (i + 1) (i + 1) k _ (Nat.le_refl _) (by omega) (by omega) (by omega) (by rw [List.length_append, List.length_singleton]; omega)]
      rw [Nat.sub_self, List.take_zero, glue_nil _ (splitL_ne _ _)]
      simp [splitL, glue]
    · rw [if_neg (by intro e; apply hc; apply UInt8.toNat_inj.1; omega)]
      rw [ih (i + 1) j k _ (by omega) (by omega) (by omega) (by omega) (by omega), htk]
      obtain ⟨h, t, he⟩ := splitL_some c (x.data.toList.drop (i + 1))
      rw [splitL_cons' c b _ h t hc he, he]
      simp [glue]
theorem cut_f (c : UInt8) (x : ByteArray) (hx : x.size ≤ 1000000000) (k : Nat) (hk : x.size < k) : spec_l00Cut.f k x (c.toNat : Int) = some (cutAt c x) := by
  have := cut_l0 c x hx x.size 0 0 k [] (Nat.le_refl _) (by omega) (by omega) hk (by simp; omega)
  unfold spec_l00Cut.f cutAt
  rw [show ((0 : Nat) : Int) = 0 from rfl] at this
  rw [this, Nat.sub_self, List.take_zero, glue_nil _ (splitL_ne _ _)]
  rfl
theorem split_cases (c : UInt8) (l : List UInt8) : (c ∉ l ∧ splitL c l = [l]) ∨ ∃ h r, l = h ++ c :: r ∧ c ∉ h ∧ splitL c l = h :: splitL c r := by
  induction l with
  | nil => exact .inl ⟨by simp, rfl⟩
  | cons b t ih =>
    by_cases hb : b = c
    · subst hb
      exact .inr ⟨[], t, rfl, by simp, by simp [splitL]⟩
    · rcases ih with ⟨h1, h2⟩ | ⟨h, r, h1, h2, h3⟩
      · exact .inl ⟨by simp [h1, Ne.symm hb], by rw [splitL_cons' c b t t [] hb h2]⟩
      · exact .inr ⟨b :: h, r, by rw [h1]; rfl, by simp [h2, Ne.symm hb], by rw [splitL_cons' c b t h _ hb h3]⟩
theorem ibyte_none (c : UInt8) (l : List UInt8) (h : c ∉ l) : Lib.indexByte l c = -1 := by
  induction l with
  | nil => rfl
  | cons b t ih =>
    simp only [List.mem_cons, not_or] at h
    simp [Lib.indexByte, Ne.symm h.1, ih h.2]
theorem ibyte_at (c : UInt8) (h r : List UInt8) (hh : c ∉ h) : Lib.indexByte (h ++ c :: r) c = h.length := by
  induction h with
  | nil => simp [Lib.indexByte]
  | cons b t ih =>
    simp only [List.mem_cons, not_or] at hh
    have := ih hh.2
    simp only [List.cons_append, Lib.indexByte, this, List.length_cons]
    rw [if_neg (by simpa using Ne.symm hh.1), if_neg (by simp)]
    omega
theorem size_ofL (l : List UInt8) : (ofL l).size = l.length := by rw [← size_data, data_ofL]
theorem cutf_no (l : List UInt8) (h : (10 : UInt8) ∉ l) : strings_Cut.f (ofL l) (⟨#[10]⟩ : ByteArray) = some (ofL l, (⟨#[]⟩ : ByteArray), false) := by
  unfold strings_Cut.f stringslite_Cut.f stringslite_Index.f
  simp only [data_ofL, Option.bind_some, ibyte_none 10 l h]
  rfl
theorem cutf_yes (h r : List UInt8) (hh : (10 : UInt8) ∉ h) (hsz : h.length + r.length ≤ 1000000000) : strings_Cut.f (ofL (h ++ 10 :: r)) (⟨#[10]⟩ : ByteArray) = some (ofL h, ofL r, true) := by
  unfold strings_Cut.f stringslite_Cut.f stringslite_Index.f
  have e1 : (ofL (h ++ 10 :: r)).size = h.length + (r.length + 1) := by rw [size_ofL]; simp
  have e2 : ((⟨#[10]⟩ : ByteArray).size : Int) = 1 := rfl
  simp only [data_ofL, Option.bind_some, ibyte_at 10 h r hh, e1, e2]
  rw [if_pos (by omega), if_pos (by omega), if_pos (by omega), wrap64_of (by omega) (by omega), if_pos (by omega), if_pos (by omega)]
  simp only [Option.bind_some, extract_ofL, data_ofL]
  have e3 : ((h.length : Int)).toNat = h.length := by omega
  have e4 : ((h.length : Int) + 1).toNat = h.length + 1 := by omega
  rw [e3, e4]
  congr 3
  · simp
  · rw [show h.length + (r.length + 1) - (h.length + 1) = r.length by omega]
    simp
-- PURE ReadManifest (draft)
def sumP : List UInt8 := [115, 117, 109, 32]
theorem hasP_f (l : List UInt8) : strings_HasPrefix.f (ofL l) (⟨#[115, 117, 109, 32]⟩ : ByteArray) = some (decide (l.take 4 = sumP)) := by
  unfold strings_HasPrefix.f stringslite_HasPrefix.f
  have e4 : (((⟨#[115, 117, 109, 32]⟩ : ByteArray).size : Nat) : Int) = 4 := rfl
  have e5 : (⟨#[115, 117, 109, 32]⟩ : ByteArray).toList = sumP := by rw [Lib.toList_data]; rfl
  simp only [size_ofL, e4]
  by_cases h : (l.length : Int) ≥ 4
  · rw [if_pos h, if_pos (by omega), if_pos (by omega), Option.bind_some, e5, Lib.toList_data, extract_ofL, data_ofL, data_ofL]
    rw [show ((4 : Int)).toNat - 0 = 4 from rfl, List.drop_zero]
    congr 1
    rw [Bool.eq_iff_iff]; simp
  · rw [if_neg h, Option.bind_some, decide_eq_false]
    intro e
    have := congrArg List.length e
    simp [sumP] at this
    omega
-- PURE marks (texts)
/-- A mark's text, out of what is ahead of it. -/
theorem mtext_l0 (n : Nat) : ∀ acc : ByteArray, n ≤ 1152921504606846976 → acc.size + n ≤ 1152921504606846976 → ∃ t, ∀ k, n < k → laws_markText.l0 k (n : Int) acc = some t := by
  induction n using Nat.strongRecOn with
  | _ n ih =>
    intro acc hn ha
    by_cases h : n = 0
    · subst h
      refine ⟨(⟨#[109]⟩ : ByteArray) ++ acc, fun k hk => ?_⟩
      obtain ⟨k, rfl⟩ : ∃ m, k = m + 1 := ⟨k - 1, by omega⟩
      simp only [laws_markText.l0]
      rw [if_neg (by omega), if_pos (by omega)]
    · have e2 : Int.tmod (n : Int) 10 = ((n % 10 : Nat) : Int) := by rw [Int.tmod_eq_emod_of_nonneg (by omega)]; omega
      have e1 : wrap64 (Int.tdiv (n : Int) 10) = ((n / 10 : Nat) : Int) := by
        rw [Int.tdiv_eq_ediv_of_nonneg (by omega), wrap64_of (by omega) (by omega)]; omega
      have e3 : strOfNums [(wrap64 (48 + ((n % 10 : Nat) : Int))) % 256] = ⟨#[UInt8.ofNat (48 + n % 10)]⟩ := nums_one (n % 10) (by omega)
      have e4 : ((⟨#[UInt8.ofNat (48 + n % 10)]⟩ : ByteArray) ++ acc).size = acc.size + 1 := by rw [ByteArray.size_append]; show 1 + _ = _; omega
      obtain ⟨t, ht⟩ := ih (n / 10) (by omega) ((⟨#[UInt8.ofNat (48 + n % 10)]⟩ : ByteArray) ++ acc) (by omega) (by rw [e4]; omega)
      refine ⟨t, fun k hk => ?_⟩
      obtain ⟨k, rfl⟩ : ∃ m, k = m + 1 := ⟨k - 1, by omega⟩
      simp only [laws_markText.l0, Option.bind_some, e2, e3, e1]
      rw [if_pos (by omega), if_pos (by show 1 + acc.size ≤ _; omega)]
      exact ht k (by omega)
theorem mtext_ex (n : Nat) (hn : n ≤ 1000000000000) : ∃ t, ∀ k, n < k → laws_markText.f k (n : Int) = some t := by
  by_cases h : n = 0
  · exact ⟨_, fun k _ => by unfold laws_markText.f; rw [if_pos (by omega)]⟩
  · obtain ⟨t, ht⟩ := mtext_l0 n (⟨#[]⟩ : ByteArray) (by omega) (by show 0 + n ≤ _; omega)
    exact ⟨t, fun k hk => by unfold laws_markText.f; rw [if_neg (by omega)]; exact ht k hk⟩
noncomputable def mtext (n : Nat) : ByteArray := if h : n ≤ 1000000000000 then (mtext_ex n h).choose else ByteArray.empty
theorem mtext_f (n : Nat) (hn : n ≤ 1000000000000) (k : Nat) (hk : n < k) : laws_markText.f k (n : Int) = some (mtext n) := by
  unfold mtext; rw [dif_pos hn]; exact (mtext_ex n hn).choose_spec k hk
noncomputable def mlist (a n : Nat) : List ByteArray := (List.range n).map fun j => mtext (a + j)
theorem mlist_succ (a n : Nat) : mlist a (n + 1) = mtext a :: mlist (a + 1) n := by
  unfold mlist
  rw [List.range_succ_eq_map, List.map_cons, List.map_map]
  congr 1
  apply List.map_congr_left
  intro j _
  show mtext (a + (j + 1)) = _
  congr 1; omega
theorem mlist_length (a n : Nat) : (mlist a n).length = n := by simp [mlist]
theorem mlist_at (a n i : Nat) (h : i < (mlist a n).length) : (mlist a n)[i] = mtext (a + i) := by simp [mlist]
theorem mark_l0 (n a : Nat) (hb : a + n ≤ 100000000000) (d : Nat) : ∀ (i k : Nat) (x : List ByteArray), x.length = n → i ≤ n → n - i = d → a + n + d < k →
    laws_markStringS.l0 k x ((a + i : Nat) : Int) (i : Int) = some (((a + n : Nat) : Int), x.take i ++ mlist (a + i) (n - i)) := by
  induction d with
  | zero =>
    intro i k x hx hi hd hk
    obtain ⟨k, rfl⟩ : ∃ m, k = m + 1 := ⟨k - 1, by omega⟩
    have e : i = n := by omega
    subst e
    simp only [laws_markStringS.l0]
    rw [if_neg (by omega), Nat.sub_self, List.take_of_length_le (by omega)]
    simp [mlist]
  | succ d ih =>
    intro i k x hx hi hd hk
    obtain ⟨k, rfl⟩ : ∃ m, k = m + 1 := ⟨k - 1, by omega⟩
    simp only [laws_markStringS.l0]
    rw [if_pos (by omega), mtext_f (a + i) (by omega) k (by omega), Option.bind_some, if_pos (by omega), wrap64_of (by omega) (by omega), wrap64_of (by omega) (by omega)]
    rw [show (((a + i : Nat) : Int) + 1) = ((a + (i + 1) : Nat) : Int) by omega, show ((i : Int) + 1) = ((i + 1 : Nat) : Int) by omega, Int.toNat_natCast]
    rw [ih (i + 1) k _ (by rw [List.length_set]; exact hx) (by omega) (by omega) (by omega)]
    have e1 : (x.set i (mtext (a + i))).take (i + 1) = x.take i ++ [mtext (a + i)] := by
      rw [List.take_succ_eq_append_getElem (by rw [List.length_set]; omega), List.getElem_set_self, List.take_set_of_le (Nat.le_refl _)]
    rw [e1, show n - i = (n - (i + 1)) + 1 by omega, mlist_succ, List.append_assoc, show a + (i + 1) = a + i + 1 by omega]
    rfl
theorem mark_f (x : List ByteArray) (hx : x.length ≤ 10000000000) (k : Nat) (hk : 2 * x.length + 1 < k) : laws_markStringS.f k x 1 = some (((1 + x.length : Nat) : Int), mlist 1 x.length) := by
  have := mark_l0 x.length 1 (by omega) x.length 0 k x rfl (by omega) (by omega) (by omega)
  unfold laws_markStringS.f
  rw [show ((1 + 0 : Nat) : Int) = 1 from rfl, show ((0 : Nat) : Int) = 0 from rfl] at this
  rw [this]; simp
theorem held_l0 (n a : Nat) (hb : a + n ≤ 100000000000) (d : Nat) : ∀ (i k : Nat), i ≤ n → n - i = d → a + n + d < k →
    laws_heldStringS.l0 k (mlist a n) ((a + i : Nat) : Int) (i : Int) = some ((a + n : Nat) : Int) := by
  have hl := mlist_length a n
  induction d with
  | zero =>
    intro i k hi hd hk
    obtain ⟨k, rfl⟩ : ∃ m, k = m + 1 := ⟨k - 1, by omega⟩
    have e : i = n := by omega
    subst e
    simp only [laws_heldStringS.l0]
    rw [if_neg (by omega)]
  | succ d ih =>
    intro i k hi hd hk
    obtain ⟨k, rfl⟩ : ∃ m, k = m + 1 := ⟨k - 1, by omega⟩
    simp only [laws_heldStringS.l0]
    rw [if_pos (by omega), if_pos (by omega), mtext_f (a + i) (by omega) k (by omega), Option.bind_some, rd_nat _ _ i (by omega), mlist_at, if_pos rfl, wrap64_of (by omega) (by omega), wrap64_of (by omega) (by omega)]
    rw [show (((a + i : Nat) : Int) + 1) = ((a + (i + 1) : Nat) : Int) by omega, show ((i : Int) + 1) = ((i + 1 : Nat) : Int) by omega]
    exact ih (i + 1) k (by omega) (by omega) (by omega)
theorem held_f (n : Nat) (hx : n ≤ 10000000000) (k : Nat) (hk : 2 * n + 1 < k) : laws_heldStringS.f k (mlist 1 n) 1 = some ((1 + n : Nat) : Int) := by
  have := held_l0 n 1 (by omega) n 0 k (by omega) (by omega) (by omega)
  unfold laws_heldStringS.f
  rw [show ((1 + 0 : Nat) : Int) = 1 from rfl, show ((0 : Nat) : Int) = 0 from rfl] at this
  exact this
-- PURE law ReadManifest
def rmOK (w : List ByteArray) : Bool := decide (2 ≤ w.length) && (decide ((w.getD (w.length - 1) ByteArray.empty).data.toList = []) && (layersB (w.take (w.length - 2)) && (decide (5 ≤ (w.getD (w.length - 2) ByteArray.empty).size) && decide ((w.getD (w.length - 2) ByteArray.empty).data.toList.take 4 = sumP))))
def specRM (a0 : ByteArray) (w : List ByteArray) : List ByteArray × Int :=
  if rmOK w = true then (if a0.toList = (manM (⟨#[]⟩ : ByteArray) (w.take (w.length - 2))).toList then (w.take (w.length - 2), 0) else ([], 15)) else ([], 3)
theorem rd_getD (l : List ByteArray) (i : Nat) : rdOf ByteArray.empty l (i : Int) = l.getD i ByteArray.empty := by
  unfold rdOf; rw [Int.toNat_natCast]
theorem weigh_take (l : List ByteArray) : ∀ n, weigh (l.take n) ≤ weigh l := by
  induction l with
  | nil => intro n; simp [weigh]
  | cons x r ih =>
    intro n
    cases n with
    | zero => simp [weigh]
    | succ n => have := ih n; simp only [List.take_succ_cons, weigh]; omega
theorem splitL_weigh (c : UInt8) (l : List UInt8) : weigh ((splitL c l).map ofL) ≤ l.length := by
  induction l with
  | nil => simp [splitL, weigh, size_ofL]
  | cons b r ih =>
    by_cases h : b = c
    · rw [splitL, if_pos h]
      simp only [List.map_cons, weigh, size_ofL, List.length_cons, List.length_nil]; omega
    · obtain ⟨hh, tt, he⟩ := splitL_some c r
      rw [he] at ih
      rw [splitL_cons' c b r hh tt h he]
      simp only [List.map_cons, weigh, size_ofL, List.length_cons] at ih ⊢; omega
theorem cutAt_weigh (c : UInt8) (s : ByteArray) : weigh (cutAt c s) ≤ s.size := by
  have := splitL_weigh c s.data.toList
  rw [size_data] at this; exact this
theorem srm_f (a0 : ByteArray) (hs : a0.size ≤ 65536) (k : Nat) (hk : 10000000 ≤ k) : spec_l12ReadManifest.f k a0 = some (specRM a0 (cutAt 10 a0)) := by
  have hlen := cutAt_length 10 a0
  have hw := cutAt_weigh 10 a0
  have hne := cutAt_ne 10 a0
  have hmem := cutAt_mem 10 a0
  unfold spec_l12ReadManifest.f
  have hc := cut_f 10 a0 (by omega) k (by omega)
  rw [show (((10 : UInt8).toNat : Nat) : Int) = 10 from rfl] at hc
  rw [hc, Option.bind_some]
  generalize cutAt 10 a0 = w at hlen hw hne hmem
  have hl0 : 1 ≤ w.length := by cases w with | nil => exact absurd rfl hne | cons => simp
  rw [wrap64_of (x := (w.length : Int) - 2) (by omega) (by omega)]
  obtain ⟨k, rfl⟩ : ∃ m, k = m + 1 := ⟨k - 1, by omega⟩
  by_cases h2 : 2 ≤ w.length
  · rw [if_neg (by omega), wrap64_of (x := (w.length : Int) - 2 + 1) (by omega) (by omega)]
    rw [show (w.length : Int) - 2 + 1 = ((w.length - 1 : Nat) : Int) by omega, show (w.length : Int) - 2 = ((w.length - 2 : Nat) : Int) by omega]
    rw [if_pos (by omega), if_pos (by omega), rd_getD, rd_getD, Lib.toList_data]
    by_cases h3 : (w.getD (w.length - 1) ByteArray.empty).data.toList = []
    · rw [if_pos h3, if_pos (by omega), if_pos (by omega), Int.toNat_natCast]
      have hn : spec_l12NamesOK.f (k + 1) (w.take (w.length - 2)) = some (layersB (w.take (w.length - 2))) := names_f _ (by rw [List.length_take]; omega) (fun x h => by have := hmem x (List.mem_of_mem_take h); omega) 100000 (k + 1) (by rw [List.length_take]; omega) (fun x h => by have := hmem x (List.mem_of_mem_take h); omega) (by rw [List.length_take]; omega)
      rw [hn, Option.bind_some]
      by_cases h4 : layersB (w.take (w.length - 2)) = true
      · rw [if_pos h4, if_pos (by omega)]
        by_cases h5 : 5 ≤ (w.getD (w.length - 2) ByteArray.empty).size
        · rw [if_neg (by omega), if_pos (by omega), if_pos (by omega)]
          simp only [spec_l12ReadManifest.j0]
          rw [extract_ofL, Lib.toList_data, data_ofL, List.drop_zero, Nat.sub_zero]
          by_cases h6 : (w.getD (w.length - 2) ByteArray.empty).data.toList.take 4 = sumP
          · have e6 : ((w.getD (w.length - 2) ByteArray.empty).data.toList.take 4 != ([115, 117, 109, 32] : List UInt8)) = false := bne_eq_false_iff_eq.mpr h6
            rw [e6, if_neg (by decide), if_pos (by omega), if_pos (by omega), Int.toNat_natCast]
            have hm : spec_l12Manifest.f k (w.take (w.length - 2)) = some (manM (⟨#[]⟩ : ByteArray) (w.take (w.length - 2))) := by
              have hwt := weigh_take w (w.length - 2)
              have := sman_l0 (w.take (w.length - 2)) (by rw [List.length_take]; omega) 1000000 (by omega) (w.take (w.length - 2)).length 0 k (⟨#[]⟩ : ByteArray) (by omega) (by omega) (by rw [List.drop_zero, List.length_take]; show 0 + _ + _ ≤ _; omega) (by rw [List.length_take]; omega)
              simpa [spec_l12Manifest.f] using this
            rw [hm, Option.bind_some]
            have hok : rmOK w = true := by simp only [rmOK, Bool.and_eq_true, decide_eq_true_eq]; exact ⟨h2, h3, h4, h5, h6⟩
            unfold specRM
            rw [if_pos hok]
            by_cases h7 : a0.toList = (manM (⟨#[]⟩ : ByteArray) (w.take (w.length - 2))).toList
            · rw [if_pos h7, if_pos h7]
            · rw [if_neg h7, if_neg h7]
          · have e6 : ((w.getD (w.length - 2) ByteArray.empty).data.toList.take 4 != ([115, 117, 109, 32] : List UInt8)) = true := bne_iff_ne.mpr h6
            rw [e6, if_pos rfl]
            have hok : ¬ rmOK w = true := by simp only [rmOK, Bool.and_eq_true, decide_eq_true_eq]; exact fun h => h6 h.2.2.2.2
            unfold specRM; rw [if_neg hok]
        · rw [if_pos (by omega)]
          simp only [spec_l12ReadManifest.j0]
          rw [if_pos trivial]
          have hok : ¬ rmOK w = true := by simp only [rmOK, Bool.and_eq_true, decide_eq_true_eq]; exact fun h => h5 h.2.2.2.1
          unfold specRM; rw [if_neg hok]
      · rw [if_neg h4]
        simp only [spec_l12ReadManifest.j0]
        rw [if_pos trivial]
        have hok : ¬ rmOK w = true := by simp only [rmOK, Bool.and_eq_true]; exact fun h => h4 h.2.2.1
        unfold specRM; rw [if_neg hok]
    · rw [if_neg h3]
      simp only [spec_l12ReadManifest.j0]
      rw [if_pos trivial]
      have hok : ¬ rmOK w = true := by simp only [rmOK, Bool.and_eq_true, decide_eq_true_eq]; exact fun h => h3 h.2.1
      unfold specRM; rw [if_neg hok]
  · rw [if_pos (by omega)]
    simp only [spec_l12ReadManifest.j0]
    rw [if_pos trivial]
    have hok : ¬ rmOK w = true := by simp only [rmOK, Bool.and_eq_true, decide_eq_true_eq]; exact fun h => h2 h.1
    unfold specRM; rw [if_neg hok]
theorem spec_bad (a0 : ByteArray) (w : List ByteArray) (h : ¬ rmOK w = true) : specRM a0 w = ([], 3) := by unfold specRM; rw [if_neg h]
theorem take4_mem (x : ByteArray) (h : x.data.toList.take 4 = sumP) : okName x = false := by
  have h32 : (32 : UInt8) ∈ x.data.toList := List.mem_of_mem_take (i := 4) (by rw [h]; decide)
  have hn : ∀ (l : List UInt8) (b : Bool), (32 : UInt8) ∈ l → nameFrom b l = false := by
    intro l
    induction l with
    | nil => intro b h; cases h
    | cons c r ih =>
      intro b h
      simp only [nameFrom]
      rcases List.mem_cons.1 h with rfl | h
      · have : letc 32 = false := by decide
        have : digc 32 = false := by decide
        simp [*]
      · rw [ih false h, Bool.and_false]
  have : nameB x = false := by unfold nameB; rw [hn _ true h32, Bool.false_and]
  unfold okName; rw [this, Bool.false_and]
/-- The first line that begins with the sum's mark is the last but one, or nothing is read. -/
theorem rm_at (w acc t : List ByteArray) (h : ByteArray) (e : w = acc ++ h :: t) (ha : ∀ x ∈ acc, ¬ x.data.toList.take 4 = sumP) (hh : h.data.toList.take 4 = sumP) (hok : rmOK w = true) :
    ∃ z : ByteArray, t = [z] ∧ z.data.toList = [] ∧ layersB acc = true ∧ 5 ≤ h.size := by
  simp only [rmOK, Bool.and_eq_true, decide_eq_true_eq] at hok
  obtain ⟨h2, h3, h4, h5, h6⟩ := hok
  subst e
  rw [List.length_append, List.length_cons] at h2 h3 h4 h5 h6
  have hlt : acc.length + (t.length + 1) - 2 < (acc ++ h :: t).length := by rw [List.length_append, List.length_cons]; omega
  rcases Nat.lt_trichotomy (acc.length + (t.length + 1) - 2) acc.length with g | g | g
  · exfalso
    have e1 : (acc ++ h :: t).getD (acc.length + (t.length + 1) - 2) ByteArray.empty = acc[acc.length + (t.length + 1) - 2] := by
      rw [List.getD_eq_getElem?_getD, List.getElem?_append_left g, List.getElem?_eq_getElem g]; rfl
    rw [e1] at h6
    exact ha _ (List.getElem_mem g) h6
  · have ht : t.length = 1 := by omega
    obtain ⟨z, rfl⟩ : ∃ z, t = [z] := by
      cases t with
      | nil => simp at ht
      | cons z t => cases t with | nil => exact ⟨z, rfl⟩ | cons => simp at ht
    refine ⟨z, rfl, ?_, ?_, ?_⟩
    · have e1 : (acc ++ [h, z]).getD (acc.length + ([z].length + 1) - 1) ByteArray.empty = z := by
        rw [List.getD_eq_getElem?_getD, List.getElem?_append_right (by simp)]; simp
      rwa [e1] at h3
    · have e1 : (acc ++ [h, z]).take (acc.length + ([z].length + 1) - 2) = acc := by
        rw [show acc.length + ([z].length + 1) - 2 = acc.length by simp]; simp
      rwa [e1] at h4
    · have e1 : (acc ++ [h, z]).getD (acc.length + ([z].length + 1) - 2) ByteArray.empty = h := by
        rw [List.getD_eq_getElem?_getD, List.getElem?_append_right (by simp)]; simp
      rwa [e1] at h5
  · exfalso
    have hm : h ∈ (acc ++ h :: t).take (acc.length + (t.length + 1) - 2) := by
      rw [List.take_append, show acc.length + (t.length + 1) - 2 - acc.length = (t.length - 2) + 1 by omega, List.take_succ_cons]
      simp
    unfold layersB at h4
    rw [Bool.and_eq_true, Bool.and_eq_true, List.all_eq_true] at h4
    have := h4.2.2 h hm
    rw [take4_mem h hh] at this
    cases this
theorem rm_none (w : List ByteArray) (hw : w ≠ []) (hm : ∀ x ∈ w.dropLast, ¬ x.data.toList.take 4 = sumP) (hok : rmOK w = true) : False := by
  simp only [rmOK, Bool.and_eq_true, decide_eq_true_eq] at hok
  obtain ⟨h2, h3, h4, h5, h6⟩ := hok
  have hlt : w.length - 2 < w.dropLast.length := by rw [List.length_dropLast]; omega
  have e1 : w.getD (w.length - 2) ByteArray.empty = w.dropLast[w.length - 2] := by
    rw [List.getElem_dropLast, List.getD_eq_getElem?_getD, List.getElem?_eq_getElem (by omega)]; rfl
  rw [e1] at h6
  exact hm _ (List.getElem_mem hlt) h6
theorem man_i (l : List ByteArray) (hl : l.length ≤ 10) (hw : weigh l ≤ 65536) (k : Nat) (hk : 1000000 ≤ k) : impl_manifest.f k l = some (manM (⟨#[]⟩ : ByteArray) l) := by
  have := iman_l0 l (by omega) 100000 (by omega) l.length 0 k (⟨#[]⟩ : ByteArray) (by omega) (by omega) (by rw [List.drop_zero]; show 0 + _ + _ ≤ _; omega) (by omega)
  simpa [impl_manifest.f] using this
theorem layers_i (l : List ByteArray) (hl : l.length ≤ 10) (hx : ∀ x ∈ l, x.size ≤ 65536) : impl_areLayers.f l = some (layersB l) := by
  unfold impl_areLayers.f
  rw [if_pos ⟨by omega, List.all_eq_true.2 fun x h => by have := hx x h; simp; omega⟩]
theorem irm_l0 (a0 : ByteArray) (hs : a0.size ≤ 65536) (d : Nat) : ∀ (R : List UInt8) (acc : List ByteArray) (k : Nat), R.length = d → cutAt 10 a0 = acc ++ (splitL 10 R).map ofL → (∀ x ∈ acc, ¬ x.data.toList.take 4 = sumP) → acc.length ≤ 6 → R.length ≤ 65536 → 2000000 + d ≤ k →
    impl_readManifest.l0 k a0 acc (ofL R) = some (specRM a0 (cutAt 10 a0)) := by
  induction d using Nat.strongRecOn with
  | _ d ih =>
    intro R acc k hd hw ha hl hR hk
    obtain ⟨k, rfl⟩ : ∃ m, k = m + 1 := ⟨k - 1, by omega⟩
    simp only [impl_readManifest.l0]
    rw [hasP_f, Option.bind_some]
    have hmem := cutAt_mem 10 a0
    have hww := cutAt_weigh 10 a0
    have haw : weigh acc ≤ 65536 := by
      have := weigh_take (cutAt 10 a0) acc.length
      rw [hw, List.take_left, ← hw] at this; omega
    have hsz : ∀ x ∈ acc, x.size ≤ 65536 := fun x h => by have := hmem x (by rw [hw]; exact List.mem_append_left _ h); omega
    by_cases hp : R.take 4 = sumP
    · rw [if_pos (by simpa using hp), layers_i acc (by omega) hsz, Option.bind_some]
      -- the line that begins with the mark
      obtain ⟨h, t, he, hR4, hcase⟩ : ∃ h t, splitL 10 R = h :: t ∧ h.take 4 = sumP ∧ ((t = [] ∧ R = h ∧ (10 : UInt8) ∉ h) ∨ ∃ r, R = h ++ 10 :: r ∧ (10 : UInt8) ∉ h ∧ t = splitL 10 r) := by
        rcases split_cases 10 R with ⟨h1, h2⟩ | ⟨h, r, h1, h2, h3⟩
        · exact ⟨R, [], h2, hp, .inl ⟨rfl, rfl, h1⟩⟩
        · refine ⟨h, splitL 10 r, h3, ?_, .inr ⟨r, h1, h2, rfl⟩⟩
          rw [h1] at hp
          by_cases h4 : 4 ≤ h.length
          · rwa [List.take_append_of_le_length h4] at hp
          · exfalso
            have hm : (10 : UInt8) ∈ (h ++ 10 :: r).take 4 := by
              rw [List.take_append, show 4 - h.length = (3 - h.length) + 1 by omega, List.take_succ_cons]; simp
            rw [hp] at hm
            revert hm; decide
      have hwe : cutAt 10 a0 = acc ++ ofL h :: t.map ofL := by rw [hw, he]; rfl
      have hh4 : (ofL h).data.toList.take 4 = sumP := by rw [data_ofL]; exact hR4
      have hat := fun hok => rm_at (cutAt 10 a0) acc (t.map ofL) (ofL h) hwe ha hh4 hok
      by_cases h4 : layersB acc = true
      · rw [if_pos h4, size_ofL]
        obtain ⟨k, rfl⟩ : ∃ m, k = m + 1 := ⟨k - 1, by omega⟩
        by_cases h5 : R.length < 6
        · rw [if_pos (by omega)]
          simp only [impl_readManifest.j1]
          rw [if_pos trivial, spec_bad]
          intro hok
          obtain ⟨z, hz1, hz2, _, hz4⟩ := hat hok
          rw [size_ofL] at hz4
          rcases hcase with ⟨ht, _, _⟩ | ⟨r, hr, _, ht⟩
          · rw [ht] at hz1; cases hz1
          · rw [hr, List.length_append, List.length_cons] at h5; omega
        · rw [if_neg (by omega)]
          have ei : strings_IndexByte.f (ofL R) 10 = some (Lib.indexByte R 10) := by unfold strings_IndexByte.f; rw [data_ofL]; rfl
          rw [ei, Option.bind_some, wrap64_of (by omega) (by omega)]
          simp only [impl_readManifest.j1]
          by_cases h7 : Lib.indexByte R 10 = (R.length : Int) - 1
          · rw [bne_eq_false_iff_eq.mpr h7, if_neg (by decide)]
            rcases hcase with ⟨_, hr, hn⟩ | ⟨r, hr, hn, ht⟩
            · rw [hr, ibyte_none 10 h hn] at h7; rw [← hr] at h7; omega
            · have hr0 : r = [] := by
                rw [hr, ibyte_at 10 h r hn, List.length_append, List.length_cons] at h7
                exact List.length_eq_zero_iff.1 (by omega)
              subst hr0
              have hwe2 : cutAt 10 a0 = acc ++ [ofL h, ofL []] := by rw [hwe, ht]; rfl
              have hRl : R.length = h.length + 1 := by rw [hr]; simp
              rw [man_i acc (by omega) haw k (by omega), Option.bind_some]
              have e1 : (acc ++ [ofL h, ofL []]).take ((acc ++ [ofL h, ofL []]).length - 2) = acc := by
                rw [List.length_append, show acc.length + [ofL h, ofL []].length - 2 = acc.length by simp]; simp
              have e2 : (acc ++ [ofL h, ofL []]).getD ((acc ++ [ofL h, ofL []]).length - 1) ByteArray.empty = ofL [] := by
                rw [List.getD_eq_getElem?_getD, List.length_append, List.getElem?_append_right (by simp)]; simp
              have e3 : (acc ++ [ofL h, ofL []]).getD ((acc ++ [ofL h, ofL []]).length - 2) ByteArray.empty = ofL h := by
                rw [List.getD_eq_getElem?_getD, List.length_append, List.getElem?_append_right (by simp)]; simp
              have hok : rmOK (acc ++ [ofL h, ofL []]) = true := by
                unfold rmOK
                rw [e1, e2, e3, h4, data_ofL, data_ofL, size_ofL]
                simp only [Bool.and_eq_true, decide_eq_true_eq]
                exact ⟨by simp, by trivial, by trivial, by omega, hR4⟩
              rw [hwe2]
              unfold specRM
              rw [if_pos hok, e1]
              by_cases h8 : (manM (⟨#[]⟩ : ByteArray) acc).toList = a0.toList
              · rw [if_pos h8, if_pos h8.symm]
              · rw [if_neg h8, if_neg (fun e => h8 e.symm)]
          · rw [bne_iff_ne.mpr h7, if_pos rfl, spec_bad]
            intro hok
            obtain ⟨z, hz1, hz2, _, _⟩ := hat hok
            rcases hcase with ⟨ht, _, _⟩ | ⟨r, hr, hn, ht⟩
            · rw [ht] at hz1; cases hz1
            · rw [ht] at hz1
              have hr0 : r = [] := by
                cases r with
                | nil => rfl
                | cons b r =>
                  exfalso
                  by_cases hb : b = 10
                  · rw [splitL, if_pos hb, List.map_cons] at hz1
                    obtain ⟨h', t', he'⟩ := splitL_some 10 r
                    rw [he'] at hz1; simp at hz1
                  · obtain ⟨h', t', he'⟩ := splitL_some 10 r
                    rw [splitL_cons' 10 b r h' t' hb he', List.map_cons] at hz1
                    have := (List.cons.inj hz1).1
                    rw [← this, data_ofL] at hz2; cases hz2
              apply h7
              rw [hr, hr0, ibyte_at 10 h [] hn]; simp
      · rw [if_neg h4]
        obtain ⟨k, rfl⟩ : ∃ m, k = m + 1 := ⟨k - 1, by omega⟩
        simp only [impl_readManifest.j1]
        rw [if_pos trivial, spec_bad]
        intro hok
        obtain ⟨z, _, _, hz, _⟩ := hat hok
        exact h4 hz
    · rw [if_neg (by simpa using hp)]
      rcases split_cases 10 R with ⟨h1, h2⟩ | ⟨h, r, h1, h2, h3⟩
      · rw [cutf_no R h1, Option.bind_some, if_neg (by simp), spec_bad]
        intro hok
        refine rm_none (cutAt 10 a0) (cutAt_ne _ _) ?_ hok
        rw [hw, h2]
        simpa using ha
      · have hRl : R.length = h.length + (r.length + 1) := by rw [h1]; simp
        have hn : ¬ (ofL h).data.toList.take 4 = sumP := by
          rw [data_ofL]
          intro e
          apply hp
          have h4 : 4 ≤ h.length := by have := congrArg List.length e; simp [sumP] at this; omega
          rw [h1, List.take_append_of_le_length h4]; exact e
        rw [h1, cutf_yes h r h2 (by omega), Option.bind_some, if_pos rfl]
        have ha' : ∀ x ∈ acc ++ [ofL h], ¬ x.data.toList.take 4 = sumP := fun x hx => by
          rcases List.mem_append.1 hx with hx | hx
          · exact ha x hx
          · rw [List.mem_singleton.1 hx]; exact hn
        have hwe : cutAt 10 a0 = (acc ++ [ofL h]) ++ (splitL 10 r).map ofL := by rw [hw, h3]; simp
        by_cases h6 : acc.length = 6
        · rw [if_pos (by omega), spec_bad]
          intro hok
          obtain ⟨h', t', he⟩ := splitL_some 10 r
          simp only [rmOK, Bool.and_eq_true, decide_eq_true_eq] at hok
          obtain ⟨_, _, g4, _, _⟩ := hok
          unfold layersB at g4
          rw [Bool.and_eq_true, decide_eq_true_eq, List.length_take] at g4
          have gl : (cutAt 10 a0).length = 7 + (t'.length + 1) := by rw [hwe, he]; simp; omega
          omega
        · rw [if_neg (by omega), if_pos (by omega)]
          exact ih r.length (by omega) r (acc ++ [ofL h]) k rfl hwe ha' (by rw [List.length_append, List.length_singleton]; omega) (by omega) (by omega)
theorem irm_f (a0 : ByteArray) (hs : a0.size ≤ 65536) (k : Nat) (hk : 10000000 ≤ k) : impl_readManifest.f k a0 = some (specRM a0 (cutAt 10 a0)) := by
  have := irm_l0 a0 hs a0.data.toList.length a0.data.toList [] k rfl rfl (fun x h => by cases h) (by simp) (by rw [size_data]; exact hs) (by rw [size_data]; omega)
  rw [ofL_data] at this
  exact this
theorem specRM_len (a0 : ByteArray) (w : List ByteArray) : (specRM a0 w).1.length ≤ 5 := by
  unfold specRM
  split
  · rename_i h
    split
    · simp only [rmOK, Bool.and_eq_true, decide_eq_true_eq] at h
      obtain ⟨_, _, g, _, _⟩ := h
      unfold layersB at g
      rw [Bool.and_eq_true, decide_eq_true_eq] at g
      exact g.1
    · simp
  · simp
theorem law_readManifest_k (a0 : ByteArray) (k : Nat) (hk : 20000000 ≤ k) : laws_FnExactReadManifest.f k a0 = some true := by
  unfold laws_FnExactReadManifest.f
  by_cases h0 : (a0.size : Int) > 1048576
  · rw [if_pos h0]
  · rw [if_neg h0]
    obtain ⟨v, n, hv, hs, hi⟩ : ∃ (v : List ByteArray) (n : Int), v.length ≤ 10 ∧ (∀ k, 10000000 ≤ k → spec_ReadManifest.f k a0 = some (v, n)) ∧ (∀ k, 10000000 ≤ k → impl_ReadManifest.f k a0 = some (v, n)) := by
      have hlong : impl_isLong.f [a0] = some (!decide ((a0.size : Int) ≤ 65536)) := by unfold impl_isLong.f; simp
      by_cases h1 : (a0.size : Int) > 65536
      · refine ⟨[], 2, by simp, fun k _ => ?_, fun k _ => ?_⟩
        · unfold spec_ReadManifest.f; rw [if_pos h1]
        · unfold impl_ReadManifest.f; rw [hlong, Option.bind_some, decide_eq_false (by omega), if_pos (by decide)]
      · have hl := specRM_len a0 (cutAt 10 a0)
        refine ⟨(specRM a0 (cutAt 10 a0)).1, (specRM a0 (cutAt 10 a0)).2, by omega, fun k hk => ?_, fun k hk => ?_⟩
        · unfold spec_ReadManifest.f; rw [if_neg h1, srm_f a0 (by omega) k hk, Option.bind_some, Option.bind_some, if_pos (by simp only [List.length_nil]; omega), List.nil_append]
        · unfold impl_ReadManifest.f; rw [hlong, Option.bind_some, decide_eq_true (by omega), if_neg (by decide), irm_f a0 (by omega) k hk, Option.bind_some]
    have he := fun k hk => eq_f v (by omega) k hk
    have hm := fun k hk => mark_f v (by omega) k hk
    have hh := fun k hk => held_f v.length (by omega) k hk
    obtain ⟨m, rfl⟩ : ∃ m, k = m + 2 := ⟨k - 2, by omega⟩
    rw [hs _ (by omega), hi _ (by omega)]
    simp only [Option.bind_some]
    rw [he _ (by omega), Option.bind_some, if_pos rfl, bne_self_eq_false]
    simp only [laws_FnExactReadManifest.j0, laws_FnExactReadManifest.j1]
    rw [if_neg (by decide), hm _ (by omega), Option.bind_some, hh _ (by omega), Option.bind_some, if_neg (by omega), if_pos rfl, hi _ (by omega), Option.bind_some, he _ (by omega), Option.bind_some, if_pos rfl, bne_self_eq_false, if_neg (by decide), hh _ (by omega), Option.bind_some, if_neg (by omega), if_pos rfl]
theorem law_readManifest (a0 : ByteArray) : ∃ k, laws_FnExactReadManifest.f k a0 = some true := ⟨_, law_readManifest_k a0 _ (Nat.le_refl _)⟩

end Go.Proofs.YtfemiphklanjaaaDoor.Q
