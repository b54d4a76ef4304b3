/- Plain laws on stable sorting in place: what keeps each class in its order, what is sorted. No program in sight. -/
namespace Stb0
/-- A part of a row. -/
def seg (d : Nat → Int) (a b : Nat) : List Int := (List.range (b - a)).map fun i => d (a + i)
/-- Each class in its order. -/
def Stb (cls : Int → Int) (d d' : Nat → Int) (a b : Nat) : Prop := ∀ c, (seg d a b).filter (fun x => cls x == c) = (seg d' a b).filter (fun x => cls x == c)
/-- Classes rise. -/
def Srt (cls : Int → Int) (d : Nat → Int) (a b : Nat) : Prop := ∀ i j, a ≤ i → i ≤ j → j < b → cls (d i) ≤ cls (d j)
def Same (d d' : Nat → Int) (a b : Nat) : Prop := ∀ i, ¬ (a ≤ i ∧ i < b) → d' i = d i
section
variable {cls : Int → Int} {d d' d'' : Nat → Int} {a b m : Nat}
theorem seg_len : (seg d a b).length = b - a := by simp [seg]
theorem seg_get {i : Nat} (h : i < b - a) : (seg d a b)[i]? = some (d (a + i)) := by
  unfold seg
  rw [List.getElem?_map, List.getElem?_range h]
  rfl
theorem seg_split (h1 : a ≤ m) (h2 : m ≤ b) : seg d a b = seg d a m ++ seg d m b := by
  apply List.ext_getElem?
  intro i
  by_cases h : i < b - a
  · rw [seg_get h]
    by_cases h3 : i < m - a
    · rw [List.getElem?_append_left (by rw [seg_len]; exact h3), seg_get h3]
    · rw [List.getElem?_append_right (by rw [seg_len]; omega), seg_len, seg_get (by omega)]
      congr 2
      omega
  · rw [List.getElem?_eq_none (by rw [seg_len]; omega), List.getElem?_eq_none (by rw [List.length_append, seg_len, seg_len]; omega)]
theorem seg_congr (h : ∀ i, a ≤ i → i < b → d' i = d i) : seg d' a b = seg d a b := by
  unfold seg
  apply List.map_congr_left
  intro i hi
  have := List.mem_range.1 hi
  exact h _ (by omega) (by omega)
theorem seg_one (h : b = a + 1) : seg d a b = [d a] := by
  subst h
  unfold seg
  rw [show a + 1 - a = 1 by omega]
  rfl
theorem mem_seg {x : Int} : x ∈ seg d a b ↔ ∃ i, a ≤ i ∧ i < b ∧ d i = x := by
  unfold seg
  rw [List.mem_map]
  constructor
  · rintro ⟨i, hi, rfl⟩
    have := List.mem_range.1 hi
    exact ⟨a + i, by omega, by omega, rfl⟩
  · rintro ⟨i, h1, h2, rfl⟩
    exact ⟨i - a, List.mem_range.2 (by omega), by congr 1; omega⟩
theorem Stb.refl (cls : Int → Int) (d : Nat → Int) (a b : Nat) : Stb cls d d a b := fun _ => rfl
theorem Stb.trans (h : Stb cls d d' a b) (k : Stb cls d' d'' a b) : Stb cls d d'' a b := fun c => (h c).trans (k c)
theorem Stb.join (h1 : a ≤ m) (h2 : m ≤ b) (h : Stb cls d d' a m) (k : Stb cls d d' m b) : Stb cls d d' a b := fun c => by
  rw [seg_split (d := d) h1 h2, seg_split (d := d') h1 h2, List.filter_append, List.filter_append, h c, k c]
theorem Stb.same (h : ∀ i, a ≤ i → i < b → d' i = d i) : Stb cls d d' a b := fun c => by rw [seg_congr h]
theorem Stb.wide {a0 b0 : Nat} (h : Stb cls d d' a b) (hs : Same d d' a b) (h1 : a0 ≤ a) (h2 : b ≤ b0) (h3 : a ≤ b) : Stb cls d d' a0 b0 :=
  Stb.join (m := a) h1 (by omega) (Stb.same fun i _ hi => hs i (by omega)) (Stb.join (m := b) h3 h2 h (Stb.same fun i hi _ => hs i (by omega)))
theorem Same.refl (d : Nat → Int) (a b : Nat) : Same d d a b := fun _ _ => rfl
theorem Same.trans (h : Same d d' a b) (k : Same d' d'' a b) : Same d d'' a b := fun i hi => (k i hi).trans (h i hi)
theorem Same.wide {a0 b0 : Nat} (h : Same d d' a b) (h1 : a0 ≤ a) (h2 : b ≤ b0) : Same d d' a0 b0 := fun i hi => h i (by omega)
theorem Srt.part {a0 b0 : Nat} (h : Srt cls d a b) (h1 : a ≤ a0) (h2 : b0 ≤ b) : Srt cls d a0 b0 := fun i j hi hij hj => h i j (by omega) hij (by omega)
theorem Srt.congr (h : Srt cls d a b) (hs : ∀ i, a ≤ i → i < b → d' i = d i) : Srt cls d' a b := fun i j hi hij hj => by
  rw [hs i hi (by omega), hs j (by omega) hj]; exact h i j hi hij hj
theorem Srt.one (h : b ≤ a + 1) : Srt cls d a b := fun i j hi hij hj => by
  have : i = j := by omega
  rw [this]; exact Int.le_refl _
/-- Two parts, the left one's all above the right one's, change places. -/
theorem Stb.turn (h1 : a ≤ m) (h2 : m ≤ b) (ht : seg d' a b = seg d m b ++ seg d a m) (hlt : ∀ i j, a ≤ i → i < m → m ≤ j → j < b → cls (d j) < cls (d i)) : Stb cls d d' a b := fun c => by
  rw [ht, seg_split (d := d) h1 h2, List.filter_append, List.filter_append]
  by_cases h : ∃ i, a ≤ i ∧ i < m ∧ cls (d i) = c
  · obtain ⟨i, i1, i2, i3⟩ := h
    have : (seg d m b).filter (fun x => cls x == c) = [] := by
      rw [List.filter_eq_nil_iff]
      intro x hx
      obtain ⟨j, j1, j2, rfl⟩ := mem_seg.1 hx
      have := hlt i j i1 i2 j1 j2
      simp
      omega
    rw [this, List.append_nil, List.nil_append]
  · have : (seg d a m).filter (fun x => cls x == c) = [] := by
      rw [List.filter_eq_nil_iff]
      intro x hx
      obtain ⟨i, i1, i2, rfl⟩ := mem_seg.1 hx
      simp
      exact fun e => h ⟨i, i1, i2, e⟩
    rw [this, List.append_nil, List.nil_append]
/-- Two neighbours change places. -/
def swp (d : Nat → Int) (i j : Nat) : Nat → Int := fun k => if k = i then d j else if k = j then d i else d k
theorem swp_same {i j : Nat} (h1 : a ≤ i) (h2 : i < b) (h3 : a ≤ j) (h4 : j < b) : Same d (swp d i j) a b := fun k hk => by
  unfold swp
  rw [if_neg (by omega), if_neg (by omega)]
theorem Stb.swap {j : Nat} (h1 : a ≤ j) (h2 : j + 1 < b) (hlt : cls (d (j + 1)) < cls (d j)) : Stb cls d (swp d (j + 1) j) a b := by
  have ht : Stb cls d (swp d (j + 1) j) j (j + 2) := by
    refine Stb.turn (m := j + 1) (by omega) (by omega) ?_ (fun i k i1 i2 k1 k2 => ?_)
    · rw [seg_split (d := swp d (j + 1) j) (m := j + 1) (by omega) (by omega), seg_one (d := swp d (j + 1) j) rfl, seg_one (d := swp d (j + 1) j) (show j + 2 = j + 1 + 1 by omega), seg_one (d := d) (show j + 2 = j + 1 + 1 by omega), seg_one (d := d) rfl]
      simp [swp]
    · have e1 : i = j := by omega
      have e2 : k = j + 1 := by omega
      rw [e1, e2]; exact hlt
  exact ht.wide (swp_same (by omega) (by omega) (by omega) (by omega)) h1 (by omega) (by omega)
/-- Insertion: all but the one at j are sorted, and all behind it are above it. -/
def Ins (cls : Int → Int) (d : Nat → Int) (a j i : Nat) : Prop := (∀ p q, a ≤ p → p ≤ q → q ≤ i → p ≠ j → q ≠ j → cls (d p) ≤ cls (d q)) ∧ (∀ q, j < q → q ≤ i → cls (d j) < cls (d q))
theorem Ins.start {i : Nat} (h : Srt cls d a i) : Ins cls d a i i := ⟨fun p q h1 h2 h3 h4 h5 => h p q h1 h2 (by omega), fun q h1 h2 => by omega⟩
theorem Ins.stop {i j : Nat} (h : Ins cls d a j i) (hj : j = a ∨ ∃ k, j = k + 1 ∧ cls (d k) ≤ cls (d j)) (hji : j ≤ i) : Srt cls d a (i + 1) := fun p q h1 h2 h3 => by
  by_cases e1 : p = j
  · by_cases e2 : q = j
    · rw [e1, e2]; exact Int.le_refl _
    · rw [e1]; exact Int.le_of_lt (h.2 q (by omega) (by omega))
  · by_cases e2 : q = j
    · rw [e2]
      rcases hj with hj | ⟨k, hk, hc⟩
      · omega
      · have := h.1 p k h1 (by omega) (by omega) e1 (by omega)
        omega
    · exact h.1 p q h1 h2 (by omega) e1 e2
theorem Ins.step {i k : Nat} (h : Ins cls d a (k + 1) i) (hk : a ≤ k) (_ : k + 1 ≤ i) (hlt : cls (d (k + 1)) < cls (d k)) : Ins cls (swp d (k + 1) k) a k i := by
  have e1 : swp d (k + 1) k k = d (k + 1) := by unfold swp; rw [if_neg (by omega), if_pos rfl]
  have e2 : swp d (k + 1) k (k + 1) = d k := by unfold swp; rw [if_pos rfl]
  have e3 : ∀ q, q ≠ k → q ≠ k + 1 → swp d (k + 1) k q = d q := fun q h1 h2 => by unfold swp; rw [if_neg h2, if_neg h1]
  refine ⟨fun p q h1 h2 h3 h4 h5 => ?_, fun q h1 h2 => ?_⟩
  · by_cases p1 : p = k + 1
    · rw [p1, e2]
      by_cases q1 : q = k + 1
      · rw [q1, e2]; exact Int.le_refl _
      · rw [e3 q h5 q1]
        exact h.1 k q (by omega) (by omega) h3 (by omega) q1
    · rw [e3 p h4 p1]
      by_cases q1 : q = k + 1
      · rw [q1, e2]
        exact h.1 p k h1 (by omega) (by omega) p1 (by omega)
      · rw [e3 q h5 q1]
        exact h.1 p q h1 h2 h3 p1 q1
  · rw [e1]
    by_cases q1 : q = k + 1
    · rw [q1, e2]; exact hlt
    · rw [e3 q (by omega) q1]
      exact h.2 q (by omega) h2
/-- Two ranges change places. -/
def swR (d : Nat → Int) (x y n : Nat) : Nat → Int := fun k => if x ≤ k ∧ k < x + n then d (y + (k - x)) else if y ≤ k ∧ k < y + n then d (x + (k - y)) else d k
theorem swR_zero (d : Nat → Int) (x y : Nat) : swR d x y 0 = d := by
  funext k
  unfold swR
  rw [if_neg (by omega), if_neg (by omega)]
theorem swR_succ (d : Nat → Int) (x y n : Nat) (h : x + n < y) : swp (swR d x y n) (x + n) (y + n) = swR d x y (n + 1) := by
  funext k
  by_cases k1 : k = x + n
  · subst k1
    unfold swp swR
    rw [if_pos rfl, if_neg (by omega), if_neg (by omega), if_pos (by omega)]
    congr 1; omega
  · by_cases k2 : k = y + n
    · subst k2
      unfold swp swR
      rw [if_neg k1, if_pos rfl, if_neg (by omega), if_neg (by omega), if_neg (by omega), if_pos (by omega)]
      congr 1; omega
    · unfold swp
      rw [if_neg k1, if_neg k2]
      unfold swR
      by_cases a1 : x ≤ k ∧ k < x + n
      · rw [if_pos a1, if_pos (by omega)]
      · rw [if_neg a1, if_neg (show ¬ (x ≤ k ∧ k < x + (n + 1)) by omega)]
        by_cases a2 : y ≤ k ∧ k < y + n
        · rw [if_pos a2, if_pos (by omega)]
        · rw [if_neg a2, if_neg (by omega)]
theorem swR_l {x y n t : Nat} (ht : t < n) : swR d x y n (x + t) = d (y + t) := by
  unfold swR
  rw [if_pos (by omega)]
  congr 1; omega
theorem swR_r {x y n t : Nat} (h : x + n ≤ y) (ht : t < n) : swR d x y n (y + t) = d (x + t) := by
  unfold swR
  rw [if_neg (by omega), if_pos (by omega)]
  congr 1; omega
theorem swR_o {x y n k : Nat} (h1 : ¬ (x ≤ k ∧ k < x + n)) (h2 : ¬ (y ≤ k ∧ k < y + n)) : swR d x y n k = d k := by
  unfold swR
  rw [if_neg h1, if_neg h2]
/-- A rotation under way: T is what it ends at; l + i = m; the parts l .. m and m .. m + j are still to be turned. -/
def Rot (T d : Nat → Int) (a l m i j b : Nat) : Prop :=
  l + i = m ∧ a ≤ l ∧ m + j ≤ b ∧ (∀ k, a ≤ k → k < l → d k = T k) ∧ (∀ k, m + j ≤ k → k < b → d k = T k) ∧ (∀ t, t < j → T (l + t) = d (m + t)) ∧ (∀ t, t < i → T (l + j + t) = d (l + t))
theorem Rot.left {T : Nat → Int} {l i j : Nat} (h : Rot T d a l m i j b) (hij : j < i) : Rot T (swR d l m j) a (l + j) m (i - j) j b := by
  obtain ⟨h1, h2, h3, h4, h5, h6, h7⟩ := h
  refine ⟨by omega, by omega, h3, fun k k1 k2 => ?_, fun k k1 k2 => ?_, fun t ht => ?_, fun t ht => ?_⟩
  · by_cases q : k < l
    · rw [swR_o (by omega) (by omega)]; exact h4 k k1 q
    · obtain ⟨t, rfl⟩ : ∃ t, k = l + t := ⟨k - l, by omega⟩
      rw [swR_l (by omega)]; exact (h6 t (by omega)).symm
  · rw [swR_o (by omega) (by omega)]; exact h5 k k1 k2
  · rw [swR_r (by omega) ht]; exact h7 t (by omega)
  · rw [swR_o (by omega) (by omega)]
    have := h7 (j + t) (by omega)
    rw [show l + j + j + t = l + j + (j + t) by omega, this]
    congr 1; omega
theorem Rot.right {T : Nat → Int} {l i j : Nat} (h : Rot T d a l m i j b) (hij : i < j) : Rot T (swR d l (m + j - i) i) a l m i (j - i) b := by
  obtain ⟨h1, h2, h3, h4, h5, h6, h7⟩ := h
  refine ⟨h1, h2, by omega, fun k k1 k2 => ?_, fun k k1 k2 => ?_, fun t ht => ?_, fun t ht => ?_⟩
  · rw [swR_o (by omega) (by omega)]; exact h4 k k1 k2
  · by_cases q : m + j ≤ k
    · rw [swR_o (by omega) (by omega)]; exact h5 k q k2
    · obtain ⟨t, rfl⟩ : ∃ t, k = m + j - i + t := ⟨k - (m + j - i), by omega⟩
      rw [swR_r (by omega) (by omega)]
      have := h7 t (by omega)
      rw [← this]
      congr 1; omega
  · rw [swR_o (by omega) (by omega)]; exact h6 t (by omega)
  · rw [swR_l ht]
    have := h6 (j - i + t) (by omega)
    rw [show l + (j - i) + t = l + (j - i + t) by omega, this]
    congr 1; omega
theorem Rot.done {T : Nat → Int} {l i : Nat} (h : Rot T d a l m i i b) : ∀ k, a ≤ k → k < b → swR d l m i k = T k := fun k k1 k2 => by
  obtain ⟨h1, h2, h3, h4, h5, h6, h7⟩ := h
  by_cases q : k < l
  · rw [swR_o (by omega) (by omega)]; exact h4 k k1 q
  · by_cases q2 : k < m
    · obtain ⟨t, rfl⟩ : ∃ t, k = l + t := ⟨k - l, by omega⟩
      rw [swR_l (by omega)]; exact (h6 t (by omega)).symm
    · by_cases q3 : k < m + i
      · obtain ⟨t, rfl⟩ : ∃ t, k = m + t := ⟨k - m, by omega⟩
        rw [swR_r (by omega) (by omega)]
        have := h7 t (by omega)
        rw [← this]
        congr 1; omega
      · rw [swR_o (by omega) (by omega)]; exact h5 k (by omega) k2
/-- What a rotation ends at. -/
def rotT (d : Nat → Int) (a m b : Nat) : Nat → Int := fun k => if a ≤ k ∧ k < b then (if k < a + (b - m) then d (m + (k - a)) else d (a + (k - a - (b - m)))) else d k
theorem Rot.start (h1 : a ≤ m) (h2 : m ≤ b) : Rot (rotT d a m b) d a a m (m - a) (b - m) b := by
  refine ⟨by omega, by omega, by omega, fun k k1 k2 => by omega, fun k k1 k2 => by omega, fun t ht => ?_, fun t ht => ?_⟩
  · unfold rotT
    rw [if_pos (by omega), if_pos (by omega)]
    congr 1; omega
  · unfold rotT
    rw [if_pos (by omega), if_neg (by omega)]
    congr 1; omega
theorem rotT_l {t : Nat} (h1 : a ≤ m) (ht : t < b - m) : rotT d a m b (a + t) = d (m + t) := by
  unfold rotT
  rw [if_pos (by omega), if_pos (by omega)]
  congr 1; omega
theorem rotT_r {t : Nat} (h2 : m ≤ b) (ht : t < m - a) : rotT d a m b (a + (b - m) + t) = d (a + t) := by
  unfold rotT
  rw [if_pos (by omega), if_neg (by omega)]
  congr 1; omega
theorem rotT_same : Same d (rotT d a m b) a b := fun k hk => by unfold rotT; rw [if_neg hk]
theorem rotT_seg (h1 : a ≤ m) (h2 : m ≤ b) : seg (rotT d a m b) a b = seg d m b ++ seg d a m := by
  apply List.ext_getElem?
  intro i
  by_cases h : i < b - a
  · rw [seg_get h]
    by_cases h3 : i < b - m
    · rw [List.getElem?_append_left (by rw [seg_len]; exact h3), seg_get h3, rotT_l h1 h3]
    · rw [List.getElem?_append_right (by rw [seg_len]; omega), seg_len, seg_get (by omega)]
      have := rotT_r (d := d) (a := a) (m := m) (b := b) (t := i - (b - m)) h2 (by omega)
      rw [← this]
      congr 2
      omega
  · rw [List.getElem?_eq_none (by rw [seg_len]; omega), List.getElem?_eq_none (by rw [List.length_append, seg_len, seg_len]; omega)]
theorem rotT_stb (h1 : a ≤ m) (h2 : m ≤ b) (hlt : ∀ i j, a ≤ i → i < m → m ≤ j → j < b → cls (d j) < cls (d i)) : Stb cls d (rotT d a m b) a b :=
  Stb.turn h1 h2 (rotT_seg h1 h2) hlt
theorem rotT_triv (h1 : a ≤ m) (h2 : m ≤ b) (h : a = m ∨ m = b) : rotT d a m b = d := by
  funext k
  unfold rotT
  by_cases q : a ≤ k ∧ k < b
  · rw [if_pos q]
    split
    · congr 1; omega
    · congr 1; omega
  · rw [if_neg q]
theorem Stb.mem (h : Stb cls d d' a b) {j : Nat} (h1 : a ≤ j) (h2 : j < b) : ∃ i, a ≤ i ∧ i < b ∧ d i = d' j := by
  have hm : d' j ∈ seg d' a b := mem_seg.2 ⟨j, h1, h2, rfl⟩
  have hf : d' j ∈ (seg d' a b).filter (fun x => cls x == cls (d' j)) := List.mem_filter.2 ⟨hm, by simp⟩
  rw [← h (cls (d' j))] at hf
  exact mem_seg.1 (List.mem_filter.1 hf).1
/-- The parts of a merge. -/
theorem merge_split {s e mid : Nat} (s1 : a ≤ s) (s2 : s ≤ m) (e1 : m ≤ e) (e2 : e ≤ b) (he : e + s = mid + m) (h1 : Srt cls d a m) (h2 : Srt cls d m b)
    (LO : a < s → e < b → cls (d (s - 1)) ≤ cls (d e)) (HI : s < m → m < e → cls (d (e - 1)) < cls (d s)) :
    Srt cls (rotT d s m e) a s ∧ Srt cls (rotT d s m e) s mid ∧ Srt cls (rotT d s m e) mid e ∧ Srt cls (rotT d s m e) e b ∧
    (∀ i j, a ≤ i → i < mid → mid ≤ j → j < b → cls (rotT d s m e i) ≤ cls (rotT d s m e j)) ∧ Stb cls d (rotT d s m e) a b ∧ Same d (rotT d s m e) a b := by
  have hs := rotT_same (d := d) (a := s) (m := m) (b := e)
  have lo : ∀ k, k < s → rotT d s m e k = d k := fun k hk => hs k (by omega)
  have hi : ∀ k, e ≤ k → rotT d s m e k = d k := fun k hk => hs k (by omega)
  have ml : ∀ k, s ≤ k → k < mid → rotT d s m e k = d (m + (k - s)) := fun k k1 k2 => by
    have := rotT_l (d := d) (a := s) (m := m) (b := e) (t := k - s) s2 (by omega)
    rw [← this]; congr 1; omega
  have mr : ∀ k, mid ≤ k → k < e → rotT d s m e k = d (s + (k - mid)) := fun k k1 k2 => by
    have := rotT_r (d := d) (a := s) (m := m) (b := e) (t := k - mid) e1 (by omega)
    rw [← this]; congr 1; omega
  have hlt : ∀ i j, s ≤ i → i < m → m ≤ j → j < e → cls (d j) < cls (d i) := fun i j i1 i2 j1 j2 => by
    have a1 := h1 s i s1 i1 i2
    have a2 := h2 j (e - 1) j1 (by omega) (by omega)
    have a3 := HI (by omega) (by omega)
    omega
  refine ⟨fun i j i1 ij j1 => ?_, fun i j i1 ij j1 => ?_, fun i j i1 ij j1 => ?_, fun i j i1 ij j1 => ?_, fun i j i1 i2 j1 j2 => ?_, ?_, hs.wide s1 e2⟩
  · rw [lo i (by omega), lo j (by omega)]; exact h1 i j i1 ij (by omega)
  · rw [ml i i1 (by omega), ml j (by omega) j1]; exact h2 _ _ (by omega) (by omega) (by omega)
  · rw [mr i i1 (by omega), mr j (by omega) j1]; exact h1 _ _ (by omega) (by omega) (by omega)
  · rw [hi i i1, hi j (by omega)]; exact h2 i j (by omega) ij j1
  · by_cases p : i < s
    · rw [lo i p]
      by_cases q : j < e
      · rw [mr j j1 q]; exact h1 _ _ i1 (by omega) (by omega)
      · rw [hi j (by omega)]
        have a1 := h1 i (s - 1) i1 (by omega) (by omega)
        have a2 := LO (by omega) (by omega)
        have a3 := h2 e j (by omega) (by omega) j2
        omega
    · rw [ml i (by omega) i2]
      by_cases q : j < e
      · rw [mr j j1 q]
        exact Int.le_of_lt (hlt _ _ (by omega) (by omega) (by omega) (by omega))
      · rw [hi j (by omega)]; exact h2 _ _ (by omega) (by omega) j2
  · exact (rotT_stb s2 e1 hlt).wide hs s1 e2 (by omega)
/-- Both halves merged: the whole. -/
theorem merge_join {mid : Nat} (_ : a ≤ mid) (_ : mid ≤ b) (hc : ∀ i j, a ≤ i → i < mid → mid ≤ j → j < b → cls (d i) ≤ cls (d j))
    (hl : Srt cls d' a mid) (hr : Srt cls d' mid b) (sl : Stb cls d d' a mid) (sr : Stb cls d d' mid b) : Srt cls d' a b := fun i j i1 ij j1 => by
  by_cases p : j < mid
  · exact hl i j i1 ij p
  · by_cases q : mid ≤ i
    · exact hr i j q ij j1
    · obtain ⟨k, k1, k2, k3⟩ := sl.mem i1 (show i < mid by omega)
      obtain ⟨u, u1, u2, u3⟩ := sr.mem (show mid ≤ j by omega) j1
      rw [← k3, ← u3]
      exact hc k u k1 k2 u1 u2
/-- One ahead of a sorted part, on its way up. -/
def Mv (cls : Int → Int) (d : Nat → Int) (a k i b : Nat) : Prop :=
  (∀ p q, a ≤ p → p ≤ q → q < b → p ≠ k → q ≠ k → cls (d p) ≤ cls (d q)) ∧ (∀ q, a ≤ q → q < i → q ≠ k → cls (d q) < cls (d k)) ∧ (∀ q, i ≤ q → q < b → cls (d k) ≤ cls (d q))
theorem Mv.start {i : Nat} (_ : a + 1 ≤ i) (h2 : Srt cls d (a + 1) b) (h3 : ∀ q, a < q → q < i → cls (d q) < cls (d a)) (h4 : ∀ q, i ≤ q → q < b → cls (d a) ≤ cls (d q)) : Mv cls d a a i b :=
  ⟨fun p q p1 pq q1 p2 q2 => h2 p q (by omega) pq q1, fun q q1 q2 q3 => h3 q (by omega) q2, h4⟩
theorem Mv.step {k i : Nat} (h : Mv cls d a k i b) (hk : a ≤ k) (hki : k + 1 < i) (hib : i ≤ b) : Mv cls (swp d k (k + 1)) a (k + 1) i b ∧ cls (d (k + 1)) < cls (d k) := by
  have e1 : swp d k (k + 1) (k + 1) = d k := by unfold swp; rw [if_neg (by omega), if_pos rfl]
  have e2 : swp d k (k + 1) k = d (k + 1) := by unfold swp; rw [if_pos rfl]
  have e3 : ∀ q, q ≠ k → q ≠ k + 1 → swp d k (k + 1) q = d q := fun q q1 q2 => by unfold swp; rw [if_neg q1, if_neg q2]
  refine ⟨⟨fun p q p1 pq q1 p2 q2 => ?_, fun q q1 q2 q3 => ?_, fun q q1 q2 => ?_⟩, h.2.1 (k + 1) (by omega) hki (by omega)⟩
  · by_cases c1 : p = k
    · rw [c1, e2]
      by_cases c2 : q = k
      · rw [c2, e2]; exact Int.le_refl _
      · rw [e3 q c2 q2]; exact h.1 (k + 1) q (by omega) (by omega) q1 (by omega) c2
    · rw [e3 p c1 p2]
      by_cases c2 : q = k
      · rw [c2, e2]; exact h.1 p (k + 1) p1 (by omega) (by omega) c1 (by omega)
      · rw [e3 q c2 q2]; exact h.1 p q p1 pq q1 c1 c2
  · rw [e1]
    by_cases c2 : q = k
    · rw [c2, e2]; exact h.2.1 (k + 1) (by omega) hki (by omega)
    · rw [e3 q c2 q3]; exact h.2.1 q q1 q2 c2
  · rw [e1, e3 q (by omega) (by omega)]; exact h.2.2 q q1 q2
theorem Mv.done {k i : Nat} (h : Mv cls d a k i b) (hk : i ≤ k + 1) (_ : a ≤ k) (_ : k < b) (hki : k < i) : Srt cls d a b := fun p q p1 pq q1 => by
  by_cases c1 : p = k
  · by_cases c2 : q = k
    · rw [c1, c2]; exact Int.le_refl _
    · rw [c1]; exact h.2.2 q (by omega) q1
  · by_cases c2 : q = k
    · rw [c2]; exact Int.le_of_lt (h.2.1 p p1 (by omega) c1)
    · exact h.1 p q p1 pq q1 c1 c2
theorem swp_comm (d : Nat → Int) (i j : Nat) : swp d i j = swp d j i := by
  funext k
  unfold swp
  by_cases h1 : k = i
  · by_cases h2 : k = j
    · rw [if_pos h1, if_pos h2, ← h1, ← h2]
    · rw [if_pos h1, if_neg h2, if_pos h1]
  · by_cases h2 : k = j
    · rw [if_neg h1, if_pos h2, if_pos h2]
    · rw [if_neg h1, if_neg h2, if_neg h2, if_neg h1]
end
end Stb0
