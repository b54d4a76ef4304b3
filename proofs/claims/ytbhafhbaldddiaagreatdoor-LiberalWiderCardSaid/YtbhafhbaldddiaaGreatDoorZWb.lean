/- Plain laws on stamps: what was written is read as the second. No program in sight. Plain laws on the three forms of a date: what the liberal reader makes of them. No program in sight. What is written by either strict grammar is read as the same by the liberal one. Plain laws, no program in sight. A letter's date is read as the same second by the liberal reader. Plain laws, no program in sight. -/
import Derived.Test.YtbhafhbaldddiaaGreatDoorZA
import Derived.Test.YtbhafhbaldddiaaGreatDoorZLa
import Derived.Test.YtbhafhbaldddiaaGreatDoorZMe
import Derived.Test.YtbhafhbaldddiaaGreatDoorZMf
namespace Sm
theorem B_tail (s : ByteArray) (a i : Nat) : B (s.extract a s.size) i = B s (a + i) := by
  rw [B_extract]
  by_cases h : a + i < s.size
  · rw [if_pos h]
  · rw [if_neg h, B_end s (a + i) (by omega)]
theorem of_c {s : ByteArray} {i : Nat} {n : Int} (h : B s i = (c n).toNat) : dig s i = true ∧ v s i = n % 10 := by
  have := c_nat n
  constructor
  · rw [dig_iff]; omega
  · unfold v; omega
/-- A text that begins as a second's text does, up to its zone. -/
def Beg (s : ByteArray) (y m d h mi x : Int) : Prop := ∀ i, i < 19 → B s i = B (textB y m d h mi x) i
section
variable {s : ByteArray} {y m d h mi x : Int}
theorem beg_text : Beg (textB y m d h mi x) y m d h mi x := fun _ _ => rfl
theorem beg_day (hb : Beg s y m d h mi x) (b0 : 0 ≤ y ∧ y ≤ 9999) (b1 : 0 ≤ m ∧ m ≤ 99) (b2 : 0 ≤ d ∧ d ≤ 99) : n4 s 0 = y ∧ n2 s 5 = m ∧ n2 s 8 = d ∧ dayB s = true ∧ B s 10 = 84 := by
  obtain ⟨g0, v0⟩ := of_c (n := y / 1000) (hb 0 (by omega))
  obtain ⟨g1, v1⟩ := of_c (n := y / 100) (hb 1 (by omega))
  obtain ⟨g2, v2⟩ := of_c (n := y / 10) (hb 2 (by omega))
  obtain ⟨g3, v3⟩ := of_c (n := y) (hb 3 (by omega))
  have e4 : B s 4 = 45 := hb 4 (by omega)
  obtain ⟨g5, v5⟩ := of_c (n := m / 10) (hb 5 (by omega))
  obtain ⟨g6, v6⟩ := of_c (n := m) (hb 6 (by omega))
  have e7 : B s 7 = 45 := hb 7 (by omega)
  obtain ⟨g8, v8⟩ := of_c (n := d / 10) (hb 8 (by omega))
  obtain ⟨g9, v9⟩ := of_c (n := d) (hb 9 (by omega))
  have e10 : B s 10 = 84 := hb 10 (by omega)
  refine ⟨?_, ?_, ?_, ?_, e10⟩
  · unfold n4; simp only [Nat.zero_add]; omega
  · show v s 5 * 10 + v s 6 = m; omega
  · show v s 8 * 10 + v s 9 = d; omega
  · rw [dayB_iff, d4_iff, d2_iff, d2_iff]
    exact ⟨⟨g0, g1, g2, g3⟩, e4, ⟨g5, g6⟩, e7, g8, g9⟩
theorem beg_clk (hb : Beg s y m d h mi x) (b3 : 0 ≤ h ∧ h ≤ 23) (b4 : 0 ≤ mi ∧ mi ≤ 59) (b5 : 0 ≤ x ∧ x ≤ 59) : clkF (s.extract 11 s.size) = (h, mi, x, endN (s.extract 11 s.size), true) := by
  have hr : ∀ i, i < 8 → B (s.extract 11 s.size) i = B (textB y m d h mi x) (11 + i) := fun i hi => by rw [B_tail, hb (11 + i) (by omega)]
  generalize s.extract 11 s.size = r at *
  obtain ⟨g0, v0⟩ := of_c (n := h / 10) (hr 0 (by omega))
  obtain ⟨g1, v1⟩ := of_c (n := h) (hr 1 (by omega))
  have e2 : B r 2 = 58 := hr 2 (by omega)
  obtain ⟨g3, v3⟩ := of_c (n := mi / 10) (hr 3 (by omega))
  obtain ⟨g4, v4⟩ := of_c (n := mi) (hr 4 (by omega))
  have e5 : B r 5 = 58 := hr 5 (by omega)
  obtain ⟨g6, v6⟩ := of_c (n := x / 10) (hr 6 (by omega))
  obtain ⟨g7, v7⟩ := of_c (n := x) (hr 7 (by omega))
  have k0 : n2 r 0 = h := by unfold n2; simp only [Nat.zero_add]; omega
  have k3 : n2 r 3 = mi := by show v r 3 * 10 + v r 4 = mi; omega
  have k6 : n2 r 6 = x := by show v r 6 * 10 + v r 7 = x; omega
  have hh : hmB r = true := by rw [hmB_iff, d2_iff, d2_iff]; exact ⟨⟨g0, g1⟩, e2, g3, g4⟩
  have hs : seB r = true := by rw [seB_iff, d2_iff]; exact ⟨e5, g6, g7⟩
  unfold clkF
  rw [if_pos ⟨hh, by omega, by omega⟩, if_pos ⟨hs, by omega⟩, k0, k3, k6]
theorem endN_ge (r : ByteArray) : 8 ≤ endN r := by
  unfold endN
  split
  · have : ∀ f n, n ≤ runF r f n := by
      intro f
      induction f with
      | zero => intro n; exact Nat.le_refl _
      | succ f ih =>
        intro n
        unfold runF
        split
        · have := ih (n + 1); omega
        · exact Nat.le_refl _
    have := this r.size 9
    unfold run; omega
  · omega
/-- What such a text is read as. -/
theorem full_beg (hb : Beg s y m d h mi x) (hm : Cv.mayB y m d h mi x = true) (l : Nat) (hl : l ≤ 8) :
    fullF s l = if (zonF (s.extract (11 + endN (s.extract 11 s.size)) s.size)).2 = true then secR y m d h mi x (zonF (s.extract (11 + endN (s.extract 11 s.size)) s.size)).1 else (0, false) := by
  obtain ⟨hv, h1⟩ := (Cv.may_iff y m d h mi x).1 hm
  have hvb := Cv.vld_bd hv
  obtain ⟨e0, e5, e8, ed, e10⟩ := beg_day hb (by omega) (by omega) (by omega)
  have hc := beg_clk hb (by omega) (by omega) (by omega)
  have hge := endN_ge (s.extract 11 s.size)
  unfold fullF tailF
  rw [if_pos ⟨ed, e10⟩, hc, e0, e5, e8]
  simp only
  rw [if_pos ⟨by trivial, by omega⟩, extract_extract]
/-- Such a text's zone begins behind its seconds, if no fraction stands there. -/
theorem beg_end (hd : B s 19 ≠ 46) : endN (s.extract 11 s.size) = 8 := by
  unfold endN
  rw [if_neg]
  rintro ⟨k, _⟩
  rw [B_tail] at k
  exact hd k
theorem sec_ok (hm : Cv.mayB y m d h mi x = true) : Cv.secOk y m d h mi x 0 = true := by
  obtain ⟨hv, h1⟩ := (Cv.may_iff y m d h mi x).1 hm
  have := Cv.num_bd hv
  rw [Cv.secOk_iff]
  unfold Cv.secV
  exact ⟨hm, by omega, by omega, by omega, by omega⟩
theorem sec_rng (hm : Cv.mayB y m d h mi x = true) : -62135596800 ≤ Cv.secV y m d h mi x 0 ∧ Cv.secV y m d h mi x 0 ≤ 253402300799 := by
  have := (Cv.secOk_iff y m d h mi x 0).1 (sec_ok hm)
  exact ⟨this.2.2.2.1, this.2.2.2.2⟩
theorem secR_0 (hm : Cv.mayB y m d h mi x = true) : secR y m d h mi x 0 = (Cv.secV y m d h mi x 0, true) := by unfold secR; rw [if_pos (sec_ok hm)]
/-- What was written is read as the second. -/
theorem full_text (hm : Cv.mayB y m d h mi x = true) (l : Nat) (hl : l ≤ 8) : fullF (textB y m d h mi x) l = (Cv.secV y m d h mi x 0, true) := by
  rw [full_beg beg_text hm l hl, beg_end (by show ¬ (90 : Nat) = 46; decide)]
  have e : (textB y m d h mi x).extract (11 + 8) (textB y m d h mi x).size = ⟨#[90]⟩ := by
    apply ext
    · rw [size_extract, text_size]; rfl
    · intro i hi
      rw [size_extract, text_size] at hi
      obtain rfl : i = 0 := by omega
      rw [B_tail]; rfl
  have z : zonF ⟨#[90]⟩ = (0, true) := by unfold zonF; rw [if_pos rfl]
  rw [e, z]
  simp only [if_true]
  exact secR_0 hm
theorem w3c_text (hm : Cv.mayB y m d h mi x = true) : w3cF (textB y m d h mi x) = (Cv.secV y m d h mi x 0, true) := by
  unfold w3cF
  rw [text_size, if_neg (by omega), if_neg (by omega), if_neg (by omega)]
  exact full_text hm 5 (by omega)
end
/-- What the strict grammar takes the wider one takes, as the same. -/
theorem full_w3c (s : ByteArray) (h : (fullF s 8).2 = true) : w3cF s = fullF s 8 ∧ -62135596800 ≤ (fullF s 8).1 ∧ (fullF s 8).1 ≤ 253402300799 := by
  unfold fullF at h
  split at h
  · rename_i k
    have h10 : 10 < s.size := B_in (by omega)
    have e3 : w3cF s = fullF s 5 := by
      unfold w3cF
      rw [if_neg (by omega), if_neg (by omega), if_neg (by omega)]
    rw [e3]
    unfold fullF
    rw [if_pos k, if_pos k]
    unfold tailF at h ⊢
    split at h
    · rename_i q
      rw [if_pos q, if_pos ⟨q.1, by omega⟩]
      split at h
      · rename_i z
        rw [if_pos z]
        refine ⟨rfl, ?_⟩
        unfold secR at h ⊢
        split at h
        · rename_i o
          rw [if_pos o]
          have := (Cv.secOk_iff _ _ _ _ _ _ _).1 o
          exact ⟨this.2.2.2.1, this.2.2.2.2⟩
        · cases h
      · cases h
    · cases h
  · cases h
end Sm
namespace Lb
/-- Once wrong, always wrong. -/
def Bd (r : R) : Prop := r.bad = true
theorem Bd.tl {r : R} (h : Bd r) : Bd (tl r) := h
theorem Bd.nm {r : R} (a b : Nat) (h : Bd r) : Bd (nmR a b r) := by unfold nmR; split <;> first | exact h | rfl
theorem Bd.mb {r : R} (u : Wd) (h : Bd r) : Bd (mbR u r) := by unfold mbR; split <;> exact h
theorem Bd.mu {r : R} (u : Wd) (h : Bd r) : Bd (muR u r) := by unfold muR; split <;> first | exact h | rfl
theorem Bd.mo {r : R} (h : Bd r) : Bd (moR r) := by unfold moR; split <;> first | exact h | rfl
theorem Bd.wk {r : R} (h : Bd r) : Bd (wkR r) := by unfold wkR; apply Bd.mb; split <;> exact h
theorem Bd.nmD {r : R} (h : Bd r) : Bd (nmD r) := h.nm 1 2
theorem Bd.nmY {r : R} (h : Bd r) : Bd (nmY r) := h.nm 4 4
theorem Bd.nmS {r : R} (h : Bd r) : Bd (nmS r) := by
  unfold Lb.nmS
  split
  · exact h.nm 2 2
  · exact h.nmY
theorem Bd.fT {r : R} (h : Bd r) : Bd (fT r) := by
  unfold Lb.fT
  split
  · split <;> first | exact h | rfl
  · exact h
theorem Bd.cl1 {r : R} (h : Bd r) : Bd (cl1 r) := h.nm 1 2
theorem Bd.cl3 {r : R} (h : Bd r) : Bd (cl3 r) := (h.cl1.mu [58]).nm 2 2
theorem Bd.cl4 {r : R} (h : Bd r) : Bd (cl4 r) := h.nm 2 2
theorem Bd.clR {r : R} (h : Bd r) : Bd (clR r) := by
  unfold Lb.clR
  split
  · split
    · split
      · exact (Bd.cl4 (h.cl3.tl)).tl.nm 1 1048576
      · exact Bd.cl4 (h.cl3.tl)
    · exact h.cl3
  · exact h
theorem Bd.znF {r : R} (a b c : Int) (h : Bd r) : Bd (znF a b c r) := by
  show (r.bad || _) = true
  rw [show r.bad = true from h]
  rfl
theorem Bd.znO {r : R} (a : Int) (h : Bd r) : Bd (znO a r) := by
  unfold Lb.znO
  split
  · exact Bd.znF _ _ _ h
  · split
    · exact Bd.znF _ _ _ ((h.nm 2 2).tl.nm 2 2)
    · exact Bd.znF _ _ _ (h.nm 2 2)
theorem Bd.znR {r : R} (h : Bd r) : Bd (znR r) := by
  unfold Lb.znR
  split
  · exact h
  · split
    · exact h.tl.znO _
    · split
      · exact h.tl.znO _
      · show (r.bad || _) = true
        rw [show r.bad = true from h]
        rfl
theorem Bd.ckz {r : R} (h : Bd r) : Bd (ckz r) := by
  unfold Lb.ckz
  split
  · exact h.clR.znR
  · exact h
theorem res_bd {r : R} (h : Bd r) : resR r = none := by unfold resR okR; rw [show r.bad = true from h]; rfl
theorem bad_first {x : Wd} {t : List Wd} (h : dgW 4 4 x = false) : resR (form 0 (x :: t)) = none := by
  apply res_bd
  have h0 : Bd (nmR 4 4 (start (x :: t))) := by
    have : dgs 4 4 (start (x :: t)) = false := h
    unfold nmR
    rw [this]
    rfl
  have a : Bd (f1a (start (x :: t))) := Bd.mu [45] (r := sY (nmV 4 4 (start (x :: t))) (nmR 4 4 (start (x :: t)))) h0
  have b : Bd (f1b (f1a (start (x :: t)))) := Bd.mu [45] (r := sMo (nmV 1 2 (f1a (start (x :: t)))) (nmR 1 2 (f1a (start (x :: t))))) (Bd.nm 1 2 a)
  exact Bd.ckz (Bd.fT (Bd.nmD b))
section
variable {x u : Wd} {t : List Wd} {b : Bool} {y mo d h mi s e : Int}
theorem nmR_yes {lo hi : Nat} (hx : dgW lo hi x = true) : nmR lo hi ⟨x :: t, b, y, mo, d, h, mi, s, e⟩ = ⟨t, b, y, mo, d, h, mi, s, e⟩ := by
  unfold nmR
  exact if_pos hx
theorem nmV_yes {lo hi : Nat} (hx : dgW lo hi x = true) : nmV lo hi ⟨x :: t, b, y, mo, d, h, mi, s, e⟩ = numL 0 x := by
  unfold nmV
  exact if_pos hx
theorem muR_yes : muR u ⟨u :: t, b, y, mo, d, h, mi, s, e⟩ = ⟨t, b, y, mo, d, h, mi, s, e⟩ := by
  unfold muR
  exact if_pos rfl
theorem mbR_yes : mbR u ⟨u :: t, b, y, mo, d, h, mi, s, e⟩ = ⟨t, b, y, mo, d, h, mi, s, e⟩ := by
  unfold mbR
  exact if_pos rfl
theorem mbR_no (hx : x ≠ u) : mbR u ⟨x :: t, b, y, mo, d, h, mi, s, e⟩ = ⟨x :: t, b, y, mo, d, h, mi, s, e⟩ := by
  unfold mbR
  exact if_neg hx
theorem moR_yes (hx : monF x = mo) (h0 : mo ≠ 0) (m0 : Int) : moR ⟨x :: t, b, y, m0, d, h, mi, s, e⟩ = ⟨t, b, y, mo, d, h, mi, s, e⟩ := by
  subst hx
  unfold moR
  exact if_neg h0
theorem wkR_yes (hx : wkB x = true) (u : Wd) (hu : u = [44]) : wkR ⟨x :: u :: t, b, y, mo, d, h, mi, s, e⟩ = ⟨t, b, y, mo, d, h, mi, s, e⟩ := by
  subst hu
  have : (if wkB (nx ⟨x :: [44] :: t, b, y, mo, d, h, mi, s, e⟩) = true then tl ⟨x :: [44] :: t, b, y, mo, d, h, mi, s, e⟩ else ⟨x :: [44] :: t, b, y, mo, d, h, mi, s, e⟩ : R) = ⟨[44] :: t, b, y, mo, d, h, mi, s, e⟩ := if_pos hx
  unfold wkR
  rw [this]
  exact mbR_yes
theorem wkR_no (hx : wkB x = false) (h2 : x ≠ [44]) : wkR ⟨x :: t, b, y, mo, d, h, mi, s, e⟩ = ⟨x :: t, b, y, mo, d, h, mi, s, e⟩ := by
  have : (if wkB (nx ⟨x :: t, b, y, mo, d, h, mi, s, e⟩) = true then tl ⟨x :: t, b, y, mo, d, h, mi, s, e⟩ else ⟨x :: t, b, y, mo, d, h, mi, s, e⟩ : R) = ⟨x :: t, b, y, mo, d, h, mi, s, e⟩ := if_neg (by show ¬ wkB x = true; rw [hx]; decide)
  unfold wkR
  rw [this]
  exact mbR_no h2
theorem nmS_long (hx : dgW 2 2 x = false) (h2 : dgW 4 4 x = true) : nmS ⟨x :: t, b, y, mo, d, h, mi, s, e⟩ = ⟨t, b, numL 0 x, mo, d, h, mi, s, e⟩ := by
  have : nmS ⟨x :: t, b, y, mo, d, h, mi, s, e⟩ = nmY ⟨x :: t, b, y, mo, d, h, mi, s, e⟩ := by
    unfold nmS
    exact if_neg (by show ¬ dgW 2 2 x = true; rw [hx]; decide)
  rw [this]
  unfold nmY
  rw [nmR_yes h2, nmV_yes h2]
  rfl
theorem ckz_end : ckz ⟨[], b, y, mo, d, h, mi, s, e⟩ = ⟨[], b, y, mo, d, h, mi, s, e⟩ := rfl
end
theorem bad_second {x : Wd} {t : List Wd} (h1 : wkB x = false) (h2 : x ≠ [44]) (h3 : dgW 1 2 x = false) : resR (form 1 (x :: t)) = none := by
  apply res_bd
  have e : wkR (start (x :: t)) = start (x :: t) := wkR_no h1 h2
  have h0 : Bd (nmD (wkR (start (x :: t)))) := by
    rw [e]
    show (nmR 1 2 (start (x :: t))).bad = true
    have : nmR 1 2 (start (x :: t)) = mkBad (start (x :: t)) := by
      unfold nmR
      exact if_neg (by show ¬ dgW 1 2 x = true; rw [h3]; decide)
    rw [this]
    rfl
  exact Bd.ckz (Bd.nmS (Bd.mb [45] (Bd.mo (Bd.mb [45] h0))))
theorem form_one {D M Y : Wd} (hY : dgW 4 4 Y = true) (hM : dgW 1 2 M = true) (hD : dgW 1 2 D = true) : form 0 [Y, [45], M, [45], D] = ⟨[], false, numL 0 Y, numL 0 M, numL 0 D, 0, 0, 0, 0⟩ := by
  have a : f1a (start [Y, [45], M, [45], D]) = ⟨[M, [45], D], false, numL 0 Y, 0, 0, 0, 0, 0, 0⟩ := by
    unfold f1a start
    rw [nmR_yes hY, nmV_yes hY]
    exact muR_yes
  have b : f1b ⟨[M, [45], D], false, numL 0 Y, 0, 0, 0, 0, 0, 0⟩ = ⟨[D], false, numL 0 Y, numL 0 M, 0, 0, 0, 0, 0⟩ := by
    unfold f1b
    rw [nmR_yes hM, nmV_yes hM]
    exact muR_yes
  have c : nmD ⟨[D], false, numL 0 Y, numL 0 M, 0, 0, 0, 0, 0⟩ = ⟨[], false, numL 0 Y, numL 0 M, numL 0 D, 0, 0, 0, 0⟩ := by
    unfold nmD
    rw [nmR_yes hD, nmV_yes hD]
    rfl
  show ckz (fT (nmD (f1b (f1a (start [Y, [45], M, [45], D]))))) = _
  rw [a, b, c]
  rfl
theorem form_two {W D M Y : Wd} {m : Int} (hW : wkB W = true) (hD : dgW 1 2 D = true) (hM : monF M = m) (h0 : m ≠ 0) (hM2 : M ≠ [45]) (hY2 : Y ≠ [45]) (hY3 : dgW 2 2 Y = false) (hY : dgW 4 4 Y = true) :
    form 1 [W, [44], D, M, Y] = ⟨[], false, numL 0 Y, m, numL 0 D, 0, 0, 0, 0⟩ := by
  have a : wkR (start [W, [44], D, M, Y]) = ⟨[D, M, Y], false, 0, 0, 0, 0, 0, 0, 0⟩ := wkR_yes hW [44] rfl
  have b : nmD ⟨[D, M, Y], false, 0, 0, 0, 0, 0, 0, 0⟩ = ⟨[M, Y], false, 0, 0, numL 0 D, 0, 0, 0, 0⟩ := by
    unfold nmD
    rw [nmR_yes hD, nmV_yes hD]
    rfl
  have c : nmS ⟨[Y], false, 0, m, numL 0 D, 0, 0, 0, 0⟩ = ⟨[], false, numL 0 Y, m, numL 0 D, 0, 0, 0, 0⟩ := nmS_long hY3 hY
  show ckz (nmS (mbR [45] (moR (mbR [45] (nmD (wkR (start [W, [44], D, M, Y]))))))) = _
  rw [a, b, mbR_no hM2, moR_yes hM h0, mbR_no hY2, c]
  rfl
theorem form_three {D M Y : Wd} {m : Int} (hW : wkB M = false) (hM2 : M ≠ [44]) (hD : dgW 1 2 D = true) (hM : monF M = m) (h0 : m ≠ 0) (hY : dgW 4 4 Y = true) :
    form 2 [M, D, [44], Y] = ⟨[], false, numL 0 Y, m, numL 0 D, 0, 0, 0, 0⟩ := by
  have a : wkR (start [M, D, [44], Y]) = start [M, D, [44], Y] := wkR_no hW hM2
  have b : nmD ⟨[D, [44], Y], false, 0, m, 0, 0, 0, 0, 0⟩ = ⟨[[44], Y], false, 0, m, numL 0 D, 0, 0, 0, 0⟩ := by
    unfold nmD
    rw [nmR_yes hD, nmV_yes hD]
    rfl
  have c : nmY ⟨[Y], false, 0, m, numL 0 D, 0, 0, 0, 0⟩ = ⟨[], false, numL 0 Y, m, numL 0 D, 0, 0, 0, 0⟩ := by
    unfold nmY
    rw [nmR_yes hY, nmV_yes hY]
    rfl
  show ckz (nmY (mbR [44] (nmD (moR (wkR (start [M, D, [44], Y])))))) = _
  rw [a]
  unfold start
  rw [moR_yes hM h0, b, mbR_yes, c]
  rfl
theorem res_date {y m d : Int} (h : Cv.mayB y m d 0 0 0 = true) : resR ⟨[], false, y, m, d, 0, 0, 0, 0⟩ = some (Cv.secV y m d 0 0 0 0) := by
  have hv := Cv.num_bd ((Cv.may_iff _ _ _ _ _ _).1 h).1
  have hs : Cv.secOk y m d 0 0 0 0 = true := by
    rw [Cv.secOk_iff]
    refine ⟨h, by omega, by omega, ?_, ?_⟩
    · unfold Cv.secV; omega
    · unfold Cv.secV; omega
  unfold resR okR
  rw [show Cv.secOk _ _ _ _ _ _ _ = true from hs]
  rfl
/-- Digits. -/
def Dg (D : Wd) : Prop := D ≠ [] ∧ ∀ c ∈ D, srt c = 1
theorem dg_low (c : UInt8) : srt c = 1 → lw c = c ∧ spc c = false := all_bytes (p := fun c => srt c = 1 → lw c = c ∧ spc c = false) (by decide +kernel) c
theorem Dg.piece {D : Wd} (h : Dg D) : Piece D := by
  obtain ⟨h0, h1⟩ := h
  match D, h0 with
  | c :: q, _ =>
    refine ⟨⟨c, q, rfl, fun d hd => by rw [h1 d (by simp [hd]), h1 c (by simp)], fun h => by rw [h1 c (by simp)] at h; cases h⟩, ?_, fun c' q' e => ?_⟩
    · have : ∀ x ∈ (c :: q), lw x = id x := fun x hx => (dg_low x (h1 x hx)).1
      rw [List.map_congr_left this, List.map_id]
    · injection e with e _
      rw [← e]; exact (dg_low c (h1 c (by simp))).2
theorem Dg.dgW {D : Wd} (h : Dg D) (lo hi : Nat) (h1 : lo ≤ D.length) (h2 : D.length ≤ hi) : dgW lo hi D = true := by
  obtain ⟨h0, h3⟩ := h
  match D, h0 with
  | c :: q, _ =>
    show (decide (lo ≤ q.length + 1) && decide (q.length + 1 ≤ hi) && (srt c == 1)) = true
    rw [h3 c (by simp), decide_eq_true (show lo ≤ q.length + 1 by simpa using h1), decide_eq_true (show q.length + 1 ≤ hi by simpa using h2)]
    rfl
theorem srt_c (n : Int) : srt (Sm.c n) = 1 := by
  have h := Sm.c_nat n
  unfold srt srtN
  rw [if_pos (by omega)]
theorem c_mod (n : Int) : (((Sm.c n).toNat % 16 : Nat) : Int) = n % 10 := by
  have h := Sm.c_nat n
  omega
theorem dg_2 (n : Int) : Dg (Ml.tw n) := ⟨by simp [Ml.tw], fun c hc => by
  simp only [Ml.tw, List.mem_cons, List.not_mem_nil, or_false] at hc
  rcases hc with rfl | rfl <;> exact srt_c _⟩
def yr (y : Int) : Wd := Ml.tw (y / 100) ++ Ml.tw y
theorem dg_4 (y : Int) : Dg (yr y) := ⟨by simp [yr, Ml.tw], fun c hc => by
  simp only [yr, Ml.tw, List.mem_append, List.mem_cons, List.not_mem_nil, or_false] at hc
  rcases hc with (rfl | rfl) | (rfl | rfl) <;> exact srt_c _⟩
theorem num_2 (n : Int) (h0 : 0 ≤ n) (h1 : n ≤ 99) : numL 0 (Ml.tw n) = n := by
  have w : ∀ x : Int, 0 ≤ x → x ≤ 100000 → Go.IntKind.i64.wrap x = x := fun x h0 h1 => by simp [Go.IntKind.wrap, Go.IntKind.bits, Go.IntKind.signed]; omega
  unfold numL Ml.tw
  simp only [List.foldl_cons, List.foldl_nil, c_mod]
  rw [w (0 * 10) (by omega) (by omega), w (0 * 10 + n / 10 % 10) (by omega) (by omega), w ((0 * 10 + n / 10 % 10) * 10) (by omega) (by omega), w _ (by omega) (by omega)]
  omega
theorem num_4 (y : Int) (h0 : 0 ≤ y) (h1 : y ≤ 9999) : numL 0 (yr y) = y := by
  have w : ∀ x : Int, 0 ≤ x → x ≤ 100000 → Go.IntKind.i64.wrap x = x := fun x h0 h1 => by simp [Go.IntKind.wrap, Go.IntKind.bits, Go.IntKind.signed]; omega
  unfold numL yr Ml.tw
  simp only [List.cons_append, List.nil_append, List.foldl_cons, List.foldl_nil, c_mod]
  have a1 : 0 ≤ y / 100 / 10 % 10 ∧ y / 100 / 10 % 10 ≤ 9 := by omega
  have a2 : 0 ≤ y / 100 % 10 ∧ y / 100 % 10 ≤ 9 := by omega
  have a3 : 0 ≤ y / 10 % 10 ∧ y / 10 % 10 ≤ 9 := by omega
  have a4 : 0 ≤ y % 10 ∧ y % 10 ≤ 9 := by omega
  have hy : ((y / 100 / 10 % 10 * 10 + y / 100 % 10) * 10 + y / 10 % 10) * 10 + y % 10 = y := by omega
  generalize y / 100 / 10 % 10 = p at *
  generalize y / 100 % 10 = q at *
  generalize y / 10 % 10 = u at *
  generalize y % 10 = v at *
  rw [w (0 * 10) (by omega) (by omega), w (0 * 10 + p) (by omega) (by omega), w ((0 * 10 + p) * 10) (by omega) (by omega), w ((0 * 10 + p) * 10 + q) (by omega) (by omega), w (((0 * 10 + p) * 10 + q) * 10) (by omega) (by omega), w (((0 * 10 + p) * 10 + q) * 10 + u) (by omega) (by omega), w ((((0 * 10 + p) * 10 + q) * 10 + u) * 10) (by omega) (by omega), w _ (by omega) (by omega)]
  omega
theorem pcs_mark {c : UInt8} (l : Wd) (h : srt c = 0) (h2 : spc c = false) (h3 : lw c = c) : pcs (c :: l) = [c] :: pcs l := by
  unfold pcs
  rw [raw_one c l (Or.inr (Or.inl h)), List.filterMap_cons]
  simp only [keep, h2, List.map_cons, List.map_nil, h3]
  rfl
theorem pcs_next {D : Wd} (l : Wd) (h : Piece D) (c : UInt8) (hc : srt c = 0) : pcs (D ++ c :: l) = D :: pcs (c :: l) := by
  rw [pcs_app D (c :: l) (fun d m e => by injection e with e _; rw [← e]; exact hc), piece_pcs h]
  rfl
def t1 (y m d : Int) : Wd := yr y ++ 45 :: (Ml.tw m ++ 45 :: Ml.tw d)
theorem pcs_t1 (y m d : Int) : pcs (t1 y m d) = [yr y, [45], Ml.tw m, [45], Ml.tw d] := by
  unfold t1
  rw [pcs_next _ (dg_4 y).piece 45 (by decide +kernel), pcs_mark _ (by decide +kernel) (by decide +kernel) (by decide +kernel), pcs_next _ (dg_2 m).piece 45 (by decide +kernel), pcs_mark _ (by decide +kernel) (by decide +kernel) (by decide +kernel), piece_pcs (dg_2 d).piece]
theorem parse_t1 {y m d : Int} (h : Cv.mayB y m d 0 0 0 = true) : parse (t1 y m d) = some (Cv.secV y m d 0 0 0 0) := by
  obtain ⟨y0, y1, m0, m1, d0, d1⟩ := Cv.vld_bd ((Cv.may_iff _ _ _ _ _ _).1 h).1
  unfold parse parseL
  rw [pcs_t1, form_one ((dg_4 y).dgW 4 4 (by simp [yr, Ml.tw]) (by simp [yr, Ml.tw])) ((dg_2 m).dgW 1 2 (by simp [Ml.tw]) (by simp [Ml.tw])) ((dg_2 d).dgW 1 2 (by simp [Ml.tw]) (by simp [Ml.tw])), num_4 y (by omega) y1, num_2 m (by omega) (by omega), num_2 d (by omega) (by omega), res_date h]
/-- Weekdays' and months' short names. -/
def dyl (k : Nat) : Wd := (Ml.dyN (k : Int)).data.toList
def mol (k : Nat) : Wd := (Ml.moN (k : Int)).data.toList
theorem dy_ok : ((List.range 7).all fun k => decide (pcs (dyl k) = [(dyl k).map lw]) && wkB ((dyl k).map lw) && !dgW 4 4 ((dyl k).map lw)) = true := by decide +kernel
theorem mo_ok : ((List.range 13).all fun k => k == 0 || (decide (pcs (mol k) = [(mol k).map lw]) && !wkB ((mol k).map lw) && !dgW 4 4 ((mol k).map lw) && !dgW 1 2 ((mol k).map lw) && decide (monF ((mol k).map lw) = (k : Int)) && decide ((mol k).map lw ≠ [44]) && decide ((mol k).map lw ≠ [45]))) = true := by decide +kernel
def t2 (k : Nat) (y m d : Int) : Wd := dyl k ++ 44 :: 32 :: (Ml.tw d ++ 32 :: ((Ml.moN m).data.toList ++ 32 :: yr y))
def t3 (y m d : Int) : Wd := (Ml.moN m).data.toList ++ 32 :: (Ml.tw d ++ 44 :: 32 :: yr y)
theorem pcs_nextP {D : Wd} (l : Wd) {p : List Wd} (h : pcs D = p) (c : UInt8) (hc : srt c = 0) : pcs (D ++ c :: l) = p ++ pcs (c :: l) := by
  rw [pcs_app D (c :: l) (fun d m e => by injection e with e _; rw [← e]; exact hc), h]
theorem parse_t2 {k : Nat} {y m d : Int} (hk : k < 7) (h : Cv.mayB y m d 0 0 0 = true) : parse (t2 k y m d) = some (Cv.secV y m d 0 0 0 0) := by
  obtain ⟨y0, y1, m0, m1, d0, d1⟩ := Cv.vld_bd ((Cv.may_iff _ _ _ _ _ _).1 h).1
  obtain ⟨j, rfl⟩ := Int.eq_ofNat_of_zero_le (show 0 ≤ m by omega)
  have hd := List.all_eq_true.1 dy_ok k (List.mem_range.2 hk)
  have hm := List.all_eq_true.1 mo_ok j (List.mem_range.2 (by omega))
  simp only [Bool.and_eq_true, Bool.or_eq_true, decide_eq_true_eq, Bool.not_eq_true', beq_iff_eq] at hd hm
  obtain ⟨⟨a1, a2⟩, a3⟩ := hd
  have hm2 := hm.resolve_left (by omega)
  obtain ⟨⟨⟨⟨⟨⟨b1, b2⟩, b3⟩, b4⟩, b5⟩, b6⟩, b7⟩ := hm2
  have hp : pcs (t2 k y j d) = [(dyl k).map lw, [44], Ml.tw d, (mol j).map lw, yr y] := by
    show pcs (dyl k ++ 44 :: 32 :: (Ml.tw d ++ 32 :: (mol j ++ 32 :: yr y))) = _
    rw [pcs_nextP _ a1 44 (by decide +kernel), pcs_mark _ (by decide +kernel) (by decide +kernel) (by decide +kernel), pcs_white 32 _ (by decide +kernel), pcs_next _ (dg_2 d).piece 32 (by decide +kernel), pcs_white 32 _ (by decide +kernel), pcs_nextP _ b1 32 (by decide +kernel), pcs_white 32 _ (by decide +kernel), piece_pcs (dg_4 y).piece]
    rfl
  unfold parse parseL
  rw [hp, bad_first a3, form_two a2 ((dg_2 d).dgW 1 2 (by simp [Ml.tw]) (by simp [Ml.tw])) b5 (by omega) b7 (by simp [yr, Ml.tw]) (by simp [dgW, yr, Ml.tw]) ((dg_4 y).dgW 4 4 (by simp [yr, Ml.tw]) (by simp [yr, Ml.tw])), num_4 y (by omega) y1, num_2 d (by omega) (by omega), res_date h]
theorem parse_t3 {y m d : Int} (h : Cv.mayB y m d 0 0 0 = true) : parse (t3 y m d) = some (Cv.secV y m d 0 0 0 0) := by
  obtain ⟨y0, y1, m0, m1, d0, d1⟩ := Cv.vld_bd ((Cv.may_iff _ _ _ _ _ _).1 h).1
  obtain ⟨j, rfl⟩ := Int.eq_ofNat_of_zero_le (show 0 ≤ m by omega)
  have hm := List.all_eq_true.1 mo_ok j (List.mem_range.2 (by omega))
  simp only [Bool.and_eq_true, Bool.or_eq_true, decide_eq_true_eq, Bool.not_eq_true', beq_iff_eq] at hm
  have hm2 := hm.resolve_left (by omega)
  obtain ⟨⟨⟨⟨⟨⟨b1, b2⟩, b3⟩, b4⟩, b5⟩, b6⟩, b7⟩ := hm2
  have hp : pcs (t3 y j d) = [(mol j).map lw, Ml.tw d, [44], yr y] := by
    show pcs (mol j ++ 32 :: (Ml.tw d ++ 44 :: 32 :: yr y)) = _
    rw [pcs_nextP _ b1 32 (by decide +kernel), pcs_white 32 _ (by decide +kernel), pcs_next _ (dg_2 d).piece 44 (by decide +kernel), pcs_mark _ (by decide +kernel) (by decide +kernel) (by decide +kernel), pcs_white 32 _ (by decide +kernel), piece_pcs (dg_4 y).piece]
    rfl
  unfold parse parseL
  rw [hp, bad_first b3, bad_second b2 b6 b4, form_three b2 b6 ((dg_2 d).dgW 1 2 (by simp [Ml.tw]) (by simp [Ml.tw])) b5 (by omega) ((dg_4 y).dgW 4 4 (by simp [yr, Ml.tw]) (by simp [yr, Ml.tw])), num_4 y (by omega) y1, num_2 d (by omega) (by omega), res_date h]
end Lb
namespace Lb
open Go
/-- A piece is cut off where the next byte is of another kind. -/
theorem pcs_cut {c : UInt8} {q l : Wd} (ha : ∀ d ∈ q, srt d = srt c) (h0 : srt c = 0 → q = []) (hs : spc c = false) (hl : l = [] ∨ srt c = 0 ∨ ∃ d m, l = d :: m ∧ srt d ≠ srt c) : pcs (c :: q ++ l) = (c :: q).map lw :: pcs l := by
  have h := pcs_take q.length c (q ++ l) (by simp) (fun i d hi hd => by
      rw [List.getElem?_append_left hi] at hd
      exact ha d (List.mem_of_getElem? hd)) (by
      by_cases e : srt c = 0
      · left; rw [h0 e]; rfl
      · exact Or.inr e) (by
      rcases hl with rfl | hl | ⟨d, m, rfl, hd⟩
      · left; simp
      · exact Or.inr (Or.inl hl)
      · exact Or.inr (Or.inr ⟨d, by simp, hd⟩))
  rw [hs, if_neg (by decide), List.take_left, List.drop_left] at h
  exact h
/-- Digits. -/
theorem pcs_dg {D l : Wd} (h : Dg D) (hl : l = [] ∨ ∃ d m, l = d :: m ∧ srt d ≠ 1) : pcs (D ++ l) = D :: pcs l := by
  obtain ⟨h0, h1⟩ := h
  match D, h0 with
  | c :: q, _ =>
    have hc := h1 c (by simp)
    have h2 := pcs_cut (c := c) (q := q) (l := l) (fun d hd => by rw [h1 d (by simp [hd]), hc]) (fun e => by rw [hc] at e; cases e) (dg_low c hc).2 (by
      rcases hl with rfl | ⟨d, m, rfl, hd⟩
      · exact Or.inl rfl
      · exact Or.inr (Or.inr ⟨d, m, rfl, by rw [hc]; exact hd⟩))
    rw [h2]
    congr 1
    have : ∀ x ∈ (c :: q), lw x = id x := fun x hx => (dg_low x (h1 x hx)).1
    rw [List.map_congr_left this, List.map_id]
/-- Letters. -/
theorem pcs_lt {c : UInt8} {q l : Wd} (h : ∀ d ∈ c :: q, srt d = 2) (hl : l = [] ∨ ∃ d m, l = d :: m ∧ srt d ≠ 2) : pcs (c :: q ++ l) = (c :: q).map lw :: pcs l := by
  have hc := h c (by simp)
  have hs : spc c = false := by
    cases e : spc c with
    | false => rfl
    | true => have := spc_srt c e; rw [hc] at this; cases this
  exact pcs_cut (fun d hd => by rw [h d (by simp [hd]), hc]) (fun e => by rw [hc] at e; cases e) hs (by
    rcases hl with rfl | ⟨d, m, rfl, hd⟩
    · exact Or.inl rfl
    · exact Or.inr (Or.inr ⟨d, m, rfl, by rw [hc]; exact hd⟩))
theorem dig_srt {c : UInt8} (h : 48 ≤ c.toNat ∧ c.toNat ≤ 57) : srt c = 1 := by
  unfold srt srtN
  rw [if_pos h]
theorem dg_pair {a b : UInt8} (ha : 48 ≤ a.toNat ∧ a.toNat ≤ 57) (hb : 48 ≤ b.toNat ∧ b.toNat ≤ 57) : Dg [a, b] := ⟨by simp, fun c hc => by
  simp only [List.mem_cons, List.not_mem_nil, or_false] at hc
  rcases hc with rfl | rfl
  · exact dig_srt ha
  · exact dig_srt hb⟩
theorem dg_quad {a b c d : UInt8} (ha : 48 ≤ a.toNat ∧ a.toNat ≤ 57) (hb : 48 ≤ b.toNat ∧ b.toNat ≤ 57) (hc : 48 ≤ c.toNat ∧ c.toNat ≤ 57) (hd : 48 ≤ d.toNat ∧ d.toNat ≤ 57) : Dg [a, b, c, d] := ⟨by simp, fun x hx => by
  simp only [List.mem_cons, List.not_mem_nil, or_false] at hx
  rcases hx with rfl | rfl | rfl | rfl
  · exact dig_srt ha
  · exact dig_srt hb
  · exact dig_srt hc
  · exact dig_srt hd⟩
theorem wr {x : Int} (h0 : 0 ≤ x) (h1 : x ≤ 1000000) : Go.IntKind.i64.wrap x = x := by simp [Go.IntKind.wrap, Go.IntKind.bits, Go.IntKind.signed]; omega
theorem c16 {a : UInt8} (h : 48 ≤ a.toNat ∧ a.toNat ≤ 57) : ((a.toNat % 16 : Nat) : Int) = (a.toNat : Int) - 48 := by omega
theorem numL_cons {n : Int} {c : UInt8} {l : Wd} (h0 : 0 ≤ n) (h1 : n ≤ 10000) (hc : 48 ≤ c.toNat ∧ c.toNat ≤ 57) : numL n (c :: l) = numL (n * 10 + ((c.toNat : Int) - 48)) l := by
  show numL (Go.IntKind.i64.wrap (Go.IntKind.i64.wrap (n * 10) + ((c.toNat % 16 : Nat) : Int))) l = _
  rw [c16 hc, wr (x := n * 10) (by omega) (by omega), wr (by omega) (by omega)]
theorem numL_pair {a b : UInt8} (ha : 48 ≤ a.toNat ∧ a.toNat ≤ 57) (hb : 48 ≤ b.toNat ∧ b.toNat ≤ 57) : numL 0 [a, b] = ((a.toNat : Int) - 48) * 10 + ((b.toNat : Int) - 48) := by
  rw [numL_cons (by omega) (by omega) ha, numL_cons (by omega) (by omega) hb]
  show (0 * 10 + ((a.toNat : Int) - 48)) * 10 + ((b.toNat : Int) - 48) = _
  omega
theorem numL_one {a : UInt8} (ha : 48 ≤ a.toNat ∧ a.toNat ≤ 57) : numL 0 [a] = (a.toNat : Int) - 48 := by
  rw [numL_cons (by omega) (by omega) ha]
  show 0 * 10 + ((a.toNat : Int) - 48) = _
  omega
theorem numL_quad {a b c d : UInt8} (ha : 48 ≤ a.toNat ∧ a.toNat ≤ 57) (hb : 48 ≤ b.toNat ∧ b.toNat ≤ 57) (hc : 48 ≤ c.toNat ∧ c.toNat ≤ 57) (hd : 48 ≤ d.toNat ∧ d.toNat ≤ 57) : numL 0 [a, b, c, d] = ((((a.toNat : Int) - 48) * 10 + ((b.toNat : Int) - 48)) * 10 + ((c.toNat : Int) - 48)) * 10 + ((d.toNat : Int) - 48) := by
  rw [numL_cons (by omega) (by omega) ha, numL_cons (by omega) (by omega) hb, numL_cons (by omega) (by omega) hc, numL_cons (by omega) (by omega) hd]
  show (((0 * 10 + ((a.toNat : Int) - 48)) * 10 + ((b.toNat : Int) - 48)) * 10 + ((c.toNat : Int) - 48)) * 10 + ((d.toNat : Int) - 48) = _
  omega
/-! The clock and the zone. -/
section
variable {b : Bool} {y mo d h mi s e : Int} {t : List Wd} {H M S F z : Wd}
theorem clB_yes (hH : dgW 1 2 H = true) : clB ⟨H :: t, b, y, mo, d, h, mi, s, e⟩ = true := by
  show dgW 1 1048576 H = true
  match H, hH with
  | c :: q, hH =>
    unfold dgW at hH ⊢
    simp only [Bool.and_eq_true, decide_eq_true_eq] at hH ⊢
    exact ⟨⟨by omega, by omega⟩, hH.2⟩
theorem cl3_is (hH : dgW 1 2 H = true) (hM : dgW 2 2 M = true) : cl3 ⟨H :: [58] :: M :: t, b, y, mo, d, h, mi, s, e⟩ = ⟨t, b, y, mo, d, numL 0 H, numL 0 M, s, e⟩ := by
  have a : cl1 ⟨H :: [58] :: M :: t, b, y, mo, d, h, mi, s, e⟩ = ⟨[58] :: M :: t, b, y, mo, d, numL 0 H, mi, s, e⟩ := by
    unfold cl1
    rw [nmR_yes hH, nmV_yes hH]
    rfl
  have c : cl2 ⟨H :: [58] :: M :: t, b, y, mo, d, h, mi, s, e⟩ = ⟨M :: t, b, y, mo, d, numL 0 H, mi, s, e⟩ := by
    unfold cl2
    rw [a]
    exact muR_yes
  unfold cl3
  rw [c, nmR_yes hM, nmV_yes hM]
  rfl
theorem cl4_is (hS : dgW 2 2 S = true) : cl4 ⟨S :: t, b, y, mo, d, h, mi, s, e⟩ = ⟨t, b, y, mo, d, h, mi, numL 0 S, e⟩ := by
  unfold cl4
  rw [nmR_yes hS, nmV_yes hS]
  rfl
theorem mbB_yes {u : Wd} : mbB u ⟨u :: t, b, y, mo, d, h, mi, s, e⟩ = true := by
  unfold mbB
  exact decide_eq_true rfl
theorem mbB_no {u x : Wd} (hx : x ≠ u) : mbB u ⟨x :: t, b, y, mo, d, h, mi, s, e⟩ = false := by
  unfold mbB
  exact decide_eq_false hx
/-- Hours and minutes. -/
theorem clR_hm (hH : dgW 1 2 H = true) (hM : dgW 2 2 M = true) (hz : z ≠ [58]) : clR ⟨H :: [58] :: M :: z :: t, b, y, mo, d, h, mi, s, e⟩ = ⟨z :: t, b, y, mo, d, numL 0 H, numL 0 M, s, e⟩ := by
  unfold clR
  rw [clB_yes hH, if_pos rfl, cl3_is hH hM, mbB_no hz, if_neg (by decide)]
/-- .. and seconds. -/
theorem clR_s (hH : dgW 1 2 H = true) (hM : dgW 2 2 M = true) (hS : dgW 2 2 S = true) (hz : z ≠ [46]) : clR ⟨H :: [58] :: M :: [58] :: S :: z :: t, b, y, mo, d, h, mi, s, e⟩ = ⟨z :: t, b, y, mo, d, numL 0 H, numL 0 M, numL 0 S, e⟩ := by
  unfold clR
  rw [clB_yes hH, if_pos rfl, cl3_is hH hM, mbB_yes, if_pos rfl]
  have e4 : cl4 (tl ⟨[58] :: S :: z :: t, b, y, mo, d, numL 0 H, numL 0 M, s, e⟩) = ⟨z :: t, b, y, mo, d, numL 0 H, numL 0 M, numL 0 S, e⟩ := cl4_is hS
  rw [e4, mbB_no hz, if_neg (by decide)]
/-- .. and a part of a second. -/
theorem clR_f (hH : dgW 1 2 H = true) (hM : dgW 2 2 M = true) (hS : dgW 2 2 S = true) (hF : dgW 1 1048576 F = true) : clR ⟨H :: [58] :: M :: [58] :: S :: [46] :: F :: t, b, y, mo, d, h, mi, s, e⟩ = ⟨t, b, y, mo, d, numL 0 H, numL 0 M, numL 0 S, e⟩ := by
  unfold clR
  rw [clB_yes hH, if_pos rfl, cl3_is hH hM, mbB_yes, if_pos rfl]
  have e4 : cl4 (tl ⟨[58] :: S :: [46] :: F :: t, b, y, mo, d, numL 0 H, numL 0 M, s, e⟩) = ⟨[46] :: F :: t, b, y, mo, d, numL 0 H, numL 0 M, numL 0 S, e⟩ := cl4_is hS
  rw [e4, mbB_yes, if_pos rfl]
  exact nmR_yes hF
/-- A zone's name. -/
theorem znR_name {k : Int} (h43 : z ≠ [43]) (h45 : z ≠ [45]) (hz : hrF z = (k, true)) : znR ⟨[z], false, y, mo, d, h, mi, s, e⟩ = ⟨[], false, y, mo, d, h, mi, s, k * 60⟩ := by
  unfold znR
  rw [if_neg (by simp)]
  have e0 : nx ⟨[z], false, y, mo, d, h, mi, s, e⟩ = z := rfl
  rw [e0, if_neg h43, if_neg h45, hz]
  rfl
theorem znF_ok {sg a c : Int} (h1 : a ≤ 23) (h2 : c ≤ 59) : znF sg a c ⟨t, false, y, mo, d, h, mi, s, e⟩ = ⟨t, false, y, mo, d, h, mi, s, sg * (a * 60 + c)⟩ := by
  unfold znF orB
  rw [decide_eq_false (show ¬ a > 23 by omega), decide_eq_false (show ¬ c > 59 by omega)]
  rfl
/-- Hours and minutes with a colon. -/
theorem znO_colon {sg : Int} (hH : dgW 2 2 H = true) (hM : dgW 2 2 M = true) (h1 : numL 0 H ≤ 23) (h2 : numL 0 M ≤ 59) : znO sg ⟨[H, [58], M], false, y, mo, d, h, mi, s, e⟩ = ⟨[], false, y, mo, d, h, mi, s, sg * (numL 0 H * 60 + numL 0 M)⟩ := by
  have h4 : dgs 4 4 ⟨[H, [58], M], false, y, mo, d, h, mi, s, e⟩ = false := by
    cases hd : dgs 4 4 ⟨[H, [58], M], false, y, mo, d, h, mi, s, e⟩ with
    | false => rfl
    | true =>
      have a1 := dgW_len (show dgW 4 4 H = true from hd)
      have a2 := dgW_len hH
      omega
  unfold znO
  rw [h4, if_neg (by decide), nmR_yes hH, nmV_yes hH, mbB_yes, if_pos rfl]
  have e1 : tl ⟨[[58], M], false, y, mo, d, h, mi, s, e⟩ = (⟨[M], false, y, mo, d, h, mi, s, e⟩ : R) := rfl
  rw [e1, nmR_yes hM, nmV_yes hM]
  exact znF_ok h1 h2
/-- Four digits. -/
theorem znO_four {sg : Int} (hH : dgW 4 4 H = true) (h1 : numL 0 H / 100 ≤ 23) (h2 : numL 0 H % 100 ≤ 59) : znO sg ⟨[H], false, y, mo, d, h, mi, s, e⟩ = ⟨[], false, y, mo, d, h, mi, s, sg * (numL 0 H / 100 * 60 + numL 0 H % 100)⟩ := by
  unfold znO
  rw [show dgs 4 4 ⟨[H], false, y, mo, d, h, mi, s, e⟩ = true from hH, if_pos rfl, nmV_yes hH]
  exact znF_ok h1 h2
theorem znR_plus : znR ⟨[43] :: t, false, y, mo, d, h, mi, s, e⟩ = znO 1 ⟨t, false, y, mo, d, h, mi, s, e⟩ := by
  unfold znR
  rw [if_neg (by simp)]
  have e0 : nx ⟨[43] :: t, false, y, mo, d, h, mi, s, e⟩ = [43] := rfl
  rw [e0, if_pos rfl]
  rfl
theorem znR_minus : znR ⟨[45] :: t, false, y, mo, d, h, mi, s, e⟩ = znO (-1) ⟨t, false, y, mo, d, h, mi, s, e⟩ := by
  unfold znR
  rw [if_neg (by simp)]
  have e0 : nx ⟨[45] :: t, false, y, mo, d, h, mi, s, e⟩ = [45] := rfl
  rw [e0, if_neg (by decide), if_pos rfl]
  rfl
end
theorem res_ok {y mo d h mi s e : Int} (hk : Cv.secOk y mo d h mi s e = true) : resR ⟨[], false, y, mo, d, h, mi, s, e⟩ = some (Cv.secV y mo d h mi s e) := by
  unfold resR okR
  rw [show Cv.secOk _ _ _ _ _ _ _ = true from hk]
  rfl
/-! The stamp. -/
theorem get6 {l : Wd} (h : 6 ≤ l.length) : ∃ a0 a1 a2 a3 a4 a5 r, l = a0 :: a1 :: a2 :: a3 :: a4 :: a5 :: r := by
  rcases l with _ | ⟨a0, l⟩
  · simp at h
  rcases l with _ | ⟨a1, l⟩
  · simp at h
  rcases l with _ | ⟨a2, l⟩
  · simp at h
  rcases l with _ | ⟨a3, l⟩
  · simp at h
  rcases l with _ | ⟨a4, l⟩
  · simp at h
  rcases l with _ | ⟨a5, l⟩
  · simp at h
  exact ⟨a0, a1, a2, a3, a4, a5, l, rfl⟩
theorem get8 {l : Wd} (h : 8 ≤ l.length) : ∃ a0 a1 a2 a3 a4 a5 a6 a7 r, l = a0 :: a1 :: a2 :: a3 :: a4 :: a5 :: a6 :: a7 :: r := by
  rcases l with _ | ⟨a0, l⟩
  · simp at h
  rcases l with _ | ⟨a1, l⟩
  · simp at h
  rcases l with _ | ⟨a2, l⟩
  · simp at h
  rcases l with _ | ⟨a3, l⟩
  · simp at h
  rcases l with _ | ⟨a4, l⟩
  · simp at h
  rcases l with _ | ⟨a5, l⟩
  · simp at h
  rcases l with _ | ⟨a6, l⟩
  · simp at h
  rcases l with _ | ⟨a7, l⟩
  · simp at h
  exact ⟨a0, a1, a2, a3, a4, a5, a6, a7, l, rfl⟩
theorem get11 {l : Wd} (h : 11 ≤ l.length) : ∃ a0 a1 a2 a3 a4 a5 a6 a7 a8 a9 a10 r, l = a0 :: a1 :: a2 :: a3 :: a4 :: a5 :: a6 :: a7 :: a8 :: a9 :: a10 :: r := by
  rcases l with _ | ⟨a0, l⟩
  · simp at h
  rcases l with _ | ⟨a1, l⟩
  · simp at h
  rcases l with _ | ⟨a2, l⟩
  · simp at h
  rcases l with _ | ⟨a3, l⟩
  · simp at h
  rcases l with _ | ⟨a4, l⟩
  · simp at h
  rcases l with _ | ⟨a5, l⟩
  · simp at h
  rcases l with _ | ⟨a6, l⟩
  · simp at h
  rcases l with _ | ⟨a7, l⟩
  · simp at h
  rcases l with _ | ⟨a8, l⟩
  · simp at h
  rcases l with _ | ⟨a9, l⟩
  · simp at h
  rcases l with _ | ⟨a10, l⟩
  · simp at h
  exact ⟨a0, a1, a2, a3, a4, a5, a6, a7, a8, a9, a10, l, rfl⟩
theorem ext_drop (l : Wd) (n : Nat) : (Ml.mk l).extract n (Ml.mk l).size = Ml.mk (l.drop n) := by
  apply ByteArray.ext
  rw [ByteArray.data_extract]
  show l.toArray.extract n l.length = (l.drop n).toArray
  simp
  rw [List.take_of_length_le (by simp)]
theorem runF_spec (s : ByteArray) : ∀ (f n : Nat), s.size ≤ n + f → n ≤ Sm.runF s f n ∧ (∀ i, n ≤ i → i < Sm.runF s f n → Sm.dig s i = true) ∧ Sm.dig s (Sm.runF s f n) = false
  | 0, n, h => ⟨Nat.le_refl _, fun i h1 h2 => absurd h2 (by show ¬ i < n; omega), Sm.dig_out s n h⟩
  | f + 1, n, h => by
    unfold Sm.runF
    by_cases hd : Sm.dig s n = true
    · rw [if_pos hd]
      obtain ⟨h1, h2, h3⟩ := runF_spec s f (n + 1) (by omega)
      refine ⟨by omega, fun i hi hi2 => ?_, h3⟩
      by_cases e : i = n
      · rw [e]; exact hd
      · exact h2 i (by omega) hi2
    · rw [if_neg hd]
      exact ⟨Nat.le_refl _, fun i h1 h2 => absurd h2 (by omega), by simpa using hd⟩
theorem hr_zz : hrF [122] = (0, true) := by decide +kernel
/-- A stamp's zone: its pieces, and what the liberal reader makes of them. -/
theorem zone_z {Z : Wd} {e : Int} (h : Sm.zonF (Ml.mk Z) = (e, true)) : ∃ z t, pcs Z = z :: t ∧ z ≠ [58] ∧ z ≠ [46] ∧ (∃ c m, Z = c :: m ∧ srt c ≠ 1) ∧ ∀ y mo d h mi s e0, znR ⟨z :: t, false, y, mo, d, h, mi, s, e0⟩ = ⟨[], false, y, mo, d, h, mi, s, e⟩ := by
  unfold Sm.zonF at h
  split at h
  · rename_i hz
    have hZ : Z = [90] := by
      have := congrArg (fun s : ByteArray => s.data.toList) hz
      rw [Ml.list_mk] at this
      exact this
    subst hZ
    injection h with h _
    refine ⟨[122], [], by decide +kernel, by decide, by decide, ⟨90, [], rfl, by decide +kernel⟩, fun y mo d h2 mi s e0 => ?_⟩
    rw [znR_name (by decide) (by decide) hr_zz, ← h]
    rfl
  · split at h
    · rename_i hc
      obtain ⟨h6, hsg, hd1, h3, hd4, hn1, hn4⟩ := hc
      have hl : Z.length = 6 := h6
      obtain ⟨g, a, b, k, c, d, r, rfl⟩ := get6 (l := Z) (by omega)
      have hr : r = [] := by
        have : (g :: a :: b :: k :: c :: d :: r).length = 6 := hl
        simp at this
        exact this
      subst hr
      have b0 : Sm.B (Ml.mk [g, a, b, k, c, d]) 0 = g.toNat := by simp [Ml.B_mk]
      have b1 : Sm.B (Ml.mk [g, a, b, k, c, d]) 1 = a.toNat := by simp [Ml.B_mk]
      have b2 : Sm.B (Ml.mk [g, a, b, k, c, d]) 2 = b.toNat := by simp [Ml.B_mk]
      have b3 : Sm.B (Ml.mk [g, a, b, k, c, d]) 3 = k.toNat := by simp [Ml.B_mk]
      have b4 : Sm.B (Ml.mk [g, a, b, k, c, d]) 4 = c.toNat := by simp [Ml.B_mk]
      have b5 : Sm.B (Ml.mk [g, a, b, k, c, d]) 5 = d.toNat := by simp [Ml.B_mk]
      rw [Sm.d2_iff, Sm.dig_iff, Sm.dig_iff] at hd1 hd4
      rw [b1, b2] at hd1
      rw [b4, b5] at hd4
      rw [b3] at h3
      have e1 : Sm.n2 (Ml.mk [g, a, b, k, c, d]) 1 = numL 0 [a, b] := by
        rw [numL_pair hd1.1 hd1.2]
        unfold Sm.n2 Sm.v
        rw [b1, b2]
      have e4 : Sm.n2 (Ml.mk [g, a, b, k, c, d]) 4 = numL 0 [c, d] := by
        rw [numL_pair hd4.1 hd4.2]
        unfold Sm.n2 Sm.v
        rw [b4, b5]
      rw [e1] at hn1 h
      rw [e4] at hn4 h
      rw [b0] at h hsg
      have hk : k = 58 := UInt8.toNat_inj.1 h3
      subst hk
      have dab : Dg [a, b] := dg_pair hd1.1 hd1.2
      have dcd : Dg [c, d] := dg_pair hd4.1 hd4.2
      have hpc : pcs [a, b, 58, c, d] = [[a, b], [58], [c, d]] := by
        have h1 := pcs_dg (l := [58, c, d]) dab (Or.inr ⟨58, [c, d], rfl, by decide +kernel⟩)
        have h2 := pcs_dg (l := []) dcd (Or.inl rfl)
        rw [List.append_nil] at h2
        show pcs ([a, b] ++ [58, c, d]) = _
        rw [h1, pcs_mark _ (by decide +kernel) (by decide +kernel) (by decide +kernel), h2]
        rfl
      rcases hsg with hg | hg
      · have hg2 : g = 43 := UInt8.toNat_inj.1 hg
        subst hg2
        rw [if_neg (by decide)] at h
        injection h with h _
        refine ⟨[43], [[a, b], [58], [c, d]], by rw [pcs_mark _ (by decide +kernel) (by decide +kernel) (by decide +kernel), hpc], by decide, by decide, ⟨43, _, rfl, by decide +kernel⟩, fun y mo d2 h2 mi s e0 => ?_⟩
        rw [znR_plus, znO_colon (dab.dgW 2 2 (by simp) (by simp)) (dcd.dgW 2 2 (by simp) (by simp)) hn1 hn4, ← h, Int.one_mul]
      · have hg2 : g = 45 := UInt8.toNat_inj.1 hg
        subst hg2
        rw [if_pos (by decide)] at h
        injection h with h _
        refine ⟨[45], [[a, b], [58], [c, d]], by rw [pcs_mark _ (by decide +kernel) (by decide +kernel) (by decide +kernel), hpc], by decide, by decide, ⟨45, _, rfl, by decide +kernel⟩, fun y mo d2 h2 mi s e0 => ?_⟩
        rw [znR_minus, znO_colon (dab.dgW 2 2 (by simp) (by simp)) (dcd.dgW 2 2 (by simp) (by simp)) hn1 hn4, ← h]
        congr 1
        omega
    · cases h
/-- The first form, up to its time. -/
theorem fst_t {Y M D H : Wd} {T : List Wd} (hY : dgW 4 4 Y = true) (hM : dgW 1 2 M = true) (hD : dgW 1 2 D = true) (hH : dgW 1 2 H = true) : fst (start (Y :: [45] :: M :: [45] :: D :: [116] :: H :: T)) = ⟨H :: T, false, numL 0 Y, numL 0 M, numL 0 D, 0, 0, 0, 0⟩ := by
  have a : f1a (start (Y :: [45] :: M :: [45] :: D :: [116] :: H :: T)) = ⟨M :: [45] :: D :: [116] :: H :: T, false, numL 0 Y, 0, 0, 0, 0, 0, 0⟩ := by
    unfold f1a start
    rw [nmR_yes hY, nmV_yes hY]
    exact muR_yes
  have b : f1b ⟨M :: [45] :: D :: [116] :: H :: T, false, numL 0 Y, 0, 0, 0, 0, 0, 0⟩ = ⟨D :: [116] :: H :: T, false, numL 0 Y, numL 0 M, 0, 0, 0, 0, 0⟩ := by
    unfold f1b
    rw [nmR_yes hM, nmV_yes hM]
    exact muR_yes
  have c : nmD ⟨D :: [116] :: H :: T, false, numL 0 Y, numL 0 M, 0, 0, 0, 0, 0⟩ = ⟨[116] :: H :: T, false, numL 0 Y, numL 0 M, numL 0 D, 0, 0, 0, 0⟩ := by
    unfold nmD
    rw [nmR_yes hD, nmV_yes hD]
    rfl
  show fT (nmD (f1b (f1a (start (Y :: [45] :: M :: [45] :: D :: [116] :: H :: T))))) = _
  rw [a, b, c]
  unfold fT
  rw [mbB_yes, if_pos rfl]
  have e1 : tl ⟨[116] :: H :: T, false, numL 0 Y, numL 0 M, numL 0 D, 0, 0, 0, 0⟩ = ⟨H :: T, false, numL 0 Y, numL 0 M, numL 0 D, 0, 0, 0, 0⟩ := rfl
  rw [e1]
  have e2 : dgs 1 1048576 ⟨H :: T, false, numL 0 Y, numL 0 M, numL 0 D, 0, 0, 0, 0⟩ = true := clB_yes hH
  rw [e2, if_pos rfl]
/-! The stamp, whole. -/
/-- Behind the seconds: nothing, or a part of a second. -/
theorem frac_z {q : Wd} {e : Int} {P : Wd} (hP : P.length = 8) (hz : Sm.zonF ((Ml.mk (P ++ q)).extract (Sm.endN (Ml.mk (P ++ q))) (Ml.mk (P ++ q)).size) = (e, true)) (hsz : (P ++ q).length ≤ 100000) :
    ∃ T, pcs q = T ∧ (∃ c m, q = c :: m ∧ srt c ≠ 1) ∧ ∀ H MI X : Wd, dgW 1 2 H = true → dgW 2 2 MI = true → dgW 2 2 X = true → ∀ y mo d h mi s e0, znR (clR ⟨H :: [58] :: MI :: [58] :: X :: T, false, y, mo, d, h, mi, s, e0⟩) = ⟨[], false, y, mo, d, numL 0 H, numL 0 MI, numL 0 X, e⟩ := by
  rw [ext_drop] at hz
  have hB : ∀ k, Sm.B (Ml.mk (P ++ q)) (8 + k) = Sm.B (Ml.mk q) k := fun k => by
    rw [Ml.B_mk, Ml.B_mk, List.getElem?_append_right (by omega), show 8 + k - P.length = k by omega]
  have hdg : ∀ k, Sm.dig (Ml.mk (P ++ q)) (8 + k) = Sm.dig (Ml.mk q) k := fun k => by
    unfold Sm.dig
    rw [hB]
  unfold Sm.endN at hz
  by_cases hf : Sm.B (Ml.mk (P ++ q)) 8 = 46 ∧ Sm.dig (Ml.mk (P ++ q)) 9 = true
  · rw [if_pos hf] at hz
    obtain ⟨h8, h9⟩ := hf
    obtain ⟨r1, r2, r3⟩ := runF_spec (Ml.mk (P ++ q)) (Ml.mk (P ++ q)).size 9 (by omega)
    have hrun : Sm.run (Ml.mk (P ++ q)) 9 = Sm.runF (Ml.mk (P ++ q)) (Ml.mk (P ++ q)).size 9 := rfl
    rw [← hrun] at r1 r2 r3
    obtain ⟨j, hj⟩ : ∃ j, Sm.run (Ml.mk (P ++ q)) 9 = j := ⟨_, rfl⟩
    rw [hj] at hz r1 r2 r3
    have hj9 : 9 < j := by
      rcases Nat.lt_or_ge 9 j with h | h
      · exact h
      · have : j = 9 := by omega
        rw [this, h9] at r3
        cases r3
    have hjs : j ≤ (P ++ q).length := by
      have := r2 (j - 1) (by omega) (by omega)
      have := Sm.dig_in this
      have e1 : (Ml.mk (P ++ q)).size = (P ++ q).length := rfl
      omega
    obtain ⟨k, rfl⟩ : ∃ k, j = 9 + k := ⟨j - 9, by omega⟩
    have hq0 : ∃ m, q = 46 :: m := by
      have h1 := hB 0
      rw [Nat.add_zero, h8] at h1
      cases q with
      | nil => rw [Ml.B_mk] at h1; simp at h1
      | cons c m =>
        rw [Ml.B_mk] at h1
        simp at h1
        exact ⟨m, by rw [UInt8.toNat_inj.1 (show c.toNat = (46 : UInt8).toNat from h1.symm)]⟩
    obtain ⟨m, rfl⟩ := hq0
    have hlen : (P ++ 46 :: m).length = 9 + m.length := by simp [hP]; omega
    have hkm : k ≤ m.length := by omega
    have hFd : ∀ i, i < k → ∃ c, m[i]? = some c ∧ 48 ≤ c.toNat ∧ c.toNat ≤ 57 := fun i hi => by
      have h1 := r2 (9 + i) (by omega) (by omega)
      rw [show 9 + i = 8 + (i + 1) by omega, hdg, Sm.dig_iff, Ml.B_mk] at h1
      have hi2 : i < m.length := by omega
      refine ⟨m[i], List.getElem?_eq_getElem hi2, ?_⟩
      simpa [hi2] using h1
    have hF : Dg (m.take k) := by
      refine ⟨fun e1 => ?_, fun c hc => ?_⟩
      · have := congrArg List.length e1
        rw [List.length_take, List.length_nil] at this
        omega
      · obtain ⟨i, hi⟩ := List.getElem?_of_mem hc
        have hik : i < k := by
          have := (List.getElem?_eq_some_iff.1 hi).1
          rw [List.length_take] at this
          omega
        obtain ⟨c', hc', hd⟩ := hFd i hik
        rw [List.getElem?_take_of_lt hik, hc'] at hi
        cases hi
        exact dig_srt hd
    have hdrop : (P ++ 46 :: m).drop (9 + k) = m.drop k := by
      rw [show 9 + k = P.length + (k + 1) by omega, ← List.drop_drop, List.drop_left]
      rfl
    rw [hdrop] at hz
    obtain ⟨z, t, hpz, hz58, hz46, ⟨c, m', hcm, hc1⟩, hzn⟩ := zone_z hz
    have hpq : pcs (46 :: m) = [46] :: m.take k :: z :: t := by
      rw [pcs_mark _ (by decide +kernel) (by decide +kernel) (by decide +kernel)]
      have h1 : m = m.take k ++ m.drop k := (List.take_append_drop k m).symm
      conv => lhs; rw [h1]
      rw [pcs_dg hF (Or.inr ⟨c, m', hcm, hc1⟩), hpz]
    refine ⟨_, hpq, ⟨46, m, rfl, by decide +kernel⟩, fun H MI X hH hM hX y mo d h mi s e0 => ?_⟩
    rw [clR_f hH hM hX (hF.dgW 1 1048576 (by
      have := List.length_pos_iff.2 hF.1
      omega) (by rw [List.length_take]; omega))]
    exact hzn _ _ _ _ _ _ _
  · rw [if_neg hf, show (8 : Nat) = P.length by omega, List.drop_left] at hz
    obtain ⟨z, t, hpz, hz58, hz46, hcm, hzn⟩ := zone_z hz
    refine ⟨_, hpz, hcm, fun H MI X hH hM hX y mo d h mi s e0 => ?_⟩
    rw [clR_s hH hM hX hz46]
    exact hzn _ _ _ _ _ _ _
theorem pcs_lt1 {c : UInt8} {l : Wd} (h : srt c = 2) (hl : l = [] ∨ ∃ d m, l = d :: m ∧ srt d ≠ 2) : pcs (c :: l) = [lw c] :: pcs l := pcs_lt (q := []) (fun d hd => by rw [List.mem_singleton.1 hd]; exact h) hl
theorem dg_head {D : Wd} (h : Dg D) (l : Wd) : ∃ d m, D ++ l = d :: m ∧ srt d ≠ 2 := by
  obtain ⟨h0, h1⟩ := h
  match D, h0 with
  | c :: q, _ => exact ⟨c, q ++ l, rfl, by rw [h1 c (by simp)]; decide⟩
theorem pcs_stamp {Y M D H I X q : Wd} {T : List Wd} (dY : Dg Y) (dM : Dg M) (dD : Dg D) (dH : Dg H) (dI : Dg I) (dX : Dg X) (hq : ∃ c m, q = c :: m ∧ srt c ≠ 1) (hT : pcs q = T) :
    pcs (Y ++ 45 :: (M ++ 45 :: (D ++ 84 :: (H ++ 58 :: (I ++ 58 :: (X ++ q)))))) = Y :: [45] :: M :: [45] :: D :: [116] :: H :: [58] :: I :: [58] :: X :: T := by
  have e1 := pcs_dg (l := q) dX (Or.inr hq)
  have e2 := pcs_mark (c := 58) (X ++ q) (by decide +kernel) (by decide +kernel) (by decide +kernel)
  have e3 := pcs_dg (l := 58 :: (X ++ q)) dI (Or.inr ⟨58, _, rfl, by decide +kernel⟩)
  have e4 := pcs_mark (c := 58) (I ++ 58 :: (X ++ q)) (by decide +kernel) (by decide +kernel) (by decide +kernel)
  have e5 := pcs_dg (l := 58 :: (I ++ 58 :: (X ++ q))) dH (Or.inr ⟨58, _, rfl, by decide +kernel⟩)
  have e6 := pcs_lt1 (c := 84) (l := H ++ 58 :: (I ++ 58 :: (X ++ q))) (by decide +kernel) (Or.inr (dg_head dH _))
  have e7 := pcs_dg (l := 84 :: (H ++ 58 :: (I ++ 58 :: (X ++ q)))) dD (Or.inr ⟨84, _, rfl, by decide +kernel⟩)
  have e8 := pcs_mark (c := 45) (D ++ 84 :: (H ++ 58 :: (I ++ 58 :: (X ++ q)))) (by decide +kernel) (by decide +kernel) (by decide +kernel)
  have e9 := pcs_dg (l := 45 :: (D ++ 84 :: (H ++ 58 :: (I ++ 58 :: (X ++ q))))) dM (Or.inr ⟨45, _, rfl, by decide +kernel⟩)
  have e10 := pcs_mark (c := 45) (M ++ 45 :: (D ++ 84 :: (H ++ 58 :: (I ++ 58 :: (X ++ q))))) (by decide +kernel) (by decide +kernel) (by decide +kernel)
  have e11 := pcs_dg (l := 45 :: (M ++ 45 :: (D ++ 84 :: (H ++ 58 :: (I ++ 58 :: (X ++ q)))))) dY (Or.inr ⟨45, _, rfl, by decide +kernel⟩)
  have e0 : lw 84 = 116 := by decide +kernel
  rw [e11, e10, e9, e8, e7, e6, e5, e4, e3, e2, e1, hT, e0]
theorem day_parts {l : Wd} (hd : Sm.dayB (Ml.mk l) = true) (h10 : Sm.B (Ml.mk l) 10 = 84) : ∃ Y M D r, l = Y ++ 45 :: (M ++ 45 :: (D ++ 84 :: r)) ∧ (Dg Y ∧ Y.length = 4) ∧ (Dg M ∧ M.length = 2) ∧ (Dg D ∧ D.length = 2) ∧ Sm.n4 (Ml.mk l) 0 = numL 0 Y ∧ Sm.n2 (Ml.mk l) 5 = numL 0 M ∧ Sm.n2 (Ml.mk l) 8 = numL 0 D ∧ l.drop 11 = r := by
  obtain ⟨d4, h4, d5, h7, d8⟩ := (Sm.dayB_iff _).1 hd
  have hln : 11 ≤ l.length := by
    rcases Nat.lt_or_ge 10 l.length with hh | hh
    · omega
    · rw [Ml.B_mk, List.getElem?_eq_none hh] at h10
      simp at h10
  obtain ⟨a0, a1, a2, a3, a4, a5, a6, a7, a8, a9, a10, r, rfl⟩ := get11 hln
  have b0 : Sm.B (Ml.mk (a0 :: a1 :: a2 :: a3 :: a4 :: a5 :: a6 :: a7 :: a8 :: a9 :: a10 :: r)) 0 = a0.toNat := by simp [Ml.B_mk]
  have b1 : Sm.B (Ml.mk (a0 :: a1 :: a2 :: a3 :: a4 :: a5 :: a6 :: a7 :: a8 :: a9 :: a10 :: r)) 1 = a1.toNat := by simp [Ml.B_mk]
  have b2 : Sm.B (Ml.mk (a0 :: a1 :: a2 :: a3 :: a4 :: a5 :: a6 :: a7 :: a8 :: a9 :: a10 :: r)) 2 = a2.toNat := by simp [Ml.B_mk]
  have b3 : Sm.B (Ml.mk (a0 :: a1 :: a2 :: a3 :: a4 :: a5 :: a6 :: a7 :: a8 :: a9 :: a10 :: r)) 3 = a3.toNat := by simp [Ml.B_mk]
  have b4 : Sm.B (Ml.mk (a0 :: a1 :: a2 :: a3 :: a4 :: a5 :: a6 :: a7 :: a8 :: a9 :: a10 :: r)) 4 = a4.toNat := by simp [Ml.B_mk]
  have b5 : Sm.B (Ml.mk (a0 :: a1 :: a2 :: a3 :: a4 :: a5 :: a6 :: a7 :: a8 :: a9 :: a10 :: r)) 5 = a5.toNat := by simp [Ml.B_mk]
  have b6 : Sm.B (Ml.mk (a0 :: a1 :: a2 :: a3 :: a4 :: a5 :: a6 :: a7 :: a8 :: a9 :: a10 :: r)) 6 = a6.toNat := by simp [Ml.B_mk]
  have b7 : Sm.B (Ml.mk (a0 :: a1 :: a2 :: a3 :: a4 :: a5 :: a6 :: a7 :: a8 :: a9 :: a10 :: r)) 7 = a7.toNat := by simp [Ml.B_mk]
  have b8 : Sm.B (Ml.mk (a0 :: a1 :: a2 :: a3 :: a4 :: a5 :: a6 :: a7 :: a8 :: a9 :: a10 :: r)) 8 = a8.toNat := by simp [Ml.B_mk]
  have b9 : Sm.B (Ml.mk (a0 :: a1 :: a2 :: a3 :: a4 :: a5 :: a6 :: a7 :: a8 :: a9 :: a10 :: r)) 9 = a9.toNat := by simp [Ml.B_mk]
  have b10 : Sm.B (Ml.mk (a0 :: a1 :: a2 :: a3 :: a4 :: a5 :: a6 :: a7 :: a8 :: a9 :: a10 :: r)) 10 = a10.toNat := by simp [Ml.B_mk]
  rw [Sm.d4_iff, Sm.dig_iff, Sm.dig_iff, Sm.dig_iff, Sm.dig_iff, b0, b1, b2, b3] at d4
  rw [Sm.d2_iff, Sm.dig_iff, Sm.dig_iff, b5, b6] at d5
  rw [Sm.d2_iff, Sm.dig_iff, Sm.dig_iff, b8, b9] at d8
  rw [b4] at h4
  rw [b7] at h7
  rw [b10] at h10
  have e4 : a4 = 45 := UInt8.toNat_inj.1 h4
  have e7 : a7 = 45 := UInt8.toNat_inj.1 h7
  have e10 : a10 = 84 := UInt8.toNat_inj.1 h10
  refine ⟨[a0, a1, a2, a3], [a5, a6], [a8, a9], r, by rw [e4, e7, e10]; rfl, ⟨dg_quad d4.1 d4.2.1 d4.2.2.1 d4.2.2.2, rfl⟩, ⟨dg_pair d5.1 d5.2, rfl⟩, ⟨dg_pair d8.1 d8.2, rfl⟩, ?_, ?_, ?_, rfl⟩
  · rw [numL_quad d4.1 d4.2.1 d4.2.2.1 d4.2.2.2]
    unfold Sm.n4 Sm.v
    rw [b0, b1, b2, b3]
  · rw [numL_pair d5.1 d5.2]
    unfold Sm.n2 Sm.v
    rw [b5, b6]
  · rw [numL_pair d8.1 d8.2]
    unfold Sm.n2 Sm.v
    rw [b8, b9]
theorem hms_parts {r : Wd} (hhm : Sm.hmB (Ml.mk r) = true) (hse : Sm.seB (Ml.mk r) = true) : ∃ H I X q, r = H ++ 58 :: (I ++ 58 :: (X ++ q)) ∧ (Dg H ∧ H.length = 2) ∧ (Dg I ∧ I.length = 2) ∧ (Dg X ∧ X.length = 2) ∧ Sm.n2 (Ml.mk r) 0 = numL 0 H ∧ Sm.n2 (Ml.mk r) 3 = numL 0 I ∧ Sm.n2 (Ml.mk r) 6 = numL 0 X := by
  obtain ⟨g0, g2, g3⟩ := (Sm.hmB_iff _).1 hhm
  obtain ⟨g5, g6⟩ := (Sm.seB_iff _).1 hse
  have hrl8 : 8 ≤ r.length := Sm.se_size hse
  obtain ⟨p0, p1, p2, p3, p4, p5, p6, p7, q, rfl⟩ := get8 hrl8
  have b0 : Sm.B (Ml.mk (p0 :: p1 :: p2 :: p3 :: p4 :: p5 :: p6 :: p7 :: q)) 0 = p0.toNat := by simp [Ml.B_mk]
  have b1 : Sm.B (Ml.mk (p0 :: p1 :: p2 :: p3 :: p4 :: p5 :: p6 :: p7 :: q)) 1 = p1.toNat := by simp [Ml.B_mk]
  have b2 : Sm.B (Ml.mk (p0 :: p1 :: p2 :: p3 :: p4 :: p5 :: p6 :: p7 :: q)) 2 = p2.toNat := by simp [Ml.B_mk]
  have b3 : Sm.B (Ml.mk (p0 :: p1 :: p2 :: p3 :: p4 :: p5 :: p6 :: p7 :: q)) 3 = p3.toNat := by simp [Ml.B_mk]
  have b4 : Sm.B (Ml.mk (p0 :: p1 :: p2 :: p3 :: p4 :: p5 :: p6 :: p7 :: q)) 4 = p4.toNat := by simp [Ml.B_mk]
  have b5 : Sm.B (Ml.mk (p0 :: p1 :: p2 :: p3 :: p4 :: p5 :: p6 :: p7 :: q)) 5 = p5.toNat := by simp [Ml.B_mk]
  have b6 : Sm.B (Ml.mk (p0 :: p1 :: p2 :: p3 :: p4 :: p5 :: p6 :: p7 :: q)) 6 = p6.toNat := by simp [Ml.B_mk]
  have b7 : Sm.B (Ml.mk (p0 :: p1 :: p2 :: p3 :: p4 :: p5 :: p6 :: p7 :: q)) 7 = p7.toNat := by simp [Ml.B_mk]
  rw [Sm.d2_iff, Sm.dig_iff, Sm.dig_iff, b0, b1] at g0
  rw [Sm.d2_iff, Sm.dig_iff, Sm.dig_iff, b3, b4] at g3
  rw [Sm.d2_iff, Sm.dig_iff, Sm.dig_iff, b6, b7] at g6
  rw [b2] at g2
  rw [b5] at g5
  have e2 : p2 = 58 := UInt8.toNat_inj.1 g2
  have e5 : p5 = 58 := UInt8.toNat_inj.1 g5
  refine ⟨[p0, p1], [p3, p4], [p6, p7], q, by rw [e2, e5]; rfl, ⟨dg_pair g0.1 g0.2, rfl⟩, ⟨dg_pair g3.1 g3.2, rfl⟩, ⟨dg_pair g6.1 g6.2, rfl⟩, ?_, ?_, ?_⟩
  · rw [numL_pair g0.1 g0.2]
    unfold Sm.n2 Sm.v
    rw [b0, b1]
  · rw [numL_pair g3.1 g3.2]
    unfold Sm.n2 Sm.v
    rw [b3, b4]
  · rw [numL_pair g6.1 g6.2]
    unfold Sm.n2 Sm.v
    rw [b6, b7]
theorem form_stamp {Y M D H I X : Wd} {T : List Wd} {e : Int} (dY : dgW 4 4 Y = true) (dM : dgW 1 2 M = true) (dD : dgW 1 2 D = true) (dH : dgW 1 2 H = true) (dI : dgW 2 2 I = true) (dX : dgW 2 2 X = true)
    (hz : ∀ H MI X : Wd, dgW 1 2 H = true → dgW 2 2 MI = true → dgW 2 2 X = true → ∀ y mo d h mi s e0, znR (clR ⟨H :: [58] :: MI :: [58] :: X :: T, false, y, mo, d, h, mi, s, e0⟩) = ⟨[], false, y, mo, d, numL 0 H, numL 0 MI, numL 0 X, e⟩) :
    form 0 (Y :: [45] :: M :: [45] :: D :: [116] :: H :: [58] :: I :: [58] :: X :: T) = ⟨[], false, numL 0 Y, numL 0 M, numL 0 D, numL 0 H, numL 0 I, numL 0 X, e⟩ := by
  have h0 : form 0 (Y :: [45] :: M :: [45] :: D :: [116] :: H :: [58] :: I :: [58] :: X :: T) = ckz (fst (start (Y :: [45] :: M :: [45] :: D :: [116] :: H :: [58] :: I :: [58] :: X :: T))) := rfl
  rw [h0, fst_t dY dM dD dH]
  unfold ckz
  rw [clB_yes dH, if_pos rfl]
  exact hz _ _ _ dH dI dX _ _ _ _ _ _ _
/-- A stamp's second is the liberal reader's. -/
theorem stamp_parse {l : Wd} {v : Int} (hl : l.length ≤ 100000) (h : Sm.fullF (Ml.mk l) 8 = (v, true)) : parse l = some v := by
  unfold Sm.fullF at h
  by_cases hd : Sm.dayB (Ml.mk l) = true ∧ Sm.B (Ml.mk l) 10 = 84
  · rw [if_pos hd] at h
    obtain ⟨Y, M, D, r, hlr, ⟨dY, lY⟩, ⟨dM, lM⟩, ⟨dD, lD⟩, n0, n5, n8, hdr⟩ := day_parts hd.1 hd.2
    unfold Sm.tailF at h
    rw [n0, n5, n8, ext_drop, hdr] at h
    have hrl : r.length ≤ 100000 := by
      rw [← hdr, List.length_drop]
      omega
    clear n0 n5 n8 hd hdr
    by_cases hc : (Sm.clkF (Ml.mk r)).2.2.2.2 = true ∧ 8 ≤ (Sm.clkF (Ml.mk r)).2.2.2.1
    · rw [if_pos hc] at h
      unfold Sm.clkF at h hc
      by_cases hhm : Sm.hmB (Ml.mk r) = true ∧ Sm.n2 (Ml.mk r) 0 ≤ 23 ∧ Sm.n2 (Ml.mk r) 3 ≤ 59
      · by_cases hse : Sm.seB (Ml.mk r) = true ∧ Sm.n2 (Ml.mk r) 6 ≤ 59
        · rw [if_pos hhm, if_pos hse] at h
          clear hc
          simp only at h
          obtain ⟨H, I, X, q, hrq, ⟨dH, lH⟩, ⟨dI, lI⟩, ⟨dX, lX⟩, m0, m3, m6⟩ := hms_parts hhm.1 hse.1
          rw [m0, m3, m6] at h
          clear m0 m3 m6 hhm hse
          have hrP : r = (H ++ 58 :: (I ++ 58 :: X)) ++ q := by rw [hrq]; simp
          have hPl : (H ++ 58 :: (I ++ 58 :: X)).length = 8 := by simp [lH, lI, lX]
          by_cases hzo : (Sm.zonF ((Ml.mk r).extract (Sm.endN (Ml.mk r)) (Ml.mk r).size)).2 = true
          · rw [if_pos hzo] at h
            obtain ⟨e, hze⟩ : ∃ e, Sm.zonF ((Ml.mk r).extract (Sm.endN (Ml.mk r)) (Ml.mk r).size) = (e, true) := ⟨_, Prod.ext rfl hzo⟩
            rw [hze] at h
            rw [hrP] at hze hrl
            obtain ⟨T, hT, hq, hz⟩ := frac_z hPl hze hrl
            have hpc := pcs_stamp dY dM dD dH dI dX hq hT
            unfold Sm.secR at h
            by_cases hok : Cv.secOk (numL 0 Y) (numL 0 M) (numL 0 D) (numL 0 H) (numL 0 I) (numL 0 X) e = true
            · simp only at h
              rw [if_pos hok] at h
              have hv := congrArg Prod.fst h
              simp only at hv
              clear h
              have hf := form_stamp (dY.dgW 4 4 (by omega) (by omega)) (dM.dgW 1 2 (by omega) (by omega)) (dD.dgW 1 2 (by omega) (by omega)) (dH.dgW 1 2 (by omega) (by omega)) (dI.dgW 2 2 (by omega) (by omega)) (dX.dgW 2 2 (by omega) (by omega)) hz
              rw [hlr, hrq]
              unfold parse
              rw [hpc]
              unfold parseL
              rw [hf, res_ok hok, hv]
            · simp only at h
              rw [if_neg hok] at h
              exact absurd (congrArg Prod.snd h) (by simp)
          · rw [if_neg hzo] at h
            exact absurd (congrArg Prod.snd h) (by simp)
        · rw [if_pos hhm, if_neg hse] at hc
          have h5 : 8 ≤ (5 : Nat) := hc.2
          omega
      · rw [if_neg hhm] at hc
        exact absurd hc.2 (by decide)
    · rw [if_neg hc] at h
      exact absurd (congrArg Prod.snd h) (by simp)
  · rw [if_neg hd] at h
    exact absurd (congrArg Prod.snd h) (by simp)
end Lb
namespace Lb
open Go
theorem len1 {l : Wd} (h : l.length = 1) : ∃ a0, l = [a0] := by
  match l, h with
  | [a0], _ => exact ⟨a0, rfl⟩
theorem len2 {l : Wd} (h : l.length = 2) : ∃ a0 a1, l = [a0, a1] := by
  match l, h with
  | [a0, a1], _ => exact ⟨a0, a1, rfl⟩
theorem len4 {l : Wd} (h : l.length = 4) : ∃ a0 a1 a2 a3, l = [a0, a1, a2, a3] := by
  match l, h with
  | [a0, a1, a2, a3], _ => exact ⟨a0, a1, a2, a3, rfl⟩
theorem len5 {l : Wd} (h : l.length = 5) : ∃ a0 a1 a2 a3 a4, l = [a0, a1, a2, a3, a4] := by
  match l, h with
  | [a0, a1, a2, a3, a4], _ => exact ⟨a0, a1, a2, a3, a4, rfl⟩
theorem len8 {l : Wd} (h : l.length = 8) : ∃ a0 a1 a2 a3 a4 a5 a6 a7, l = [a0, a1, a2, a3, a4, a5, a6, a7] := by
  match l, h with
  | [a0, a1, a2, a3, a4, a5, a6, a7], _ => exact ⟨a0, a1, a2, a3, a4, a5, a6, a7, rfl⟩
/-- A text's words apart, its pieces are the words' pieces. -/
theorem pcs_join : ∀ W : List Wd, pcs (Ml.joinL 32 W) = (W.map pcs).flatten
  | [] => rfl
  | [x] => by simp [Ml.joinL]
  | x :: y :: t => by
    have ih := pcs_join (y :: t)
    show pcs (x ++ 32 :: Ml.joinL 32 (y :: t)) = _
    rw [pcs_app x _ (fun d m e => by injection e with e _; rw [← e]; decide +kernel), pcs_white 32 _ (by decide +kernel), ih]
    rfl
/-! The words. -/
theorem day_word {D : Wd} (h : Ml.digO (Ml.mk D) (Ml.dyn (Ml.mk D)) = true) : Dg D ∧ (D.length = 1 ∨ D.length = 2) ∧ numL 0 D = Ml.digV (Ml.mk D) (Ml.dyn (Ml.mk D)) := by
  have hv : Ml.digV (Ml.mk D) (Ml.dyn (Ml.mk D)) = Sm.numA (Ml.mk D) 0 (Ml.dyn (Ml.mk D)) := by unfold Ml.digV; rw [if_pos h]
  rw [hv]
  obtain ⟨h1, h2⟩ := (Ml.digO_iff _ _).1 h
  have hs : (Ml.mk D).size = D.length := rfl
  unfold Ml.dyn at *
  by_cases e : (Ml.mk D).size = 1
  · rw [if_pos e] at *
    rw [hs] at e
    obtain ⟨a, rfl⟩ := len1 e
    have b0 : Sm.B (Ml.mk [a]) 0 = a.toNat := by simp [Ml.B_mk]
    have g := (Sm.dig_iff _ _).1 (h2 0 (by omega))
    rw [b0] at g
    refine ⟨⟨by simp, fun c hc => by rw [List.mem_singleton.1 hc]; exact dig_srt g⟩, Or.inl rfl, ?_⟩
    rw [numL_one g]
    unfold Sm.numA Sm.numA Sm.v
    rw [b0]
    omega
  · rw [if_neg e] at *
    rw [hs] at h1
    obtain ⟨a, b, rfl⟩ := len2 h1
    have b0 : Sm.B (Ml.mk [a, b]) 0 = a.toNat := by simp [Ml.B_mk]
    have b1 : Sm.B (Ml.mk [a, b]) 1 = b.toNat := by simp [Ml.B_mk]
    have g := (Sm.dig_iff _ _).1 (h2 0 (by omega))
    have g' := (Sm.dig_iff _ _).1 (h2 1 (by omega))
    rw [b0] at g
    rw [b1] at g'
    refine ⟨dg_pair g g', Or.inr rfl, ?_⟩
    rw [numL_pair g g', Sm.numA_2]
    unfold Sm.n2 Sm.v
    rw [b0, b1]
theorem year_word {Y : Wd} (h : Ml.digO (Ml.mk Y) 4 = true) : Dg Y ∧ Y.length = 4 ∧ numL 0 Y = Ml.digV (Ml.mk Y) 4 := by
  have hv : Ml.digV (Ml.mk Y) 4 = Sm.numA (Ml.mk Y) 0 4 := by unfold Ml.digV; rw [if_pos h]
  rw [hv]
  obtain ⟨h1, h2⟩ := (Ml.digO_iff _ _).1 h
  obtain ⟨a, b, c, d, rfl⟩ := len4 (show Y.length = 4 from h1)
  have b0 : Sm.B (Ml.mk [a, b, c, d]) 0 = a.toNat := by simp [Ml.B_mk]
  have b1 : Sm.B (Ml.mk [a, b, c, d]) 1 = b.toNat := by simp [Ml.B_mk]
  have b2 : Sm.B (Ml.mk [a, b, c, d]) 2 = c.toNat := by simp [Ml.B_mk]
  have b3 : Sm.B (Ml.mk [a, b, c, d]) 3 = d.toNat := by simp [Ml.B_mk]
  have g0 := (Sm.dig_iff _ _).1 (h2 0 (by omega))
  have g1 := (Sm.dig_iff _ _).1 (h2 1 (by omega))
  have g2 := (Sm.dig_iff _ _).1 (h2 2 (by omega))
  have g3 := (Sm.dig_iff _ _).1 (h2 3 (by omega))
  rw [b0] at g0
  rw [b1] at g1
  rw [b2] at g2
  rw [b3] at g3
  refine ⟨dg_quad g0 g1 g2 g3, rfl, ?_⟩
  rw [numL_quad g0 g1 g2 g3, Sm.numA_4]
  unfold Sm.n4 Sm.v
  rw [b0, b1, b2, b3]
theorem mon_ok : ((List.range 12).all fun k => decide (pcs ((Ml.mths.getD k ⟨#[]⟩).data.toList) = [((Ml.mths.getD k ⟨#[]⟩).data.toList).map lw]) && decide (monF (((Ml.mths.getD k ⟨#[]⟩).data.toList).map lw) = (k : Int) + 1) && decide (((Ml.mths.getD k ⟨#[]⟩).data.toList).map lw ≠ [45])) = true := by decide +kernel
theorem mon_word {M : Wd} {mm : Int} (h : Ml.monF (Ml.mk M) = some mm) : ∃ x, pcs M = [x] ∧ monF x = mm ∧ x ≠ [45] ∧ mm ≠ 0 := by
  obtain ⟨_, k, rfl, hk⟩ := Ml.nm_mem h
  have hk2 : k < 12 := (List.getElem?_eq_some_iff.1 hk).1
  have h2 := List.all_eq_true.1 mon_ok k (List.mem_range.2 hk2)
  have hM : (Ml.mths.getD k ⟨#[]⟩).data.toList = M := by
    rw [List.getD_eq_getElem?_getD, hk]
    exact Ml.list_mk M
  rw [hM] at h2
  simp only [Bool.and_eq_true, decide_eq_true_eq] at h2
  obtain ⟨⟨h3, h4⟩, h5⟩ := h2
  exact ⟨_, h3, by rw [h4]; omega, h5, by omega⟩
theorem dys_ok : ((List.range 7).all fun k => decide (pcs ((Ml.dys.getD k ⟨#[]⟩).data.toList ++ [44]) = [((Ml.dys.getD k ⟨#[]⟩).data.toList).map lw, [44]]) && wkB (((Ml.dys.getD k ⟨#[]⟩).data.toList).map lw) && !dgW 4 4 (((Ml.dys.getD k ⟨#[]⟩).data.toList).map lw)) = true := by decide +kernel
theorem wk_word {W : Wd} {k : Int} (hc : Ml.commaB (Ml.mk W) = true) (h : Ml.dayF ((Ml.mk W).extract 0 3) = some k) : ∃ x, pcs W = [x, [44]] ∧ wkB x = true ∧ dgW 4 4 x = false := by
  unfold Ml.commaB at hc
  simp only [Bool.and_eq_true, decide_eq_true_eq, beq_iff_eq] at hc
  obtain ⟨h4, h3⟩ := hc
  obtain ⟨a, b, c, d, rfl⟩ := len4 (show W.length = 4 from h4)
  have b3 : Sm.B (Ml.mk [a, b, c, d]) 3 = d.toNat := by simp [Ml.B_mk]
  rw [b3] at h3
  have hd : d = 44 := UInt8.toNat_inj.1 h3
  subst hd
  have he : (Ml.mk [a, b, c, 44]).extract 0 3 = Ml.mk [a, b, c] := by
    apply ByteArray.ext
    rw [ByteArray.data_extract]
    rfl
  rw [he] at h
  obtain ⟨_, j, rfl, hj⟩ := Ml.nm_mem h
  have hj2 : j < 7 := (List.getElem?_eq_some_iff.1 hj).1
  have h2 := List.all_eq_true.1 dys_ok j (List.mem_range.2 hj2)
  have hM : (Ml.dys.getD j ⟨#[]⟩).data.toList = [a, b, c] := by
    rw [List.getD_eq_getElem?_getD, hj]
    exact Ml.list_mk _
  rw [hM] at h2
  simp only [Bool.and_eq_true, decide_eq_true_eq, Bool.not_eq_true'] at h2
  obtain ⟨⟨h3, h4⟩, h5⟩ := h2
  exact ⟨_, h3, h4, h5⟩
/-- A time's pieces, and what the liberal reader makes of them. -/
theorem clk_word {C : Wd} (h : Ml.hmsB (Ml.mk C) = true) : ∃ H t, pcs C = H :: t ∧ dgW 1 2 H = true ∧ ∀ z T, z ≠ [58] → z ≠ [46] → ∀ y mo d h mi s e0, clR ⟨H :: t ++ z :: T, false, y, mo, d, h, mi, s, e0⟩ = ⟨z :: T, false, y, mo, d, Sm.n2 (Ml.mk C) 0, Sm.n2 (Ml.mk C) 3, (if C.length = 8 then Sm.n2 (Ml.mk C) 6 else s), e0⟩ := by
  obtain ⟨g0, g2, g3, hs⟩ := (Ml.hms_iff _).1 h
  rcases hs with h5 | ⟨h8, g5, g6⟩
  · obtain ⟨a, b, k, c, d, rfl⟩ := len5 (show C.length = 5 from h5)
    have b0 : Sm.B (Ml.mk [a, b, k, c, d]) 0 = a.toNat := by simp [Ml.B_mk]
    have b1 : Sm.B (Ml.mk [a, b, k, c, d]) 1 = b.toNat := by simp [Ml.B_mk]
    have b2 : Sm.B (Ml.mk [a, b, k, c, d]) 2 = k.toNat := by simp [Ml.B_mk]
    have b3 : Sm.B (Ml.mk [a, b, k, c, d]) 3 = c.toNat := by simp [Ml.B_mk]
    have b4 : Sm.B (Ml.mk [a, b, k, c, d]) 4 = d.toNat := by simp [Ml.B_mk]
    rw [Sm.d2_iff, Sm.dig_iff, Sm.dig_iff, b0, b1] at g0
    rw [Sm.d2_iff, Sm.dig_iff, Sm.dig_iff, b3, b4] at g3
    rw [b2] at g2
    have n0 : Sm.n2 (Ml.mk [a, b, k, c, d]) 0 = numL 0 [a, b] := by
      rw [numL_pair g0.1 g0.2]
      unfold Sm.n2 Sm.v
      rw [b0, b1]
    have n3 : Sm.n2 (Ml.mk [a, b, k, c, d]) 3 = numL 0 [c, d] := by
      rw [numL_pair g3.1 g3.2]
      unfold Sm.n2 Sm.v
      rw [b3, b4]
    rw [n0, n3]
    have hk : k = 58 := UInt8.toNat_inj.1 g2
    subst hk
    have dH := dg_pair g0.1 g0.2
    have dI := dg_pair g3.1 g3.2
    have e1 := pcs_dg (l := []) dI (Or.inl rfl)
    rw [List.append_nil] at e1
    have e2 := pcs_mark (c := 58) [c, d] (by decide +kernel) (by decide +kernel) (by decide +kernel)
    have e3 := pcs_dg (l := 58 :: [c, d]) dH (Or.inr ⟨58, _, rfl, by decide +kernel⟩)
    refine ⟨[a, b], [[58], [c, d]], ?_, dH.dgW 1 2 (by simp) (by simp), fun z T hz1 hz2 y mo d2 h mi s e0 => ?_⟩
    · show pcs ([a, b] ++ 58 :: [c, d]) = _
      rw [e3, e2, e1]
      rfl
    · rw [if_neg (by simp)]
      exact clR_hm (dH.dgW 1 2 (by simp) (by simp)) (dI.dgW 2 2 (by simp) (by simp)) hz1
  · obtain ⟨a, b, k, c, d, k2, e, f, rfl⟩ := len8 (show C.length = 8 from h8)
    have b0 : Sm.B (Ml.mk [a, b, k, c, d, k2, e, f]) 0 = a.toNat := by simp [Ml.B_mk]
    have b1 : Sm.B (Ml.mk [a, b, k, c, d, k2, e, f]) 1 = b.toNat := by simp [Ml.B_mk]
    have b2 : Sm.B (Ml.mk [a, b, k, c, d, k2, e, f]) 2 = k.toNat := by simp [Ml.B_mk]
    have b3 : Sm.B (Ml.mk [a, b, k, c, d, k2, e, f]) 3 = c.toNat := by simp [Ml.B_mk]
    have b4 : Sm.B (Ml.mk [a, b, k, c, d, k2, e, f]) 4 = d.toNat := by simp [Ml.B_mk]
    have b5 : Sm.B (Ml.mk [a, b, k, c, d, k2, e, f]) 5 = k2.toNat := by simp [Ml.B_mk]
    have b6 : Sm.B (Ml.mk [a, b, k, c, d, k2, e, f]) 6 = e.toNat := by simp [Ml.B_mk]
    have b7 : Sm.B (Ml.mk [a, b, k, c, d, k2, e, f]) 7 = f.toNat := by simp [Ml.B_mk]
    rw [Sm.d2_iff, Sm.dig_iff, Sm.dig_iff, b0, b1] at g0
    rw [Sm.d2_iff, Sm.dig_iff, Sm.dig_iff, b3, b4] at g3
    rw [Sm.d2_iff, Sm.dig_iff, Sm.dig_iff, b6, b7] at g6
    rw [b2] at g2
    rw [b5] at g5
    have n0 : Sm.n2 (Ml.mk [a, b, k, c, d, k2, e, f]) 0 = numL 0 [a, b] := by
      rw [numL_pair g0.1 g0.2]
      unfold Sm.n2 Sm.v
      rw [b0, b1]
    have n3 : Sm.n2 (Ml.mk [a, b, k, c, d, k2, e, f]) 3 = numL 0 [c, d] := by
      rw [numL_pair g3.1 g3.2]
      unfold Sm.n2 Sm.v
      rw [b3, b4]
    have n6 : Sm.n2 (Ml.mk [a, b, k, c, d, k2, e, f]) 6 = numL 0 [e, f] := by
      rw [numL_pair g6.1 g6.2]
      unfold Sm.n2 Sm.v
      rw [b6, b7]
    rw [n0, n3, n6]
    have hk : k = 58 := UInt8.toNat_inj.1 g2
    subst hk
    have hk2 : k2 = 58 := UInt8.toNat_inj.1 g5
    subst hk2
    have dH := dg_pair g0.1 g0.2
    have dI := dg_pair g3.1 g3.2
    have dX := dg_pair g6.1 g6.2
    have e1 := pcs_dg (l := []) dX (Or.inl rfl)
    rw [List.append_nil] at e1
    have e2 := pcs_mark (c := 58) [e, f] (by decide +kernel) (by decide +kernel) (by decide +kernel)
    have e3 := pcs_dg (l := 58 :: [e, f]) dI (Or.inr ⟨58, _, rfl, by decide +kernel⟩)
    have e4 := pcs_mark (c := 58) ([c, d] ++ 58 :: [e, f]) (by decide +kernel) (by decide +kernel) (by decide +kernel)
    have e5 := pcs_dg (l := 58 :: ([c, d] ++ 58 :: [e, f])) dH (Or.inr ⟨58, _, rfl, by decide +kernel⟩)
    refine ⟨[a, b], [[58], [c, d], [58], [e, f]], ?_, dH.dgW 1 2 (by simp) (by simp), fun z T hz1 hz2 y mo d2 h mi s e0 => ?_⟩
    · show pcs ([a, b] ++ 58 :: ([c, d] ++ 58 :: [e, f])) = _
      rw [e5, e4, e3, e2, e1]
      rfl
    · rw [if_pos (by simp)]
      exact clR_s (dH.dgW 1 2 (by simp) (by simp)) (dI.dgW 2 2 (by simp) (by simp)) (dX.dgW 2 2 (by simp) (by simp)) hz2
theorem zn_ok : (Ml.znames.all fun p => decide (pcs p.1.data.toList = [p.1.data.toList.map lw]) && decide (hrF (p.1.data.toList.map lw) = (p.2, true)) && decide (p.1.data.toList.map lw ≠ [43]) && decide (p.1.data.toList.map lw ≠ [45]) && decide (p.1.data.toList.map lw ≠ [58]) && decide (p.1.data.toList.map lw ≠ [46])) = true := by decide +kernel
/-- A zone's pieces, and what the liberal reader makes of them. -/
theorem zn_word {Z : Wd} {e : Int} (h : Ml.zneF (Ml.mk Z) = some e) : ∃ z t, pcs Z = z :: t ∧ z ≠ [58] ∧ z ≠ [46] ∧ ∀ y mo d h mi s e0, znR ⟨z :: t, false, y, mo, d, h, mi, s, e0⟩ = ⟨[], false, y, mo, d, h, mi, s, e⟩ := by
  unfold Ml.zneF at h
  cases hh : Ml.hourF (Ml.mk Z) with
  | some k =>
    rw [hh] at h
    have he : k * 60 = e := by simpa using h
    unfold Ml.hourF at hh
    rw [Option.map_eq_some_iff] at hh
    obtain ⟨p, hp, hk⟩ := hh
    have hp1 : p.1 = Ml.mk Z := by simpa using List.find?_some hp
    have h2 := List.all_eq_true.1 zn_ok p (List.mem_of_find?_eq_some hp)
    rw [hp1, Ml.list_mk, hk] at h2
    simp only [Bool.and_eq_true, decide_eq_true_eq] at h2
    obtain ⟨⟨⟨⟨⟨h3, h4⟩, h5⟩, h6⟩, h7⟩, h8⟩ := h2
    exact ⟨_, [], h3, h7, h8, fun y mo d h mi s e0 => by rw [znR_name h5 h6 h4, he]⟩
  | none =>
    rw [hh] at h
    simp only at h
    by_cases ho : Ml.offB (Ml.mk Z) = true
    · rw [if_pos ho] at h
      have he : Ml.offV (Ml.mk Z) = e := by simpa using h
      obtain ⟨h5, g1, g3, n1, n3, hsg⟩ := (Ml.off_iff _).1 ho
      obtain ⟨g, a, b, c, d, rfl⟩ := len5 (show Z.length = 5 from h5)
      have b0 : Sm.B (Ml.mk [g, a, b, c, d]) 0 = g.toNat := by simp [Ml.B_mk]
      have b1 : Sm.B (Ml.mk [g, a, b, c, d]) 1 = a.toNat := by simp [Ml.B_mk]
      have b2 : Sm.B (Ml.mk [g, a, b, c, d]) 2 = b.toNat := by simp [Ml.B_mk]
      have b3 : Sm.B (Ml.mk [g, a, b, c, d]) 3 = c.toNat := by simp [Ml.B_mk]
      have b4 : Sm.B (Ml.mk [g, a, b, c, d]) 4 = d.toNat := by simp [Ml.B_mk]
      rw [Sm.d2_iff, Sm.dig_iff, Sm.dig_iff, b1, b2] at g1
      rw [Sm.d2_iff, Sm.dig_iff, Sm.dig_iff, b3, b4] at g3
      rw [b0] at hsg
      unfold Ml.offV at he
      rw [b0] at he
      unfold Sm.n2 Sm.v at n1 n3 he
      rw [b1, b2] at n1 he
      rw [b3, b4] at n3 he
      have dF := dg_quad g1.1 g1.2 g3.1 g3.2
      have hF := numL_quad g1.1 g1.2 g3.1 g3.2
      have q1 : numL 0 [a, b, c, d] / 100 = ((a.toNat : Int) - 48) * 10 + ((b.toNat : Int) - 48) := by rw [hF]; omega
      have q2 : numL 0 [a, b, c, d] % 100 = ((c.toNat : Int) - 48) * 10 + ((d.toNat : Int) - 48) := by rw [hF]; omega
      have hz := fun (sg y mo d0 h mi s e0 : Int) => znO_four (sg := sg) (y := y) (mo := mo) (d := d0) (h := h) (mi := mi) (s := s) (e := e0) (dF.dgW 4 4 (by simp) (by simp)) (by rw [q1]; exact n1) (by rw [q2]; exact n3)
      rw [q1, q2] at hz
      have e1 := pcs_dg (l := []) dF (Or.inl rfl)
      rw [List.append_nil] at e1
      rcases hsg with hg | hg
      · have hg2 : g = 43 := UInt8.toNat_inj.1 hg
        subst hg2
        rw [if_neg (by decide)] at he
        refine ⟨[43], [[a, b, c, d]], by rw [pcs_mark _ (by decide +kernel) (by decide +kernel) (by decide +kernel), e1]; rfl, by decide, by decide, fun y mo d2 h mi s e0 => ?_⟩
        rw [znR_plus, hz, ← he, Int.one_mul]
      · have hg2 : g = 45 := UInt8.toNat_inj.1 hg
        subst hg2
        rw [if_pos (by decide)] at he
        refine ⟨[45], [[a, b, c, d]], by rw [pcs_mark _ (by decide +kernel) (by decide +kernel) (by decide +kernel), e1]; rfl, by decide, by decide, fun y mo d2 h mi s e0 => ?_⟩
        rw [znR_minus, hz, ← he]
        congr 1
        omega
    · rw [if_neg ho] at h
      cases h
theorem wkB_short {x : Wd} (h : x.length < 3) : wkB x = false := by
  unfold wkB bgF
  have : days.findIdx? (fun n => decide (3 ≤ x.length) && isPre x n) = none := by
    rw [List.findIdx?_eq_none_iff]
    intro n _
    rw [decide_eq_false (by omega)]
    rfl
  rw [this]
  rfl
theorem dg_ne {x : Wd} (h : Dg x) {c : UInt8} (hc : srt c = 0) : x ≠ [c] := fun e => by
  have := h.2 c (by rw [e]; simp)
  rw [hc] at this
  cases this
/-- The second form, up to its time. -/
theorem snd_t {D M Y : Wd} {mm : Int} {T : List Wd} (dD : Dg D) (lD : D.length = 1 ∨ D.length = 2) (hM : monF M = mm) (hm0 : mm ≠ 0) (hM45 : M ≠ [45]) (dY : Dg Y) (lY : Y.length = 4) :
    nmS (mbR [45] (moR (mbR [45] (nmD ⟨D :: M :: Y :: T, false, 0, 0, 0, 0, 0, 0, 0⟩)))) = ⟨T, false, numL 0 Y, mm, numL 0 D, 0, 0, 0, 0⟩ := by
  have hD : dgW 1 2 D = true := dD.dgW 1 2 (by omega) (by omega)
  have b : nmD ⟨D :: M :: Y :: T, false, 0, 0, 0, 0, 0, 0, 0⟩ = ⟨M :: Y :: T, false, 0, 0, numL 0 D, 0, 0, 0, 0⟩ := by
    unfold nmD
    rw [nmR_yes hD, nmV_yes hD]
    rfl
  have hY2 : dgW 2 2 Y = false := by
    cases hd : dgW 2 2 Y with
    | false => rfl
    | true => have := dgW_len hd; omega
  rw [b, mbR_no hM45, moR_yes hM hm0, mbR_no (dg_ne dY (by decide +kernel))]
  exact nmS_long hY2 (dY.dgW 4 4 (by omega) (by omega))
/-- Five words' second is the liberal reader's: with a weekday ahead, or without one. -/
theorem five_parse {D M Y C Z : Wd} {wk : Option Int} {v : Int} (h : Ml.five (Ml.mk D) (Ml.mk M) (Ml.mk Y) (Ml.mk C) (Ml.mk Z) wk = some v) :
    parseL (pcs D ++ pcs M ++ pcs Y ++ pcs C ++ pcs Z) = some v ∧ ∀ x, wkB x = true → dgW 4 4 x = false → parseL (x :: [44] :: (pcs D ++ pcs M ++ pcs Y ++ pcs C ++ pcs Z)) = some v := by
  unfold Ml.five at h
  cases hm : Ml.monF (Ml.mk M) with
  | none => rw [hm] at h; cases h
  | some mm =>
    cases hz : Ml.zneF (Ml.mk Z) with
    | none => rw [hm, hz] at h; cases h
    | some e =>
      rw [hm, hz] at h
      simp only at h
      split at h
      · rename_i hc
        obtain ⟨hD, hY, hC, hok, _⟩ := hc
        have hv : Cv.secV (Ml.digV (Ml.mk Y) 4) mm (Ml.digV (Ml.mk D) (Ml.dyn (Ml.mk D))) (Sm.n2 (Ml.mk C) 0) (Sm.n2 (Ml.mk C) 3) (Ml.secOf (Ml.mk C)) e = v := Option.some.inj h
        obtain ⟨dD, lD, nD⟩ := day_word hD
        obtain ⟨dY, lY, nY⟩ := year_word hY
        obtain ⟨x, hpM, hxm, hx45, hm0⟩ := mon_word hm
        obtain ⟨H, t, hpC, hH, hcl⟩ := clk_word hC
        obtain ⟨z, t2, hpZ, hz58, hz46, hzn⟩ := zn_word hz
        have pD : pcs D = [D] := piece_pcs dD.piece
        have pY : pcs Y = [Y] := piece_pcs dY.piece
        have hlist : pcs D ++ pcs M ++ pcs Y ++ pcs C ++ pcs Z = D :: x :: Y :: (H :: t ++ z :: t2) := by
          rw [pD, hpM, pY, hpC, hpZ]
          rfl
        rw [hlist]
        have hsec : (if C.length = 8 then Sm.n2 (Ml.mk C) 6 else 0) = Ml.secOf (Ml.mk C) := rfl
        rw [← nD, ← nY] at hok hv
        have hcz : ckz ⟨H :: t ++ z :: t2, false, numL 0 Y, mm, numL 0 D, 0, 0, 0, 0⟩ = ⟨[], false, numL 0 Y, mm, numL 0 D, Sm.n2 (Ml.mk C) 0, Sm.n2 (Ml.mk C) 3, Ml.secOf (Ml.mk C), e⟩ := by
          unfold ckz
          have hb : clB ⟨H :: t ++ z :: t2, false, numL 0 Y, mm, numL 0 D, 0, 0, 0, 0⟩ = true := clB_yes hH
          rw [hb, if_pos rfl, hcl z t2 hz58 hz46, hsec]
          exact hzn _ _ _ _ _ _ _
        have hs := snd_t (T := H :: t ++ z :: t2) dD lD hxm hm0 hx45 dY lY
        have hd4 : dgW 4 4 D = false := by
          cases hd : dgW 4 4 D with
          | false => rfl
          | true => have := dgW_len hd; omega
        constructor
        · have f1 : form 1 (D :: x :: Y :: (H :: t ++ z :: t2)) = ⟨[], false, numL 0 Y, mm, numL 0 D, Sm.n2 (Ml.mk C) 0, Sm.n2 (Ml.mk C) 3, Ml.secOf (Ml.mk C), e⟩ := by
            have h0 : form 1 (D :: x :: Y :: (H :: t ++ z :: t2)) = ckz (nmS (mbR [45] (moR (mbR [45] (nmD (wkR (start (D :: x :: Y :: (H :: t ++ z :: t2))))))))) := rfl
            have hw : wkR (start (D :: x :: Y :: (H :: t ++ z :: t2))) = ⟨D :: x :: Y :: (H :: t ++ z :: t2), false, 0, 0, 0, 0, 0, 0, 0⟩ := wkR_no (wkB_short (by omega)) (dg_ne dD (by decide +kernel))
            rw [h0, hw, hs, hcz]
          unfold parseL
          rw [bad_first hd4, f1, res_ok hok, hv]
        · intro w hw hw4
          have f1 : form 1 (w :: [44] :: D :: x :: Y :: (H :: t ++ z :: t2)) = ⟨[], false, numL 0 Y, mm, numL 0 D, Sm.n2 (Ml.mk C) 0, Sm.n2 (Ml.mk C) 3, Ml.secOf (Ml.mk C), e⟩ := by
            have h0 : form 1 (w :: [44] :: D :: x :: Y :: (H :: t ++ z :: t2)) = ckz (nmS (mbR [45] (moR (mbR [45] (nmD (wkR (start (w :: [44] :: D :: x :: Y :: (H :: t ++ z :: t2))))))))) := rfl
            have hw : wkR (start (w :: [44] :: D :: x :: Y :: (H :: t ++ z :: t2))) = ⟨D :: x :: Y :: (H :: t ++ z :: t2), false, 0, 0, 0, 0, 0, 0, 0⟩ := wkR_yes hw [44] rfl
            rw [h0, hw, hs, hcz]
          unfold parseL
          rw [bad_first hw4, f1, res_ok hok, hv]
      · cases h
/-- A letter's date is the liberal reader's. -/
theorem mail_parse {l : Wd} {v : Int} (h : Ml.parseF (Ml.mk l) = some v) : parse l = some v := by
  have hl : Ml.joinL 32 (Ml.sp 32 l) = l := Ml.sp_join 32 l
  unfold Ml.parseF Ml.wds at h
  rw [Ml.list_mk] at h
  unfold parse
  rw [← hl, pcs_join]
  generalize Ml.sp 32 l = W at h
  match W, h with
  | [d, m, y, c, z], h =>
    have h2 : Ml.five (Ml.mk d) (Ml.mk m) (Ml.mk y) (Ml.mk c) (Ml.mk z) none = some v := h
    have h3 := (five_parse h2).1
    simpa using h3
  | [w, d, m, y, c, z], h =>
    have h2 : (if Ml.commaB (Ml.mk w) = true then (match Ml.dayF ((Ml.mk w).extract 0 3) with | some k => Ml.five (Ml.mk d) (Ml.mk m) (Ml.mk y) (Ml.mk c) (Ml.mk z) (some k) | none => none) else none) = some v := h
    by_cases hc : Ml.commaB (Ml.mk w) = true
    · rw [if_pos hc] at h2
      cases hk : Ml.dayF ((Ml.mk w).extract 0 3) with
      | none => rw [hk] at h2; cases h2
      | some k =>
        rw [hk] at h2
        simp only at h2
        obtain ⟨x, hx, hx1, hx2⟩ := wk_word hc hk
        have h3 := (five_parse h2).2 x hx1 hx2
        simp only [List.map_cons, List.map_nil, List.flatten_cons, List.flatten_nil, List.append_nil, hx]
        simpa using h3
    · rw [if_neg hc] at h2
      cases h2
  | [], h => cases h
  | [_], h => cases h
  | [_, _], h => cases h
  | [_, _, _], h => cases h
  | [_, _, _, _], h => cases h
  | _ :: _ :: _ :: _ :: _ :: _ :: _ :: _, h => cases h
end Lb
