/- Plain laws on the three forms of a date: what the liberal reader makes of them. No program in sight. -/
import Derived.Test.YtbhafhbaldddiaaLbR
import Derived.Test.YtbhafhbaldddiaaMlPc
namespace Lb
/-- Once wrong, always wrong. -/
def Bd (r : R) : Prop := r.bad = true
theorem Bd.tl {r : R} (h : Bd r) : Bd (tl r) := h
theorem Bd.nm {r : R} (a b : Nat) (h : Bd r) : Bd (nmR a b r) := by unfold nmR; split <;> first | exact h | rfl
theorem Bd.mb {r : R} (u : Wd) (h : Bd r) : Bd (mbR u r) := by unfold mbR; split <;> exact h
theorem Bd.mu {r : R} (u : Wd) (h : Bd r) : Bd (muR u r) := by unfold muR; split <;> first | exact h | rfl
theorem Bd.mo {r : R} (h : Bd r) : Bd (moR r) := by unfold moR; split <;> first | exact h | rfl
theorem Bd.wk {r : R} (h : Bd r) : Bd (wkR r) := by unfold wkR; apply Bd.mb; split <;> exact h
theorem Bd.nmD {r : R} (h : Bd r) : Bd (nmD r) := h.nm 1 2
theorem Bd.nmY {r : R} (h : Bd r) : Bd (nmY r) := h.nm 4 4
theorem Bd.nmS {r : R} (h : Bd r) : Bd (nmS r) := by
  unfold Lb.nmS
  split
  · exact h.nm 2 2
  · exact h.nmY
theorem Bd.fT {r : R} (h : Bd r) : Bd (fT r) := by
  unfold Lb.fT
  split
  · split <;> first | exact h | rfl
  · exact h
theorem Bd.cl1 {r : R} (h : Bd r) : Bd (cl1 r) := h.nm 1 2
theorem Bd.cl3 {r : R} (h : Bd r) : Bd (cl3 r) := (h.cl1.mu [58]).nm 2 2
theorem Bd.cl4 {r : R} (h : Bd r) : Bd (cl4 r) := h.nm 2 2
theorem Bd.clR {r : R} (h : Bd r) : Bd (clR r) := by
  unfold Lb.clR
  split
  · split
    · split
      · exact (Bd.cl4 (h.cl3.tl)).tl.nm 1 1048576
      · exact Bd.cl4 (h.cl3.tl)
    · exact h.cl3
  · exact h
theorem Bd.znF {r : R} (a b c : Int) (h : Bd r) : Bd (znF a b c r) := by
  show (r.bad || _) = true
  rw [show r.bad = true from h]
  rfl
theorem Bd.znO {r : R} (a : Int) (h : Bd r) : Bd (znO a r) := by
  unfold Lb.znO
  split
  · exact Bd.znF _ _ _ h
  · split
    · exact Bd.znF _ _ _ ((h.nm 2 2).tl.nm 2 2)
    · exact Bd.znF _ _ _ (h.nm 2 2)
theorem Bd.znR {r : R} (h : Bd r) : Bd (znR r) := by
  unfold Lb.znR
  split
  · exact h
  · split
    · exact h.tl.znO _
    · split
      · exact h.tl.znO _
      · show (r.bad || _) = true
        rw [show r.bad = true from h]
        rfl
theorem Bd.ckz {r : R} (h : Bd r) : Bd (ckz r) := by
  unfold Lb.ckz
  split
  · exact h.clR.znR
  · exact h
theorem res_bd {r : R} (h : Bd r) : resR r = none := by unfold resR okR; rw [show r.bad = true from h]; rfl
theorem bad_first {x : Wd} {t : List Wd} (h : dgW 4 4 x = false) : resR (form 0 (x :: t)) = none := by
  apply res_bd
  have h0 : Bd (nmR 4 4 (start (x :: t))) := by
    have : dgs 4 4 (start (x :: t)) = false := h
    unfold nmR
    rw [this]
    rfl
  have a : Bd (f1a (start (x :: t))) := Bd.mu [45] (r := sY (nmV 4 4 (start (x :: t))) (nmR 4 4 (start (x :: t)))) h0
  have b : Bd (f1b (f1a (start (x :: t)))) := Bd.mu [45] (r := sMo (nmV 1 2 (f1a (start (x :: t)))) (nmR 1 2 (f1a (start (x :: t))))) (Bd.nm 1 2 a)
  exact Bd.ckz (Bd.fT (Bd.nmD b))
section
variable {x u : Wd} {t : List Wd} {b : Bool} {y mo d h mi s e : Int}
theorem nmR_yes {lo hi : Nat} (hx : dgW lo hi x = true) : nmR lo hi ⟨x :: t, b, y, mo, d, h, mi, s, e⟩ = ⟨t, b, y, mo, d, h, mi, s, e⟩ := by
  unfold nmR
  exact if_pos hx
theorem nmV_yes {lo hi : Nat} (hx : dgW lo hi x = true) : nmV lo hi ⟨x :: t, b, y, mo, d, h, mi, s, e⟩ = numL 0 x := by
  unfold nmV
  exact if_pos hx
theorem muR_yes : muR u ⟨u :: t, b, y, mo, d, h, mi, s, e⟩ = ⟨t, b, y, mo, d, h, mi, s, e⟩ := by
  unfold muR
  exact if_pos rfl
theorem mbR_yes : mbR u ⟨u :: t, b, y, mo, d, h, mi, s, e⟩ = ⟨t, b, y, mo, d, h, mi, s, e⟩ := by
  unfold mbR
  exact if_pos rfl
theorem mbR_no (hx : x ≠ u) : mbR u ⟨x :: t, b, y, mo, d, h, mi, s, e⟩ = ⟨x :: t, b, y, mo, d, h, mi, s, e⟩ := by
  unfold mbR
  exact if_neg hx
theorem moR_yes (hx : monF x = mo) (h0 : mo ≠ 0) (m0 : Int) : moR ⟨x :: t, b, y, m0, d, h, mi, s, e⟩ = ⟨t, b, y, mo, d, h, mi, s, e⟩ := by
  subst hx
  unfold moR
  exact if_neg h0
theorem wkR_yes (hx : wkB x = true) (u : Wd) (hu : u = [44]) : wkR ⟨x :: u :: t, b, y, mo, d, h, mi, s, e⟩ = ⟨t, b, y, mo, d, h, mi, s, e⟩ := by
  subst hu
  have : (if wkB (nx ⟨x :: [44] :: t, b, y, mo, d, h, mi, s, e⟩) = true then tl ⟨x :: [44] :: t, b, y, mo, d, h, mi, s, e⟩ else ⟨x :: [44] :: t, b, y, mo, d, h, mi, s, e⟩ : R) = ⟨[44] :: t, b, y, mo, d, h, mi, s, e⟩ := if_pos hx
  unfold wkR
  rw [this]
  exact mbR_yes
theorem wkR_no (hx : wkB x = false) (h2 : x ≠ [44]) : wkR ⟨x :: t, b, y, mo, d, h, mi, s, e⟩ = ⟨x :: t, b, y, mo, d, h, mi, s, e⟩ := by
  have : (if wkB (nx ⟨x :: t, b, y, mo, d, h, mi, s, e⟩) = true then tl ⟨x :: t, b, y, mo, d, h, mi, s, e⟩ else ⟨x :: t, b, y, mo, d, h, mi, s, e⟩ : R) = ⟨x :: t, b, y, mo, d, h, mi, s, e⟩ := if_neg (by show ¬ wkB x = true; rw [hx]; decide)
  unfold wkR
  rw [this]
  exact mbR_no h2
theorem nmS_long (hx : dgW 2 2 x = false) (h2 : dgW 4 4 x = true) : nmS ⟨x :: t, b, y, mo, d, h, mi, s, e⟩ = ⟨t, b, numL 0 x, mo, d, h, mi, s, e⟩ := by
  have : nmS ⟨x :: t, b, y, mo, d, h, mi, s, e⟩ = nmY ⟨x :: t, b, y, mo, d, h, mi, s, e⟩ := by
    unfold nmS
    exact if_neg (by show ¬ dgW 2 2 x = true; rw [hx]; decide)
  rw [this]
  unfold nmY
  rw [nmR_yes h2, nmV_yes h2]
  rfl
theorem ckz_end : ckz ⟨[], b, y, mo, d, h, mi, s, e⟩ = ⟨[], b, y, mo, d, h, mi, s, e⟩ := rfl
end
theorem bad_second {x : Wd} {t : List Wd} (h1 : wkB x = false) (h2 : x ≠ [44]) (h3 : dgW 1 2 x = false) : resR (form 1 (x :: t)) = none := by
  apply res_bd
  have e : wkR (start (x :: t)) = start (x :: t) := wkR_no h1 h2
  have h0 : Bd (nmD (wkR (start (x :: t)))) := by
    rw [e]
    show (nmR 1 2 (start (x :: t))).bad = true
    have : nmR 1 2 (start (x :: t)) = mkBad (start (x :: t)) := by
      unfold nmR
      exact if_neg (by show ¬ dgW 1 2 x = true; rw [h3]; decide)
    rw [this]
    rfl
  exact Bd.ckz (Bd.nmS (Bd.mb [45] (Bd.mo (Bd.mb [45] h0))))
theorem form_one {D M Y : Wd} (hY : dgW 4 4 Y = true) (hM : dgW 1 2 M = true) (hD : dgW 1 2 D = true) : form 0 [Y, [45], M, [45], D] = ⟨[], false, numL 0 Y, numL 0 M, numL 0 D, 0, 0, 0, 0⟩ := by
  have a : f1a (start [Y, [45], M, [45], D]) = ⟨[M, [45], D], false, numL 0 Y, 0, 0, 0, 0, 0, 0⟩ := by
    unfold f1a start
    rw [nmR_yes hY, nmV_yes hY]
    exact muR_yes
  have b : f1b ⟨[M, [45], D], false, numL 0 Y, 0, 0, 0, 0, 0, 0⟩ = ⟨[D], false, numL 0 Y, numL 0 M, 0, 0, 0, 0, 0⟩ := by
    unfold f1b
    rw [nmR_yes hM, nmV_yes hM]
    exact muR_yes
  have c : nmD ⟨[D], false, numL 0 Y, numL 0 M, 0, 0, 0, 0, 0⟩ = ⟨[], false, numL 0 Y, numL 0 M, numL 0 D, 0, 0, 0, 0⟩ := by
    unfold nmD
    rw [nmR_yes hD, nmV_yes hD]
    rfl
  show ckz (fT (nmD (f1b (f1a (start [Y, [45], M, [45], D]))))) = _
  rw [a, b, c]
  rfl
theorem form_two {W D M Y : Wd} {m : Int} (hW : wkB W = true) (hD : dgW 1 2 D = true) (hM : monF M = m) (h0 : m ≠ 0) (hM2 : M ≠ [45]) (hY2 : Y ≠ [45]) (hY3 : dgW 2 2 Y = false) (hY : dgW 4 4 Y = true) :
    form 1 [W, [44], D, M, Y] = ⟨[], false, numL 0 Y, m, numL 0 D, 0, 0, 0, 0⟩ := by
  have a : wkR (start [W, [44], D, M, Y]) = ⟨[D, M, Y], false, 0, 0, 0, 0, 0, 0, 0⟩ := wkR_yes hW [44] rfl
  have b : nmD ⟨[D, M, Y], false, 0, 0, 0, 0, 0, 0, 0⟩ = ⟨[M, Y], false, 0, 0, numL 0 D, 0, 0, 0, 0⟩ := by
    unfold nmD
    rw [nmR_yes hD, nmV_yes hD]
    rfl
  have c : nmS ⟨[Y], false, 0, m, numL 0 D, 0, 0, 0, 0⟩ = ⟨[], false, numL 0 Y, m, numL 0 D, 0, 0, 0, 0⟩ := nmS_long hY3 hY
  show ckz (nmS (mbR [45] (moR (mbR [45] (nmD (wkR (start [W, [44], D, M, Y]))))))) = _
  rw [a, b, mbR_no hM2, moR_yes hM h0, mbR_no hY2, c]
  rfl
theorem form_three {D M Y : Wd} {m : Int} (hW : wkB M = false) (hM2 : M ≠ [44]) (hD : dgW 1 2 D = true) (hM : monF M = m) (h0 : m ≠ 0) (hY : dgW 4 4 Y = true) :
    form 2 [M, D, [44], Y] = ⟨[], false, numL 0 Y, m, numL 0 D, 0, 0, 0, 0⟩ := by
  have a : wkR (start [M, D, [44], Y]) = start [M, D, [44], Y] := wkR_no hW hM2
  have b : nmD ⟨[D, [44], Y], false, 0, m, 0, 0, 0, 0, 0⟩ = ⟨[[44], Y], false, 0, m, numL 0 D, 0, 0, 0, 0⟩ := by
    unfold nmD
    rw [nmR_yes hD, nmV_yes hD]
    rfl
  have c : nmY ⟨[Y], false, 0, m, numL 0 D, 0, 0, 0, 0⟩ = ⟨[], false, numL 0 Y, m, numL 0 D, 0, 0, 0, 0⟩ := by
    unfold nmY
    rw [nmR_yes hY, nmV_yes hY]
    rfl
  show ckz (nmY (mbR [44] (nmD (moR (wkR (start [M, D, [44], Y])))))) = _
  rw [a]
  unfold start
  rw [moR_yes hM h0, b, mbR_yes, c]
  rfl
theorem res_date {y m d : Int} (h : Cv.mayB y m d 0 0 0 = true) : resR ⟨[], false, y, m, d, 0, 0, 0, 0⟩ = some (Cv.secV y m d 0 0 0 0) := by
  have hv := Cv.num_bd ((Cv.may_iff _ _ _ _ _ _).1 h).1
  have hs : Cv.secOk y m d 0 0 0 0 = true := by
    rw [Cv.secOk_iff]
    refine ⟨h, by omega, by omega, ?_, ?_⟩
    · unfold Cv.secV; omega
    · unfold Cv.secV; omega
  unfold resR okR
  rw [show Cv.secOk _ _ _ _ _ _ _ = true from hs]
  rfl
/-- Digits. -/
def Dg (D : Wd) : Prop := D ≠ [] ∧ ∀ c ∈ D, srt c = 1
theorem dg_low (c : UInt8) : srt c = 1 → lw c = c ∧ spc c = false := all_bytes (p := fun c => srt c = 1 → lw c = c ∧ spc c = false) (by decide +kernel) c
theorem Dg.piece {D : Wd} (h : Dg D) : Piece D := by
  obtain ⟨h0, h1⟩ := h
  match D, h0 with
  | c :: q, _ =>
    refine ⟨⟨c, q, rfl, fun d hd => by rw [h1 d (by simp [hd]), h1 c (by simp)], fun h => by rw [h1 c (by simp)] at h; cases h⟩, ?_, fun c' q' e => ?_⟩
    · have : ∀ x ∈ (c :: q), lw x = id x := fun x hx => (dg_low x (h1 x hx)).1
      rw [List.map_congr_left this, List.map_id]
    · injection e with e _
      rw [← e]; exact (dg_low c (h1 c (by simp))).2
theorem Dg.dgW {D : Wd} (h : Dg D) (lo hi : Nat) (h1 : lo ≤ D.length) (h2 : D.length ≤ hi) : dgW lo hi D = true := by
  obtain ⟨h0, h3⟩ := h
  match D, h0 with
  | c :: q, _ =>
    show (decide (lo ≤ q.length + 1) && decide (q.length + 1 ≤ hi) && (srt c == 1)) = true
    rw [h3 c (by simp), decide_eq_true (show lo ≤ q.length + 1 by simpa using h1), decide_eq_true (show q.length + 1 ≤ hi by simpa using h2)]
    rfl
theorem srt_c (n : Int) : srt (Sm.c n) = 1 := by
  have h := Sm.c_nat n
  unfold srt srtN
  rw [if_pos (by omega)]
theorem c_mod (n : Int) : (((Sm.c n).toNat % 16 : Nat) : Int) = n % 10 := by
  have h := Sm.c_nat n
  omega
theorem dg_2 (n : Int) : Dg (Ml.tw n) := ⟨by simp [Ml.tw], fun c hc => by
  simp only [Ml.tw, List.mem_cons, List.not_mem_nil, or_false] at hc
  rcases hc with rfl | rfl <;> exact srt_c _⟩
def yr (y : Int) : Wd := Ml.tw (y / 100) ++ Ml.tw y
theorem dg_4 (y : Int) : Dg (yr y) := ⟨by simp [yr, Ml.tw], fun c hc => by
  simp only [yr, Ml.tw, List.mem_append, List.mem_cons, List.not_mem_nil, or_false] at hc
  rcases hc with (rfl | rfl) | (rfl | rfl) <;> exact srt_c _⟩
theorem num_2 (n : Int) (h0 : 0 ≤ n) (h1 : n ≤ 99) : numL 0 (Ml.tw n) = n := by
  have w : ∀ x : Int, 0 ≤ x → x ≤ 100000 → Go.IntKind.i64.wrap x = x := fun x h0 h1 => by simp [Go.IntKind.wrap, Go.IntKind.bits, Go.IntKind.signed]; omega
  unfold numL Ml.tw
  simp only [List.foldl_cons, List.foldl_nil, c_mod]
  rw [w (0 * 10) (by omega) (by omega), w (0 * 10 + n / 10 % 10) (by omega) (by omega), w ((0 * 10 + n / 10 % 10) * 10) (by omega) (by omega), w _ (by omega) (by omega)]
  omega
theorem num_4 (y : Int) (h0 : 0 ≤ y) (h1 : y ≤ 9999) : numL 0 (yr y) = y := by
  have w : ∀ x : Int, 0 ≤ x → x ≤ 100000 → Go.IntKind.i64.wrap x = x := fun x h0 h1 => by simp [Go.IntKind.wrap, Go.IntKind.bits, Go.IntKind.signed]; omega
  unfold numL yr Ml.tw
  simp only [List.cons_append, List.nil_append, List.foldl_cons, List.foldl_nil, c_mod]
  have a1 : 0 ≤ y / 100 / 10 % 10 ∧ y / 100 / 10 % 10 ≤ 9 := by omega
  have a2 : 0 ≤ y / 100 % 10 ∧ y / 100 % 10 ≤ 9 := by omega
  have a3 : 0 ≤ y / 10 % 10 ∧ y / 10 % 10 ≤ 9 := by omega
  have a4 : 0 ≤ y % 10 ∧ y % 10 ≤ 9 := by omega
  have hy : ((y / 100 / 10 % 10 * 10 + y / 100 % 10) * 10 + y / 10 % 10) * 10 + y % 10 = y := by omega
  generalize y / 100 / 10 % 10 = p at *
  generalize y / 100 % 10 = q at *
  generalize y / 10 % 10 = u at *
  generalize y % 10 = v at *
  rw [w (0 * 10) (by omega) (by omega), w (0 * 10 + p) (by omega) (by omega), w ((0 * 10 + p) * 10) (by omega) (by omega), w ((0 * 10 + p) * 10 + q) (by omega) (by omega), w (((0 * 10 + p) * 10 + q) * 10) (by omega) (by omega), w (((0 * 10 + p) * 10 + q) * 10 + u) (by omega) (by omega), w ((((0 * 10 + p) * 10 + q) * 10 + u) * 10) (by omega) (by omega), w _ (by omega) (by omega)]
  omega
theorem pcs_mark {c : UInt8} (l : Wd) (h : srt c = 0) (h2 : spc c = false) (h3 : lw c = c) : pcs (c :: l) = [c] :: pcs l := by
  unfold pcs
  rw [raw_one c l (Or.inr (Or.inl h)), List.filterMap_cons]
  simp only [keep, h2, List.map_cons, List.map_nil, h3]
  rfl
theorem pcs_next {D : Wd} (l : Wd) (h : Piece D) (c : UInt8) (hc : srt c = 0) : pcs (D ++ c :: l) = D :: pcs (c :: l) := by
  rw [pcs_app D (c :: l) (fun d m e => by injection e with e _; rw [← e]; exact hc), piece_pcs h]
  rfl
def t1 (y m d : Int) : Wd := yr y ++ 45 :: (Ml.tw m ++ 45 :: Ml.tw d)
theorem pcs_t1 (y m d : Int) : pcs (t1 y m d) = [yr y, [45], Ml.tw m, [45], Ml.tw d] := by
  unfold t1
  rw [pcs_next _ (dg_4 y).piece 45 (by decide +kernel), pcs_mark _ (by decide +kernel) (by decide +kernel) (by decide +kernel), pcs_next _ (dg_2 m).piece 45 (by decide +kernel), pcs_mark _ (by decide +kernel) (by decide +kernel) (by decide +kernel), piece_pcs (dg_2 d).piece]
theorem parse_t1 {y m d : Int} (h : Cv.mayB y m d 0 0 0 = true) : parse (t1 y m d) = some (Cv.secV y m d 0 0 0 0) := by
  obtain ⟨y0, y1, m0, m1, d0, d1⟩ := Cv.vld_bd ((Cv.may_iff _ _ _ _ _ _).1 h).1
  unfold parse parseL
  rw [pcs_t1, form_one ((dg_4 y).dgW 4 4 (by simp [yr, Ml.tw]) (by simp [yr, Ml.tw])) ((dg_2 m).dgW 1 2 (by simp [Ml.tw]) (by simp [Ml.tw])) ((dg_2 d).dgW 1 2 (by simp [Ml.tw]) (by simp [Ml.tw])), num_4 y (by omega) y1, num_2 m (by omega) (by omega), num_2 d (by omega) (by omega), res_date h]
/-- Weekdays' and months' short names. -/
def dyl (k : Nat) : Wd := (Ml.dyN (k : Int)).data.toList
def mol (k : Nat) : Wd := (Ml.moN (k : Int)).data.toList
theorem dy_ok : ((List.range 7).all fun k => decide (pcs (dyl k) = [(dyl k).map lw]) && wkB ((dyl k).map lw) && !dgW 4 4 ((dyl k).map lw)) = true := by decide +kernel
theorem mo_ok : ((List.range 13).all fun k => k == 0 || (decide (pcs (mol k) = [(mol k).map lw]) && !wkB ((mol k).map lw) && !dgW 4 4 ((mol k).map lw) && !dgW 1 2 ((mol k).map lw) && decide (monF ((mol k).map lw) = (k : Int)) && decide ((mol k).map lw ≠ [44]) && decide ((mol k).map lw ≠ [45]))) = true := by decide +kernel
def t2 (k : Nat) (y m d : Int) : Wd := dyl k ++ 44 :: 32 :: (Ml.tw d ++ 32 :: ((Ml.moN m).data.toList ++ 32 :: yr y))
def t3 (y m d : Int) : Wd := (Ml.moN m).data.toList ++ 32 :: (Ml.tw d ++ 44 :: 32 :: yr y)
theorem pcs_nextP {D : Wd} (l : Wd) {p : List Wd} (h : pcs D = p) (c : UInt8) (hc : srt c = 0) : pcs (D ++ c :: l) = p ++ pcs (c :: l) := by
  rw [pcs_app D (c :: l) (fun d m e => by injection e with e _; rw [← e]; exact hc), h]
theorem parse_t2 {k : Nat} {y m d : Int} (hk : k < 7) (h : Cv.mayB y m d 0 0 0 = true) : parse (t2 k y m d) = some (Cv.secV y m d 0 0 0 0) := by
  obtain ⟨y0, y1, m0, m1, d0, d1⟩ := Cv.vld_bd ((Cv.may_iff _ _ _ _ _ _).1 h).1
  obtain ⟨j, rfl⟩ := Int.eq_ofNat_of_zero_le (show 0 ≤ m by omega)
  have hd := List.all_eq_true.1 dy_ok k (List.mem_range.2 hk)
  have hm := List.all_eq_true.1 mo_ok j (List.mem_range.2 (by omega))
  simp only [Bool.and_eq_true, Bool.or_eq_true, decide_eq_true_eq, Bool.not_eq_true', beq_iff_eq] at hd hm
  obtain ⟨⟨a1, a2⟩, a3⟩ := hd
  have hm2 := hm.resolve_left (by omega)
  obtain ⟨⟨⟨⟨⟨⟨b1, b2⟩, b3⟩, b4⟩, b5⟩, b6⟩, b7⟩ := hm2
  have hp : pcs (t2 k y j d) = [(dyl k).map lw, [44], Ml.tw d, (mol j).map lw, yr y] := by
    show pcs (dyl k ++ 44 :: 32 :: (Ml.tw d ++ 32 :: (mol j ++ 32 :: yr y))) = _
    rw [pcs_nextP _ a1 44 (by decide +kernel), pcs_mark _ (by decide +kernel) (by decide +kernel) (by decide +kernel), pcs_white 32 _ (by decide +kernel), pcs_next _ (dg_2 d).piece 32 (by decide +kernel), pcs_white 32 _ (by decide +kernel), pcs_nextP _ b1 32 (by decide +kernel), pcs_white 32 _ (by decide +kernel), piece_pcs (dg_4 y).piece]
    rfl
  unfold parse parseL
  rw [hp, bad_first a3, form_two a2 ((dg_2 d).dgW 1 2 (by simp [Ml.tw]) (by simp [Ml.tw])) b5 (by omega) b7 (by simp [yr, Ml.tw]) (by simp [dgW, yr, Ml.tw]) ((dg_4 y).dgW 4 4 (by simp [yr, Ml.tw]) (by simp [yr, Ml.tw])), num_4 y (by omega) y1, num_2 d (by omega) (by omega), res_date h]
theorem parse_t3 {y m d : Int} (h : Cv.mayB y m d 0 0 0 = true) : parse (t3 y m d) = some (Cv.secV y m d 0 0 0 0) := by
  obtain ⟨y0, y1, m0, m1, d0, d1⟩ := Cv.vld_bd ((Cv.may_iff _ _ _ _ _ _).1 h).1
  obtain ⟨j, rfl⟩ := Int.eq_ofNat_of_zero_le (show 0 ≤ m by omega)
  have hm := List.all_eq_true.1 mo_ok j (List.mem_range.2 (by omega))
  simp only [Bool.and_eq_true, Bool.or_eq_true, decide_eq_true_eq, Bool.not_eq_true', beq_iff_eq] at hm
  have hm2 := hm.resolve_left (by omega)
  obtain ⟨⟨⟨⟨⟨⟨b1, b2⟩, b3⟩, b4⟩, b5⟩, b6⟩, b7⟩ := hm2
  have hp : pcs (t3 y j d) = [(mol j).map lw, Ml.tw d, [44], yr y] := by
    show pcs (mol j ++ 32 :: (Ml.tw d ++ 44 :: 32 :: yr y)) = _
    rw [pcs_nextP _ b1 32 (by decide +kernel), pcs_white 32 _ (by decide +kernel), pcs_next _ (dg_2 d).piece 44 (by decide +kernel), pcs_mark _ (by decide +kernel) (by decide +kernel) (by decide +kernel), pcs_white 32 _ (by decide +kernel), piece_pcs (dg_4 y).piece]
    rfl
  unfold parse parseL
  rw [hp, bad_first b3, bad_second b2 b6 b4, form_three b2 b6 ((dg_2 d).dgW 1 2 (by simp [Ml.tw]) (by simp [Ml.tw])) b5 (by omega) ((dg_4 y).dgW 4 4 (by simp [yr, Ml.tw]) (by simp [yr, Ml.tw])), num_4 y (by omega) y1, num_2 d (by omega) (by omega), res_date h]
end Lb
