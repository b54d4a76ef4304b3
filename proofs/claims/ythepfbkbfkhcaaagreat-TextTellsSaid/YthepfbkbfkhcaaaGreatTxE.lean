/- The walks of cardingref09: within, Char, Bad; of chars: within, Char; of utf8.Next. The walks of chars: the iterator scalars, Bad. -/
import Derived.Test.YthepfbkbfkhcaaaGreatTy
import Derived.Test.YthepfbkbfkhcaaaGreatR12T
import Derived.Test.YthepfbkbfkhcaaaGreatUtH
namespace Go.Proofs.YthepfbkbfkhcaaaGreat
open Go.RowKit Go.Shelf
open Go
set_option linter.unusedVariables false
set_option maxRecDepth 100000
theorem rwithin_any (r a b : Int) (w : World) : Calls Tryz.prog 79 #[.int .i64 r, .int .i64 a, .int .i64 b] w fun e w' => e = .returned (.bool (decide (a ≤ r ∧ r ≤ b))) ∧ w = w' := by
  by_cases h1 : a ≤ r
  · by_cases h2 : r ≤ b
    · rw [decide_eq_true ⟨h1, h2⟩]
      go_enter Tryz.func79, Tryz.ntmps79
      go_wp2
      go_ret
      exact ⟨rfl, rfl⟩
    · rw [decide_eq_false (fun k => h2 k.2)]
      have h2d : decide (r ≤ b) = false := decide_eq_false h2
      go_enter Tryz.func79, Tryz.ntmps79
      go_wp2
      go_ret
      exact ⟨rfl, rfl⟩
  · rw [decide_eq_false (fun k => h1 k.1)]
    have h1d : decide (a ≤ r) = false := decide_eq_false h1
    go_enter Tryz.func79, Tryz.ntmps79
    go_wp2
    go_ret
    exact ⟨rfl, rfl⟩
theorem rwit_t {r a b : Int} (h : a ≤ r ∧ r ≤ b) (w : World) : Calls Tryz.prog 79 #[.int .i64 r, .int .i64 a, .int .i64 b] w fun e w' => e = .returned (.bool true) ∧ w = w' := by
  have := rwithin_any r a b w
  rw [decide_eq_true h] at this
  exact this
theorem rwit_f {r a b : Int} (h : ¬ (a ≤ r ∧ r ≤ b)) (w : World) : Calls Tryz.prog 79 #[.int .i64 r, .int .i64 a, .int .i64 b] w fun e w' => e = .returned (.bool false) ∧ w = w' := by
  have := rwithin_any r a b w
  rw [decide_eq_false h] at this
  exact this
theorem rchar_any (r : Int) (w : World) : Calls Tryz.prog 58 #[.int .i64 r] w fun e w' => e = .returned (.bool (Tb.charI r)) ∧ w = w' := by
  by_cases h9 : r = 9
  · subst h9
    rw [show Tb.charI 9 = true from rfl]
    go_enter Tryz.func58, Tryz.ntmps58
    go_wp2
    go_ret
    exact ⟨rfl, rfl⟩
  · have b9 : (r == 9) = false := by simpa using h9
    by_cases h10 : r = 10
    · subst h10
      rw [show Tb.charI 10 = true from rfl]
      go_enter Tryz.func58, Tryz.ntmps58
      go_wp2
      go_ret
      exact ⟨rfl, rfl⟩
    · have b10 : (r == 10) = false := by simpa using h10
      by_cases h13 : r = 13
      · subst h13
        rw [show Tb.charI 13 = true from rfl]
        go_enter Tryz.func58, Tryz.ntmps58
        go_wp2
        go_ret
        exact ⟨rfl, rfl⟩
      · have b13 : (r == 13) = false := by simpa using h13
        by_cases k1 : 32 ≤ r ∧ r ≤ 55295
        · have e : Tb.charI r = true := decide_eq_true (by omega)
          have c1 := rwit_t k1
          rw [e]
          clear e k1
          go_enter Tryz.func58, Tryz.ntmps58
          go_wp2_with (go_at_call 79; refine (c1 _).mono ?_; rintro e w1 ⟨rfl, rfl⟩)
          go_ret
          exact ⟨rfl, rfl⟩
        · have c1 := rwit_f k1
          by_cases k2 : 57344 ≤ r ∧ r ≤ 65533
          · have e : Tb.charI r = true := decide_eq_true (by omega)
            have c2 := rwit_t k2
            rw [e]
            clear e k1 k2
            go_enter Tryz.func58, Tryz.ntmps58
            go_wp2_with (go_at_call 79; (first | (with_reducible refine (c1 _).mono ?_) | (with_reducible refine (c2 _).mono ?_)); rintro e w1 ⟨rfl, rfl⟩)
            go_ret
            exact ⟨rfl, rfl⟩
          · have c2 := rwit_f k2
            by_cases k3 : 65536 ≤ r ∧ r ≤ 1114111
            · have e : Tb.charI r = true := decide_eq_true (by omega)
              have c3 := rwit_t k3
              rw [e]
              clear e k1 k2 k3
              go_enter Tryz.func58, Tryz.ntmps58
              go_wp2_with (go_at_call 79; (first | (with_reducible refine (c1 _).mono ?_) | (with_reducible refine (c2 _).mono ?_) | (with_reducible refine (c3 _).mono ?_)); rintro e w1 ⟨rfl, rfl⟩)
              go_ret
              exact ⟨rfl, rfl⟩
            · have e : Tb.charI r = false := decide_eq_false (by omega)
              have c3 := rwit_f k3
              rw [e]
              clear e k1 k2 k3
              go_enter Tryz.func58, Tryz.ntmps58
              go_wp2_with (go_at_call 79; (first | (with_reducible refine (c1 _).mono ?_) | (with_reducible refine (c2 _).mono ?_) | (with_reducible refine (c3 _).mono ?_)); rintro e w1 ⟨rfl, rfl⟩)
              go_ret
              exact ⟨rfl, rfl⟩
/-- Is a text right, of Chars alone? -/
def okR (u : List Nat) : Bool := match Ut.scal u with | some L => L.all Tb.charI | none => false
theorem okR_bad {s : ByteArray} {a : Nat} (h : a < s.size) (hp : (Ut.piece ((Ut.bsL s).drop a)).1 < 0) : okR ((Ut.bsL s).drop a) = false := by
  unfold okR
  rw [Ut.scal_bad h hp]
theorem okR_good {s : ByteArray} {a : Nat} (h : a < s.size) (hp : ¬ (Ut.piece ((Ut.bsL s).drop a)).1 < 0) : okR ((Ut.bsL s).drop a) = (Tb.charI (Ut.piece ((Ut.bsL s).drop a)).1 && okR ((Ut.bsL s).drop (a + (Ut.piece ((Ut.bsL s).drop a)).2))) := by
  unfold okR
  rw [Ut.scal_good h hp]
  cases Ut.scal ((Ut.bsL s).drop (a + (Ut.piece ((Ut.bsL s).drop a)).2)) with
  | none => simp
  | some L => simp
def BadPost (s : ByteArray) (w : World) (e : Ending) (w' : World) : Prop := ∃ n : Int, e = .returned (.int .i64 n) ∧ decide (n < 0) = okR (Ut.bsL s) ∧ Below w.heap.size w w'
set_option maxHeartbeats 4000000 in
theorem rbad_any (s : ByteArray) (hs : s.size ≤ 100000) (w : World) : Calls Tryz.prog 42 #[.string s] w (BadPost s w) := by
  have C := rnext_any s (by omega)
  obtain ⟨T, hT⟩ : ∃ T, okR (Ut.bsL s) = T := ⟨_, rfl⟩
  have HT := Lib.hid hT
  have hb0 : Below w.heap.size w w := Below.refl _ _
  go_enter Tryz.func42, Tryz.ntmps42
  go_wp2_with fail
  go_loop [3] (fun k => ∃ a : Nat, k = .int .i64 (a : Int) ∧ a ≤ s.size ∧ Hid (okR (Ut.bsL s) = okR ((Ut.bsL s).drop a))) (fun k => s.size - (intOf k).toNat)
  case atStart => exact ⟨0, rfl, by omega, Lib.hid (by rw [List.drop_zero])⟩
  case round =>
    obtain ⟨a, rfl, ha, HS⟩ := hrel
    by_cases hlt : a < s.size
    · have ai : (a : Int) < (s.size : Int) := by omega
      have c1 := C a hlt
      have hbad := okR_bad hlt
      have hgood := okR_good hlt
      have hwid := Ut.piece_wid hlt
      clear C
      generalize Ut.piece ((Ut.bsL s).drop a) = p at *
      obtain ⟨x, n⟩ := p
      unfold RNextPost at c1
      by_cases hx : x < 0
      · have e2 : rnextV (x, n) = .tuple #[.int .i64 0, .int .i64 0, .bool false] := by unfold rnextV; rw [if_pos hx]
        rw [e2] at c1
        have hF : Hid (okR (Ut.bsL s) = false) := Lib.hid (by rw [HS.out, hbad hx])
        clear e2 hbad hgood HS
        go_wp2_with (go_at_call 34; refine (c1 _).mono ?_; rintro e w1 ⟨rfl, rfl⟩)
        go_ret
        exact ⟨(a : Int), rfl, by rw [hF.out]; exact decide_eq_false (by omega), hb0⟩
      · have e2 : rnextV (x, n) = .tuple #[.int .i64 x, .int .i64 (n : Int), .bool true] := by unfold rnextV; rw [if_neg hx]
        rw [e2] at c1
        have hg := hgood hx
        simp only at hg
        have hwid1 : 1 ≤ n := hwid.1
        have hwid2 : a + n ≤ s.size := hwid.2
        have hwr : IntKind.i64.wrap ((a : Int) + (n : Int)) = (a : Int) + (n : Int) := by rw [IntKind.wrap_i64]; omega
        have c2 := rchar_any x
        cases hch : Tb.charI x with
        | false =>
          rw [hch] at hg c2
          have hF : Hid (okR (Ut.bsL s) = false) := Lib.hid (by rw [HS.out, hg]; rfl)
          clear e2 hbad hgood HS hg hch
          go_wp2_with (first | (go_at_call 34; refine (c1 _).mono ?_; rintro e w1 ⟨rfl, rfl⟩) | (go_at_call 58; refine (c2 _).mono ?_; rintro e w1 ⟨rfl, rfl⟩))
          go_ret
          exact ⟨(a : Int), rfl, by rw [hF.out]; exact decide_eq_false (by omega), hb0⟩
        | true =>
          rw [hch] at hg c2
          have hF : Hid (okR (Ut.bsL s) = okR ((Ut.bsL s).drop (a + n))) := Lib.hid (by rw [HS.out, hg]; rfl)
          clear e2 hbad hgood HS hg hch
          go_wp2_with (first | (go_at_call 34; refine (c1 _).mono ?_; rintro e w1 ⟨rfl, rfl⟩) | (go_at_call 58; refine (c2 _).mono ?_; rintro e w1 ⟨rfl, rfl⟩))
          go_round
          case rel => exact ⟨a + n, by go_num, hwid2, hF⟩
          case measure => simp [intOf]; omega
    · obtain rfl : a = s.size := by omega
      have hF : Hid (okR (Ut.bsL s) = true) := Lib.hid (by rw [HS.out, List.drop_eq_nil_of_le (by rw [Ut.bsL_len]; exact Nat.le_refl _)]; rfl)
      have q1 : ¬ (s.size : Int) < (s.size : Int) := by omega
      go_wp2_with fail
      go_ret
      exact ⟨-1, rfl, by rw [hF.out]; rfl, hb0⟩
theorem unext_any (s : ByteArray) (hs : s.size ≤ 1000000) (a : Nat) (ha : a < s.size) (w : World) : Calls Tryz.prog 77 #[.string s, .int .i64 (a : Int)] w (RNextPost (Ut.piece ((Ut.bsL s).drop a)) w) := by
  have C := piece_any s hs a ha
  generalize Ut.piece ((Ut.bsL s).drop a) = p at *
  obtain ⟨x, m⟩ := p
  have i1 : ¬ (a : Int) < 0 := by omega
  have i2 : ¬ (s.size : Int) ≤ (a : Int) := by omega
  unfold PiecePost pieceV at C
  simp only at C
  by_cases hx : x < 0
  · have e2 : rnextV (x, m) = .tuple #[.int .i64 0, .int .i64 0, .bool false] := by unfold rnextV; rw [if_pos hx]
    unfold RNextPost
    rw [e2]
    clear e2
    go_enter Tryz.func77, Tryz.ntmps77
    go_wp2_with (go_at_call 81; refine (C _).mono ?_; rintro e w1 ⟨rfl, rfl⟩)
    exact bodyPost_ret (v := .tuple #[.int .i64 0, .int .i64 0, .bool false]) (by simp [results, Tryz.f77, go_sem]) rfl ⟨rfl, rfl⟩
  · have e2 : rnextV (x, m) = .tuple #[.int .i64 x, .int .i64 (m : Int), .bool true] := by unfold rnextV; rw [if_neg hx]
    unfold RNextPost
    rw [e2]
    clear e2
    go_enter Tryz.func77, Tryz.ntmps77
    go_wp2_with (go_at_call 81; refine (C _).mono ?_; rintro e w1 ⟨rfl, rfl⟩)
    exact bodyPost_ret (v := .tuple #[.int .i64 x, .int .i64 (m : Int), .bool true]) (by simp [results, Tryz.f77, go_sem]) rfl ⟨rfl, rfl⟩
def ctab : List (Int × Int) := [(9, 10), (13, 13), (32, 55295), (57344, 65533), (65536, 1114111)]
theorem char_tab (r : Int) : Tb.charI r = ctab.any fun p => decide (p.1 ≤ r) && decide (r ≤ p.2) := by
  unfold Tb.charI ctab
  rw [Bool.eq_iff_iff]
  simp
  omega
theorem ctab_len : ctab.length = 5 := rfl
set_option maxHeartbeats 4000000 in
theorem cwithin_any (r : Int) (g : Nat) (w : World) (hg : g < w.heap.size) (h : ∀ j (hj : j < ctab.length), w.cell? ⟨g, j * 2, none⟩ = some (.int .i64 (ctab[j]).1) ∧ w.cell? ⟨g, j * 2 + 1, none⟩ = some (.int .i64 (ctab[j]).2)) : Calls Tryz.prog 78 #[.int .i64 r, .slice (some ⟨g, 0, none⟩) 5 5] w fun e w' => e = .returned (.bool (Tb.charI r)) ∧ Below w.heap.size w w' := by
  have HC := Lib.hid h
  have HT := Lib.hid (char_tab r)
  clear h
  obtain ⟨z, hz⟩ : ∃ z, Tb.charI r = z := ⟨_, rfl⟩
  rw [hz] at HT ⊢
  clear hz
  go_enter Tryz.func78, Tryz.ntmps78
  go_wp2_with fail
  go_loopw [9] (fun k wr => ∃ i : Nat, i ≤ 5 ∧ k = .int .i64 (i : Int) ∧ Hid (((ctab.take i).any fun p => decide (p.1 ≤ r) && decide (r ≤ p.2)) = false) ∧ Hid (Below w.heap.size w wr)) (fun k _ => 5 - (intOf k).toNat)
  case atStart => exact ⟨0, by omega, rfl, Lib.hid rfl, Lib.hid (Below.refl _ _)⟩
  case round =>
    obtain ⟨i, hi, rfl, HN, HB⟩ := hrel
    by_cases hlt : i < 5
    · have hil : i < ctab.length := by rw [ctab_len]; exact hlt
      obtain ⟨h1, h2⟩ := HC.out i hil
      have d1 := (HB.out.cell (p := ⟨g, i * 2, none⟩) hg).trans h1
      have d2 := (HB.out.cell (p := ⟨g, i * 2 + 1, none⟩) hg).trans h2
      have htk : ((ctab.take (i + 1)).any fun p => decide (p.1 ≤ r) && decide (r ≤ p.2)) = (decide ((ctab[i]).1 ≤ r) && decide (r ≤ (ctab[i]).2)) := by
        rw [List.take_succ_eq_append_getElem hil, List.any_append, HN.out]
        simp
      have hin : (decide ((ctab[i]).1 ≤ r) && decide (r ≤ (ctab[i]).2)) = true → z = true := fun k => by
        rw [HT.out]
        exact List.any_eq_true.2 ⟨_, List.getElem_mem hil, k⟩
      have HTK := Lib.hid htk
      have HIN := Lib.hid hin
      clear h1 h2 htk hin
      generalize (ctab[i]).1 = x at *
      generalize (ctab[i]).2 = y at *
      have i0 : (0 : Int) ≤ (i : Int) := by omega
      have i5 : (i : Int) < 5 := by omega
      have hws := HB.out.size
      by_cases hx : x ≤ r
      · by_cases hy : r ≤ y
        · have hq : Hid (z = true) := Lib.hid (HIN.out (by simp [hx, hy]))
          go_wp2_with fail
          go_ret
          exact ⟨by rw [hq.out]; rfl, HB.out.alloc hws _⟩
        · have hq : Hid (((ctab.take (i + 1)).any fun p => decide (p.1 ≤ r) && decide (r ≤ p.2)) = false) := Lib.hid (by rw [HTK.out, decide_eq_false hy]; simp)
          have hyd : decide (r ≤ y) = false := decide_eq_false hy
          go_wp2_with fail
          go_roundw
          case rel => exact ⟨i + 1, by omega, by go_num, hq, Lib.hid (HB.out.alloc hws _)⟩
          case measure => simp [intOf]; omega
      · have hq : Hid (((ctab.take (i + 1)).any fun p => decide (p.1 ≤ r) && decide (r ≤ p.2)) = false) := Lib.hid (by rw [HTK.out, decide_eq_false hx]; rfl)
        have hxd : decide (x ≤ r) = false := decide_eq_false hx
        go_wp2_with fail
        go_roundw
        case rel => exact ⟨i + 1, by omega, by go_num, hq, Lib.hid (HB.out.alloc hws _)⟩
        case measure => simp [intOf]; omega
    · obtain rfl : i = 5 := by omega
      have hq : Hid (z = false) := Lib.hid (by
        rw [HT.out]
        have := HN.out
        rw [List.take_of_length_le (by rw [ctab_len]; exact Nat.le_refl _)] at this
        exact this)
      go_wp2_with fail
      go_ret
      exact ⟨by rw [hq.out]; rfl, HB.out⟩
theorem cchar_any (r : Int) (w : World) : Calls Tryz.prog 57 #[.int .i64 r] w fun e w' => e = .returned (.bool (Tb.charI r)) ∧ Below w.heap.size w w' := by
  have C := cwithin_any r w.heap.size (w.alloc (.cells #[.int .i64 9, .int .i64 10, .int .i64 13, .int .i64 13, .int .i64 32, .int .i64 55295, .int .i64 57344, .int .i64 65533, .int .i64 65536, .int .i64 1114111] 71)) (by simp) (fun j hj => by
    rw [ctab_len] at hj
    rw [World.cell?_alloc_mark, World.cell?_alloc_mark]
    match j, hj with
    | 0, _ => exact ⟨rfl, rfl⟩
    | 1, _ => exact ⟨rfl, rfl⟩
    | 2, _ => exact ⟨rfl, rfl⟩
    | 3, _ => exact ⟨rfl, rfl⟩
    | 4, _ => exact ⟨rfl, rfl⟩
    | k + 5, hk => exact absurd hk (by omega))
  generalize hzz : Tb.charI r = z at *
  clear hzz
  go_enter Tryz.func57, Tryz.ntmps57
  go_wp2_with (go_at_call 78; refine C.mono ?_; rintro e w1 ⟨rfl, hb1⟩)
  go_ret
  exact ⟨rfl, ((Below.refl _ w).alloc (Nat.le_refl _) _).trans (hb1.mono (by simp))⟩
end Go.Proofs.YthepfbkbfkhcaaaGreat
namespace Go.Proofs.YthepfbkbfkhcaaaGreat
open Go.RowKit Go.Shelf
open Go
set_option linter.unusedVariables false
set_option maxRecDepth 100000
attribute [local go_sem] Oper.semAt_some
def goodN (u : List Nat) : Nat := ((Ut.pcs u).takeWhile fun q => decide (0 ≤ q.2)).length
def scN (u : List Nat) : Nat := if goodN u < (Ut.pcs u).length then goodN u + 1 else goodN u
theorem goodN_le (u : List Nat) : goodN u ≤ (Ut.pcs u).length := (List.takeWhile_sublist _).length_le
theorem scN_le (u : List Nat) : goodN u ≤ scN u ∧ scN u ≤ (Ut.pcs u).length := by
  have := goodN_le u
  unfold scN
  split <;> omega
theorem mem_tw {p : Nat × Int → Bool} : ∀ {l : List (Nat × Int)} {x : Nat × Int}, x ∈ l.takeWhile p → p x = true
  | [], x, h => by cases h
  | y :: t, x, h => by
    cases hy : p y with
    | true =>
      rw [List.takeWhile_cons_of_pos hy] at h
      rcases List.mem_cons.1 h with rfl | h
      · exact hy
      · exact mem_tw h
    | false =>
      rw [List.takeWhile_cons_of_neg (by rw [hy]; simp)] at h
      cases h
theorem good_before (u : List Nat) {k : Nat} (hk : k < goodN u) : 0 ≤ Ut.rP u k := by
  have h1 : k < (Ut.pcs u).length := Nat.lt_of_lt_of_le hk (goodN_le u)
  unfold goodN at hk
  have h2 := mem_tw (List.getElem_mem hk)
  have h3 : ((Ut.pcs u).takeWhile fun q => decide (0 ≤ q.2))[k] = (Ut.pcs u)[k] := by
    have := (List.takeWhile_prefix (fun q : Nat × Int => decide (0 ≤ q.2)) (l := Ut.pcs u))
    exact this.getElem hk
  rw [h3] at h2
  unfold Ut.rP
  rw [List.getElem?_eq_getElem h1]
  simpa using h2
theorem bad_at (u : List Nat) (h : goodN u < (Ut.pcs u).length) : Ut.rP u (goodN u) < 0 := by
  have hd : ∀ l : List (Nat × Int), (h : (l.takeWhile fun q => decide (0 ≤ q.2)).length < l.length) → ((l[(l.takeWhile fun q => decide (0 ≤ q.2)).length]?.map Prod.snd).getD 0) < 0 := fun l => by
    induction l with
    | nil => intro h; simp at h
    | cons x t ih =>
      intro h
      by_cases hx : 0 ≤ x.2
      · rw [List.takeWhile_cons_of_pos (by simpa using hx)] at h ⊢
        simp only [List.length_cons] at h ⊢
        rw [List.getElem?_cons_succ]
        exact ih (by omega)
      · rw [List.takeWhile_cons_of_neg (by simpa using hx)]
        simp
        omega
  have := hd (Ut.pcs u) h
  unfold Ut.rP
  exact this
theorem cscalars_any (s : ByteArray) (w : World) : Calls Tryz.prog 56 #[.string s] w fun e w' => e = .returned (.func (.func 76) #[] #[.pointer (some ⟨w.heap.size, 0, none⟩)]) ∧ w' = w.alloc (.cells #[.string s] 9) := by
  go_enter Tryz.func56, Tryz.ntmps56
  go_wp2
  go_ret
  exact ⟨rfl, rfl⟩
set_option maxHeartbeats 4000000 in
theorem scalars1_in (b : Nat) (s : ByteArray) (hs : s.size ≤ 1000000) (w : World) (hb : w.cell? ⟨b, 0, none⟩ = some (.string s)) :
    SeqN Fence.wide 5 Tryz.prog 76 #[.pointer (some ⟨b, 0, none⟩)] (encP (Ut.bsL s)) (KpB b) none (scN (Ut.bsL s)) w := by
  intro l J Jx W hW hJ hJx hY h0
  have hbl : b < w.heap.size := World.block_lt_of_cell? _ _ hb
  have hb1 := (hW.cell (p := ⟨b, 0, none⟩) hbl).trans hb
  have hlen := Ut.bsL_len s
  have hp0 := Ut.posP_zero (Ut.bsL s)
  have hpe := Ut.posP_end (Ut.bsL s)
  rw [hlen] at hpe
  obtain ⟨hs1, hs2⟩ := scN_le (Ut.bsL s)
  refine callsIn_of_wp Tryz.func76 rfl trivial ?_ rfl
  simp only [Tryz.ntmps76, List.size_toArray, List.length_cons, List.length_nil, Nat.reduceAdd, Nat.reduceSub, Array.replicate_succ, Array.replicate_zero, List.push_toArray, List.append_toArray, List.nil_append, List.cons_append]
  gi_wp2_with fail
  gi_loopw [3] (fun s3 wr => ∃ k : Nat, k ≤ goodN (Ut.bsL s) ∧ s3 = .int .i64 (Ut.posP (Ut.bsL s) k : Int) ∧ J k wr ∧ wr.cell? ⟨b, 0, none⟩ = some (.string s)) (fun s3 _ => s.size - (intOf s3).toNat)
  case atStart => exact ⟨0, Nat.zero_le _, by rw [hp0]; rfl, h0, hb1⟩
  case round =>
    obtain ⟨k, hk, rfl, hJk, hc⟩ := hrel
    have hgl := goodN_le (Ut.bsL s)
    by_cases hlt : k < (Ut.pcs (Ut.bsL s)).length
    · obtain ⟨p1, -, p3⟩ := Ut.posP_at hlt
      have hr := Ut.rP_at hlt
      rw [hlen] at p1
      have c1 := unext_any s hs (Ut.posP (Ut.bsL s) k) p1 wr
      have hks : k < scN (Ut.bsL s) := by
        unfold scN
        split
        · omega
        · rename_i hh
          omega
      obtain ⟨fn, tmps, assign, body, hy, hR⟩ := hY k wr hks hJk
      unfold encP at hy
      rw [hr] at hy
      have hn := Ut.piece_wid p1
      have hw1 := Ut.piece_width (Sm.B s (Ut.posP (Ut.bsL s) k)) ((Ut.bsL s).drop (Ut.posP (Ut.bsL s) k + 1))
      rw [← Ut.bsL_drop s _ p1] at hw1
      obtain ⟨hn1, hn2⟩ := hn
      have hn3 := hw1.2.2
      clear hw1
      have hcase : (Ut.piece ((Ut.bsL s).drop (Ut.posP (Ut.bsL s) k))).1 < 0 → k + 1 = scN (Ut.bsL s) := fun hneg => by
        have h4 : ¬ k < goodN (Ut.bsL s) := fun h5 => by
          have := good_before _ h5
          rw [hr] at this
          omega
        have h6 : k = goodN (Ut.bsL s) := by omega
        unfold scN
        rw [if_pos (by omega), h6]
      have hcase2 : ¬ (Ut.piece ((Ut.bsL s).drop (Ut.posP (Ut.bsL s) k))).1 < 0 → k + 1 ≤ goodN (Ut.bsL s) := fun hpos => by
        apply Classical.byContradiction
        intro hn5
        have h6 : k = goodN (Ut.bsL s) := by omega
        have h7 := bad_at (Ut.bsL s) (by omega)
        rw [← h6, hr] at h7
        exact hpos h7
      have HK := Lib.hid hks
      generalize hpp : Ut.piece ((Ut.bsL s).drop (Ut.posP (Ut.bsL s) k)) = pp at *
      obtain ⟨r, n⟩ := pp
      generalize hq : Ut.posP (Ut.bsL s) k = q at *
      have HP := Lib.hid p3
      have HY := Lib.hid hY
      have q1 : (q : Int) < (s.size : Int) := by omega
      have hwr : IntKind.i64.wrap ((q : Int) + (n : Int)) = (q : Int) + (n : Int) := by simp only at hn2; rw [IntKind.wrap_i64]; omega
      simp only at hn1 hn2 hn3 hcase hcase2
      unfold RNextPost at c1
      by_cases hneg : r < 0
      · obtain rfl : r = -1 := by omega
        have hfin := hcase (by omega)
        have HF := Lib.hid hfin
        rw [show rnextV (-1, n) = .tuple #[.int .i64 0, .int .i64 0, .bool false] from rfl] at c1
        clear hY hp0 hpe hlen hlt p3 hpp hq hr h0 hb1 hk hcase hcase2 hgl hs1 hs2 hJk hfin hks
        gi_wp2_with (refine ⟨trivial, ?_⟩; gi_at_call 77; refine (callsIn_wide.2 c1).mono ?_; rintro e' w' ⟨rfl, rfl⟩)
        refine hR.mono ?_
        rintro e W' (⟨rfl, hJ', hkp⟩ | ⟨rfl, hJx'⟩)
        · have HJ := Lib.hid hJ'
          clear hJ' hkp hc hR hy c1
          gi_wp2_with fail
          refine bodyPost_ret (results_none rfl _ _ _) rfl ?_
          exact ⟨⟨_, rfl⟩, Or.inl (by rw [← HF.out]; exact HJ.out)⟩
        · gi_wp2_with fail
          refine bodyPost_ret (results_none rfl _ _ _) rfl ?_
          exact ⟨⟨_, rfl⟩, Or.inr ⟨k + 1, HK.out, hJx'⟩⟩
      · have hnext := hcase2 hneg
        have e2 : rnextV (r, n) = .tuple #[.int .i64 r, .int .i64 (n : Int), .bool true] := by unfold rnextV; rw [if_neg hneg]
        rw [e2] at c1
        have HN2 := Lib.hid hnext
        clear hY hp0 hpe hlen hlt p3 hpp hq hr h0 hb1 hk hcase hcase2 hgl hs1 hs2 hJk e2 hks hnext
        gi_wp2_with (refine ⟨trivial, ?_⟩; gi_at_call 77; refine (callsIn_wide.2 c1).mono ?_; rintro e' w' ⟨rfl, rfl⟩)
        refine hR.mono ?_
        rintro e W' (⟨rfl, hJ', hkp⟩ | ⟨rfl, hJx'⟩)
        · have hkp2 : W'.heap[b]? = wr.heap[b]? := hkp
          have hc2 : W'.cell? ⟨b, 0, none⟩ = some (.string s) := (World.cell?_of_block hkp2).trans hc
          have HJ := Lib.hid hJ'
          clear hJ' hkp hkp2 hc hR hy c1
          gi_wp2_with fail
          go_roundw
          case rel => exact ⟨k + 1, HN2.out, by rw [HP.out]; go_num, HJ.out, hc2⟩
          case measure => simp [intOf]; omega
        · gi_wp2_with fail
          refine bodyPost_ret (results_none rfl _ _ _) rfl ?_
          exact ⟨⟨_, rfl⟩, Or.inr ⟨k + 1, HK.out, hJx'⟩⟩
    · obtain rfl : k = (Ut.pcs (Ut.bsL s)).length := by omega
      have hfin : scN (Ut.bsL s) = (Ut.pcs (Ut.bsL s)).length := by omega
      rw [hpe]
      rw [← hfin] at hJk
      have HJ := Lib.hid hJk
      clear hJk hY hp0 hpe
      gi_wp2_with fail
      go_end0
      exact ⟨⟨_, rfl⟩, Or.inl HJ.out⟩
def BadI (w : World) (u : List Nat) (k : Nat) (W : World) : Prop := W.cell? ⟨w.heap.size, 0, none⟩ = some (.int .i64 0) ∧ W.frozen? ⟨w.heap.size, 0, none⟩ = false ∧ (∀ j, j < k → 0 ≤ Ut.rP u j ∧ Tb.charI (Ut.rP u j) = true) ∧ Below w.heap.size w W ∧ w.heap.size + 2 ≤ W.heap.size
def BadX (w : World) (u : List Nat) (c : Code) (k : Nat) (W : World) : Prop := c = .ret ∧ okR u = false ∧ (∃ n : Int, 0 ≤ n ∧ W.cell? ⟨w.heap.size, 0, none⟩ = some (.int .i64 n)) ∧ Below w.heap.size w W ∧ w.heap.size + 2 ≤ W.heap.size
theorem BadI.own {w : World} {u : List Nat} {B : Nat} (hB : w.heap.size + 2 ≤ B) : OwN B none (BadI w u) := by
  rintro k W W' row ⟨hc, hf, ha, hb, hs⟩ hg hr
  have hne : ∀ q, q < w.heap.size + 2 → some q ≠ row := fun q hq e => by
    rcases hr _ e.symm with h | ⟨h, _⟩
    · rw [← e] at h; cases h
    · omega
  refine ⟨(gb_cell hg (a := ⟨w.heap.size, 0, none⟩) (by show w.heap.size < W.heap.size; omega) (hne w.heap.size (by omega))).trans hc, (gb_frozen hg (a := ⟨w.heap.size, 0, none⟩) (by show w.heap.size < W.heap.size; omega) (hne w.heap.size (by omega))).trans hf, ha, hb.grown hg (by omega) (fun r e => ?_), Nat.le_trans hs hg.size⟩
  rcases hr r e with h | ⟨h, _⟩
  · rw [e] at h; cases h
  · omega
theorem BadX.own {w : World} {u : List Nat} {B : Nat} (hB : w.heap.size + 2 ≤ B) (c : Code) : OwN B none (BadX w u c) := by
  rintro k W W' row ⟨hc0, hx, ⟨n, hn, hc⟩, hb, hs⟩ hg hr
  have hne : ∀ q, q < w.heap.size + 2 → some q ≠ row := fun q hq e => by
    rcases hr _ e.symm with h | ⟨h, _⟩
    · rw [← e] at h; cases h
    · omega
  refine ⟨hc0, hx, ⟨n, hn, (gb_cell hg (a := ⟨w.heap.size, 0, none⟩) (by show w.heap.size < W.heap.size; omega) (hne w.heap.size (by omega))).trans hc⟩, hb.grown hg (by omega) (fun r e => ?_), Nat.le_trans hs hg.size⟩
  rcases hr r e with h | ⟨h, _⟩
  · rw [e] at h; cases h
  · omega
theorem keeps_bel {W W' : World} (h : Below W.heap.size W W') : KeepsOthers W W' := ⟨h.size, fun k o hk _ => (h.block k (Array.getElem?_eq_some_iff.1 hk).1).trans hk⟩
theorem char_neg (u : List Nat) (k : Nat) (h : Tb.charI (Ut.rP u k) = true) : 0 ≤ Ut.rP u k := by
  have := of_decide_eq_true h
  omega
theorem rp_get {u : List Nat} {k : Nat} (h : k < (Ut.pcs u).length) : Ut.rP u k = (Ut.pcs u)[k].2 := by
  unfold Ut.rP
  rw [List.getElem?_eq_getElem h]
  rfl
theorem bad_not {u : List Nat} {k : Nat} (h : k < (Ut.pcs u).length) (hc : Tb.charI (Ut.rP u k) = false) : okR u = false := by
  unfold okR
  rw [Ut.scal_pcs u]
  split
  · rename_i L hL
    split at hL
    · cases hL
      rw [List.all_eq_false]
      refine ⟨_, List.mem_map.2 ⟨_, List.getElem_mem h, rfl⟩, ?_⟩
      rw [rp_get h] at hc
      rw [hc]
      simp
    · cases hL
  · rfl
theorem bad_yes {u : List Nat} (ha : ∀ j, j < scN u → 0 ≤ Ut.rP u j ∧ Tb.charI (Ut.rP u j) = true) : okR u = true := by
  have hN : scN u = (Ut.pcs u).length := by
    apply Classical.byContradiction
    intro hn
    have h1 := scN_le u
    have h2 := goodN_le u
    have h3 : goodN u < (Ut.pcs u).length := by
      apply Classical.byContradiction
      intro h4
      unfold scN at hn
      rw [if_neg h4] at hn
      omega
    have h5 : goodN u < scN u := by unfold scN; rw [if_pos h3]; omega
    have h6 := bad_at u h3
    have h7 := (ha _ h5).1
    omega
  rw [hN] at ha
  unfold okR
  rw [Ut.scal_pcs u, if_pos]
  · rw [List.all_eq_true]
    intro x hx
    obtain ⟨q, hq, rfl⟩ := List.mem_map.1 hx
    obtain ⟨j, hj, rfl⟩ := List.getElem_of_mem hq
    have := (ha j hj).2
    rw [rp_get hj] at this
    exact this
  · intro q hq
    obtain ⟨j, hj, rfl⟩ := List.getElem_of_mem hq
    have := (ha j hj).1
    rw [rp_get hj] at this
    exact this
set_option maxHeartbeats 8000000 in
theorem cbad_any (s : ByteArray) (hs : s.size ≤ 100000) (w : World) : Calls Tryz.prog 41 #[.string s] w (BadPost s w) := by
  refine (callsIn_wide (n := 6)).1 ?_
  refine callsIn_of_wp_marks Tryz.func41 rfl trivial ?_ rfl
  simp only [Tryz.ntmps41, List.size_toArray, List.length_cons, List.length_nil, Nat.reduceAdd, Nat.reduceSub, Array.replicate_succ, Array.replicate_zero, List.push_toArray, List.append_toArray, List.nil_append, List.cons_append]
  gi_wp2_with (refine ⟨trivial, ?_⟩; gi_at_call 56; refine (callsIn_wide.2 (cscalars_any _ _)).mono ?_; rintro e w' ⟨rfl, rfl⟩)
  have hB0 : Below w.heap.size w ((w.alloc (.cells #[.int .i64 0] 3)).alloc (.cells #[.string s] 9)) := ((Below.refl _ w).alloc (Nat.le_refl _) _).alloc (by simp) _
  have hb0 : ((w.alloc (.cells #[.int .i64 0] 3)).alloc (.cells #[.string s] 9)).cell? ⟨w.heap.size + 1, 0, none⟩ = some (.string s) := by simp [go_sem]
  have hb1 : ((w.alloc (.cells #[.int .i64 0] 3)).alloc (.cells #[.string s] 9)).cell? ⟨w.heap.size, 0, none⟩ = some (.int .i64 0) := by simp [go_sem]
  have hb2 : ((w.alloc (.cells #[.int .i64 0] 3)).alloc (.cells #[.string s] 9)).frozen? ⟨w.heap.size, 0, none⟩ = false := by simp [go_sem]
  have hs0 : ((w.alloc (.cells #[.int .i64 0] 3)).alloc (.cells #[.string s] 9)).heap.size = w.heap.size + 2 := by simp
  generalize (w.alloc (.cells #[.int .i64 0] 3)).alloc (.cells #[.string s] 9) = W0 at *
  refine wpIn_rangeFunc_N rfl (by omega) (gf := 76) (lb := #[.pointer (some ⟨w.heap.size + 1, 0, none⟩)]) rfl trivial (enters_of Tryz.func76 (by kernel_rfl) rfl)
    (scalars1_in (w.heap.size + 1) s (by omega) W0 hb0) (fun b e => by cases e)
    (fun h k => k.trans h) (fun W l o o' hl _ _ _ => World.putObj_heap_other (by omega)) (Below.refl _ _) (fun _ => rfl)
    (BadI w (Ut.bsL s)) (BadX w (Ut.bsL s)) (BadI.own (by omega)) (fun c => BadX.own (by omega) c) ⟨hb1, hb2, (fun j hj => absurd hj (Nat.not_lt_zero _)), hB0, by omega⟩
    (fun k => { tmps := #[.string s, undef, .pointer (some ⟨w.heap.size, 0, none⟩), .int .i64 (Ut.posP (Ut.bsL s) k : Int), .int .i64 (Ut.rP (Ut.bsL s) k), .string s, .func (.func 76) #[] #[.pointer (some ⟨w.heap.size + 1, 0, none⟩)], .int .i64 (Ut.posP (Ut.bsL s) k : Int), .int .i64 (Ut.rP (Ut.bsL s) k), undef, undef, undef, undef], defers := [] }) ?assign ?body ?done ?stop
  case assign =>
    intro l k W K _ hK
    unfold encP
    gi_wp2
    exact hK
  case body =>
    rintro l k W ⟨hc, hf, ha, hb, hs3⟩ hk
    have c1 := cchar_any (Ut.rP (Ut.bsL s) k) W
    have HA := Lib.hid ha
    have HB := Lib.hid hb
    have hne := char_neg (Ut.bsL s) k
    cases hch : Tb.charI (Ut.rP (Ut.bsL s) k) with
    | false =>
      rw [hch] at c1
      have hno := bad_not (Nat.lt_of_lt_of_le hk (scN_le _).2) hch
      have HNO := Lib.hid hno
      clear hno ha hb hch hne
      generalize Ut.rP (Ut.bsL s) k = r at *
      generalize Ut.posP (Ut.bsL s) k = q at *
      gi_wp2_with (refine ⟨trivial, ?_⟩; gi_at_call 57; refine (callsIn_wide.2 c1).mono ?_; rintro e' w1 ⟨rfl, hb1'⟩; have hc1 := (hb1'.cell (p := ⟨w.heap.size, 0, none⟩) (by show w.heap.size < W.heap.size; omega)).trans hc; have hf1 := (hb1'.frozen (p := ⟨w.heap.size, 0, none⟩) (by show w.heap.size < W.heap.size; omega)).trans hf; have HB1 := Lib.hid hb1'; clear hb1')
      have hz := HB1.out.size
      refine ⟨(((keeps_bel HB1.out)).trans (KeepsOthers.setCell _ _ _)).from _, rfl, HNO.out, ⟨(q : Int), by omega, World.cell?_setCell_same _ _ _ hc1⟩, (HB.out.trans (HB1.out.mono HB.out.size)).setCell (p := ⟨w.heap.size, 0, none⟩) (Nat.le_refl _) _, by simp; omega⟩
    | true =>
      rw [hch] at c1
      have HCH := Lib.hid hch
      clear ha hb hch
      have hne2 := hne HCH.out
      have HNE := Lib.hid hne2
      clear hne hne2
      gi_wp2_with (refine ⟨trivial, ?_⟩; gi_at_call 57; refine (callsIn_wide.2 c1).mono ?_; rintro e' w1 ⟨rfl, hb1'⟩; have hc1 := (hb1'.cell (p := ⟨w.heap.size, 0, none⟩) (by show w.heap.size < W.heap.size; omega)).trans hc; have hf1 := (hb1'.frozen (p := ⟨w.heap.size, 0, none⟩) (by show w.heap.size < W.heap.size; omega)).trans hf; have HB1 := Lib.hid hb1'; clear hb1')
      have hz := HB1.out.size
      refine ⟨(keeps_bel HB1.out).from _, HB1.out.block _ (by omega), hc1, hf1, (fun j hj => ?_), HB.out.trans (HB1.out.mono HB.out.size), by omega⟩
      by_cases e : j = k
      · rw [e]; exact ⟨HNE.out, HCH.out⟩
      · exact HA.out j (by omega)
  case done =>
    rintro D W hD ⟨hc, hf, ha, hb, hs3⟩ hK
    have hyes := bad_yes ha
    have HY := Lib.hid hyes
    clear hyes ha
    gi_wp2
    have hK' : (W.setCell ⟨w.heap.size, 0, none⟩ (.int .i64 (-1))).heap[D]? = some (.deferred (some [])) := (KeepsOthers.setCell W ⟨w.heap.size, 0, none⟩ _).same D _ hK rfl
    refine ⟨by simp, .inl ⟨_, _, rfl, run_takeDeferred hK', ?_⟩⟩
    have hc5 := cell_kept (World.cell?_setCell_same W ⟨w.heap.size, 0, none⟩ (.int .i64 (-1)) hc) (grownBy_putObj' _ D (.deferred none)) (fun r e => by cases e; exact ⟨_, hK', rfl⟩)
    refine ⟨.int .i64 (-1), ?_, -1, rfl, by rw [HY.out]; rfl, (hb.setCell (p := ⟨w.heap.size, 0, none⟩) (Nat.le_refl _) _).trans (belowK_b (w := W0) (by omega) _ D _ _ hD hK' rfl rfl)⟩
    simp [results, Tryz.f41, go_sem, hc5]
  case stop =>
    rintro D c k W hD _ ⟨rfl, hx, ⟨n, hn, hc⟩, hb, hs3⟩ hK
    have HX := Lib.hid hx
    clear hx
    gi_wp2
    refine ⟨by simp, .inl ⟨_, _, rfl, run_takeDeferred hK, ?_⟩⟩
    have hc5 := cell_kept hc (grownBy_putObj' _ D (.deferred none)) (fun r e => by cases e; exact ⟨_, hK, rfl⟩)
    refine ⟨.int .i64 n, ?_, n, rfl, by rw [HX.out]; exact decide_eq_false (by omega), hb.trans (belowK_b (w := W0) (by omega) W D _ _ hD hK rfl rfl)⟩
    simp [results, Tryz.f41, go_sem, hc5]
end Go.Proofs.YthepfbkbfkhcaaaGreat
