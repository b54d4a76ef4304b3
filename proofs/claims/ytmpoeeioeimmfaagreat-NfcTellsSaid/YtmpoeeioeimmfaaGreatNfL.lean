/- The walk of Quick. The walk of the law's wakes. -/
import Derived.Test.YtmpoeeioeimmfaaGreatNfJ
namespace Go.Proofs.YtmpoeeioeimmfaaGreat
open Go.RowKit Go.Shelf
open Go.Maps (Keyed int_keyed keyOf_int_mk)
open Go
set_option linter.unusedVariables false
set_option maxRecDepth 100000
def oneB (x : Int) : Bool := match Tb.madeF x with | some (_, b) => b == 0 | none => false
/-- What the quick check tells of scalars in order. -/
def qkL (L : List Int) : Int := if L.any oneB = true then 0 else if L.any Tb.isSec = true then 1 else 2
def quickF (s : ByteArray) : Int := match Ut.scal (Ut.bsL s) with | none => 0 | some L => if Ordl.ordB Tb.classI L = true then qkL L else 0
def QkPost (q : Int) (w : World) (e : Ending) (w' : World) : Prop := e = .returned (.int .i8 q) ∧ Below w.heap.size w w'
def s1 (r : Int) : Bool := Tb.prs.any fun p => p.2.2 == r && r != 0
theorem isSec_s1 (r : Int) : Tb.isSec r = (s1 r || (decide (4449 ≤ r) && decide (r ≤ 4469)) || (decide (4520 ≤ r) && decide (r ≤ 4546))) := rfl
theorem any_take {L : List Int} {p : Int → Bool} {i : Nat} (h : i < L.length) : (L.take (i + 1)).any p = ((L.take i).any p || p L[i]) := by
  rw [List.take_succ_eq_append_getElem h, List.any_append]
  simp
theorem rowp_below {W W' : World} {p : Option Addr} {c : Nat} {L : List Int} (h : RowP W p c L) (hb : Below W.heap.size W W') : RowP W' p c L := by
  refine ⟨h.1, ?_⟩
  rcases h.2 with h | ⟨g, o, h1, h2⟩
  · exact Or.inl h
  · exact Or.inr ⟨g, o, h1, h2.kept (hb.block g h2.1)⟩
set_option maxHeartbeats 16000000 in
theorem quick_any (s : ByteArray) (hs : s.size ≤ 100000) (w : World) : Calls Tryz.prog 13 #[.string s] w (QkPost (quickF s) w) := by
  have C := fun w => scalars_any s hs w
  have C3 := seconds_any
  cases hv : Ut.scal (Ut.bsL s) with
  | none =>
    have e : quickF s = 0 := by unfold quickF; rw [hv]
    rw [e]
    unfold ScPost at C
    rw [hv] at C
    clear e hv C3
    go_enter Tryz.func13, Tryz.ntmps13
    go_wp2_with (go_at_call 27; refine (C _).mono ?_; rintro e w1 ⟨rfl, hb1⟩)
    go_ret
    exact ⟨rfl, hb1⟩
  | some L =>
    have e : quickF s = if Ordl.ordB Tb.classI L = true then qkL L else 0 := by unfold quickF; rw [hv]
    rw [e]
    unfold ScPost at C
    rw [hv] at C
    have hlen := Ut.scal_len hv
    rw [Ut.bsL_len] at hlen
    have h64 := sc_64 (Ut.scal_some hv).1
    have H64 := Lib.hid h64
    obtain ⟨n, hn⟩ : ∃ n, L.length = n := ⟨_, rfl⟩
    rw [hn] at hlen
    have hL : L.length ≤ 100000 := by omega
    have HN := Lib.hid hn
    clear e hv h64
    cases ho : Ordl.ordB Tb.classI L with
    | false =>
      rw [if_neg (by decide)]
      have HO := Lib.hid ho
      clear ho hn C3
      go_enter Tryz.func13, Tryz.ntmps13
      go_wp2_with (first | (go_at_call 27; refine (C _).mono ?_; rintro e w1 ⟨⟨v1, rfl, ho1⟩, hb1⟩; obtain ⟨p1, cc1, rfl, hr1⟩ := nown_rowp ho1; have HR1 := Lib.hid hr1; clear ho1 hr1) | (go_at_call 28; have c2 := ordered_any p1 cc1 L w1 hL HR1.out; rw [HO.out] at c2; refine c2.mono ?_; rintro e w2 ⟨rfl, hb2⟩))
      go_ret
      exact ⟨rfl, hb1.trans (hb2.mono hb1.size)⟩
    | true =>
      rw [if_pos rfl]
      have HO := Lib.hid ho
      clear ho hn
      obtain ⟨q0, hq0⟩ : ∃ q0, qkL L = q0 := ⟨_, rfl⟩
      have HQ0 := Lib.hid hq0
      rw [hq0]
      clear hq0
      go_enter Tryz.func13, Tryz.ntmps13
      go_wp2_with (first | (go_at_call 27; refine (C _).mono ?_; rintro e w1 ⟨⟨v1, rfl, ho1⟩, hb1⟩; obtain ⟨p1, cc1, rfl, hr1⟩ := nown_rowp ho1; have HR1 := Lib.hid hr1; clear ho1 hr1) | (go_at_call 28; have c2 := ordered_any p1 cc1 L w1 hL HR1.out; rw [HO.out] at c2; refine c2.mono ?_; rintro e w2 ⟨rfl, hb2⟩; have HB2 := Lib.hid (hb1.trans (hb2.mono hb1.size)); have HR2 : Hid (RowP w2 p1 cc1 L) := Lib.hid (rowp_below HR1.out hb2); clear hb2 c2) | (go_at_call 29; refine (C3 _).mono ?_; rintro e w3 ⟨mb, rfl, hmb, hm3, hb3⟩; have HM3 := Lib.hid hm3; have HR3 : Hid (RowP w3 p1 cc1 L) := Lib.hid (rowp_below HR2.out hb3); have HB3 : Hid (Below w.heap.size w w3) := Lib.hid (HB2.out.trans (hb3.mono HB2.out.size)); clear hm3 hb3))
      obtain ⟨g, o, hgo⟩ := rowP_at HR3.out 0
      have hcell : ∀ j (h : j < L.length), p1 = some ⟨g, o, none⟩ ∧ w3.cell? ⟨g, o + j, none⟩ = some (.int .i64 L[j]) ∧ g < w3.heap.size := fun j h => by
        rcases hgo with ⟨e, _⟩ | ⟨e, hI, hl⟩
        · subst e; exact absurd h (Nat.not_lt_zero _)
        · exact ⟨e, hI.2 j _ (List.getElem?_eq_getElem h), hl⟩
      have HC := Lib.hid hcell
      have hB3s := HB3.out.size
      clear hcell hgo C C3 hmb hb1 HR1 HR2 HB2
      rw [HN.out]
      go_loopw [6, 27] (fun qv k wr => ∃ (i : Nat) (qq : Int), i ≤ n ∧ k = .int .i64 (i : Int) ∧ qv = .int .i8 qq ∧ Hid (qq = if (L.take i).any Tb.isSec = true then 1 else 2) ∧ Hid ((L.take i).any oneB = false) ∧ Hid (MapF Tryz.prog 3 okB wr mb Tb.prs.length (secU Tb.prs.length)) ∧ Below w3.heap.size w3 wr) (fun _ k _ => n - (intOf k).toNat)
      case atStart => exact ⟨0, 2, Nat.zero_le _, rfl, rfl, Lib.hid rfl, Lib.hid rfl, HM3, Below.refl _ _⟩
      case round =>
        obtain ⟨i, qq, hi, rfl, rfl, HQQ, HA, HM, hB⟩ := hrel
        clear HM3
        by_cases hlt : i < n
        · have hil : i < L.length := by rw [HN.out]; exact hlt
          obtain ⟨hp, hci, hgl⟩ := HC.out i hil
          have hc2 := (hB.cell (p := ⟨g, o + i, none⟩) hgl).trans hci
          have ii : (i : Int) < (n : Int) := by omega
          have hr64 := H64.out _ (List.getElem_mem hil)
          have c1 := made_any L[i] hr64 wr
          have HS1 := Lib.hid (any_take (p := Tb.isSec) hil)
          have HS2 := Lib.hid (any_take (p := oneB) hil)
          have HBB := Lib.hid hB
          have hmem := List.getElem_mem hil
          have HMEM := Lib.hid hmem
          have HPP := Lib.hid hp
          subst hp
          obtain ⟨sec, hsec⟩ : ∃ b, (L.take i).any Tb.isSec = b := ⟨_, rfl⟩
          have HSEC := Lib.hid hsec
          have hkr := key_int (is_wf hr64)
          have hlook : ∀ w1, Below wr.heap.size wr w1 → (Instr.lookup 38 (.map (some mb)) (.int .i64 L[i]) false).run Tryz.prog w1 = .ok (.bool (s1 L[i])) w1 := fun w1 hb1 => by
            have h1 := (HM.out.kept (below_grown hb1) (fun e => by cases e)).look1 ki Tryz.underlying38 (zero_bool w1) rfl hkr
            rw [secU_at, List.take_length] at h1
            exact h1
          have HLK := Lib.hid hlook
          clear hci hsec hmem hlook hB hgl hkr
          generalize L[i] = r at *
          unfold MadePost at c1
          cases hmd : Tb.madeF r with
          | none =>
            have hone : oneB r = false := by unfold oneB; rw [hmd]
            rw [hmd] at c1
            unfold madeV at c1
            have HONE := Lib.hid hone
            clear hmd hone
            cases hs1 : s1 r with
            | true =>
              have HSV : Hid (Tb.isSec r = true) := Lib.hid (by rw [isSec_s1, hs1]; rfl)
              go_wp2_with (go_at_call 30; refine c1.mono ?_; rintro e w4 ⟨rfl, hb4⟩; have hlk := HLK.out w4 hb4; have HM4 := Lib.hid (HM.out.kept (below_grown hb4) (fun e => by cases e)); have HB4 := Lib.hid (HBB.out.trans (hb4.mono HBB.out.size)); clear hb4)
              go_roundw
              case rel => exact ⟨i + 1, 1, by omega, by go_num, rfl, Lib.hid (by rw [HS1.out, HSEC.out, HSV.out]; simp), Lib.hid (by rw [HS2.out, HA.out, HONE.out]; rfl), HM4, HB4.out⟩
              case measure => simp [intOf]; omega
            | false =>
              by_cases z0 : r < 4449
              · have HSV : Hid (Tb.isSec r = false) := Lib.hid (by rw [isSec_s1, hs1]; simp; omega)
                have g1 : decide (4449 ≤ r) = false := decide_eq_false (by omega)
                have g3 : decide (4520 ≤ r) = false := decide_eq_false (by omega)
                go_wp2_with (go_at_call 30; refine c1.mono ?_; rintro e w4 ⟨rfl, hb4⟩; have hlk := HLK.out w4 hb4; have HM4 := Lib.hid (HM.out.kept (below_grown hb4) (fun e => by cases e)); have HB4 := Lib.hid (HBB.out.trans (hb4.mono HBB.out.size)); clear hb4)
                go_roundw
                case rel => exact ⟨i + 1, qq, by omega, by go_num, rfl, Lib.hid (by rw [HS1.out, HSEC.out, HSV.out]; rw [HQQ.out, HSEC.out]; simp), Lib.hid (by rw [HS2.out, HA.out, HONE.out]; rfl), HM4, HB4.out⟩
                case measure => simp [intOf]; omega
              · skip
                by_cases z1 : r ≤ 4469
                · have HSV : Hid (Tb.isSec r = true) := Lib.hid (by rw [isSec_s1, hs1]; simp; omega)
                  have g1 : 4449 ≤ r := by omega
                  go_wp2_with (go_at_call 30; refine c1.mono ?_; rintro e w4 ⟨rfl, hb4⟩; have hlk := HLK.out w4 hb4; have HM4 := Lib.hid (HM.out.kept (below_grown hb4) (fun e => by cases e)); have HB4 := Lib.hid (HBB.out.trans (hb4.mono HBB.out.size)); clear hb4)
                  go_roundw
                  case rel => exact ⟨i + 1, 1, by omega, by go_num, rfl, Lib.hid (by rw [HS1.out, HSEC.out, HSV.out]; simp), Lib.hid (by rw [HS2.out, HA.out, HONE.out]; rfl), HM4, HB4.out⟩
                  case measure => simp [intOf]; omega
                · skip
                  by_cases z2 : r < 4520
                  · have HSV : Hid (Tb.isSec r = false) := Lib.hid (by rw [isSec_s1, hs1]; simp; omega)
                    have g1 : 4449 ≤ r := by omega
                    have g2 : ¬ r ≤ 4469 := by omega
                    have g2d : decide (r ≤ 4469) = false := decide_eq_false (by omega)
                    have g3 : decide (4520 ≤ r) = false := decide_eq_false (by omega)
                    go_wp2_with (go_at_call 30; refine c1.mono ?_; rintro e w4 ⟨rfl, hb4⟩; have hlk := HLK.out w4 hb4; have HM4 := Lib.hid (HM.out.kept (below_grown hb4) (fun e => by cases e)); have HB4 := Lib.hid (HBB.out.trans (hb4.mono HBB.out.size)); clear hb4)
                    go_roundw
                    case rel => exact ⟨i + 1, qq, by omega, by go_num, rfl, Lib.hid (by rw [HS1.out, HSEC.out, HSV.out]; rw [HQQ.out, HSEC.out]; simp), Lib.hid (by rw [HS2.out, HA.out, HONE.out]; rfl), HM4, HB4.out⟩
                    case measure => simp [intOf]; omega
                  · skip
                    by_cases z3 : r ≤ 4546
                    · have HSV : Hid (Tb.isSec r = true) := Lib.hid (by rw [isSec_s1, hs1]; simp; omega)
                      have g1 : 4449 ≤ r := by omega
                      have g2 : ¬ r ≤ 4469 := by omega
                      have g2d : decide (r ≤ 4469) = false := decide_eq_false (by omega)
                      have g3 : 4520 ≤ r := by omega
                      go_wp2_with (go_at_call 30; refine c1.mono ?_; rintro e w4 ⟨rfl, hb4⟩; have hlk := HLK.out w4 hb4; have HM4 := Lib.hid (HM.out.kept (below_grown hb4) (fun e => by cases e)); have HB4 := Lib.hid (HBB.out.trans (hb4.mono HBB.out.size)); clear hb4)
                      go_roundw
                      case rel => exact ⟨i + 1, 1, by omega, by go_num, rfl, Lib.hid (by rw [HS1.out, HSEC.out, HSV.out]; simp), Lib.hid (by rw [HS2.out, HA.out, HONE.out]; rfl), HM4, HB4.out⟩
                      case measure => simp [intOf]; omega
                    · skip
                      have HSV : Hid (Tb.isSec r = false) := Lib.hid (by rw [isSec_s1, hs1]; simp; omega)
                      have g1 : 4449 ≤ r := by omega
                      have g2 : ¬ r ≤ 4469 := by omega
                      have g2d : decide (r ≤ 4469) = false := decide_eq_false (by omega)
                      have g3 : 4520 ≤ r := by omega
                      have g4 : decide (r ≤ 4546) = false := decide_eq_false (by omega)
                      have g5 : ¬ r ≤ 4546 := by omega
                      go_wp2_with (go_at_call 30; refine c1.mono ?_; rintro e w4 ⟨rfl, hb4⟩; have hlk := HLK.out w4 hb4; have HM4 := Lib.hid (HM.out.kept (below_grown hb4) (fun e => by cases e)); have HB4 := Lib.hid (HBB.out.trans (hb4.mono HBB.out.size)); clear hb4)
                      go_roundw
                      case rel => exact ⟨i + 1, qq, by omega, by go_num, rfl, Lib.hid (by rw [HS1.out, HSEC.out, HSV.out]; rw [HQQ.out, HSEC.out]; simp), Lib.hid (by rw [HS2.out, HA.out, HONE.out]; rfl), HM4, HB4.out⟩
                      case measure => simp [intOf]; omega
          | some x =>
            obtain ⟨xa, xb⟩ := x
            rw [hmd] at c1
            unfold madeV at c1
            by_cases hx0 : xb = 0
            · subst hx0
              have hone : oneB r = true := by unfold oneB; rw [hmd]; rfl
              have hz : q0 = 0 := by
                rw [← HQ0.out]
                unfold qkL
                rw [if_pos (List.any_eq_true.2 ⟨r, HMEM.out, hone⟩)]
              clear hmd hone HQ0 HLK
              go_wp2_with (go_at_call 30; refine c1.mono ?_; rintro e w4 ⟨rfl, hb4⟩)
              go_ret
              exact ⟨by rw [hz]; rfl, HB3.out.trans ((HBB.out.mono hB3s).trans (hb4.mono (Nat.le_trans hB3s HBB.out.size)))⟩
            · have hone : oneB r = false := by unfold oneB; rw [hmd]; simpa using hx0
              have hxe : (xb == 0) = false := by simpa using hx0
              have HONE := Lib.hid hone
              clear hmd hone
              cases hs1 : s1 r with
              | true =>
                have HSV : Hid (Tb.isSec r = true) := Lib.hid (by rw [isSec_s1, hs1]; rfl)
                go_wp2_with (go_at_call 30; refine c1.mono ?_; rintro e w4 ⟨rfl, hb4⟩; have hlk := HLK.out w4 hb4; have HM4 := Lib.hid (HM.out.kept (below_grown hb4) (fun e => by cases e)); have HB4 := Lib.hid (HBB.out.trans (hb4.mono HBB.out.size)); clear hb4)
                go_roundw
                case rel => exact ⟨i + 1, 1, by omega, by go_num, rfl, Lib.hid (by rw [HS1.out, HSEC.out, HSV.out]; simp), Lib.hid (by rw [HS2.out, HA.out, HONE.out]; rfl), HM4, HB4.out⟩
                case measure => simp [intOf]; omega
              | false =>
                by_cases z0 : r < 4449
                · have HSV : Hid (Tb.isSec r = false) := Lib.hid (by rw [isSec_s1, hs1]; simp; omega)
                  have g1 : decide (4449 ≤ r) = false := decide_eq_false (by omega)
                  have g3 : decide (4520 ≤ r) = false := decide_eq_false (by omega)
                  go_wp2_with (go_at_call 30; refine c1.mono ?_; rintro e w4 ⟨rfl, hb4⟩; have hlk := HLK.out w4 hb4; have HM4 := Lib.hid (HM.out.kept (below_grown hb4) (fun e => by cases e)); have HB4 := Lib.hid (HBB.out.trans (hb4.mono HBB.out.size)); clear hb4)
                  go_roundw
                  case rel => exact ⟨i + 1, qq, by omega, by go_num, rfl, Lib.hid (by rw [HS1.out, HSEC.out, HSV.out]; rw [HQQ.out, HSEC.out]; simp), Lib.hid (by rw [HS2.out, HA.out, HONE.out]; rfl), HM4, HB4.out⟩
                  case measure => simp [intOf]; omega
                · skip
                  by_cases z1 : r ≤ 4469
                  · have HSV : Hid (Tb.isSec r = true) := Lib.hid (by rw [isSec_s1, hs1]; simp; omega)
                    have g1 : 4449 ≤ r := by omega
                    go_wp2_with (go_at_call 30; refine c1.mono ?_; rintro e w4 ⟨rfl, hb4⟩; have hlk := HLK.out w4 hb4; have HM4 := Lib.hid (HM.out.kept (below_grown hb4) (fun e => by cases e)); have HB4 := Lib.hid (HBB.out.trans (hb4.mono HBB.out.size)); clear hb4)
                    go_roundw
                    case rel => exact ⟨i + 1, 1, by omega, by go_num, rfl, Lib.hid (by rw [HS1.out, HSEC.out, HSV.out]; simp), Lib.hid (by rw [HS2.out, HA.out, HONE.out]; rfl), HM4, HB4.out⟩
                    case measure => simp [intOf]; omega
                  · skip
                    by_cases z2 : r < 4520
                    · have HSV : Hid (Tb.isSec r = false) := Lib.hid (by rw [isSec_s1, hs1]; simp; omega)
                      have g1 : 4449 ≤ r := by omega
                      have g2 : ¬ r ≤ 4469 := by omega
                      have g2d : decide (r ≤ 4469) = false := decide_eq_false (by omega)
                      have g3 : decide (4520 ≤ r) = false := decide_eq_false (by omega)
                      go_wp2_with (go_at_call 30; refine c1.mono ?_; rintro e w4 ⟨rfl, hb4⟩; have hlk := HLK.out w4 hb4; have HM4 := Lib.hid (HM.out.kept (below_grown hb4) (fun e => by cases e)); have HB4 := Lib.hid (HBB.out.trans (hb4.mono HBB.out.size)); clear hb4)
                      go_roundw
                      case rel => exact ⟨i + 1, qq, by omega, by go_num, rfl, Lib.hid (by rw [HS1.out, HSEC.out, HSV.out]; rw [HQQ.out, HSEC.out]; simp), Lib.hid (by rw [HS2.out, HA.out, HONE.out]; rfl), HM4, HB4.out⟩
                      case measure => simp [intOf]; omega
                    · skip
                      by_cases z3 : r ≤ 4546
                      · have HSV : Hid (Tb.isSec r = true) := Lib.hid (by rw [isSec_s1, hs1]; simp; omega)
                        have g1 : 4449 ≤ r := by omega
                        have g2 : ¬ r ≤ 4469 := by omega
                        have g2d : decide (r ≤ 4469) = false := decide_eq_false (by omega)
                        have g3 : 4520 ≤ r := by omega
                        go_wp2_with (go_at_call 30; refine c1.mono ?_; rintro e w4 ⟨rfl, hb4⟩; have hlk := HLK.out w4 hb4; have HM4 := Lib.hid (HM.out.kept (below_grown hb4) (fun e => by cases e)); have HB4 := Lib.hid (HBB.out.trans (hb4.mono HBB.out.size)); clear hb4)
                        go_roundw
                        case rel => exact ⟨i + 1, 1, by omega, by go_num, rfl, Lib.hid (by rw [HS1.out, HSEC.out, HSV.out]; simp), Lib.hid (by rw [HS2.out, HA.out, HONE.out]; rfl), HM4, HB4.out⟩
                        case measure => simp [intOf]; omega
                      · skip
                        have HSV : Hid (Tb.isSec r = false) := Lib.hid (by rw [isSec_s1, hs1]; simp; omega)
                        have g1 : 4449 ≤ r := by omega
                        have g2 : ¬ r ≤ 4469 := by omega
                        have g2d : decide (r ≤ 4469) = false := decide_eq_false (by omega)
                        have g3 : 4520 ≤ r := by omega
                        have g4 : decide (r ≤ 4546) = false := decide_eq_false (by omega)
                        have g5 : ¬ r ≤ 4546 := by omega
                        go_wp2_with (go_at_call 30; refine c1.mono ?_; rintro e w4 ⟨rfl, hb4⟩; have hlk := HLK.out w4 hb4; have HM4 := Lib.hid (HM.out.kept (below_grown hb4) (fun e => by cases e)); have HB4 := Lib.hid (HBB.out.trans (hb4.mono HBB.out.size)); clear hb4)
                        go_roundw
                        case rel => exact ⟨i + 1, qq, by omega, by go_num, rfl, Lib.hid (by rw [HS1.out, HSEC.out, HSV.out]; rw [HQQ.out, HSEC.out]; simp), Lib.hid (by rw [HS2.out, HA.out, HONE.out]; rfl), HM4, HB4.out⟩
                        case measure => simp [intOf]; omega
        · obtain rfl : i = n := by omega
          have hq : q0 = qq := by
            have ha := HA.out
            have hn2 := HN.out
            rw [← HQ0.out, HQQ.out]
            unfold qkL
            rw [List.take_of_length_le (by omega)] at ha ⊢
            rw [if_neg (by rw [ha]; decide)]
          have HH := Lib.hid hq
          have HBB := Lib.hid hB
          clear hq hB HC HA HM
          go_wp2_with fail
          go_ret
          exact ⟨by rw [HH.out]; rfl, HB3.out.trans (HBB.out.mono hB3s)⟩
end Go.Proofs.YtmpoeeioeimmfaaGreat
namespace Go.Proofs.YtmpoeeioeimmfaaGreat
open Go.RowKit Go.Shelf
open Go
set_option linter.unusedVariables false
set_option maxRecDepth 100000
theorem bl {A B C : World} (h : Below A.heap.size A B) (k : Below B.heap.size B C) : Below A.heap.size A C := h.trans (k.mono h.size)
theorem nwk1 : nnfcB ⟨#[101, 204, 130, 204, 163]⟩ = ⟨#[225, 187, 135]⟩ := by kernel_rfl
theorem nwk2 : nnfcB ⟨#[225, 132, 128, 225, 133, 161, 225, 134, 168]⟩ = ⟨#[234, 176, 129]⟩ := by kernel_rfl
theorem nwk3 : isF ⟨#[195, 169]⟩ = true := by kernel_rfl
theorem nwk4 : quickF ⟨#[97, 98, 99]⟩ = 2 := by kernel_rfl
theorem nwakes_any (w : World) : Calls Tryz.prog 4 #[] w (LawTrue w) := by
  have c1 := fun w => nfc_any ⟨#[101, 204, 130, 204, 163]⟩ (good_600 (by decide)) w
  have c2 := fun w => nfc_any ⟨#[225, 132, 128, 225, 133, 161, 225, 134, 168]⟩ (good_600 (by decide)) w
  have c3 := fun w => nis_any ⟨#[195, 169]⟩ (good_600 (by decide)) w
  have c4 := fun w => quick_any ⟨#[97, 98, 99]⟩ (by decide) w
  rw [nwk1] at c1
  rw [nwk2] at c2
  rw [nwk3] at c3
  rw [nwk4] at c4
  unfold LawTrue
  have hb0 : Below w.heap.size w w := Below.refl _ _
  go_enter Tryz.func4, Tryz.ntmps4
  go_wp2_with (first | (go_at_call 9; (first | (with_reducible refine (c1 _).mono ?_) | (with_reducible refine (c2 _).mono ?_)); rintro e w2 ⟨rfl, hb2⟩; replace hb0 := bl hb0 hb2; clear hb2) | (go_at_call 11; refine (c3 _).mono ?_; rintro e w4 ⟨rfl, hb4⟩; replace hb0 := bl hb0 hb4; clear hb4) | (go_at_call 13; refine (c4 _).mono ?_; rintro e w5 ⟨rfl, hb5⟩; replace hb0 := bl hb0 hb5; clear hb5))
  go_ret

  exact ⟨rfl, hb0⟩
end Go.Proofs.YtmpoeeioeimmfaaGreat
