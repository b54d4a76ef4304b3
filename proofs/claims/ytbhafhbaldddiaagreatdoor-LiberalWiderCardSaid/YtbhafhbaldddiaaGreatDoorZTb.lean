/- The walks of the document's names: begun, Month, Weekday. The walks of the document's taker: year, month, weekday, clock. -/
import Derived.Test.YtbhafhbaldddiaaGreatDoorZTa
import Derived.Test.YtbhafhbaldddiaaGreatDoorZLc
namespace Go.Proofs.YtbhafhbaldddiaaGreatDoor
open Go.RowKit
open Go
open Lb (R Wd)
set_option linter.unusedVariables false
def preB (u a : Wd) : Bool := decide (3 ≤ u.length) && Lb.isPre u a
def BgRow (w : World) (g : Nat) (N : List Wd) : Prop := ∀ k s, N[k]? = some s → w.cell? ⟨g, k, none⟩ = some (.string (Ml.mk s))
theorem BgRow.drewN {w : World} {g : Nat} {N : List Wd} (h : BgRow w g N) (n : Nat) : BgRow (w.drewN n) g N := h
set_option maxHeartbeats 2000000 in
theorem rbegun_any (N : List Wd) (g c : Nat) (u : Wd) (hu : u.length ≤ 100000) (hN : ∀ s ∈ N, s.length ≤ 1000) (hNl : N.length ≤ 1000) (w : World) (hrow : BgRow w g N) (hc : N.length ≤ c) :
    Calls Tryz.prog 41 #[.slice (some ⟨g, 0, none⟩) N.length c, .string (Ml.mk u)] w (fun e w' => e = .returned (.int .i64 (bgV N u)) ∧ w' = w) := by
  obtain ⟨n, hn⟩ : ∃ n, N.length = n := ⟨_, rfl⟩
  rw [hn]
  rw [hn] at hNl hc
  have h2 : (Ml.mk u).size = u.length := rfl
  obtain ⟨U, hU⟩ : ∃ U, Ml.mk u = U := ⟨_, rfl⟩
  obtain ⟨m, hm⟩ : ∃ m, u.length = m := ⟨_, rfl⟩
  rw [hU, hm] at h2
  rw [hm] at hu
  rw [hU]
  have HR := Lib.hid hrow
  have HN := Lib.hid hn
  have HS := Lib.hid hN
  have HU := Lib.hid hU
  have HM := Lib.hid hm
  clear hrow hn hN hU hm
  obtain ⟨v, hv⟩ : ∃ v, bgV N u = v := ⟨_, rfl⟩
  rw [hv]
  have HV := Lib.hid hv
  clear hv
  go_enter Tryz.func41, Tryz.ntmps41
  go_wp2_with fail
  go_loop [5] (fun k => ∃ j : Nat, j ≤ n ∧ k = .int .i64 j ∧ ∀ i, i < j → preB u (N.getD i []) = false) (fun k => n - (intOf k).toNat)
  case atStart => exact ⟨0, Nat.zero_le _, rfl, fun i hi => absurd hi (Nat.not_lt_zero _)⟩
  case round =>
    obtain ⟨j, hj, rfl, hno⟩ := hrel
    have HNO := Lib.hid hno
    clear hno
    by_cases hlt : j < n
    · have hlt' : j < N.length := by rw [HN.out]; exact hlt
      have l0 : (j : Int) < n := by omega
      obtain ⟨a, ha⟩ : ∃ a, N[j]? = some a := ⟨_, List.getElem?_eq_getElem hlt'⟩
      have kx := HR.out j a ha
      have hal := HS.out a (List.mem_of_getElem? ha)
      have hga : N.getD j [] = a := by rw [List.getD_eq_getElem?_getD, ha]; rfl
      have hsz : (Ml.mk a).size = a.length := rfl
      have hex : (Ml.mk a).extract 0 m = Ml.mk (a.take m) := mk_take a m
      have hnext : preB u a = false → ∀ i, i < j + 1 → preB u (N.getD i []) = false := fun h i hi => by
        rcases Nat.lt_or_eq_of_le (Nat.lt_succ_iff.1 hi) with h1 | rfl
        · exact HNO.out i h1
        · rw [hga]; exact h
      have hyes : preB u a = true → v = (j : Int) := fun h => by
        rw [← HV.out]
        exact bgV_some HNO.out hlt' (by rw [hga]; exact h)
      have hpre : preB u a = (decide (3 ≤ m) && decide (m ≤ a.length ∧ a.take m = u)) := by unfold preB; rw [isPre_iff, HM.out]
      rw [hpre] at hnext hyes
      have HNX := Lib.hid hnext
      have HYS := Lib.hid hyes
      clear hnext hyes hpre hga ha hlt'
      by_cases l1 : (3 : Int) ≤ (m : Int)
      · by_cases l2 : (m : Int) ≤ (a.length : Int)
        · by_cases l3 : a.take m = u
          · rw [l3, HU.out] at hex
            have hv := HYS.out (by rw [decide_eq_true (p := 3 ≤ m) (by omega), decide_eq_true (p := m ≤ a.length ∧ a.take m = u) ⟨by omega, l3⟩]; rfl)
            have HVJ := Lib.hid hv
            have e1 : ((m : Int) ≤ (a.length : Int)) := l2
            clear hv l3
            generalize Ml.mk a = A at *
            generalize a.length = al at *
            go_wp2
            go_ret
            rw [HVJ.out]
            exact ⟨rfl, rfl⟩
          · have hne := lmk_ne2 l3
            rw [← hex, HU.out] at hne
            have hf := HNX.out (by rw [decide_eq_false (p := m ≤ a.length ∧ a.take m = u) (fun k => l3 k.2), Bool.and_false])
            have HF := Lib.hid hf
            clear hf l3 hex
            generalize Ml.mk a = A at *
            generalize a.length = al at *
            go_wp2
            go_round
            case rel => exact ⟨j + 1, by omega, by go_num, HF.out⟩
            case measure => simp [intOf]; omega
        · have hf := HNX.out (by rw [decide_eq_false (p := m ≤ a.length ∧ a.take m = u) (fun k => l2 (by omega)), Bool.and_false])
          have HF := Lib.hid hf
          clear hf hex
          generalize Ml.mk a = A at *
          generalize a.length = al at *
          go_wp2
          go_round
          case rel => exact ⟨j + 1, by omega, by go_num, HF.out⟩
          case measure => simp [intOf]; omega
      · have hf := HNX.out (by rw [decide_eq_false (p := 3 ≤ m) (by omega), Bool.false_and])
        have HF := Lib.hid hf
        clear hf hex
        generalize Ml.mk a = A at *
        generalize a.length = al at *
        go_wp2
        go_round
        case rel => exact ⟨j + 1, by omega, by go_num, HF.out⟩
        case measure => simp [intOf]; omega
    · obtain rfl : j = n := by omega
      have l0 : ¬ (j : Int) < j := by omega
      have hv : v = -1 := by
        rw [← HV.out]
        exact bgV_none (fun i hi => HNO.out i (by rw [HN.out] at hi; exact hi))
      have HVJ := Lib.hid hv
      clear hv
      go_wp2
      go_ret
      rw [HVJ.out]
      exact ⟨rfl, rfl⟩
theorem bg_alloc (w : World) (N : List Wd) (T : TypeId) : BgRow (w.alloc (.cells (N.map fun s => Value.string (Ml.mk s)).toArray T)) w.heap.size N := fun k s h => by
  have h0 : (w.alloc (.cells (N.map fun s => Value.string (Ml.mk s)).toArray T)).heap[w.heap.size]? = some (.cells (N.map fun s => Value.string (Ml.mk s)).toArray T) := by
    show (w.heap.push _)[w.heap.size]? = _
    rw [Array.getElem?_push_size]
  unfold World.cell?
  simp only [h0]
  simp [h]
theorem rmon_any (u : Wd) (hu : u.length ≤ 100000) (w : World) : Calls Tryz.prog 14 #[.string (Ml.mk u)] w (fun e w' => e = .returned (.int .i64 (Lb.monF u)) ∧ Below w.heap.size w w') := by
  have h := fun T => rbegun_any Lb.months w.heap.size 12 u hu (by decide) (by decide) (w.alloc (.cells (Lb.months.map fun s => Value.string (Ml.mk s)).toArray T)) (bg_alloc w Lb.months T) (by decide)
  have hB := fun T => (Below.refl w.heap.size w).alloc (Nat.le_refl _) (.cells (Lb.months.map fun s => Value.string (Ml.mk s)).toArray T)
  obtain ⟨v, hv⟩ : ∃ v, bgV Lb.months u = v := ⟨_, rfl⟩
  have hbd := bgV_bd Lb.months u (by decide)
  rw [mon_is]
  rw [hv] at hbd h
  rw [hv]
  clear hv
  go_enter Tryz.func14, Tryz.ntmps14
  go_wp2_with (go_at_call 41; refine (h _).mono ?_; rintro e w2 ⟨rfl, rfl⟩)
  go_ret
  exact ⟨rfl, hB _⟩
theorem wkB_is (u : Wd) : Lb.wkB u = decide (0 ≤ bgV Lb.days u) := by
  unfold Lb.wkB bgV
  cases Lb.bgF Lb.days u with
  | none => rfl
  | some i => simp
theorem rwk_any (u : Wd) (hu : u.length ≤ 100000) (w : World) : Calls Tryz.prog 16 #[.string (Ml.mk u)] w (fun e w' => e = .returned (.bool (Lb.wkB u)) ∧ Below w.heap.size w w') := by
  have h := fun T => rbegun_any Lb.days w.heap.size 7 u hu (by decide) (by decide) (w.alloc (.cells (Lb.days.map fun s => Value.string (Ml.mk s)).toArray T)) (bg_alloc w Lb.days T) (by decide)
  have hB := fun T => (Below.refl w.heap.size w).alloc (Nat.le_refl _) (.cells (Lb.days.map fun s => Value.string (Ml.mk s)).toArray T)
  rw [wkB_is]
  obtain ⟨v, hv⟩ : ∃ v, bgV Lb.days u = v := ⟨_, rfl⟩
  rw [hv] at h
  rw [hv]
  clear hv
  go_enter Tryz.func16, Tryz.ntmps16
  go_wp2_with (go_at_call 41; refine (h _).mono ?_; rintro e w2 ⟨rfl, rfl⟩)
  go_ret
  exact ⟨rfl, hB _⟩
end Go.Proofs.YtbhafhbaldddiaaGreatDoor
namespace Go.Proofs.YtbhafhbaldddiaaGreatDoor
open Go.RowKit
open Go
open Lb (R Wd)
set_option linter.unusedVariables false
section
variable {w0 W : World} {B : Nat} {L : List Wd} {r : R}
theorem mk_nil : Ml.mk [] = ⟨#[]⟩ := rfl
theorem Tk.num12 (h : Tk w0 W B L r) : Calls Tryz.prog 66 #[.pointer (some ⟨B, 0, none⟩), .int .i64 1, .int .i64 2] W (TkPost (.int .i64 (Lb.nmV 1 2 r)) w0 B L (Lb.nmR 1 2 r)) := h.number 1 2 (by omega) (by omega)
theorem Tk.num22 (h : Tk w0 W B L r) : Calls Tryz.prog 66 #[.pointer (some ⟨B, 0, none⟩), .int .i64 2, .int .i64 2] W (TkPost (.int .i64 (Lb.nmV 2 2 r)) w0 B L (Lb.nmR 2 2 r)) := h.number 2 2 (by omega) (by omega)
theorem Tk.num44 (h : Tk w0 W B L r) : Calls Tryz.prog 66 #[.pointer (some ⟨B, 0, none⟩), .int .i64 4, .int .i64 4] W (TkPost (.int .i64 (Lb.nmV 4 4 r)) w0 B L (Lb.nmR 4 4 r)) := h.number 4 4 (by omega) (by omega)
theorem Tk.mb58 (h : Tk w0 W B L r) : Calls Tryz.prog 68 #[.pointer (some ⟨B, 0, none⟩), .string ⟨#[58]⟩] W (TkPost (.bool (Lb.mbB [58] r)) w0 B L (Lb.mbR [58] r)) := h.maybe [58] (by simp) (by simp)
theorem Tk.mb46 (h : Tk w0 W B L r) : Calls Tryz.prog 68 #[.pointer (some ⟨B, 0, none⟩), .string ⟨#[46]⟩] W (TkPost (.bool (Lb.mbB [46] r)) w0 B L (Lb.mbR [46] r)) := h.maybe [46] (by simp) (by simp)
theorem Tk.mb45 (h : Tk w0 W B L r) : Calls Tryz.prog 68 #[.pointer (some ⟨B, 0, none⟩), .string ⟨#[45]⟩] W (TkPost (.bool (Lb.mbB [45] r)) w0 B L (Lb.mbR [45] r)) := h.maybe [45] (by simp) (by simp)
theorem Tk.mb44 (h : Tk w0 W B L r) : Calls Tryz.prog 68 #[.pointer (some ⟨B, 0, none⟩), .string ⟨#[44]⟩] W (TkPost (.bool (Lb.mbB [44] r)) w0 B L (Lb.mbR [44] r)) := h.maybe [44] (by simp) (by simp)
theorem Tk.mb116 (h : Tk w0 W B L r) : Calls Tryz.prog 68 #[.pointer (some ⟨B, 0, none⟩), .string ⟨#[116]⟩] W (TkPost (.bool (Lb.mbB [116] r)) w0 B L (Lb.mbR [116] r)) := h.maybe [116] (by simp) (by simp)
theorem Tk.mb43 (h : Tk w0 W B L r) : Calls Tryz.prog 68 #[.pointer (some ⟨B, 0, none⟩), .string ⟨#[43]⟩] W (TkPost (.bool (Lb.mbB [43] r)) w0 B L (Lb.mbR [43] r)) := h.maybe [43] (by simp) (by simp)
theorem Tk.mu58 (h : Tk w0 W B L r) : Calls Tryz.prog 67 #[.pointer (some ⟨B, 0, none⟩), .string ⟨#[58]⟩] W (TkPost (.tuple #[]) w0 B L (Lb.muR [58] r)) := h.must [58] (by simp) (by simp)
theorem Tk.mu45 (h : Tk w0 W B L r) : Calls Tryz.prog 67 #[.pointer (some ⟨B, 0, none⟩), .string ⟨#[45]⟩] W (TkPost (.tuple #[]) w0 B L (Lb.muR [45] r)) := h.must [45] (by simp) (by simp)
/-- Is a number next? -/
theorem dg1m (r : R) (hs : (Lb.nx r).length ≤ 100000) : (Lb.nx r = [] ∧ Lb.dgs 1 1048576 r = false) ∨ ∃ c q, Lb.nx r = c :: q ∧ q.length ≤ 100000 ∧ Lb.dgs 1 1048576 r = (Lb.srt c == 1) := by
  unfold Lb.dgs
  cases e : Lb.nx r with
  | nil => exact Or.inl ⟨rfl, rfl⟩
  | cons c q =>
    rw [e] at hs
    simp at hs
    refine Or.inr ⟨c, q, rfl, by omega, ?_⟩
    show (decide (1 ≤ q.length + 1) && decide (q.length + 1 ≤ 1048576) && (Lb.srt c == 1)) = _
    rw [decide_eq_true (by omega), decide_eq_true (by omega)]
    rfl
/-- A peek at a piece that is there. -/
def PeekP (w0 : World) (B : Nat) (L : List Wd) (r : R) (b : Bool) (T : ByteArray) (n : Nat) (cn : Int) : Prop := n ≤ 100000 ∧ T.size = n + 1 ∧ (T.toList == []) = false ∧ (∀ h, ((T[0]'h).toNat : Int) = cn) ∧ (∀ w, Calls Tryz.prog 36 #[.int .u8 cn] w (fun e w' => e = .returned (.bool b) ∧ w' = w)) ∧ r.l ≠ [] ∧ ∀ W, Tk w0 W B L r → Calls Tryz.prog 69 #[.pointer (some ⟨B, 0, none⟩)] W (TkPost (.string T) w0 B L r)
theorem peek_of (w0 : World) (B : Nat) (L : List Wd) {c : UInt8} {q : Wd} (hx : Lb.nx r = c :: q) (hq : q.length ≤ 100000) {b : Bool} (hb : (Lb.srt c == 1) = b) : ∃ T n cn, PeekP w0 B L r b T n cn := by
  refine ⟨Ml.mk (c :: q), q.length, c.toNat, hq, rfl, lne_nil (s := Ml.mk (c :: q)) (by show ¬ q.length + 1 = 0; omega), fun h => rfl, fun w => ?_, fun e => ?_, fun W h => ?_⟩
  · rw [← hb]; exact tdigit_any c w
  · unfold Lb.nx at hx; rw [e] at hx; cases hx
  · have := h.next; rw [hx] at this; exact this
set_option maxHeartbeats 2000000 in
theorem Tk.year_f (h : Tk w0 W B L r) : Calls Tryz.prog 73 #[.pointer (some ⟨B, 0, none⟩), .bool false] W (TkPost (.int .i64 (Lb.nmV 4 4 r)) w0 B L (Lb.nmR 4 4 r)) := by
  have H := Lib.hid h
  clear h
  unfold TkPost
  go_enter Tryz.func73, Tryz.ntmps73
  go_wp2_with fail
  refine H.out.num44.mono ?_
  rintro e w1 ⟨rfl, h1⟩
  obtain ⟨_, _, _, -, -, ⟨k2, k3, k4, k5, k6, k7, k8, k9⟩, f0, f1, f2, f3, f4, f5, f6, f7, f8, f9⟩ := h1.open_
  have H1 : Hid (Tk w0 _ B L (Lb.nmR 4 4 r)) := Lib.hid (h1)
  clear H h1
  go_wp2_with fail
  go_ret
  exact ⟨rfl, H1.out⟩
set_option maxHeartbeats 2000000 in
theorem Tk.year_t (h : Tk w0 W B L r) : Calls Tryz.prog 73 #[.pointer (some ⟨B, 0, none⟩), .bool true] W (TkPost (.int .i64 (Lb.yrV r)) w0 B L (Lb.yrR r)) := by
  have hs := h.psz.nx
  have hn := h.next
  have hbd := Lb.nmV_bd 2 2 r (by omega)
  have H := Lib.hid h
  clear h
  have hsz : (Ml.mk (Lb.nx r)).size = (Lb.nx r).length := rfl
  unfold TkPost Lb.yrV Lb.yrR
  generalize Ml.mk (Lb.nx r) = T at hn hsz
  obtain ⟨z, hz⟩ : ∃ z, (Lb.nx r).length = z := ⟨_, rfl⟩
  rw [hz] at hsz hs ⊢
  clear hz
  by_cases h2 : z = 2
  · subst h2
    rw [if_pos rfl, if_pos rfl]
    obtain ⟨n, hn2⟩ : ∃ n, Lb.nmV 2 2 r = n := ⟨_, rfl⟩
    rw [hn2] at hbd ⊢
    obtain ⟨b1, b2⟩ := hbd
    by_cases l : n < 50
    · rw [if_pos l]
      go_enter Tryz.func73, Tryz.ntmps73
      go_wp2_with fail
      refine hn.mono ?_
      rintro e w1 ⟨rfl, h1⟩
      have H1 := Lib.hid h1
      clear hn H h1
      go_wp2_with fail
      have hm := H1.out.num22
      rw [hn2] at hm
      refine hm.mono ?_
      clear hm
      rintro e w2 ⟨rfl, h1⟩
      obtain ⟨_, _, _, -, -, ⟨k2, k3, k4, k5, k6, k7, k8, k9⟩, f0, f1, f2, f3, f4, f5, f6, f7, f8, f9⟩ := h1.open_
      have H2 : Hid (Tk w0 _ B L (Lb.nmR 2 2 r)) := Lib.hid (h1)
      clear H1 h1
      go_wp2_with fail
      go_ret
      exact ⟨rfl, H2.out⟩
    · rw [if_neg l]
      go_enter Tryz.func73, Tryz.ntmps73
      go_wp2_with fail
      refine hn.mono ?_
      rintro e w1 ⟨rfl, h1⟩
      have H1 := Lib.hid h1
      clear hn H h1
      go_wp2_with fail
      have hm := H1.out.num22
      rw [hn2] at hm
      refine hm.mono ?_
      clear hm
      rintro e w2 ⟨rfl, h1⟩
      obtain ⟨_, _, _, -, -, ⟨k2, k3, k4, k5, k6, k7, k8, k9⟩, f0, f1, f2, f3, f4, f5, f6, f7, f8, f9⟩ := h1.open_
      have H2 : Hid (Tk w0 _ B L (Lb.nmR 2 2 r)) := Lib.hid (h1)
      clear H1 h1
      go_wp2_with fail
      go_ret
      exact ⟨rfl, H2.out⟩
  · rw [if_neg h2, if_neg h2]
    have h3 : ¬ (z : Int) = 2 := by omega
    clear h2
    go_enter Tryz.func73, Tryz.ntmps73
    go_wp2_with fail
    refine hn.mono ?_
    rintro e w1 ⟨rfl, h1⟩
    have H1 := Lib.hid h1
    clear hn H h1
    go_wp2_with fail
    refine H1.out.num44.mono ?_
    rintro e w2 ⟨rfl, h1⟩
    obtain ⟨_, _, _, -, -, ⟨k2, k3, k4, k5, k6, k7, k8, k9⟩, f0, f1, f2, f3, f4, f5, f6, f7, f8, f9⟩ := h1.open_
    have H2 : Hid (Tk w0 _ B L (Lb.nmR 4 4 r)) := Lib.hid (h1)
    clear H1 h1
    go_wp2_with fail
    go_ret
    exact ⟨rfl, H2.out⟩
theorem tnx_ne {r : R} (h : Lb.nx r ≠ []) : r.l ≠ [] := fun e => h (by unfold Lb.nx; rw [e]; rfl)
set_option maxHeartbeats 2000000 in
theorem Tk.month (h : Tk w0 W B L r) : Calls Tryz.prog 72 #[.pointer (some ⟨B, 0, none⟩)] W (TkPost (.int .i64 (Lb.monF (Lb.nx r))) w0 B L (Lb.moT r)) := by
  have hs := h.psz.nx
  have H := Lib.hid h
  clear h
  unfold TkPost
  obtain ⟨v, hv⟩ : ∃ v, Lb.monF (Lb.nx r) = v := ⟨_, rfl⟩
  have hm := rmon_any (Lb.nx r) hs
  rw [hv] at hm ⊢
  by_cases h0 : v = 0
  · subst h0
    have e : Lb.moT r = Lb.mkBad r := by unfold Lb.moT; rw [if_pos hv]
    rw [e]
    clear e hv
    go_enter Tryz.func72, Tryz.ntmps72
    go_wp2_with fail
    refine H.out.next.mono ?_
    rintro e w1 ⟨rfl, h1⟩
    have H1 := Lib.hid h1
    clear h1 H
    go_wp2_with fail
    refine (hm _).mono ?_
    rintro e w2 ⟨rfl, hB⟩
    have h1 := H1.out.quiet hB
    clear H1 hB hm
    obtain ⟨_, _, _, -, -, ⟨k2, k3, k4, k5, k6, k7, k8, k9⟩, f0, f1, f2, f3, f4, f5, f6, f7, f8, f9⟩ := h1.open_
    have H2 := Lib.hid h1.mkBad
    clear h1
    go_wp2_with fail
    go_ret
    exact ⟨rfl, H2.out⟩
  · have e : Lb.moT r = Lb.tl r := by unfold Lb.moT; rw [hv, if_neg h0]
    rw [e]
    have hl : r.l ≠ [] := tnx_ne (fun k => h0 (by rw [← hv, k]; rfl))
    have HL := Lib.hid hl
    clear e hv hl
    have hne : (v == 0) = false := by simpa using h0
    go_enter Tryz.func72, Tryz.ntmps72
    go_wp2_with fail
    refine H.out.next.mono ?_
    rintro e w1 ⟨rfl, h1⟩
    have H1 := Lib.hid h1
    clear h1 H
    go_wp2_with fail
    refine (hm _).mono ?_
    rintro e w2 ⟨rfl, hB⟩
    have h1 := H1.out.quiet hB
    clear H1 hB hm
    obtain ⟨g, i, n', c', a, k0, k1, hlt, hc, hn', kx, f1, H2⟩ := h1.head_ HL.out
    clear h1
    go_wp2_with fail
    go_ret
    exact ⟨rfl, H2.out⟩
set_option maxHeartbeats 2000000 in
theorem Tk.weekday (h : Tk w0 W B L r) : Calls Tryz.prog 71 #[.pointer (some ⟨B, 0, none⟩)] W (TkPost (.tuple #[]) w0 B L (Lb.wkR r)) := by
  have hs := h.psz.nx
  have H := Lib.hid h
  clear h
  unfold TkPost Lb.wkR
  obtain ⟨v, hv⟩ : ∃ v, Lb.wkB (Lb.nx r) = v := ⟨_, rfl⟩
  have hm := rwk_any (Lb.nx r) hs
  rw [hv] at hm ⊢
  cases v
  · rw [if_neg (by decide)]
    clear hv
    go_enter Tryz.func71, Tryz.ntmps71
    go_wp2_with fail
    refine H.out.next.mono ?_
    rintro e w1 ⟨rfl, h1⟩
    have H1 := Lib.hid h1
    clear h1 H
    go_wp2_with fail
    refine (hm _).mono ?_
    rintro e w2 ⟨rfl, hB⟩
    have H2 := Lib.hid (H1.out.quiet hB)
    clear H1 hB hm
    go_wp2_with fail
    refine H2.out.mb44.mono ?_
    rintro e w3 ⟨rfl, h1⟩
    have H3 := Lib.hid h1
    clear H2 h1
    go_wp2_with fail
    go_end0
    exact ⟨rfl, H3.out⟩
  · rw [if_pos rfl]
    have hl : r.l ≠ [] := tnx_ne (fun k => by rw [k] at hv; cases hv)
    have HL := Lib.hid hl
    clear hv hl
    go_enter Tryz.func71, Tryz.ntmps71
    go_wp2_with fail
    refine H.out.next.mono ?_
    rintro e w1 ⟨rfl, h1⟩
    have H1 := Lib.hid h1
    clear h1 H
    go_wp2_with fail
    refine (hm _).mono ?_
    rintro e w2 ⟨rfl, hB⟩
    have h1 := H1.out.quiet hB
    clear H1 hB hm
    obtain ⟨g, i, n', c', a, k0, k1, hlt, hc, hn', kx, f1, H2⟩ := h1.head_ HL.out
    clear h1
    go_wp2_with fail
    refine H2.out.mb44.mono ?_
    rintro e w3 ⟨rfl, h1⟩
    have H3 := Lib.hid h1
    clear H2 h1
    go_wp2_with fail
    go_end0
    exact ⟨rfl, H3.out⟩
set_option maxHeartbeats 4000000 in
theorem Tk.clock (h : Tk w0 W B L r) : Calls Tryz.prog 102 #[.pointer (some ⟨B, 0, none⟩)] W (TkPost (.bool (Lb.clB r)) w0 B L (Lb.clR r)) := by
  have hs := h.psz.nx
  have H := Lib.hid h
  unfold TkPost Lb.clR
  rcases dg1m r hs with ⟨hx, hd⟩ | ⟨c, q, hx, hq, hd⟩
  · have hb : Lb.clB r = false := hd
    rw [hb, if_neg (by decide)]
    clear h hb hd hs
    go_enter Tryz.func102, Tryz.ntmps102
    go_wp2_with fail
    have hm := H.out.next
    rw [hx, mk_nil] at hm
    refine hm.mono ?_
    clear hm
    rintro e w1 ⟨rfl, h1⟩
    obtain ⟨_, _, _, -, -, ⟨k2, k3, k4, k5, k6, k7, k8, k9⟩, f0, f1, f2, f3, f4, f5, f6, f7, f8, f9⟩ := h1.open_
    have H1 : Hid (Tk w0 _ B L (r)) := Lib.hid (h1)
    clear H h1
    go_wp2_with fail
    go_ret
    exact ⟨rfl, H1.out⟩
  obtain ⟨b, hb⟩ : ∃ b, (Lb.srt c == 1) = b := ⟨_, rfl⟩
  have hbb : Lb.clB r = b := hd.trans hb
  rw [hbb]
  obtain ⟨T, nT, cn, hqT, hsz, hne, hix, hsr, hrl, hnx⟩ := peek_of w0 B L hx hq hb
  have hn := hnx W h
  clear h hx hq hd hb hnx hs hbb
  cases b
  · rw [if_neg (by decide)]
    go_enter Tryz.func102, Tryz.ntmps102
    go_wp2_with fail
    refine hn.mono ?_
    clear hn
    rintro e w1 ⟨rfl, h1⟩
    obtain ⟨_, _, _, -, -, ⟨k2, k3, k4, k5, k6, k7, k8, k9⟩, f0, f1, f2, f3, f4, f5, f6, f7, f8, f9⟩ := h1.open_
    have H1 : Hid (Tk w0 _ B L (r)) := Lib.hid (h1)
    clear H h1
    go_wp2_with (go_at_call 36; refine (hsr _).mono ?_; rintro e wd ⟨rfl, rfl⟩)
    go_ret
    exact ⟨rfl, H1.out⟩
  · rw [if_pos rfl]
    obtain ⟨b, hb⟩ : ∃ b, Lb.mbB [58] (Lb.cl3 r) = b := ⟨_, rfl⟩
    rw [hb]
    cases b
    · rw [if_neg (by decide)]
      go_enter Tryz.func102, Tryz.ntmps102
      go_wp2_with fail
      refine hn.mono ?_
      clear hn
      rintro e w1 ⟨rfl, h1⟩
      obtain ⟨_, _, _, -, -, ⟨k2, k3, k4, k5, k6, k7, k8, k9⟩, f0, f1, f2, f3, f4, f5, f6, f7, f8, f9⟩ := h1.open_
      have H1 : Hid (Tk w0 _ B L (r)) := Lib.hid (h1)
      clear H h1
      go_wp2_with (go_at_call 36; refine (hsr _).mono ?_; rintro e wd ⟨rfl, rfl⟩)
      refine H1.out.num12.mono ?_
      rintro e w2 ⟨rfl, h1⟩
      clear k2 k3 k4 k5 k6 k7 k8 k9 f0 f1 f2 f3 f4 f5 f6 f7 f8 f9
      obtain ⟨_, _, _, -, -, ⟨k2, k3, k4, k5, k6, k7, k8, k9⟩, f0, f1, f2, f3, f4, f5, f6, f7, f8, f9⟩ := h1.open_
      have H2 : Hid (Tk w0 _ B L (Lb.cl1 r)) := Lib.hid (h1.sH _)
      clear H1 h1
      go_wp2_with fail
      refine H2.out.mu58.mono ?_
      rintro e w3 ⟨rfl, h1⟩
      clear k2 k3 k4 k5 k6 k7 k8 k9 f0 f1 f2 f3 f4 f5 f6 f7 f8 f9
      obtain ⟨_, _, _, -, -, ⟨k2, k3, k4, k5, k6, k7, k8, k9⟩, f0, f1, f2, f3, f4, f5, f6, f7, f8, f9⟩ := h1.open_
      have H3 : Hid (Tk w0 _ B L (Lb.cl2 r)) := Lib.hid (h1)
      clear H2 h1
      go_wp2_with fail
      refine H3.out.num22.mono ?_
      rintro e w4 ⟨rfl, h1⟩
      clear k2 k3 k4 k5 k6 k7 k8 k9 f0 f1 f2 f3 f4 f5 f6 f7 f8 f9
      obtain ⟨_, _, _, -, -, ⟨k2, k3, k4, k5, k6, k7, k8, k9⟩, f0, f1, f2, f3, f4, f5, f6, f7, f8, f9⟩ := h1.open_
      have H4 : Hid (Tk w0 _ B L (Lb.cl3 r)) := Lib.hid (h1.sMi _)
      clear H3 h1
      go_wp2_with fail
      have hm := H4.out.mb58
      rw [hb, mb_no hb] at hm
      refine hm.mono ?_
      clear hm
      rintro e w5 ⟨rfl, h1⟩
      clear k2 k3 k4 k5 k6 k7 k8 k9 f0 f1 f2 f3 f4 f5 f6 f7 f8 f9
      obtain ⟨_, _, _, -, -, ⟨k2, k3, k4, k5, k6, k7, k8, k9⟩, f0, f1, f2, f3, f4, f5, f6, f7, f8, f9⟩ := h1.open_
      have H5 : Hid (Tk w0 _ B L (Lb.cl3 r)) := Lib.hid (h1)
      clear H4 h1
      go_wp2_with fail
      go_ret
      exact ⟨rfl, H5.out⟩
    · rw [if_pos rfl]
      obtain ⟨b, hb3⟩ : ∃ b, Lb.mbB [46] (Lb.cl4 (Lb.tl (Lb.cl3 r))) = b := ⟨_, rfl⟩
      rw [hb3]
      cases b
      · rw [if_neg (by decide)]
        go_enter Tryz.func102, Tryz.ntmps102
        go_wp2_with fail
        refine hn.mono ?_
        clear hn
        rintro e w1 ⟨rfl, h1⟩
        obtain ⟨_, _, _, -, -, ⟨k2, k3, k4, k5, k6, k7, k8, k9⟩, f0, f1, f2, f3, f4, f5, f6, f7, f8, f9⟩ := h1.open_
        have H1 : Hid (Tk w0 _ B L (r)) := Lib.hid (h1)
        clear H h1
        go_wp2_with (go_at_call 36; refine (hsr _).mono ?_; rintro e wd ⟨rfl, rfl⟩)
        refine H1.out.num12.mono ?_
        rintro e w2 ⟨rfl, h1⟩
        clear k2 k3 k4 k5 k6 k7 k8 k9 f0 f1 f2 f3 f4 f5 f6 f7 f8 f9
        obtain ⟨_, _, _, -, -, ⟨k2, k3, k4, k5, k6, k7, k8, k9⟩, f0, f1, f2, f3, f4, f5, f6, f7, f8, f9⟩ := h1.open_
        have H2 : Hid (Tk w0 _ B L (Lb.cl1 r)) := Lib.hid (h1.sH _)
        clear H1 h1
        go_wp2_with fail
        refine H2.out.mu58.mono ?_
        rintro e w3 ⟨rfl, h1⟩
        clear k2 k3 k4 k5 k6 k7 k8 k9 f0 f1 f2 f3 f4 f5 f6 f7 f8 f9
        obtain ⟨_, _, _, -, -, ⟨k2, k3, k4, k5, k6, k7, k8, k9⟩, f0, f1, f2, f3, f4, f5, f6, f7, f8, f9⟩ := h1.open_
        have H3 : Hid (Tk w0 _ B L (Lb.cl2 r)) := Lib.hid (h1)
        clear H2 h1
        go_wp2_with fail
        refine H3.out.num22.mono ?_
        rintro e w4 ⟨rfl, h1⟩
        clear k2 k3 k4 k5 k6 k7 k8 k9 f0 f1 f2 f3 f4 f5 f6 f7 f8 f9
        obtain ⟨_, _, _, -, -, ⟨k2, k3, k4, k5, k6, k7, k8, k9⟩, f0, f1, f2, f3, f4, f5, f6, f7, f8, f9⟩ := h1.open_
        have H4 : Hid (Tk w0 _ B L (Lb.cl3 r)) := Lib.hid (h1.sMi _)
        clear H3 h1
        go_wp2_with fail
        have hm := H4.out.mb58
        rw [hb, mb_yes hb] at hm
        refine hm.mono ?_
        clear hm
        rintro e w5 ⟨rfl, h1⟩
        clear k2 k3 k4 k5 k6 k7 k8 k9 f0 f1 f2 f3 f4 f5 f6 f7 f8 f9
        obtain ⟨_, _, _, -, -, ⟨k2, k3, k4, k5, k6, k7, k8, k9⟩, f0, f1, f2, f3, f4, f5, f6, f7, f8, f9⟩ := h1.open_
        have H5 : Hid (Tk w0 _ B L (Lb.tl (Lb.cl3 r))) := Lib.hid (h1)
        clear H4 h1
        go_wp2_with fail
        refine H5.out.num22.mono ?_
        rintro e w6 ⟨rfl, h1⟩
        clear k2 k3 k4 k5 k6 k7 k8 k9 f0 f1 f2 f3 f4 f5 f6 f7 f8 f9
        obtain ⟨_, _, _, -, -, ⟨k2, k3, k4, k5, k6, k7, k8, k9⟩, f0, f1, f2, f3, f4, f5, f6, f7, f8, f9⟩ := h1.open_
        have H6 : Hid (Tk w0 _ B L (Lb.cl4 (Lb.tl (Lb.cl3 r)))) := Lib.hid (h1.sS _)
        clear H5 h1
        go_wp2_with fail
        have hm := H6.out.mb46
        rw [hb3, mb_no hb3] at hm
        refine hm.mono ?_
        clear hm
        rintro e w7 ⟨rfl, h1⟩
        clear k2 k3 k4 k5 k6 k7 k8 k9 f0 f1 f2 f3 f4 f5 f6 f7 f8 f9
        obtain ⟨_, _, _, -, -, ⟨k2, k3, k4, k5, k6, k7, k8, k9⟩, f0, f1, f2, f3, f4, f5, f6, f7, f8, f9⟩ := h1.open_
        have H7 : Hid (Tk w0 _ B L (Lb.cl4 (Lb.tl (Lb.cl3 r)))) := Lib.hid (h1)
        clear H6 h1
        go_wp2_with fail
        go_ret
        exact ⟨rfl, H7.out⟩
      · rw [if_pos rfl]
        obtain ⟨X, hX⟩ : ∃ X, Lb.nmR 1 1048576 (Lb.tl (Lb.cl4 (Lb.tl (Lb.cl3 r)))) = X := ⟨_, rfl⟩
        rw [hX]
        have HX := Lib.hid hX
        clear hX
        go_enter Tryz.func102, Tryz.ntmps102
        go_wp2_with fail
        refine hn.mono ?_
        clear hn
        rintro e w1 ⟨rfl, h1⟩
        obtain ⟨_, _, _, -, -, ⟨k2, k3, k4, k5, k6, k7, k8, k9⟩, f0, f1, f2, f3, f4, f5, f6, f7, f8, f9⟩ := h1.open_
        have H1 : Hid (Tk w0 _ B L (r)) := Lib.hid (h1)
        clear H h1
        go_wp2_with (go_at_call 36; refine (hsr _).mono ?_; rintro e wd ⟨rfl, rfl⟩)
        refine H1.out.num12.mono ?_
        rintro e w2 ⟨rfl, h1⟩
        clear k2 k3 k4 k5 k6 k7 k8 k9 f0 f1 f2 f3 f4 f5 f6 f7 f8 f9
        obtain ⟨_, _, _, -, -, ⟨k2, k3, k4, k5, k6, k7, k8, k9⟩, f0, f1, f2, f3, f4, f5, f6, f7, f8, f9⟩ := h1.open_
        have H2 : Hid (Tk w0 _ B L (Lb.cl1 r)) := Lib.hid (h1.sH _)
        clear H1 h1
        go_wp2_with fail
        refine H2.out.mu58.mono ?_
        rintro e w3 ⟨rfl, h1⟩
        clear k2 k3 k4 k5 k6 k7 k8 k9 f0 f1 f2 f3 f4 f5 f6 f7 f8 f9
        obtain ⟨_, _, _, -, -, ⟨k2, k3, k4, k5, k6, k7, k8, k9⟩, f0, f1, f2, f3, f4, f5, f6, f7, f8, f9⟩ := h1.open_
        have H3 : Hid (Tk w0 _ B L (Lb.cl2 r)) := Lib.hid (h1)
        clear H2 h1
        go_wp2_with fail
        refine H3.out.num22.mono ?_
        rintro e w4 ⟨rfl, h1⟩
        clear k2 k3 k4 k5 k6 k7 k8 k9 f0 f1 f2 f3 f4 f5 f6 f7 f8 f9
        obtain ⟨_, _, _, -, -, ⟨k2, k3, k4, k5, k6, k7, k8, k9⟩, f0, f1, f2, f3, f4, f5, f6, f7, f8, f9⟩ := h1.open_
        have H4 : Hid (Tk w0 _ B L (Lb.cl3 r)) := Lib.hid (h1.sMi _)
        clear H3 h1
        go_wp2_with fail
        have hm := H4.out.mb58
        rw [hb, mb_yes hb] at hm
        refine hm.mono ?_
        clear hm
        rintro e w5 ⟨rfl, h1⟩
        clear k2 k3 k4 k5 k6 k7 k8 k9 f0 f1 f2 f3 f4 f5 f6 f7 f8 f9
        obtain ⟨_, _, _, -, -, ⟨k2, k3, k4, k5, k6, k7, k8, k9⟩, f0, f1, f2, f3, f4, f5, f6, f7, f8, f9⟩ := h1.open_
        have H5 : Hid (Tk w0 _ B L (Lb.tl (Lb.cl3 r))) := Lib.hid (h1)
        clear H4 h1
        go_wp2_with fail
        refine H5.out.num22.mono ?_
        rintro e w6 ⟨rfl, h1⟩
        clear k2 k3 k4 k5 k6 k7 k8 k9 f0 f1 f2 f3 f4 f5 f6 f7 f8 f9
        obtain ⟨_, _, _, -, -, ⟨k2, k3, k4, k5, k6, k7, k8, k9⟩, f0, f1, f2, f3, f4, f5, f6, f7, f8, f9⟩ := h1.open_
        have H6 : Hid (Tk w0 _ B L (Lb.cl4 (Lb.tl (Lb.cl3 r)))) := Lib.hid (h1.sS _)
        clear H5 h1
        go_wp2_with fail
        have hm := H6.out.mb46
        rw [hb3, mb_yes hb3] at hm
        refine hm.mono ?_
        clear hm
        rintro e w7 ⟨rfl, h1⟩
        clear k2 k3 k4 k5 k6 k7 k8 k9 f0 f1 f2 f3 f4 f5 f6 f7 f8 f9
        obtain ⟨_, _, _, -, -, ⟨k2, k3, k4, k5, k6, k7, k8, k9⟩, f0, f1, f2, f3, f4, f5, f6, f7, f8, f9⟩ := h1.open_
        have H7 : Hid (Tk w0 _ B L (Lb.tl (Lb.cl4 (Lb.tl (Lb.cl3 r))))) := Lib.hid (h1)
        clear H6 h1
        go_wp2_with fail
        have hs2 := H7.out.psz.nx
        clear hsz hne hix hsr hrl
        have hX := HX.out
        clear HX
        generalize Lb.tl (Lb.cl4 (Lb.tl (Lb.cl3 r))) = r2 at *
        unfold Lb.nmR at hX
        rcases dg1m r2 hs2 with ⟨hx, hd⟩ | ⟨c, q, hx, hq, hd⟩
        · rw [hd, if_neg (by decide)] at hX
          subst hX
          clear hd hs2
          have hm := H7.out.next
          rw [hx, mk_nil] at hm
          refine hm.mono ?_
          clear hm
          rintro e w8 ⟨rfl, h1⟩
          clear k2 k3 k4 k5 k6 k7 k8 k9 f0 f1 f2 f3 f4 f5 f6 f7 f8 f9
          obtain ⟨_, _, _, -, -, ⟨k2, k3, k4, k5, k6, k7, k8, k9⟩, f0, f1, f2, f3, f4, f5, f6, f7, f8, f9⟩ := h1.open_
          have H8 : Hid (Tk w0 _ B L (Lb.mkBad r2)) := Lib.hid (h1.mkBad)
          clear H7 h1
          go_wp2_with fail
          go_ret
          exact ⟨rfl, H8.out⟩
        · obtain ⟨b, hb5⟩ : ∃ b, (Lb.srt c == 1) = b := ⟨_, rfl⟩
          rw [hd, hb5] at hX
          obtain ⟨T, nT, cn, hqT, hsz, hne, hix, hsr, hrl, hnx⟩ := peek_of w0 B L hx hq hb5
          have hn := hnx _ H7.out
          have HRL := Lib.hid hrl
          clear hx hq hd hb5 hnx hs2 hrl
          cases b
          · rw [if_neg (by decide)] at hX
            subst hX
            refine hn.mono ?_
            clear hn
            rintro e w8 ⟨rfl, h1⟩
            clear k2 k3 k4 k5 k6 k7 k8 k9 f0 f1 f2 f3 f4 f5 f6 f7 f8 f9
            obtain ⟨_, _, _, -, -, ⟨k2, k3, k4, k5, k6, k7, k8, k9⟩, f0, f1, f2, f3, f4, f5, f6, f7, f8, f9⟩ := h1.open_
            have H8 : Hid (Tk w0 _ B L (Lb.mkBad r2)) := Lib.hid (h1.mkBad)
            clear H7 h1
            go_wp2_with (go_at_call 36; refine (hsr _).mono ?_; rintro e wd ⟨rfl, rfl⟩)
            go_ret
            exact ⟨rfl, H8.out⟩
          · rw [if_pos rfl] at hX
            subst hX
            refine hn.mono ?_
            clear hn
            rintro e w8 ⟨rfl, h1⟩
            clear k2 k3 k4 k5 k6 k7 k8 k9 f0 f1 f2 f3 f4 f5 f6 f7 f8 f9
            obtain ⟨g, i, n', c', a, k0, k1, hlt, hc, hn', kx, f1, H8⟩ := h1.head_ HRL.out
            clear H7 h1
            go_wp2_with (go_at_call 36; refine (hsr _).mono ?_; rintro e wd ⟨rfl, rfl⟩)
            go_ret
            exact ⟨rfl, H8.out⟩
end
end Go.Proofs.YtbhafhbaldddiaaGreatDoor
