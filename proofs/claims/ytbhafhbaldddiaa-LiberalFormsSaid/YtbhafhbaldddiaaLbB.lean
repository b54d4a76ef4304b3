/- The walk of the program's lower case. -/
import Derived.Test.YtbhafhbaldddiaaLbA
import Derived.Laws.IdiomStrings
namespace Go.Proofs.Ytbhafhbaldddiaa
open Go.RowKit
open Go
set_option linter.unusedVariables false
def lup (c : UInt8) : Bool := decide (65 ≤ c.toNat) && decide (c.toNat ≤ 90)
theorem lw_up {c : UInt8} (h : lup c = true) : ((c.toNat ||| 32 : Nat) : Int) = ((Lb.lw c).toNat : Int) ∧ (Lb.lw c).toNat = c.toNat + 32 :=
  Lb.all_bytes (p := fun c => lup c = true → ((c.toNat ||| 32 : Nat) : Int) = ((Lb.lw c).toNat : Int) ∧ (Lb.lw c).toNat = c.toNat + 32) (by decide +kernel) c h
theorem lw_no {c : UInt8} (h : lup c = false) : Lb.lw c = c :=
  Lb.all_bytes (p := fun c => lup c = false → Lb.lw c = c) (by decide +kernel) c h
theorem up_any (c : UInt8) (w : World) : Calls Try.prog 41 #[.int .u8 (c.toNat : Int)] w (fun e w' => e = .returned (.bool (lup c)) ∧ w' = w) := by
  have h : c.toNat < 256 := UInt8.toNat_lt c
  unfold lup
  generalize c.toNat = n at h
  go_enter Try.func41, Try.ntmps41
  by_cases h1 : 65 ≤ n
  · by_cases h2 : n ≤ 90
    · have e1 : (65 : Int) ≤ n := by omega
      have e2 : (n : Int) ≤ 90 := by omega
      rw [decide_eq_true h1, decide_eq_true h2]
      go_wp2
      go_ret
      exact ⟨rfl, rfl⟩
    · have e1 : (65 : Int) ≤ n := by omega
      have e2 : ¬ (n : Int) ≤ 90 := by omega
      rw [decide_eq_true h1, decide_eq_false h2]
      go_wp2
      go_ret
      exact ⟨rfl, rfl⟩
  · have e1 : ¬ (65 : Int) ≤ n := by omega
    rw [decide_eq_false h1]
    go_wp2
    go_ret
    exact ⟨rfl, rfl⟩
/-- So many bytes in a block. -/
def RU (g z : Nat) (W : World) (f : Nat → UInt8) : Prop := (∀ j, j < z → W.cell? ⟨g, j, none⟩ = some (.int .u8 ((f j).toNat : Int))) ∧ (∀ j, j < z → W.frozen? ⟨g, j, none⟩ = false) ∧ g < W.heap.size
def IdxPost (z : Nat) (f : Nat → UInt8) (w : World) (e : Ending) (w' : World) : Prop := ∃ r : Int, e = .returned (.int .i64 r) ∧ w' = w ∧ -1 ≤ r ∧ (r = -1 → ∀ j, j < z → lup (f j) = false)
set_option maxHeartbeats 1000000 in
theorem idx_any (g z cap : Nat) (hz : z ≤ 100000) (f : Nat → UInt8) (w : World) (h : RU g z w f) : Calls Try.prog 48 #[.slice (some ⟨g, 0, none⟩) z cap, .func (.func 41) #[] #[]] w (IdxPost z f w) := by
  have HC := Lib.hid h.1
  clear h
  go_enter Try.func48, Try.ntmps48
  go_wp2_with fail
  go_loop [8] (fun k => ∃ j : Nat, j ≤ z ∧ k = .int .i64 j ∧ ∀ i, i < j → lup (f i) = false) (fun k => z - (intOf k).toNat)
  case atStart => exact ⟨0, by omega, rfl, fun i h => by omega⟩
  case round =>
    obtain ⟨j, hj, rfl, hr⟩ := hrel
    have HR := Lib.hid hr
    clear hr
    by_cases hlt : j < z
    · have c0 := HC.out j hlt
      have l1 : (j : Int) < z := by omega
      obtain ⟨b, hb⟩ : ∃ b, lup (f j) = b := ⟨_, rfl⟩
      have hcl := up_any (f j)
      rw [hb] at hcl
      have HB := Lib.hid hb
      clear hb
      cases b
      · go_wp2_with (go_at_call 41; refine (hcl _).mono ?_; rintro e w1 ⟨rfl, rfl⟩)
        go_round
        case rel =>
          refine ⟨j + 1, by omega, by go_num, fun i hi => ?_⟩
          by_cases e : i = j
          · subst e; exact HB.out
          · exact HR.out i (by omega)
        case measure => simp [intOf]; omega
      · go_wp2_with (go_at_call 41; refine (hcl _).mono ?_; rintro e w1 ⟨rfl, rfl⟩)
        go_ret
        exact ⟨j, rfl, rfl, by omega, fun e => by omega⟩
    · obtain rfl : j = z := by omega
      go_wp2
      go_ret
      exact ⟨-1, rfl, rfl, by omega, fun _ => HR.out⟩
set_option maxHeartbeats 1000000 in
theorem has_any (g z cap : Nat) (hz : z ≤ 100000) (f : Nat → UInt8) (w : World) (h : RU g z w f) : Calls Try.prog 40 #[.slice (some ⟨g, 0, none⟩) z cap, .func (.func 41) #[] #[]] w (fun e w' => ∃ b, e = .returned (.bool b) ∧ w' = w ∧ (b = false → ∀ j, j < z → lup (f j) = false)) := by
  have hc := idx_any g z cap hz f w h
  go_enter Try.func40, Try.ntmps40
  go_wp2_with (go_at_call 48; refine hc.mono ?_; rintro e w1 ⟨r, rfl, rfl, h0, h1⟩)
  go_ret
  refine ⟨_, rfl, rfl, fun e => h1 ?_⟩
  simp at e
  omega
def lwAt (l : List UInt8) (i j : Nat) : UInt8 := if j < i then Lb.lw (l.getD j 0) else l.getD j 0
theorem RU.put {g : Nat} {W : World} {l : List UInt8} {i : Nat} (h : RU g l.length W (lwAt l i)) (hi : i < l.length) : RU g l.length (W.setCell ⟨g, i, none⟩ (.int .u8 ((Lb.lw (l.getD i 0)).toNat : Int))) (lwAt l (i + 1)) := by
  obtain ⟨h1, h2, h3⟩ := h
  refine ⟨fun j hj => ?_, fun j hj => by rw [World.frozen?_setCell]; exact h2 j hj, by simpa using h3⟩
  by_cases e : j = i
  · subst e
    rw [World.cell?_setCell_same _ _ _ (h1 _ hj)]
    unfold lwAt
    rw [if_pos (by omega)]
  · rw [World.cell?_setCell_other _ _ _ _ (by intro k; injection k with _ k; omega), h1 j hj]
    unfold lwAt
    by_cases q : j < i
    · rw [if_pos q, if_pos (by omega)]
    · rw [if_neg q, if_neg (by omega)]
theorem RU.skip {g : Nat} {W : World} {l : List UInt8} {i : Nat} (h : RU g l.length W (lwAt l i)) (hn : Lb.lw (l.getD i 0) = l.getD i 0) : RU g l.length W (lwAt l (i + 1)) := by
  obtain ⟨h1, h2, h3⟩ := h
  refine ⟨fun j hj => ?_, h2, h3⟩
  rw [h1 j hj]
  unfold lwAt
  by_cases e : j = i
  · subst e; rw [if_neg (by omega), if_pos (by omega), hn]
  · by_cases q : j < i
    · rw [if_pos q, if_pos (by omega)]
    · rw [if_neg q, if_neg (by omega)]
theorem lw_none (l : List UInt8) (h : ∀ j, j < l.length → lup (lwAt l 0 j) = false) : l.map Lb.lw = l := by
  apply List.ext_getElem
  · simp
  · intro i h1 h2
    have := lw_no (h i h2)
    unfold lwAt at this
    rw [if_neg (by omega)] at this
    simpa [List.getD_eq_getElem?_getD, h2] using this
theorem mkrow (l : List UInt8) (cap : Nat) (w : World) (e : TypeId) : RU w.heap.size l.length (w.alloc (.cells (bytesRow (Ml.mk l) cap) e ((bytesRow (Ml.mk l) cap).size, (bytesRow (Ml.mk l) cap).size + 1))).drew (lwAt l 0) := by
  have hat : ∀ j, j < l.length → (bytesRow (Ml.mk l) cap)[j]? = some (.int .u8 ((lwAt l 0 j).toNat : Int)) := fun j hj => by
    rw [bytesRow_at (Ml.mk l) cap j hj]
    unfold lwAt
    rw [if_neg (by omega)]
    have : (Ml.mk l).data[j]'hj = l.getD j 0 := by
      show l.toArray[j]'hj = _
      simp [List.getD_eq_getElem?_getD, hj]
    exact congrArg (fun x : UInt8 => some (Value.int .u8 (x.toNat : Int))) this
  generalize bytesRow (Ml.mk l) cap = A at hat
  refine ⟨fun j hj => ?_, fun j hj => ?_, ?_⟩
  · show (w.alloc (.cells A e _)).cell? ⟨w.heap.size, j, none⟩ = _
    rw [World.cell?_alloc_mark, hat j hj]
  · show (w.alloc (.cells A e _)).frozen? ⟨w.heap.size, j, none⟩ = _
    have hs : j < A.size := (Array.getElem?_eq_some_iff.1 (hat j hj)).1
    have e1 : (w.alloc (.cells A e (A.size, A.size + 1))).heap[w.heap.size]? = some (.cells A e (A.size, A.size + 1)) := (MapKept.heap_alloc w _).1
    unfold World.frozen?
    simp only [e1]
    simp
    omega
  · show w.heap.size < (w.alloc _).heap.size
    simp
theorem bytes_of (x : List UInt8) (w : World) : ∃ cap W2, (convert 9 39 (.string (Ml.mk x))).run Try.prog w = .ok (.slice (some ⟨w.heap.size, 0, none⟩) x.length cap) W2 ∧ RU w.heap.size x.length W2 (lwAt x 0) ∧ Below w.heap.size w W2 := by
  have hconv := run_bytes_of_string (P := Try.prog) w 9 39 5 (Ml.mk x) (by kernel_rfl) (by kernel_rfl) (by kernel_rfl)
  exact ⟨_, _, hconv, mkrow x (grownCap w (Ml.mk x).size 0 5) w 5, (bbox (Below.refl _ _) _).drew⟩
def LowPost (l : List UInt8) (w : World) (e : Ending) (w' : World) : Prop := e = .returned (.string (Ml.mk (l.map Lb.lw))) ∧ Below w.heap.size w w'
set_option maxHeartbeats 2000000 in
theorem low_any (l : List UInt8) (hl : l.length ≤ 100000) (w : World) : Calls Try.prog 23 #[.string (Ml.mk l)] w (LowPost l w) := by
  obtain ⟨L, hL⟩ : ∃ L, l.map Lb.lw = L := ⟨_, rfl⟩
  unfold LowPost
  rw [hL]
  have HL := Lib.hid hL
  clear hL
  have hconv := run_bytes_of_string (P := Try.prog) w 9 39 5 (Ml.mk l) (by kernel_rfl) (by kernel_rfl) (by kernel_rfl)
  have hrow := mkrow l (grownCap w (Ml.mk l).size 0 5) w 5
  have hB : Below w.heap.size w (w.alloc (.cells (bytesRow (Ml.mk l) (grownCap w (Ml.mk l).size 0 5)) 5 ((bytesRow (Ml.mk l) (grownCap w (Ml.mk l).size 0 5)).size, (bytesRow (Ml.mk l) (grownCap w (Ml.mk l).size 0 5)).size + 1))).drew := (bbox (Below.refl _ _) _).drew
  have hsz : (Ml.mk l).size = l.length := rfl
  rw [hsz] at hconv hrow hB
  have hall : (convert 9 39 (.string (Ml.mk l))).run Try.prog w = .ok (.slice (some ⟨w.heap.size, 0, none⟩) l.length (grownCap w l.length 0 5)) (w.alloc (.cells (bytesRow (Ml.mk l) (grownCap w l.length 0 5)) 5 ((bytesRow (Ml.mk l) (grownCap w l.length 0 5)).size, (bytesRow (Ml.mk l) (grownCap w l.length 0 5)).size + 1))).drew := hconv
  clear hconv
  generalize (w.alloc (.cells (bytesRow (Ml.mk l) (grownCap w l.length 0 5)) 5 ((bytesRow (Ml.mk l) (grownCap w l.length 0 5)).size, (bytesRow (Ml.mk l) (grownCap w l.length 0 5)).size + 1))).drew = W1 at hall hrow hB
  generalize grownCap w l.length 0 5 = cap at hall
  have HR := Lib.hid hrow
  have HBB := Lib.hid hB
  have hc := has_any w.heap.size l.length cap hl (lwAt l 0) W1 hrow
  clear hrow hB
  obtain ⟨z, hz⟩ : ∃ z, l.length = z := ⟨_, rfl⟩
  rw [hz] at hall hc hl
  have HZ := Lib.hid hz
  clear hz
  go_enter Try.func23, Try.ntmps23
  go_wp2_with fail
  go_wp2_with (go_at_call 40; refine hc.mono ?_; rintro e w1 ⟨b, rfl, rfl, hb⟩; have HN := Lib.hid hb; clear hb; cases b)
  · have hno := lw_none l (fun j hj => HN.out trivial j (by rw [← HZ.out]; exact hj))
    have hs : Ml.mk l = Ml.mk L := by rw [← HL.out, hno]
    clear hno
    rw [hs]
    clear hs
    go_wp2
    go_ret
    exact ⟨rfl, HBB.out⟩
  · go_wp2_with fail
    go_loopw [14] (fun k wr => ∃ j : Nat, j ≤ z ∧ k = .int .i64 j ∧ RU w.heap.size l.length wr (lwAt l j) ∧ Below w.heap.size w wr) (fun k _ => z - (intOf k).toNat)
    case atStart => exact ⟨0, by omega, rfl, HR.out, HBB.out⟩
    case round =>
      obtain ⟨j, hj, rfl, hR, hB⟩ := hrel
      have HRR := Lib.hid hR
      have HB := Lib.hid hB
      by_cases hlt : j < z
      · have hlt' : j < l.length := by rw [HZ.out]; exact hlt
        have c0 := hR.1 j hlt'
        have f0 := hR.2.1 j hlt'
        have e0 : lwAt l j j = l.getD j 0 := by unfold lwAt; rw [if_neg (by omega)]
        rw [e0] at c0
        clear hR hB e0 hlt'
        have l1 : (j : Int) < z := by omega
        obtain ⟨c, hc⟩ : ∃ c, l.getD j 0 = c := ⟨_, rfl⟩
        rw [hc] at c0
        have HC := Lib.hid hc
        clear hc
        obtain ⟨b, hb⟩ : ∃ b, lup c = b := ⟨_, rfl⟩
        cases b
        · have hno := lw_no hb
          have hR2 : RU w.heap.size l.length wr (lwAt l (j + 1)) := HRR.out.skip (by rw [HC.out]; exact hno)
          have HR2 := Lib.hid hR2
          clear hR2 hno
          unfold lup at hb
          have hb1 : ¬ ((65 : Int) ≤ c.toNat ∧ (c.toNat : Int) ≤ 90) := by simp at hb; omega
          clear hb
          generalize c.toNat = n at *
          by_cases h1 : (65 : Int) ≤ n
          · have h2 : ¬ (n : Int) ≤ 90 := fun k => hb1 ⟨h1, k⟩
            clear hb1
            go_wp2
            go_roundw
            case rel => exact ⟨j + 1, by omega, by go_num, HR2.out, HB.out⟩
            case measure => simp [intOf]; omega
          · clear hb1
            go_wp2
            go_roundw
            case rel => exact ⟨j + 1, by omega, by go_num, HR2.out, HB.out⟩
            case measure => simp [intOf]; omega
        · have hu := (lw_up hb).1
          have hput := HRR.out.put (i := j) (by rw [HZ.out]; exact hlt)
          rw [HC.out] at hput
          have HP := Lib.hid hput
          clear hput
          unfold lup at hb
          have hb1 : (65 : Int) ≤ c.toNat := by simp at hb; omega
          have hb2 : (c.toNat : Int) ≤ 90 := by simp at hb; omega
          clear hb
          have h256 : c.toNat < 256 := UInt8.toNat_lt c
          have hor := or32 h256
          rw [hu] at hor
          clear hu h256
          generalize (Lb.lw c).toNat = m at *
          generalize c.toNat = n at *
          go_wp2
          go_roundw
          case rel => exact ⟨j + 1, by omega, by go_num, HP.out, Below.setCell HB.out (Nat.le_refl _) _⟩
          case measure => simp [intOf]; omega
      · obtain rfl : j = z := by omega
        have hback := run_convert_bytes_back (P := Try.prog) wr 39 9 5 ⟨w.heap.size, 0, none⟩ cap (l.map Lb.lw) Try.underlying39 Try.underlying5 Try.underlying9 (fun i hi => by
          have hi' : i < l.length := by simpa using hi
          rw [Go.WideShapes.add_plain, Nat.zero_add, HRR.out.1 i hi']
          unfold lwAt
          rw [if_pos (by rw [← HZ.out]; exact hi')]
          simp [List.getD_eq_getElem?_getD, hi'])
        have hlen : (l.map Lb.lw).length = j := by rw [List.length_map]; exact HZ.out
        rw [hlen, HL.out] at hback
        have hback2 : (convert 39 9 (.slice (some ⟨w.heap.size, 0, none⟩) j cap)).run Try.prog wr = .ok (.string (Ml.mk L)) wr := hback
        clear hR hB hlen hback
        go_wp2
        go_ret
        exact ⟨rfl, HB.out⟩
end Go.Proofs.Ytbhafhbaldddiaa
