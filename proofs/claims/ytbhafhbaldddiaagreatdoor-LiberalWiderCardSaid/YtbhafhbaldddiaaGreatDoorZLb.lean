/- The walk of the program's lower case. The walks of a liberal reader's small steps: next, digits, maybe, must. The walks of a liberal reader's steps: maybe, must. -/
import Derived.Test.YtbhafhbaldddiaaGreatDoorZLa
import Derived.Laws.IdiomStrings
import Derived.Lib.Strings
namespace Go.Proofs.YtbhafhbaldddiaaGreatDoor
open Go.RowKit
open Go
set_option linter.unusedVariables false
def lup (c : UInt8) : Bool := decide (65 ≤ c.toNat) && decide (c.toNat ≤ 90)
theorem lw_up {c : UInt8} (h : lup c = true) : ((c.toNat ||| 32 : Nat) : Int) = ((Lb.lw c).toNat : Int) ∧ (Lb.lw c).toNat = c.toNat + 32 :=
  Lb.all_bytes (p := fun c => lup c = true → ((c.toNat ||| 32 : Nat) : Int) = ((Lb.lw c).toNat : Int) ∧ (Lb.lw c).toNat = c.toNat + 32) (by decide +kernel) c h
theorem lw_no {c : UInt8} (h : lup c = false) : Lb.lw c = c :=
  Lb.all_bytes (p := fun c => lup c = false → Lb.lw c = c) (by decide +kernel) c h
theorem up_any (c : UInt8) (w : World) : Calls Tryz.prog 90 #[.int .u8 (c.toNat : Int)] w (fun e w' => e = .returned (.bool (lup c)) ∧ w' = w) := by
  have h : c.toNat < 256 := UInt8.toNat_lt c
  unfold lup
  generalize c.toNat = n at h
  go_enter Tryz.func90, Tryz.ntmps90
  by_cases h1 : 65 ≤ n
  · by_cases h2 : n ≤ 90
    · have e1 : (65 : Int) ≤ n := by omega
      have e2 : (n : Int) ≤ 90 := by omega
      rw [decide_eq_true h1, decide_eq_true h2]
      go_wp2
      go_ret
      exact ⟨rfl, rfl⟩
    · have e1 : (65 : Int) ≤ n := by omega
      have e2 : ¬ (n : Int) ≤ 90 := by omega
      rw [decide_eq_true h1, decide_eq_false h2]
      go_wp2
      go_ret
      exact ⟨rfl, rfl⟩
  · have e1 : ¬ (65 : Int) ≤ n := by omega
    rw [decide_eq_false h1]
    go_wp2
    go_ret
    exact ⟨rfl, rfl⟩
/-- So many bytes in a block. -/
def RU (g z : Nat) (W : World) (f : Nat → UInt8) : Prop := (∀ j, j < z → W.cell? ⟨g, j, none⟩ = some (.int .u8 ((f j).toNat : Int))) ∧ (∀ j, j < z → W.frozen? ⟨g, j, none⟩ = false) ∧ g < W.heap.size
def IdxPost (z : Nat) (f : Nat → UInt8) (w : World) (e : Ending) (w' : World) : Prop := ∃ r : Int, e = .returned (.int .i64 r) ∧ w' = w ∧ -1 ≤ r ∧ (r = -1 → ∀ j, j < z → lup (f j) = false)
set_option maxHeartbeats 1000000 in
theorem idx_any (g z cap : Nat) (hz : z ≤ 100000) (f : Nat → UInt8) (w : World) (h : RU g z w f) : Calls Tryz.prog 112 #[.slice (some ⟨g, 0, none⟩) z cap, .func (.func 90) #[] #[]] w (IdxPost z f w) := by
  have HC := Lib.hid h.1
  clear h
  go_enter Tryz.func112, Tryz.ntmps112
  go_wp2_with fail
  go_loop [8] (fun k => ∃ j : Nat, j ≤ z ∧ k = .int .i64 j ∧ ∀ i, i < j → lup (f i) = false) (fun k => z - (intOf k).toNat)
  case atStart => exact ⟨0, by omega, rfl, fun i h => by omega⟩
  case round =>
    obtain ⟨j, hj, rfl, hr⟩ := hrel
    have HR := Lib.hid hr
    clear hr
    by_cases hlt : j < z
    · have c0 := HC.out j hlt
      have l1 : (j : Int) < z := by omega
      obtain ⟨b, hb⟩ : ∃ b, lup (f j) = b := ⟨_, rfl⟩
      have hcl := up_any (f j)
      rw [hb] at hcl
      have HB := Lib.hid hb
      clear hb
      cases b
      · go_wp2_with (go_at_call 90; refine (hcl _).mono ?_; rintro e w1 ⟨rfl, rfl⟩)
        go_round
        case rel =>
          refine ⟨j + 1, by omega, by go_num, fun i hi => ?_⟩
          by_cases e : i = j
          · subst e; exact HB.out
          · exact HR.out i (by omega)
        case measure => simp [intOf]; omega
      · go_wp2_with (go_at_call 90; refine (hcl _).mono ?_; rintro e w1 ⟨rfl, rfl⟩)
        go_ret
        exact ⟨j, rfl, rfl, by omega, fun e => by omega⟩
    · obtain rfl : j = z := by omega
      go_wp2
      go_ret
      exact ⟨-1, rfl, rfl, by omega, fun _ => HR.out⟩
set_option maxHeartbeats 1000000 in
theorem has_any (g z cap : Nat) (hz : z ≤ 100000) (f : Nat → UInt8) (w : World) (h : RU g z w f) : Calls Tryz.prog 89 #[.slice (some ⟨g, 0, none⟩) z cap, .func (.func 90) #[] #[]] w (fun e w' => ∃ b, e = .returned (.bool b) ∧ w' = w ∧ (b = false → ∀ j, j < z → lup (f j) = false)) := by
  have hc := idx_any g z cap hz f w h
  go_enter Tryz.func89, Tryz.ntmps89
  go_wp2_with (go_at_call 112; refine hc.mono ?_; rintro e w1 ⟨r, rfl, rfl, h0, h1⟩)
  go_ret
  refine ⟨_, rfl, rfl, fun e => h1 ?_⟩
  simp at e
  omega
def lwAt (l : List UInt8) (i j : Nat) : UInt8 := if j < i then Lb.lw (l.getD j 0) else l.getD j 0
theorem RU.put {g : Nat} {W : World} {l : List UInt8} {i : Nat} (h : RU g l.length W (lwAt l i)) (hi : i < l.length) : RU g l.length (W.setCell ⟨g, i, none⟩ (.int .u8 ((Lb.lw (l.getD i 0)).toNat : Int))) (lwAt l (i + 1)) := by
  obtain ⟨h1, h2, h3⟩ := h
  refine ⟨fun j hj => ?_, fun j hj => by rw [World.frozen?_setCell]; exact h2 j hj, by simpa using h3⟩
  by_cases e : j = i
  · subst e
    rw [World.cell?_setCell_same _ _ _ (h1 _ hj)]
    unfold lwAt
    rw [if_pos (by omega)]
  · rw [World.cell?_setCell_other _ _ _ _ (by intro k; injection k with _ k; omega), h1 j hj]
    unfold lwAt
    by_cases q : j < i
    · rw [if_pos q, if_pos (by omega)]
    · rw [if_neg q, if_neg (by omega)]
theorem RU.skip {g : Nat} {W : World} {l : List UInt8} {i : Nat} (h : RU g l.length W (lwAt l i)) (hn : Lb.lw (l.getD i 0) = l.getD i 0) : RU g l.length W (lwAt l (i + 1)) := by
  obtain ⟨h1, h2, h3⟩ := h
  refine ⟨fun j hj => ?_, h2, h3⟩
  rw [h1 j hj]
  unfold lwAt
  by_cases e : j = i
  · subst e; rw [if_neg (by omega), if_pos (by omega), hn]
  · by_cases q : j < i
    · rw [if_pos q, if_pos (by omega)]
    · rw [if_neg q, if_neg (by omega)]
theorem lw_none (l : List UInt8) (h : ∀ j, j < l.length → lup (lwAt l 0 j) = false) : l.map Lb.lw = l := by
  apply List.ext_getElem
  · simp
  · intro i h1 h2
    have := lw_no (h i h2)
    unfold lwAt at this
    rw [if_neg (by omega)] at this
    simpa [List.getD_eq_getElem?_getD, h2] using this
theorem mkrow (l : List UInt8) (cap : Nat) (w : World) (e : TypeId) : RU w.heap.size l.length (w.alloc (.cells (bytesRow (Ml.mk l) cap) e ((bytesRow (Ml.mk l) cap).size, (bytesRow (Ml.mk l) cap).size + 1))).drew (lwAt l 0) := by
  have hat : ∀ j, j < l.length → (bytesRow (Ml.mk l) cap)[j]? = some (.int .u8 ((lwAt l 0 j).toNat : Int)) := fun j hj => by
    rw [bytesRow_at (Ml.mk l) cap j hj]
    unfold lwAt
    rw [if_neg (by omega)]
    have : (Ml.mk l).data[j]'hj = l.getD j 0 := by
      show l.toArray[j]'hj = _
      simp [List.getD_eq_getElem?_getD, hj]
    exact congrArg (fun x : UInt8 => some (Value.int .u8 (x.toNat : Int))) this
  generalize bytesRow (Ml.mk l) cap = A at hat
  refine ⟨fun j hj => ?_, fun j hj => ?_, ?_⟩
  · show (w.alloc (.cells A e _)).cell? ⟨w.heap.size, j, none⟩ = _
    rw [World.cell?_alloc_mark, hat j hj]
  · show (w.alloc (.cells A e _)).frozen? ⟨w.heap.size, j, none⟩ = _
    have hs : j < A.size := (Array.getElem?_eq_some_iff.1 (hat j hj)).1
    have e1 : (w.alloc (.cells A e (A.size, A.size + 1))).heap[w.heap.size]? = some (.cells A e (A.size, A.size + 1)) := (MapKept.heap_alloc w _).1
    unfold World.frozen?
    simp only [e1]
    simp
    omega
  · show w.heap.size < (w.alloc _).heap.size
    simp
theorem bytes_of (x : List UInt8) (w : World) : ∃ cap W2, (convert 9 88 (.string (Ml.mk x))).run Tryz.prog w = .ok (.slice (some ⟨w.heap.size, 0, none⟩) x.length cap) W2 ∧ RU w.heap.size x.length W2 (lwAt x 0) ∧ Below w.heap.size w W2 := by
  have hconv := run_bytes_of_string (P := Tryz.prog) w 9 88 5 (Ml.mk x) (by kernel_rfl) (by kernel_rfl) (by kernel_rfl)
  exact ⟨_, _, hconv, mkrow x (grownCap w (Ml.mk x).size 0 5) w 5, (bbox (Below.refl _ _) _).drew⟩
def LowPost (l : List UInt8) (w : World) (e : Ending) (w' : World) : Prop := e = .returned (.string (Ml.mk (l.map Lb.lw))) ∧ Below w.heap.size w w'
set_option maxHeartbeats 2000000 in
theorem low_any (l : List UInt8) (hl : l.length ≤ 100000) (w : World) : Calls Tryz.prog 35 #[.string (Ml.mk l)] w (LowPost l w) := by
  obtain ⟨L, hL⟩ : ∃ L, l.map Lb.lw = L := ⟨_, rfl⟩
  unfold LowPost
  rw [hL]
  have HL := Lib.hid hL
  clear hL
  have hconv := run_bytes_of_string (P := Tryz.prog) w 9 88 5 (Ml.mk l) (by kernel_rfl) (by kernel_rfl) (by kernel_rfl)
  have hrow := mkrow l (grownCap w (Ml.mk l).size 0 5) w 5
  have hB : Below w.heap.size w (w.alloc (.cells (bytesRow (Ml.mk l) (grownCap w (Ml.mk l).size 0 5)) 5 ((bytesRow (Ml.mk l) (grownCap w (Ml.mk l).size 0 5)).size, (bytesRow (Ml.mk l) (grownCap w (Ml.mk l).size 0 5)).size + 1))).drew := (bbox (Below.refl _ _) _).drew
  have hsz : (Ml.mk l).size = l.length := rfl
  rw [hsz] at hconv hrow hB
  have hall : (convert 9 88 (.string (Ml.mk l))).run Tryz.prog w = .ok (.slice (some ⟨w.heap.size, 0, none⟩) l.length (grownCap w l.length 0 5)) (w.alloc (.cells (bytesRow (Ml.mk l) (grownCap w l.length 0 5)) 5 ((bytesRow (Ml.mk l) (grownCap w l.length 0 5)).size, (bytesRow (Ml.mk l) (grownCap w l.length 0 5)).size + 1))).drew := hconv
  clear hconv
  generalize (w.alloc (.cells (bytesRow (Ml.mk l) (grownCap w l.length 0 5)) 5 ((bytesRow (Ml.mk l) (grownCap w l.length 0 5)).size, (bytesRow (Ml.mk l) (grownCap w l.length 0 5)).size + 1))).drew = W1 at hall hrow hB
  generalize grownCap w l.length 0 5 = cap at hall
  have HR := Lib.hid hrow
  have HBB := Lib.hid hB
  have hc := has_any w.heap.size l.length cap hl (lwAt l 0) W1 hrow
  clear hrow hB
  obtain ⟨z, hz⟩ : ∃ z, l.length = z := ⟨_, rfl⟩
  rw [hz] at hall hc hl
  have HZ := Lib.hid hz
  clear hz
  go_enter Tryz.func35, Tryz.ntmps35
  go_wp2_with fail
  go_wp2_with (go_at_call 89; refine hc.mono ?_; rintro e w1 ⟨b, rfl, rfl, hb⟩; have HN := Lib.hid hb; clear hb; cases b)
  · have hno := lw_none l (fun j hj => HN.out trivial j (by rw [← HZ.out]; exact hj))
    have hs : Ml.mk l = Ml.mk L := by rw [← HL.out, hno]
    clear hno
    rw [hs]
    clear hs
    go_wp2
    go_ret
    exact ⟨rfl, HBB.out⟩
  · go_wp2_with fail
    go_loopw [14] (fun k wr => ∃ j : Nat, j ≤ z ∧ k = .int .i64 j ∧ RU w.heap.size l.length wr (lwAt l j) ∧ Below w.heap.size w wr) (fun k _ => z - (intOf k).toNat)
    case atStart => exact ⟨0, by omega, rfl, HR.out, HBB.out⟩
    case round =>
      obtain ⟨j, hj, rfl, hR, hB⟩ := hrel
      have HRR := Lib.hid hR
      have HB := Lib.hid hB
      by_cases hlt : j < z
      · have hlt' : j < l.length := by rw [HZ.out]; exact hlt
        have c0 := hR.1 j hlt'
        have f0 := hR.2.1 j hlt'
        have e0 : lwAt l j j = l.getD j 0 := by unfold lwAt; rw [if_neg (by omega)]
        rw [e0] at c0
        clear hR hB e0 hlt'
        have l1 : (j : Int) < z := by omega
        obtain ⟨c, hc⟩ : ∃ c, l.getD j 0 = c := ⟨_, rfl⟩
        rw [hc] at c0
        have HC := Lib.hid hc
        clear hc
        obtain ⟨b, hb⟩ : ∃ b, lup c = b := ⟨_, rfl⟩
        cases b
        · have hno := lw_no hb
          have hR2 : RU w.heap.size l.length wr (lwAt l (j + 1)) := HRR.out.skip (by rw [HC.out]; exact hno)
          have HR2 := Lib.hid hR2
          clear hR2 hno
          unfold lup at hb
          have hb1 : ¬ ((65 : Int) ≤ c.toNat ∧ (c.toNat : Int) ≤ 90) := by simp at hb; omega
          clear hb
          generalize c.toNat = n at *
          by_cases h1 : (65 : Int) ≤ n
          · have h2 : ¬ (n : Int) ≤ 90 := fun k => hb1 ⟨h1, k⟩
            clear hb1
            go_wp2
            go_roundw
            case rel => exact ⟨j + 1, by omega, by go_num, HR2.out, HB.out⟩
            case measure => simp [intOf]; omega
          · clear hb1
            go_wp2
            go_roundw
            case rel => exact ⟨j + 1, by omega, by go_num, HR2.out, HB.out⟩
            case measure => simp [intOf]; omega
        · have hu := (lw_up hb).1
          have hput := HRR.out.put (i := j) (by rw [HZ.out]; exact hlt)
          rw [HC.out] at hput
          have HP := Lib.hid hput
          clear hput
          unfold lup at hb
          have hb1 : (65 : Int) ≤ c.toNat := by simp at hb; omega
          have hb2 : (c.toNat : Int) ≤ 90 := by simp at hb; omega
          clear hb
          have h256 : c.toNat < 256 := UInt8.toNat_lt c
          have hor := or32 h256
          rw [hu] at hor
          clear hu h256
          generalize (Lb.lw c).toNat = m at *
          generalize c.toNat = n at *
          go_wp2
          go_roundw
          case rel => exact ⟨j + 1, by omega, by go_num, HP.out, Below.setCell HB.out (Nat.le_refl _) _⟩
          case measure => simp [intOf]; omega
      · obtain rfl : j = z := by omega
        have hback := run_convert_bytes_back (P := Tryz.prog) wr 88 9 5 ⟨w.heap.size, 0, none⟩ cap (l.map Lb.lw) Tryz.underlying88 Tryz.underlying5 Tryz.underlying9 (fun i hi => by
          have hi' : i < l.length := by simpa using hi
          rw [Go.WideShapes.add_plain, Nat.zero_add, HRR.out.1 i hi']
          unfold lwAt
          rw [if_pos (by rw [← HZ.out]; exact hi')]
          simp [List.getD_eq_getElem?_getD, hi'])
        have hlen : (l.map Lb.lw).length = j := by rw [List.length_map]; exact HZ.out
        rw [hlen, HL.out] at hback
        have hback2 : (convert 88 9 (.slice (some ⟨w.heap.size, 0, none⟩) j cap)).run Tryz.prog wr = .ok (.string (Ml.mk L)) wr := hback
        clear hR hB hlen hback
        go_wp2
        go_ret
        exact ⟨rfl, HB.out⟩
end Go.Proofs.YtbhafhbaldddiaaGreatDoor
namespace Go.Proofs.YtbhafhbaldddiaaGreatDoor
open Go.RowKit
open Go
open Lb (R Wd)
set_option linter.unusedVariables false
section
variable {w0 W : World} {B : Nat} {r : R}
/-- What a reader's block holds, as the walk wants it. -/
theorem Rd.open_ (h : Rd w0 W B r) : ∃ p c, (W.cell? ⟨B, 0, none⟩ = some (.slice p r.l.length c) ∧ r.l.length ≤ c) ∧ PRow W B (.slice p r.l.length c) r.l ∧ (W.cell? ⟨B, 1, none⟩ = some (.bool r.bad) ∧ W.cell? ⟨B, 2, none⟩ = some (.int .i64 r.y) ∧ W.cell? ⟨B, 3, none⟩ = some (.int .i64 r.mo) ∧ W.cell? ⟨B, 4, none⟩ = some (.int .i64 r.d) ∧ W.cell? ⟨B, 5, none⟩ = some (.int .i64 r.h) ∧ W.cell? ⟨B, 6, none⟩ = some (.int .i64 r.mi) ∧ W.cell? ⟨B, 7, none⟩ = some (.int .i64 r.s) ∧ W.cell? ⟨B, 8, none⟩ = some (.int .i64 r.east)) ∧
    (W.frozen? ⟨B, 0, none⟩ = false ∧ W.frozen? ⟨B, 1, none⟩ = false ∧ W.frozen? ⟨B, 2, none⟩ = false ∧ W.frozen? ⟨B, 3, none⟩ = false ∧ W.frozen? ⟨B, 4, none⟩ = false ∧ W.frozen? ⟨B, 5, none⟩ = false ∧ W.frozen? ⟨B, 6, none⟩ = false ∧ W.frozen? ⟨B, 7, none⟩ = false ∧ W.frozen? ⟨B, 8, none⟩ = false) := by
  obtain ⟨⟨v, hv, hp⟩, hf, _⟩ := h
  obtain ⟨p, c, rfl, hc, hr⟩ := hp
  exact ⟨p, c, ⟨hv 0 (by omega), hc⟩, ⟨p, c, rfl, hc, hr⟩, ⟨hv 1 (by omega), hv 2 (by omega), hv 3 (by omega), hv 4 (by omega), hv 5 (by omega), hv 6 (by omega), hv 7 (by omega), hv 8 (by omega)⟩, hf 0 (by omega), hf 1 (by omega), hf 2 (by omega), hf 3 (by omega), hf 4 (by omega), hf 5 (by omega), hf 6 (by omega), hf 7 (by omega), hf 8 (by omega)⟩
theorem PRow.first {x : Wd} {t : List Wd} {p : Option Addr} {c : Nat} (h : PRow W B (.slice p (t.length + 1) c) (x :: t)) : ∃ g i, p = some ⟨g, i, none⟩ ∧ W.cell? ⟨g, i, none⟩ = some (.string (Ml.mk x)) ∧ PRow W B (.slice (some ⟨g, if 1 < c then i + 1 else i, none⟩) t.length (c - 1)) t := by
  obtain ⟨p', c', e, hc, hr⟩ := h
  obtain ⟨g, i, e1, hg, hs⟩ := hr (by simp)
  injection e with e2 _ e3
  subst e2; subst e3; subst e1
  exact ⟨g, i, rfl, by have := hs 0 x rfl; simpa using this, PRow.tl (by simpa using hc) hg hs⟩
set_option maxHeartbeats 1000000 in
theorem Rd.next (h : Rd w0 W B r) : Calls Tryz.prog 63 #[.pointer (some ⟨B, 0, none⟩)] W (RdPost (.string (Ml.mk (Lb.nx r))) w0 B r) := by
  obtain ⟨p, c, ⟨k0, hc⟩, hp, -⟩ := h.open_
  have H := Lib.hid h
  clear h
  unfold Lb.nx RdPost
  obtain ⟨l, hl⟩ : ∃ l, r.l = l := ⟨_, rfl⟩
  rw [hl] at k0 hc hp ⊢
  clear hl
  cases l with
  | nil =>
    go_enter Tryz.func63, Tryz.ntmps63
    go_wp2_with fail
    go_ret
    exact ⟨rfl, H.out⟩
  | cons x t =>
    obtain ⟨g, i, rfl, hx, -⟩ := hp.first
    rw [List.length_cons] at k0
    have hne : ¬ ((t.length : Int) + 1 = 0) := by omega
    clear hp hc
    go_enter Tryz.func63, Tryz.ntmps63
    go_wp2_with fail
    go_ret
    exact ⟨rfl, H.out⟩
theorem lne_nil {s : ByteArray} (h : s.size ≠ 0) : (s.toList == []) = false := by
  cases e : s.toList == [] with
  | false => rfl
  | true =>
    have := congrArg List.length (eq_of_beq e)
    rw [Go.Lib.toList_data, Array.length_toList] at this
    exact absurd this h
set_option maxHeartbeats 1000000 in
theorem Rd.digits (h : Rd w0 W B r) (lo hi : Nat) (hlo : 1 ≤ lo) (hhi : hi ≤ 1048576) : Calls Tryz.prog 59 #[.pointer (some ⟨B, 0, none⟩), .int .i64 (lo : Int), .int .i64 (hi : Int)] W (RdPost (.bool (Lb.dgs lo hi r)) w0 B r) := by
  have hn := h.next
  have hs := h.2.2.2.2.2.nx
  unfold RdPost Lb.dgs
  clear h
  generalize Lb.nx r = S at hn hs ⊢
  cases S with
  | nil =>
    have hz : (Ml.mk []).size = 0 := rfl
    have hd : Lb.dgW lo hi [] = false := rfl
    rw [hd]
    clear hd
    generalize Ml.mk [] = T at hn hz
    have l1 : ¬ (lo : Int) ≤ 0 := by omega
    go_enter Tryz.func59, Tryz.ntmps59
    go_wp2_with (go_at_call 63; refine hn.mono ?_; rintro e w1 ⟨rfl, h1⟩; have H := Lib.hid h1; clear h1)
    go_ret
    exact ⟨rfl, H.out⟩
  | cons c q =>
    have hsz : (Ml.mk (c :: q)).size = q.length + 1 := rfl
    have hne := lne_nil (s := Ml.mk (c :: q)) (by rw [hsz]; omega)
    have hix : ∀ h, (((Ml.mk (c :: q))[0]'h).toNat : Int) = (c.toNat : Int) := fun h => rfl
    have hsr := srt_any c
    have hq : q.length ≤ 100000 := by simp at hs; omega
    obtain ⟨b, hb⟩ : ∃ b, Lb.dgW lo hi (c :: q) = b := ⟨_, rfl⟩
    rw [hb]
    replace hb : (decide (lo ≤ q.length + 1) && decide (q.length + 1 ≤ hi) && (Lb.srt c == 1)) = b := hb
    generalize Ml.mk (c :: q) = T at hn hsz hne hix
    generalize Lb.srt c = k at hsr hb
    generalize (c.toNat : Int) = cn at hsr hix
    generalize q.length = n at hsz hb hq
    have HB := Lib.hid hb
    clear hb hs
    by_cases l1 : (lo : Int) ≤ (n : Int) + 1
    · by_cases l2 : (n : Int) + 1 ≤ hi
      · by_cases l3 : k = 1
        · subst l3
          go_enter Tryz.func59, Tryz.ntmps59
          go_wp2_with (first | (go_at_call 63; refine hn.mono ?_; rintro e w1 ⟨rfl, h1⟩; have H := Lib.hid h1; clear h1) | (go_at_call 33; refine (hsr _).mono ?_; rintro e w2 ⟨rfl, rfl⟩))
          go_ret
          exact ⟨ret_bool (by have e := HB.out; rw [decide_eq_true (by omega), decide_eq_true (by omega)] at e; exact e), H.out⟩
        · have l4 : ((k : Int) == 1) = false := by simp; omega
          go_enter Tryz.func59, Tryz.ntmps59
          go_wp2_with (first | (go_at_call 63; refine hn.mono ?_; rintro e w1 ⟨rfl, h1⟩; have H := Lib.hid h1; clear h1) | (go_at_call 33; refine (hsr _).mono ?_; rintro e w2 ⟨rfl, rfl⟩))
          go_ret
          exact ⟨ret_bool (by have e := HB.out; rw [beq_false_of_ne l3, Bool.and_false] at e; exact e), H.out⟩
      · go_enter Tryz.func59, Tryz.ntmps59
        go_wp2_with (first | (go_at_call 63; refine hn.mono ?_; rintro e w1 ⟨rfl, h1⟩; have H := Lib.hid h1; clear h1) | (go_at_call 33; refine (hsr _).mono ?_; rintro e w2 ⟨rfl, rfl⟩))
        go_ret
        exact ⟨ret_bool (by have e := HB.out; rw [decide_eq_false (p := n + 1 ≤ hi) (by omega), Bool.and_false, Bool.false_and] at e; exact e), H.out⟩
    · go_enter Tryz.func59, Tryz.ntmps59
      go_wp2_with (first | (go_at_call 63; refine hn.mono ?_; rintro e w1 ⟨rfl, h1⟩; have H := Lib.hid h1; clear h1) | (go_at_call 33; refine (hsr _).mono ?_; rintro e w2 ⟨rfl, rfl⟩))
      go_ret
      exact ⟨ret_bool (by have e := HB.out; rw [decide_eq_false (p := lo ≤ n + 1) (by omega), Bool.false_and, Bool.false_and] at e; exact e), H.out⟩
/-- A reader that has a piece: its row, and its row without the first one. -/
def TailPost (w0 W : World) (B : Nat) (r : R) : Prop :=
  (∃ g i, W.cell? ⟨B, 0, none⟩ = some (.slice (some ⟨g, i, none⟩) 1 1) ∧ W.cell? ⟨g, i, none⟩ = some (.string (Ml.mk (Lb.nx r))) ∧ W.frozen? ⟨B, 0, none⟩ = false ∧ Hid (Rd w0 (W.setCell ⟨B, 0, none⟩ (.slice (some ⟨g, i, none⟩) 0 0)) B (Lb.tl r))) ∨
  (∃ g i n c, W.cell? ⟨B, 0, none⟩ = some (.slice (some ⟨g, i, none⟩) (n + 1) (c + 2)) ∧ n ≤ c + 1 ∧ W.cell? ⟨g, i, none⟩ = some (.string (Ml.mk (Lb.nx r))) ∧ W.frozen? ⟨B, 0, none⟩ = false ∧ Hid (Rd w0 (W.setCell ⟨B, 0, none⟩ (.slice (some ⟨g, i + 1, none⟩) n (c + 1))) B (Lb.tl r)))
theorem Rd.tail_ (h : Rd w0 W B r) (hl : r.l ≠ []) : TailPost w0 W B r := by
  obtain ⟨p, c, ⟨k0, hc⟩, hp, _, f0, _⟩ := h.open_
  unfold TailPost
  have hnx : ∀ x t, r.l = x :: t → Lb.nx r = x := fun x t e => by unfold Lb.nx; rw [e]; rfl
  have htl := h.tl
  obtain ⟨l, e⟩ : ∃ l, r.l = l := ⟨_, rfl⟩
  rw [e] at k0 hc hp hl htl
  cases l with
  | nil => exact absurd rfl hl
  | cons x t =>
    rw [hnx x t e]
    obtain ⟨g, i, rfl, hx, hr⟩ := hp.first
    rw [List.length_cons] at k0 hc
    match c, hc with
    | 1, hc =>
      have ht : t.length = 0 := by omega
      rw [ht] at k0 hr
      exact Or.inl ⟨g, i, k0, hx, f0, Lib.hid (htl _ hr)⟩
    | c + 2, hc =>
      have e1 : c + 2 - 1 = c + 1 := rfl
      rw [if_pos (by omega), e1] at hr
      exact Or.inr ⟨g, i, t.length, c, k0, by omega, hx, f0, Lib.hid (htl _ hr)⟩
theorem Rd.head_ (h : Rd w0 W B r) (hl : r.l ≠ []) : ∃ g i n c, W.cell? ⟨B, 0, none⟩ = some (.slice (some ⟨g, i, none⟩) (n + 1) (c + 1)) ∧ n ≤ c ∧ W.cell? ⟨g, i, none⟩ = some (.string (Ml.mk (Lb.nx r))) := by
  rcases h.tail_ hl with ⟨g, i, k0, kx, _⟩ | ⟨g, i, n, c, k0, hc, kx, _⟩
  · exact ⟨g, i, 0, 0, k0, Nat.le_refl _, kx⟩
  · exact ⟨g, i, n, c + 1, k0, hc, kx⟩
end
end Go.Proofs.YtbhafhbaldddiaaGreatDoor
namespace Go.Proofs.YtbhafhbaldddiaaGreatDoor
open Go.RowKit
open Go
open Lb (R Wd)
set_option linter.unusedVariables false
theorem lmk_ne {a b : Wd} (h : ¬ a = b) : ((Ml.mk a).toList == (Ml.mk b).toList) = false := by
  rw [beq_eq_false_iff_ne]
  intro e
  apply h
  rw [Go.Lib.toList_data, Go.Lib.toList_data] at e
  exact Ml.mk_inj (ByteArray.ext (Array.toList_inj.1 e))
section
variable {w0 W : World} {B : Nat} {r : R}
set_option maxHeartbeats 1000000 in
theorem Rd.maybe (h : Rd w0 W B r) (u : Wd) (hu : u ≠ []) (hu2 : u.length ≤ 100) : Calls Tryz.prog 58 #[.pointer (some ⟨B, 0, none⟩), .string (Ml.mk u)] W (RdPost (.bool (Lb.mbB u r)) w0 B (Lb.mbR u r)) := by
  have hn := h.next
  have hs := h.2.2.2.2.2.nx
  unfold RdPost
  by_cases hx : Lb.nx r = u
  · have e1 : Lb.mbB u r = true := by unfold Lb.mbB; simp [hx]
    have e2 : Lb.mbR u r = Lb.tl r := by unfold Lb.mbR; rw [if_pos hx]
    rw [e1, e2]
    rw [hx] at hn
    clear e1 e2 h
    have hl : r.l ≠ [] := fun e => hu (by rw [← hx]; unfold Lb.nx; rw [e]; rfl)
    have HL := Lib.hid hl
    clear hl hs hu hx
    have hsz : (Ml.mk u).size = u.length := rfl
    generalize Ml.mk u = T at hn hsz
    generalize u.length = n at hsz hu2
    go_enter Tryz.func58, Tryz.ntmps58
    go_wp2_with (go_at_call 63; refine hn.mono ?_; rintro e w1 ⟨rfl, h1⟩; have ht := h1.tail_ HL.out; clear h1; rcases ht with ⟨g, i, k0, kx, f0, H⟩ | ⟨g, i, n', c, k0, hc, kx, f0, H⟩)
    all_goals
      go_ret
      exact ⟨rfl, H.out⟩
  · have e1 : Lb.mbB u r = false := by unfold Lb.mbB; simp [hx]
    have e2 : Lb.mbR u r = r := by unfold Lb.mbR; rw [if_neg hx]
    rw [e1, e2]
    have hne := lmk_ne hx
    have h1 : (Ml.mk (Lb.nx r)).size = (Lb.nx r).length := rfl
    have h2 : (Ml.mk u).size = u.length := rfl
    clear e1 e2 h hx
    generalize Ml.mk (Lb.nx r) = T at hn hne h1
    generalize Ml.mk u = U at hne h2
    generalize (Lb.nx r).length = n at h1 hs
    generalize u.length = m at h2 hu2
    go_enter Tryz.func58, Tryz.ntmps58
    go_wp2_with (go_at_call 63; refine hn.mono ?_; rintro e w1 ⟨rfl, h1⟩; have H := Lib.hid h1; clear h1)
    go_ret
    exact ⟨rfl, H.out⟩
set_option maxHeartbeats 1000000 in
theorem Rd.must (h : Rd w0 W B r) (u : Wd) (hu : u ≠ []) (hu2 : u.length ≤ 100) : Calls Tryz.prog 57 #[.pointer (some ⟨B, 0, none⟩), .string (Ml.mk u)] W (RdPost (.tuple #[]) w0 B (Lb.muR u r)) := by
  have hm := h.maybe u hu hu2
  unfold RdPost
  by_cases hx : Lb.nx r = u
  · have e1 : Lb.mbB u r = true := by unfold Lb.mbB; simp [hx]
    have e2 : Lb.mbR u r = Lb.tl r := by unfold Lb.mbR; rw [if_pos hx]
    have e3 : Lb.muR u r = Lb.tl r := by unfold Lb.muR; rw [if_pos hx]
    rw [e1, e2] at hm
    rw [e3]
    clear e1 e2 e3 h hx
    generalize Ml.mk u = T at hm
    go_enter Tryz.func57, Tryz.ntmps57
    go_wp2_with (go_at_call 58; refine hm.mono ?_; rintro e w1 ⟨rfl, h1⟩; obtain ⟨_, _, -, -, ⟨k1, -⟩, -, f1, -⟩ := h1.open_; have h2 : Rd w0 (w1.setCell ⟨B, 1, none⟩ (.bool (Lb.tl r).bad)) B (Lb.tl r) := h1.bad1 (Lb.tl r).bad; have H := Lib.hid h2; clear h1 h2; generalize (Lb.tl r).bad = bd at *)
    go_end0
    exact ⟨rfl, H.out⟩
  · have e1 : Lb.mbB u r = false := by unfold Lb.mbB; simp [hx]
    have e2 : Lb.mbR u r = r := by unfold Lb.mbR; rw [if_neg hx]
    have e3 : Lb.muR u r = Lb.mkBad r := by unfold Lb.muR; rw [if_neg hx]
    rw [e1, e2] at hm
    rw [e3]
    clear e1 e2 e3 h hx
    generalize Ml.mk u = T at hm
    go_enter Tryz.func57, Tryz.ntmps57
    go_wp2_with (go_at_call 58; refine hm.mono ?_; rintro e w1 ⟨rfl, h1⟩; obtain ⟨_, _, -, -, ⟨k1, -⟩, -, f1, -⟩ := h1.open_; have H := Lib.hid h1.mkBad; clear h1)
    go_end0
    exact ⟨rfl, H.out⟩
theorem lu8_and15 (n : Nat) (h : n < 256) : bits .and .u8 (n : Int) 15 = ((n % 16 : Nat) : Int) := by
  have h1 : (List.range 256).all (fun n => decide (bits .and .u8 (n : Int) 15 = ((n % 16 : Nat) : Int))) = true := by decide +kernel
  exact of_decide_eq_true (List.all_eq_true.1 h1 n (List.mem_range.2 h))
theorem lw64 (x : Int) : wrap64 x = IntKind.i64.wrap x := by
  rw [IntKind.wrap_i64]
  unfold wrap64
  omega
theorem numL_step (x : Wd) (j : Nat) (hj : j < x.length) : Lb.numL 0 (x.take (j + 1)) = IntKind.i64.wrap (IntKind.i64.wrap (Lb.numL 0 (x.take j) * 10) + (((x.getD j 0).toNat % 16 : Nat) : Int)) := by
  have e : x.take (j + 1) = x.take j ++ [x.getD j 0] := by
    rw [List.take_succ_eq_append_getElem hj]
    simp [List.getD_eq_getElem?_getD, hj]
  rw [e]
  unfold Lb.numL
  rw [List.foldl_append]
  rfl
set_option maxHeartbeats 1000000 in
theorem Rd.number (h : Rd w0 W B r) (lo hi : Nat) (hlo : 1 ≤ lo) (hhi : hi ≤ 1048576) : Calls Tryz.prog 56 #[.pointer (some ⟨B, 0, none⟩), .int .i64 (lo : Int), .int .i64 (hi : Int)] W (RdPost (.int .i64 (Lb.nmV lo hi r)) w0 B (Lb.nmR lo hi r)) := by
  have hd := h.digits lo hi hlo hhi
  have hs := h.2.2.2.2.2.nx
  clear h
  unfold RdPost Lb.nmV Lb.nmR
  obtain ⟨b, hb⟩ : ∃ b, Lb.dgs lo hi r = b := ⟨_, rfl⟩
  rw [hb] at hd
  rw [hb]
  have HB := Lib.hid hb
  clear hb
  cases b
  · rw [if_neg (by decide), if_neg (by decide)]
    go_enter Tryz.func56, Tryz.ntmps56
    go_wp2_with (go_at_call 59; refine hd.mono ?_; rintro e w1 ⟨rfl, h1⟩; obtain ⟨_, _, -, -, ⟨k1, -⟩, -, f1, -⟩ := h1.open_; have H := Lib.hid h1.mkBad; clear h1)
    go_ret
    exact ⟨rfl, H.out⟩
  · rw [if_pos rfl, if_pos rfl]
    have hl : r.l ≠ [] := fun e => by
      have := HB.out
      unfold Lb.dgs Lb.nx at this
      rw [e] at this
      cases this
    have HL := Lib.hid hl
    clear hl
    obtain ⟨x, hx⟩ : ∃ x, Lb.nx r = x := ⟨_, rfl⟩
    rw [hx] at hs
    obtain ⟨v, hv⟩ : ∃ v, Lb.numL 0 (Lb.nx r) = v := ⟨_, rfl⟩
    rw [hv]
    have HV := Lib.hid hv
    have HX := Lib.hid hx
    clear hv hx
    go_enter Tryz.func56, Tryz.ntmps56
    go_wp2_with (go_at_call 59; refine hd.mono ?_; rintro e w1 ⟨rfl, h1⟩; obtain ⟨cap, W2, hcv, hrow, hB⟩ := bytes_of x w1; obtain ⟨g, i, n', c, k0, hc, kx⟩ := h1.head_ HL.out; rw [HX.out] at kx; have H2 := Lib.hid (h1.quiet hB); have HRW := Lib.hid hrow; clear h1 hrow hB)
    clear hcv k0 kx hc hd
    obtain ⟨z, hz⟩ : ∃ z, x.length = z := ⟨_, rfl⟩
    rw [hz] at hs
    rw [hz]
    have HZ := Lib.hid hz
    clear hz
    generalize w1.heap.size = G at *
    go_loop [6, 25] (fun v k => ∃ j : Nat, j ≤ z ∧ v = .int .i64 (Lb.numL 0 (x.take j)) ∧ k = .int .i64 j) (fun _ k => z - (intOf k).toNat)
    case atStart => exact ⟨0, by omega, rfl, rfl⟩
    case round =>
      obtain ⟨j, hj, rfl, rfl⟩ := hrel
      by_cases hlt : j < z
      · have hlt' : j < x.length := by rw [HZ.out]; exact hlt
        have c0 := HRW.out.1 j hlt'
        have e0 : lwAt x 0 j = x.getD j 0 := by unfold lwAt; rw [if_neg (by omega)]
        rw [e0] at c0
        have hst := numL_step x j hlt'
        clear e0 hlt'
        have l1 : (j : Int) < z := by omega
        have h256 : (x.getD j 0).toNat < 256 := UInt8.toNat_lt _
        have h15 := lu8_and15 _ h256
        obtain ⟨a, ha⟩ : ∃ a, Lb.numL 0 (x.take j) = a := ⟨_, rfl⟩
        obtain ⟨cn, hcn⟩ : ∃ cn, (x.getD j 0).toNat = cn := ⟨_, rfl⟩
        rw [ha, hcn] at hst
        rw [hcn] at c0 h256 h15
        rw [ha]
        have HST := Lib.hid hst
        clear hst ha hcn
        go_wp2
        go_round
        case rel => exact ⟨j + 1, by omega, by rw [HST.out, ← lw64, ← lw64, show ((cn % 16 : Nat) : Int) = (cn : Int) % 16 by omega], by go_num⟩
        case measure => simp [intOf]; omega
      · obtain rfl : j = z := by omega
        have hv : Lb.numL 0 (x.take j) = v := by
          rw [← HV.out, HX.out, ← HZ.out, List.take_length]
        rw [hv]
        have ht := H2.out.tail_ HL.out
        clear hv
        rcases ht with ⟨g, i, k0, kx, f0, H⟩ | ⟨g, i, n', c, k0, hc, kx, f0, H⟩
        all_goals
          go_wp2
          go_ret
          exact ⟨rfl, H.out⟩
end
end Go.Proofs.YtbhafhbaldddiaaGreatDoor
