/- A liberal reader's state in the heap, and what leaves it as it is. -/
import Derived.Test.YtbhafhbaldddiaaLbR
import Derived.Test.YtbhafhbaldddiaaMap
import Derived.Test.YtbhafhbaldddiaaCivD
namespace Go.Proofs.Ytbhafhbaldddiaa
open Go.RowKit
open Go
open Lb (R Wd)
set_option linter.unusedVariables false
theorem lgb_set (w : World) (a : Addr) (v : Value) : w.grownBy (w.setCell a v) (some a.block) := ⟨rfl, rfl, rfl, by simp, fun k _ hk => Below.heap_setCell w a v k (fun e => hk (by rw [e]))⟩
theorem lgb_of_below {w w' : World} (h : Below w.heap.size w w') (row : Option Nat) : w.grownBy w' row := ⟨h.os, h.tape, h.output, h.size, fun k hk _ => h.block k hk⟩
theorem lbelow_undrew {n : Nat} {w w' : World} (h : Below n w.drew w') : Below n w w' := ⟨h.os, h.tape, h.output, h.size, h.block⟩
theorem lbyte_at (s : ByteArray) (i : Nat) (h : i < s.size) : ((s[i]'h).toNat : Int) = (Sm.B s i : Int) := by rw [Sm.B_at s i h]
theorem linfo_str : (Try.prog.info? 9).map (fun i => (i.zero, i.size, i.bytes)) = some (some (.string ByteArray.empty), 1, 16) := by kernel_rfl
/-- A row of pieces. -/
def PRow (W : World) (B : Nat) (v : Value) (l : List Wd) : Prop :=
  ∃ p c, v = .slice p l.length c ∧ l.length ≤ c ∧ (l ≠ [] → ∃ g i, p = some ⟨g, i, none⟩ ∧ g < B ∧ ∀ k s, l[k]? = some s → W.cell? ⟨g, i + k, none⟩ = some (.string (Ml.mk s)))
def PSz (l : List Wd) : Prop := l.length ≤ 100000 ∧ ∀ s ∈ l, s.length ≤ 100000
theorem PSz.tail {l : List Wd} (h : PSz l) : PSz l.tail := ⟨by have := h.1; simp; omega, fun s hs => h.2 s (List.mem_of_mem_tail hs)⟩
theorem PSz.nx {r : R} (h : PSz r.l) : (Lb.nx r).length ≤ 100000 := by
  unfold Lb.nx
  cases e : r.l with
  | nil => simp
  | cons a t => exact h.2 a (by rw [e]; simp)
def cellsOf (v : Value) (r : R) : Nat → Value
  | 0 => v
  | 1 => .bool r.bad
  | 2 => .int .i64 r.y
  | 3 => .int .i64 r.mo
  | 4 => .int .i64 r.d
  | 5 => .int .i64 r.h
  | 6 => .int .i64 r.mi
  | 7 => .int .i64 r.s
  | _ => .int .i64 r.east
theorem nine {P : Nat → Prop} (h0 : P 0) (h1 : P 1) (h2 : P 2) (h3 : P 3) (h4 : P 4) (h5 : P 5) (h6 : P 6) (h7 : P 7) (h8 : P 8) : ∀ k, k < 9 → P k
  | 0, _ => h0
  | 1, _ => h1
  | 2, _ => h2
  | 3, _ => h3
  | 4, _ => h4
  | 5, _ => h5
  | 6, _ => h6
  | 7, _ => h7
  | 8, _ => h8
  | n + 9, h => absurd h (by omega)
/-- A reader r in the block B; the world from w0 on. -/
def Rd (w0 W : World) (B : Nat) (r : R) : Prop :=
  (∃ v, (∀ k, k < 9 → W.cell? ⟨B, k, none⟩ = some (cellsOf v r k)) ∧ PRow W B v r.l) ∧ (∀ k, k < 9 → W.frozen? ⟨B, k, none⟩ = false) ∧ B < W.heap.size ∧ w0.heap.size ≤ B ∧ Below w0.heap.size w0 W ∧ PSz r.l
def RdPost (v : Value) (w0 : World) (B : Nat) (r : R) (e : Ending) (W' : World) : Prop := e = .returned v ∧ Rd w0 W' B r
theorem PRow.far {W W' : World} {B : Nat} {v : Value} {l : List Wd} (h : PRow W B v l) (hk : ∀ a : Addr, a.block < B → W'.cell? a = W.cell? a) : PRow W' B v l := by
  obtain ⟨p, c, hv, hc, hr⟩ := h
  refine ⟨p, c, hv, hc, fun hl => ?_⟩
  obtain ⟨g, i, hp, hg, hs⟩ := hr hl
  exact ⟨g, i, hp, hg, fun k s hk' => (hk _ hg).trans (hs k s hk')⟩
section
variable {w0 W : World} {B : Nat} {r : R}
theorem Rd.quiet {W' : World} (h : Rd w0 W B r) (hb : Below W.heap.size W W') : Rd w0 W' B r := by
  obtain ⟨⟨v, hv, hp⟩, hf, hB, h0, hw, hs⟩ := h
  refine ⟨⟨v, fun k hk => (hb.cell (p := ⟨B, k, none⟩) hB).trans (hv k hk), hp.far fun a ha => hb.cell (Nat.lt_trans ha hB)⟩, fun k hk => ?_, Nat.lt_of_lt_of_le hB hb.size, h0, hw.trans (hb.mono (by omega)), hs⟩
  have := gb_frozen (lgb_of_below hb none) (a := ⟨B, k, none⟩) hB (by simp)
  exact this.trans (hf k hk)
theorem Rd.drew (h : Rd w0 W B r) : Rd w0 W.drew B r := h.quiet ((Below.refl _ W).drew)
/-- A store into the reader's block. -/
theorem Rd.put (h : Rd w0 W B r) (j : Nat) (x : Value) (r' : R) (hj : j < 9) (h1 : ∀ v, PRow W B v r.l → ∃ v', PRow W B v' r'.l ∧ ∀ k, k < 9 → cellsOf v' r' k = if k = j then x else cellsOf v r k) (hs' : PSz r'.l) : Rd w0 (W.setCell ⟨B, j, none⟩ x) B r' := by
  obtain ⟨⟨v, hv, hp⟩, hf, hB, h0, hw, hs⟩ := h
  obtain ⟨v', hp', hc⟩ := h1 v hp
  refine ⟨⟨v', fun k hk => ?_, hp'.far fun a ha => World.cell?_setCell_other _ _ _ _ (fun e => absurd (congrArg Addr.block e) (by show ¬ B = _; omega))⟩, fun k hk => by rw [World.frozen?_setCell]; exact hf k hk, by simpa using hB, h0, Below.setCell hw (by show _ ≤ B; omega) _, hs'⟩
  by_cases e : k = j
  · subst e
    rw [World.cell?_setCell_same _ _ _ (hv _ hk), hc k hk, if_pos rfl]
  · rw [World.cell?_setCell_other _ _ _ _ (by intro q; injection q with _ q; omega), hv k hk, hc k hk, if_neg e]
theorem Rd.bad1 (h : Rd w0 W B r) (b : Bool) : Rd w0 (W.setCell ⟨B, 1, none⟩ (.bool b)) B { r with bad := b } := h.put 1 _ _ (by omega) (fun v hv => ⟨v, hv, nine rfl rfl rfl rfl rfl rfl rfl rfl rfl⟩) h.2.2.2.2.2
theorem Rd.mkBad (h : Rd w0 W B r) : Rd w0 (W.setCell ⟨B, 1, none⟩ (.bool true)) B (Lb.mkBad r) := h.bad1 true
theorem Rd.sY (h : Rd w0 W B r) (n : Int) : Rd w0 (W.setCell ⟨B, 2, none⟩ (.int .i64 n)) B (Lb.sY n r) := h.put 2 _ _ (by omega) (fun v hv => ⟨v, hv, nine rfl rfl rfl rfl rfl rfl rfl rfl rfl⟩) h.2.2.2.2.2
theorem Rd.sMo (h : Rd w0 W B r) (n : Int) : Rd w0 (W.setCell ⟨B, 3, none⟩ (.int .i64 n)) B (Lb.sMo n r) := h.put 3 _ _ (by omega) (fun v hv => ⟨v, hv, nine rfl rfl rfl rfl rfl rfl rfl rfl rfl⟩) h.2.2.2.2.2
theorem Rd.sD (h : Rd w0 W B r) (n : Int) : Rd w0 (W.setCell ⟨B, 4, none⟩ (.int .i64 n)) B (Lb.sD n r) := h.put 4 _ _ (by omega) (fun v hv => ⟨v, hv, nine rfl rfl rfl rfl rfl rfl rfl rfl rfl⟩) h.2.2.2.2.2
theorem Rd.sH (h : Rd w0 W B r) (n : Int) : Rd w0 (W.setCell ⟨B, 5, none⟩ (.int .i64 n)) B (Lb.sH n r) := h.put 5 _ _ (by omega) (fun v hv => ⟨v, hv, nine rfl rfl rfl rfl rfl rfl rfl rfl rfl⟩) h.2.2.2.2.2
theorem Rd.sMi (h : Rd w0 W B r) (n : Int) : Rd w0 (W.setCell ⟨B, 6, none⟩ (.int .i64 n)) B (Lb.sMi n r) := h.put 6 _ _ (by omega) (fun v hv => ⟨v, hv, nine rfl rfl rfl rfl rfl rfl rfl rfl rfl⟩) h.2.2.2.2.2
theorem Rd.sS (h : Rd w0 W B r) (n : Int) : Rd w0 (W.setCell ⟨B, 7, none⟩ (.int .i64 n)) B (Lb.sS n r) := h.put 7 _ _ (by omega) (fun v hv => ⟨v, hv, nine rfl rfl rfl rfl rfl rfl rfl rfl rfl⟩) h.2.2.2.2.2
theorem Rd.sE (h : Rd w0 W B r) (n : Int) : Rd w0 (W.setCell ⟨B, 8, none⟩ (.int .i64 n)) B (Lb.sE n r) := h.put 8 _ _ (by omega) (fun v hv => ⟨v, hv, nine rfl rfl rfl rfl rfl rfl rfl rfl rfl⟩) h.2.2.2.2.2
theorem PRow.tl {x : Wd} {t : List Wd} {c g i : Nat} (hc : t.length + 1 ≤ c) (hg : g < B) (hs : ∀ k s, (x :: t)[k]? = some s → W.cell? ⟨g, i + k, none⟩ = some (.string (Ml.mk s))) : PRow W B (.slice (some ⟨g, if 1 < c then i + 1 else i, none⟩) t.length (c - 1)) t := by
  refine ⟨_, _, rfl, by omega, fun ht => ⟨g, i + 1, ?_, hg, fun k s hk => ?_⟩⟩
  · have : 0 < t.length := List.length_pos_iff.2 ht
    rw [if_pos (by omega)]
  · have := hs (k + 1) s (by simpa using hk)
    rw [← this]
    congr 2
    omega
theorem Rd.tl (h : Rd w0 W B r) (v' : Value) (hv : PRow W B v' r.l.tail) : Rd w0 (W.setCell ⟨B, 0, none⟩ v') B (Lb.tl r) :=
  h.put 0 _ _ (by omega) (fun v _ => ⟨v', hv, nine rfl rfl rfl rfl rfl rfl rfl rfl rfl⟩) h.2.2.2.2.2.tail
end
end Go.Proofs.Ytbhafhbaldddiaa
