/- The contract of the disk's do, whole. -/
import Derived.Test.YtehgnlocekcakaaDkDa
import Derived.Test.YtehgnlocekcakaaDkDb
import Derived.Test.YtehgnlocekcakaaDkDc
import Derived.Test.YtehgnlocekcakaaDkM
namespace Go.Proofs.Ytehgnlocekcakaa
open Go.RowKit
open Go
def dv (d : Dm.Dk) : Value := .agg #[.string d.b0, .int .i64 d.s0, .string d.b1, .int .i64 d.s1, .int .i64 d.cap, .int .i64 d.left, .bool d.down]
def wv (x : Dm.Wr) : Value := .agg #[.int .i8 x.op, .int .i64 x.zone, .string x.b, .int .i64 x.n]
theorem ok_iff (d : Dm.Dk) : Dm.okB d = true ↔ dOk d.b0 d.s0 d.b1 d.s1 d.cap := by unfold Dm.okB dOk zOk; simp
theorem ok_no (d : Dm.Dk) : Dm.okB d = false ↔ ¬ dOk d.b0 d.s0 d.b1 d.s1 d.cap := by rw [← ok_iff]; simp
theorem mayB_iff (x : Dm.Wr) (z : ByteArray) : Dm.mayB x z = true ↔ mayP x.op x.n x.b z := by unfold Dm.mayB mayP; simp
theorem mayB_no (x : Dm.Wr) (z : ByteArray) : Dm.mayB x z = false ↔ ¬ mayP x.op x.n x.b z := by rw [← mayB_iff]; simp
def DoPost (r : Dm.Dk × Int) (w : World) (e : Ending) (w' : World) : Prop := e = .returned (.tuple #[dv r.1, .int .i64 r.2]) ∧ Below w.heap.size w w'
theorem do_up0 (b0 : ByteArray) (s0 : Int) (b1 : ByteArray) (s1 cap left op n : Int) (b : ByteArray) (w : World) (h : dOk b0 s0 b1 s1 cap) (hm : mayP op n b b0) (hl : left ≠ 0) (hl2 : left ≤ 9223372036854775807) (hs : (b.size : Int) ≤ 9000000000000000000) :
    Calls Try.prog 15 #[dv ⟨b0, s0, b1, s1, cap, left, false⟩, wv ⟨op, 0, b, n⟩] w (DoPost (Dm.actF ⟨b0, s0, b1, s1, cap, left, false⟩ ⟨op, 0, b, n⟩) w) := by
  have ho : op = 0 ∨ op = 1 ∨ op = 2 := by
    rcases hm with k | k | k
    · exact Or.inl k.1
    · exact Or.inr (Or.inl k.1)
    · exact Or.inr (Or.inr k.1)
  rcases ho with rfl | rfl | rfl
  · by_cases hf : cap < (b0.size : Int) + b.size
    · refine (do_F0 b0 s0 b1 s1 cap left false 0 0 n b w h hm hl hf hs).mono ?_
      rintro e w' ⟨rfl, hb⟩
      have e : Dm.actF ⟨b0, s0, b1, s1, cap, left, false⟩ ⟨0, 0, b, n⟩ = (Dm.zero, 31) := by simp [Dm.actF, Dm.zb, hf]
      rw [e]; exact ⟨rfl, hb⟩
    · by_cases hp : 0 < left
      · refine (do_AP0 b0 s0 b1 s1 cap left false 0 0 n b w h hm hp hl2 (by omega)).mono ?_
        rintro e w' ⟨rfl, hb⟩
        have e : Dm.actF ⟨b0, s0, b1, s1, cap, left, false⟩ ⟨0, 0, b, n⟩ = (⟨b0 ++ b, s0, b1, s1, cap, left - 1, false⟩, 0) := by simp [Dm.actF, Dm.zb, Dm.zs, Dm.setZ, Dm.tick, hf, hp]
        rw [e]; exact ⟨rfl, hb⟩
      · refine (do_AN0 b0 s0 b1 s1 cap left false 0 0 n b w h hm (by omega) (by omega)).mono ?_
        rintro e w' ⟨rfl, hb⟩
        have e : Dm.actF ⟨b0, s0, b1, s1, cap, left, false⟩ ⟨0, 0, b, n⟩ = (⟨b0 ++ b, s0, b1, s1, cap, left, false⟩, 0) := by simp [Dm.actF, Dm.zb, Dm.zs, Dm.setZ, Dm.tick, hf, hp]
        rw [e]; exact ⟨rfl, hb⟩
  · by_cases hp : 0 < left
    · refine (do_SP0 b0 s0 b1 s1 cap left false 0 0 n b w h hm hp hl2).mono ?_
      rintro e w' ⟨rfl, hb⟩
      have e : Dm.actF ⟨b0, s0, b1, s1, cap, left, false⟩ ⟨1, 0, b, n⟩ = (⟨b0, b0.size, b1, s1, cap, left - 1, false⟩, 0) := by simp [Dm.actF, Dm.zb, Dm.setZ, Dm.tick, hp]
      rw [e]; exact ⟨rfl, hb⟩
    · refine (do_SN0 b0 s0 b1 s1 cap left false 0 0 n b w h hm (by omega)).mono ?_
      rintro e w' ⟨rfl, hb⟩
      have e : Dm.actF ⟨b0, s0, b1, s1, cap, left, false⟩ ⟨1, 0, b, n⟩ = (⟨b0, b0.size, b1, s1, cap, left, false⟩, 0) := by simp [Dm.actF, Dm.zb, Dm.setZ, Dm.tick, hp]
      rw [e]; exact ⟨rfl, hb⟩
  · have hn : 0 ≤ n ∧ n ≤ b0.size := by
      rcases hm with k | k | k
      · exact absurd k.1 (by decide)
      · exact absurd k.1 (by decide)
      · exact k.2.2
    obtain ⟨k, rfl⟩ := Int.eq_ofNat_of_zero_le hn.1
    have hk : k ≤ b0.size := by omega
    by_cases hp : 0 < left
    · refine (do_HP0 b0 s0 b1 s1 cap left false 0 0 0 b w k hk h hm hp hl2).mono ?_
      rintro e w' ⟨rfl, hb⟩
      have e : Dm.actF ⟨b0, s0, b1, s1, cap, left, false⟩ ⟨2, 0, b, k⟩ = (⟨b0.extract 0 k, k, b1, s1, cap, left - 1, false⟩, 0) := by simp [Dm.actF, Dm.zb, Dm.setZ, Dm.tick, hp]
      rw [e]; exact ⟨rfl, hb⟩
    · refine (do_HN0 b0 s0 b1 s1 cap left false 0 0 0 b w k hk h hm (by omega)).mono ?_
      rintro e w' ⟨rfl, hb⟩
      have e : Dm.actF ⟨b0, s0, b1, s1, cap, left, false⟩ ⟨2, 0, b, k⟩ = (⟨b0.extract 0 k, k, b1, s1, cap, left, false⟩, 0) := by simp [Dm.actF, Dm.zb, Dm.setZ, Dm.tick, hp]
      rw [e]; exact ⟨rfl, hb⟩
theorem do_up1 (b0 : ByteArray) (s0 : Int) (b1 : ByteArray) (s1 cap left op n : Int) (b : ByteArray) (w : World) (h : dOk b0 s0 b1 s1 cap) (hm : mayP op n b b1) (hl : left ≠ 0) (hl2 : left ≤ 9223372036854775807) (hs : (b.size : Int) ≤ 9000000000000000000) :
    Calls Try.prog 15 #[dv ⟨b0, s0, b1, s1, cap, left, false⟩, wv ⟨op, 1, b, n⟩] w (DoPost (Dm.actF ⟨b0, s0, b1, s1, cap, left, false⟩ ⟨op, 1, b, n⟩) w) := by
  have ho : op = 0 ∨ op = 1 ∨ op = 2 := by
    rcases hm with k | k | k
    · exact Or.inl k.1
    · exact Or.inr (Or.inl k.1)
    · exact Or.inr (Or.inr k.1)
  rcases ho with rfl | rfl | rfl
  · by_cases hf : cap < (b1.size : Int) + b.size
    · refine (do_F1 b0 s0 b1 s1 cap left false 0 0 n b w h hm hl hf hs).mono ?_
      rintro e w' ⟨rfl, hb⟩
      have e : Dm.actF ⟨b0, s0, b1, s1, cap, left, false⟩ ⟨0, 1, b, n⟩ = (Dm.zero, 31) := by simp [Dm.actF, Dm.zb, hf]
      rw [e]; exact ⟨rfl, hb⟩
    · by_cases hp : 0 < left
      · refine (do_AP1 b0 s0 b1 s1 cap left false 0 0 n b w h hm hp hl2 (by omega)).mono ?_
        rintro e w' ⟨rfl, hb⟩
        have e : Dm.actF ⟨b0, s0, b1, s1, cap, left, false⟩ ⟨0, 1, b, n⟩ = (⟨b0, s0, b1 ++ b, s1, cap, left - 1, false⟩, 0) := by simp [Dm.actF, Dm.zb, Dm.zs, Dm.setZ, Dm.tick, hf, hp]
        rw [e]; exact ⟨rfl, hb⟩
      · refine (do_AN1 b0 s0 b1 s1 cap left false 0 0 n b w h hm (by omega) (by omega)).mono ?_
        rintro e w' ⟨rfl, hb⟩
        have e : Dm.actF ⟨b0, s0, b1, s1, cap, left, false⟩ ⟨0, 1, b, n⟩ = (⟨b0, s0, b1 ++ b, s1, cap, left, false⟩, 0) := by simp [Dm.actF, Dm.zb, Dm.zs, Dm.setZ, Dm.tick, hf, hp]
        rw [e]; exact ⟨rfl, hb⟩
  · by_cases hp : 0 < left
    · refine (do_SP1 b0 s0 b1 s1 cap left false 0 0 n b w h hm hp hl2).mono ?_
      rintro e w' ⟨rfl, hb⟩
      have e : Dm.actF ⟨b0, s0, b1, s1, cap, left, false⟩ ⟨1, 1, b, n⟩ = (⟨b0, s0, b1, b1.size, cap, left - 1, false⟩, 0) := by simp [Dm.actF, Dm.zb, Dm.setZ, Dm.tick, hp]
      rw [e]; exact ⟨rfl, hb⟩
    · refine (do_SN1 b0 s0 b1 s1 cap left false 0 0 n b w h hm (by omega)).mono ?_
      rintro e w' ⟨rfl, hb⟩
      have e : Dm.actF ⟨b0, s0, b1, s1, cap, left, false⟩ ⟨1, 1, b, n⟩ = (⟨b0, s0, b1, b1.size, cap, left, false⟩, 0) := by simp [Dm.actF, Dm.zb, Dm.setZ, Dm.tick, hp]
      rw [e]; exact ⟨rfl, hb⟩
  · have hn : 0 ≤ n ∧ n ≤ b1.size := by
      rcases hm with k | k | k
      · exact absurd k.1 (by decide)
      · exact absurd k.1 (by decide)
      · exact k.2.2
    obtain ⟨k, rfl⟩ := Int.eq_ofNat_of_zero_le hn.1
    have hk : k ≤ b1.size := by omega
    by_cases hp : 0 < left
    · refine (do_HP1 b0 s0 b1 s1 cap left false 0 0 0 b w k hk h hm hp hl2).mono ?_
      rintro e w' ⟨rfl, hb⟩
      have e : Dm.actF ⟨b0, s0, b1, s1, cap, left, false⟩ ⟨2, 1, b, k⟩ = (⟨b0, s0, b1.extract 0 k, k, cap, left - 1, false⟩, 0) := by simp [Dm.actF, Dm.zb, Dm.setZ, Dm.tick, hp]
      rw [e]; exact ⟨rfl, hb⟩
    · refine (do_HN1 b0 s0 b1 s1 cap left false 0 0 0 b w k hk h hm (by omega)).mono ?_
      rintro e w' ⟨rfl, hb⟩
      have e : Dm.actF ⟨b0, s0, b1, s1, cap, left, false⟩ ⟨2, 1, b, k⟩ = (⟨b0, s0, b1.extract 0 k, k, cap, left, false⟩, 0) := by simp [Dm.actF, Dm.zb, Dm.setZ, Dm.tick, hp]
      rw [e]; exact ⟨rfl, hb⟩
theorem do_any (d : Dm.Dk) (x : Dm.Wr) (w : World) (hl : Is64 d.left) (hs : (x.b.size : Int) ≤ 9000000000000000000) :
    Calls Try.prog 15 #[dv d, wv x] w (DoPost (Dm.doF d x) w) := by
  obtain ⟨b0, s0, b1, s1, cap, left, down⟩ := d
  obtain ⟨op, zone, b, n⟩ := x
  by_cases h1 : Dm.okB ⟨b0, s0, b1, s1, cap, left, down⟩ = false
  · refine (do_A b0 s0 b1 s1 cap left down op zone n b w ((ok_no _).1 h1)).mono ?_
    rintro e w' ⟨rfl, hb⟩
    have e : Dm.doF ⟨b0, s0, b1, s1, cap, left, down⟩ ⟨op, zone, b, n⟩ = (Dm.zero, 2) := by unfold Dm.doF; rw [if_pos (Or.inl h1)]
    rw [e]; exact ⟨rfl, hb⟩
  · have h1' : Dm.okB ⟨b0, s0, b1, s1, cap, left, down⟩ = true := by simpa using h1
    have hok := (ok_iff _).1 h1'
    by_cases hz : zone ≠ 0 ∧ zone ≠ 1
    · refine (do_B b0 s0 b1 s1 cap left down op zone n b w hok (by omega)).mono ?_
      rintro e w' ⟨rfl, hb⟩
      have e : Dm.doF ⟨b0, s0, b1, s1, cap, left, down⟩ ⟨op, zone, b, n⟩ = (Dm.zero, 2) := by unfold Dm.doF; rw [if_pos (Or.inr (Or.inl hz))]
      rw [e]; exact ⟨rfl, hb⟩
    · have hz' : zone = 0 ∨ zone = 1 := by omega
      by_cases hm : Dm.mayB ⟨op, zone, b, n⟩ (Dm.zb ⟨b0, s0, b1, s1, cap, left, down⟩ zone) = false
      · have e : Dm.doF ⟨b0, s0, b1, s1, cap, left, down⟩ ⟨op, zone, b, n⟩ = (Dm.zero, 2) := by unfold Dm.doF; rw [if_pos (Or.inr (Or.inr hm))]
        rw [e]
        rcases hz' with rfl | rfl
        · exact do_C0 b0 s0 b1 s1 cap left down op 0 n b w hok ((mayB_no _ _).1 hm)
        · exact do_C1 b0 s0 b1 s1 cap left down op 0 n b w hok ((mayB_no _ _).1 hm)
      · have hm' : Dm.mayB ⟨op, zone, b, n⟩ (Dm.zb ⟨b0, s0, b1, s1, cap, left, down⟩ zone) = true := by simpa using hm
        have hmp := (mayB_iff _ _).1 hm'
        have hno : ¬ (Dm.okB ⟨b0, s0, b1, s1, cap, left, down⟩ = false ∨ (zone ≠ 0 ∧ zone ≠ 1) ∨ Dm.mayB ⟨op, zone, b, n⟩ (Dm.zb ⟨b0, s0, b1, s1, cap, left, down⟩ zone) = false) := by
          rintro (k | k | k)
          · exact h1 k
          · exact hz k
          · exact hm k
        cases down
        · by_cases hl0 : left = 0
          · have e : Dm.doF ⟨b0, s0, b1, s1, cap, left, false⟩ ⟨op, zone, b, n⟩ = (⟨b0, s0, b1, s1, cap, left, true⟩, 30) := by
              unfold Dm.doF; rw [if_neg hno, if_neg (by simp), if_pos hl0]
            rw [e]
            subst hl0
            rcases hz' with rfl | rfl
            · exact do_E0 b0 s0 b1 s1 cap 0 false op 0 n b w hok hmp
            · exact do_E1 b0 s0 b1 s1 cap 0 false op 0 n b w hok hmp
          · have e : Dm.doF ⟨b0, s0, b1, s1, cap, left, false⟩ ⟨op, zone, b, n⟩ = Dm.actF ⟨b0, s0, b1, s1, cap, left, false⟩ ⟨op, zone, b, n⟩ := by
              unfold Dm.doF; rw [if_neg hno, if_neg (by simp), if_neg hl0]
            rw [e]
            rcases hz' with rfl | rfl
            · exact do_up0 b0 s0 b1 s1 cap left op n b w hok hmp hl0 hl.2 hs
            · exact do_up1 b0 s0 b1 s1 cap left op n b w hok hmp hl0 hl.2 hs
        · have e : Dm.doF ⟨b0, s0, b1, s1, cap, left, true⟩ ⟨op, zone, b, n⟩ = (Dm.zero, 30) := by
            unfold Dm.doF; rw [if_neg hno, if_pos rfl]
          rw [e]
          rcases hz' with rfl | rfl
          · exact do_D0 b0 s0 b1 s1 cap left true op 0 n b w hok hmp
          · exact do_D1 b0 s0 b1 s1 cap left true op 0 n b w hok hmp
end Go.Proofs.Ytehgnlocekcakaa
