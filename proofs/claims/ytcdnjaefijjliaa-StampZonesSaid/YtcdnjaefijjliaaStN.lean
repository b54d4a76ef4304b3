/- The walk of the document's put. -/
import Derived.Test.YtcdnjaefijjliaaStM
import Derived.Test.YtcdnjaefijjliaaStH
namespace Go.Proofs.Ytcdnjaefijjliaa
open Go.RowKit
open Go
set_option linter.unusedVariables false
theorem info_u8 : (Try.prog.info? 5).map (fun i => (i.zero, i.size, i.bytes)) = some (some (.int .u8 0), 1, 1) := by kernel_rfl
/-- So many bytes in a block. -/
def RB (g z : Nat) (W : World) (f : Nat → Int) : Prop := (∀ i, i < z → W.cell? ⟨g, i, none⟩ = some (.int .u8 (f i))) ∧ (∀ i, i < z → W.frozen? ⟨g, i, none⟩ = false) ∧ g < W.heap.size
theorem RB.put {g z : Nat} {W : World} {f : Nat → Int} {n : Int} {j : Nat} (h : RB g z W (upd f n z j)) (hj : j < z) : RB g z (W.setCell ⟨g, z - 1 - j, none⟩ (.int .u8 (48 + n / (10 : Int) ^ j % 10))) (upd f n z (j + 1)) := by
  obtain ⟨h1, h2, h3⟩ := h
  refine ⟨fun i hi => ?_, fun i hi => ?_, by simpa using h3⟩
  · by_cases e : i = z - 1 - j
    · subst e
      rw [World.cell?_setCell_same _ _ _ (h1 _ hi)]
      unfold upd
      rw [if_pos (by omega)]
      have : z - 1 - (z - 1 - j) = j := by omega
      rw [this]
    · rw [World.cell?_setCell_other _ _ _ _ (by intro k; injection k with _ k; omega), h1 i hi]
      unfold upd
      by_cases q : z - j ≤ i ∧ i < z
      · rw [if_pos q, if_pos (by omega)]
      · rw [if_neg q, if_neg (by omega)]
  · rw [World.frozen?_setCell]; exact h2 i hi
theorem own_rows {w : World} {base z cap g : Nat} (h : w.ownsRow base 5 1 (.slice (some ⟨g, 0, none⟩) z cap) z (List.replicate z (.int .u8 48))) : RB g z w (fun _ => 48) ∧ base ≤ g := by
  refine ⟨⟨fun i hi => ?_, fun i hi => ?_, ?_⟩, ?_⟩
  · have := h.cells (g := g) rfl i (.int .u8 48) (by simp [hi])
    rw [Go.WideShapes.add_plain, Nat.zero_add] at this
    exact this
  · rcases h.2 with ⟨e, _⟩ | ⟨g', cap', cur, e, hb, hg, _⟩
    · cases e
    · injection e with e _ _
      injection e with e
      injection e with e _ _
      subst e
      unfold World.frozen?
      simp only [hg]
      simp
  · exact (h.lt g rfl).2
  · exact (h.lt g rfl).1
set_option maxHeartbeats 1000000 in
theorem rput_any (n : Int) (hn : 0 ≤ n) (hn2 : n ≤ 9999) (z : Nat) (hz : z ≤ 4) (hz0 : 0 < z) (w : World) :
    Calls Try.prog 32 #[.int .i64 n, .int .i64 z] w (fun e w' => e = .returned (.string ⟨(Sm.putL n z).toArray⟩) ∧ Below w.heap.size w w') := by
  obtain ⟨i0, hi, hi0, hi1, hi2⟩ := info_parts info_u8
  go_enter Try.func32, Try.ntmps32
  go_wp2_with fail
  go_loopw [5, 6] (fun v i wr => ∃ k : Nat, k ≤ z ∧ i = .int .i64 (k : Int) ∧ wr.ownsRow w.heap.size 5 1 v k (List.replicate k (.int .u8 48)) ∧ Below w.heap.size w wr) (fun _ i _ => z - (intOf i).toNat)
  case atStart => exact ⟨0, Nat.zero_le _, rfl, World.ownsRow_nil _ _ _ _, Below.refl _ _⟩
  case round =>
    obtain ⟨k, hk, rfl, hown, hB⟩ := hrel
    by_cases hlt : k < z
    · go_wp2_with (first
        | (at_builtin; refine wpList_append_own _ rfl _ _ 50 rfl w.heap.size 5 i0 (.int .u8 0) 1 1 Try.underlying50 hi hi0 hi1 hi2 rfl (by decide) _ _ _ rfl (hown.alloc _) ⟨wr.heap.size, 0, none⟩ 1 1 [.int .u8 48] rfl rfl ?c1 ?c2 ?c3 ?c4 ?c5 ?_)
        | go_in)
      case c1 =>
        intro j u hj
        match j, hj with
        | 0, hj => simp at hj; subst hj; simp [Addr.add]
      case c2 => intro u hu; simp at hu; subst hu; rfl
      case c3 => unfold maxLen; omega
      case c4 => omega
      case c5 => have := hB.size; simp; omega
      intro v' w1 hown' hgrow _
      have hB1 : Below w.heap.size w w1 := (hB.alloc hB.size _).grown hgrow (by have := hB.size; simp; omega) (fun j hj => (hown.lt j hj).1)
      have hl : List.replicate k (Value.int .u8 48) ++ [.int .u8 48] = List.replicate (k + 1) (.int .u8 48) := by rw [List.replicate_succ']
      rw [hl] at hown'
      clear hgrow hown hl hB
      go_wp2
      go_roundw
      case rel => exact ⟨k + 1, by omega, by push_cast; try go_num, hown', hB1⟩
      case measure => simp [intOf]; omega
    · obtain rfl : k = z := by omega
      obtain ⟨g, cap, hv⟩ : ∃ g cap, u5 = .slice (some ⟨g, 0, none⟩) k cap := by
        rcases hown.2 with ⟨_, e⟩ | ⟨g, cap, _, e, _⟩
        · omega
        · exact ⟨g, cap, e⟩
      subst hv
      obtain ⟨hR, hbg⟩ := own_rows hown
      clear hown
      go_wp2_with fail
      go_loopw [0, 7] (fun v i wq => ∃ t : Nat, t ≤ k ∧ i = .int .i64 ((t : Int) - 1) ∧ v = .int .i64 (n / (10 : Int) ^ (k - t)) ∧ RB g k wq (upd (fun _ => 48) n k (k - t)) ∧ Below w.heap.size w wq) (fun _ i _ => (intOf i + 1).toNat)
      case atStart =>
        refine ⟨k, Nat.le_refl _, rfl, by simp, ?_, hB⟩
        have : upd (fun _ => 48) n k (k - k) = fun _ => 48 := by
          funext i; unfold upd; rw [if_neg (by omega)]
        rw [this]; exact hR
      case round =>
        obtain ⟨t, ht, rfl, rfl, hP, hB2⟩ := hrel
        by_cases hlt2 : 0 < t
        · obtain ⟨u, rfl⟩ : ∃ u, t = u + 1 := ⟨t - 1, by omega⟩
          have hstep := hP.put (j := k - (u + 1)) (by omega)
          obtain ⟨p1, p2, p3⟩ := id hP
          have e1 : k - 1 - (k - (u + 1)) = u := by omega
          rw [e1] at hstep
          have c0 := p1 u (by omega)
          have f0 := p2 u (by omega)
          have key : n / (10 : Int) ^ (k - u) = n / (10 : Int) ^ (k - (u + 1)) / 10 := by
            obtain ⟨j, hj⟩ : ∃ j, k - (u + 1) = j := ⟨_, rfl⟩
            have e2 : k - u = j + 1 := by omega
            rw [hj, e2]
            have : j = 0 ∨ j = 1 ∨ j = 2 ∨ j = 3 := by omega
            rcases this with rfl | rfl | rfl | rfl <;> simp <;> omega
          have hm0 : 0 ≤ n / (10 : Int) ^ (k - (u + 1)) := Int.ediv_nonneg hn (Int.pow_nonneg (by omega))
          have hm1 : n / (10 : Int) ^ (k - (u + 1)) ≤ 9999 := Int.le_trans (Int.ediv_le_self _ hn) hn2
          have KEY := Lib.hid key
          have HST := Lib.hid hstep
          clear hstep key p1 p2 hP hR
          generalize n / (10 : Int) ^ (k - (u + 1)) = m at *
          have t1 : m.tmod 10 = m % 10 := Int.tmod_eq_emod_of_nonneg hm0
          have t2 : m.tdiv 10 = m / 10 := Int.tdiv_eq_ediv_of_nonneg hm0
          have t3 : IntKind.u8.wrap (48 + m % 10) = 48 + m % 10 := by simp [IntKind.wrap, IntKind.bits, IntKind.signed]; omega
          have t4 : (u : Int) < k := by omega
          have t5 : (0 : Int) ≤ u := by omega
          go_wp2
          go_roundw
          case rel =>
            refine ⟨u, by omega, rfl, by rw [KEY.out], ?_, hB2.setCell hbg _⟩
            have e3 : k - u = k - (u + 1) + 1 := by omega
            rw [e3]; exact HST.out
          case measure => simp [intOf] <;> omega
        · obtain rfl : t = 0 := by omega
          have hlen := Sm.putL_len n k
          have hback := run_convert_bytes_back (P := Try.prog) wr 50 9 5 ⟨g, 0, none⟩ cap (Sm.putL n k) Try.underlying50 Try.underlying5 Try.underlying9 (fun j hj => by
            rw [Go.WideShapes.add_plain, Nat.zero_add, hP.1 j (by omega), Sm.putL_at]
            unfold upd
            rw [if_pos (by omega)])
          rw [hlen] at hback
          clear hP hR hlen
          go_wp2
          go_ret
          exact ⟨rfl, hB2⟩
end Go.Proofs.Ytcdnjaefijjliaa
