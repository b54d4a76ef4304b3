/- The walks of the document's lower case, and of texts that are the same. -/
import Derived.Test.YtbhafhbaldddiaaLbK
namespace Go.Proofs.Ytbhafhbaldddiaa
open Go.RowKit
open Go
open Lb (R Wd)
set_option linter.unusedVariables false
theorem linfo_u8 : (Try.prog.info? 5).map (fun i => (i.zero, i.size, i.bytes)) = some (some (.int .u8 0), 1, 1) := by kernel_rfl
def lowI (l : List UInt8) (j : Nat) : List Value := (l.take j).map fun c => Value.int .u8 ((Lb.lw c).toNat : Int)
theorem lowI_step (l : List UInt8) (j : Nat) (h : j < l.length) : lowI l j ++ [.int .u8 ((Lb.lw (l.getD j 0)).toNat : Int)] = lowI l (j + 1) := by
  unfold lowI
  rw [List.take_succ_eq_append_getElem h, List.map_append]
  congr 1
  simp [List.getD_eq_getElem?_getD, h]
theorem lowI_len (l : List UInt8) (j : Nat) (h : j ≤ l.length) : (lowI l j).length = j := by unfold lowI; simp; omega
theorem one_u8 (x : Int) : ∀ u ∈ [Value.int .u8 x], u.oneCell' = true := by
  intro u hu
  simp at hu
  subst hu
  rfl
theorem lw_add {c : UInt8} (h : lup c = true) : ((c.toNat : Int) + 32) = ((Lb.lw c).toNat : Int) := by
  have := (lw_up h).2
  omega
set_option maxRecDepth 100000 in
set_option maxHeartbeats 2000000 in
theorem rlow_any (l : List UInt8) (hl : l.length ≤ 100000) (w : World) : Calls Try.prog 7 #[.string (Ml.mk l)] w (LowPost l w) := by
  obtain ⟨L, hL⟩ : ∃ L, l.map Lb.lw = L := ⟨_, rfl⟩
  unfold LowPost
  rw [hL]
  have HL := Lib.hid hL
  clear hL
  have hat := mk_at l
  have hsz : (Ml.mk l).size = l.length := rfl
  obtain ⟨z, hz⟩ : ∃ z, l.length = z := ⟨_, rfl⟩
  rw [hz] at hsz hl
  have HZ := Lib.hid hz
  have HAT := Lib.hid hat
  clear hz hat
  generalize Ml.mk l = T at *
  obtain ⟨i0, hi, hi0, hi1, hi2⟩ := info_parts linfo_u8
  go_enter Try.func7, Try.ntmps7
  go_wp2_with fail
  go_loopw [3, 4] (fun v i wr => ∃ j : Nat, j ≤ z ∧ i = .int .i64 (j : Int) ∧ (∃ a cap, v = .slice a j cap) ∧ wr.ownsRow w.heap.size 5 1 v j (lowI l j) ∧ Below w.heap.size w wr) (fun _ i _ => z - (intOf i).toNat)
  case atStart => exact ⟨0, Nat.zero_le _, rfl, ⟨none, 0, rfl⟩, World.ownsRow_nil _ _ _ _, Below.refl _ _⟩
  case round =>
    obtain ⟨j, hj, rfl, ⟨a, cap, rfl⟩, hown, hB⟩ := hrel
    have HO := Lib.hid hown
    have HB := Lib.hid hB
    have hzz := hB.size
    clear hown hB
    by_cases hlt : j < z
    · have hj2 : (j : Int) < (z : Int) := by omega
      have hix := HAT.out j
      have hst := lowI_step l j (by rw [HZ.out]; exact hlt)
      obtain ⟨c, hc⟩ : ∃ c, l.getD j 0 = c := ⟨_, rfl⟩
      rw [hc] at hix hst
      have HST := Lib.hid hst
      clear hst hc
      have h256 : c.toNat < 256 := UInt8.toNat_lt c
      cases hb : lup c with
      | true =>
        have ha := lw_add hb
        have hl256 : (Lb.lw c).toNat < 256 := UInt8.toNat_lt _
        unfold lup at hb
        have hb1 : (65 : Int) ≤ c.toNat := by simp at hb; omega
        have hb2 : (c.toNat : Int) ≤ 90 := by simp at hb; omega
        clear hb
        have HA := Lib.hid ha
        clear ha
        generalize c.toNat = n at *
        obtain ⟨m, hm⟩ : ∃ m, (Lb.lw c).toNat = m := ⟨_, rfl⟩
        have hmn : (n : Int) + 32 = (m : Int) := by rw [HA.out, hm]
        rw [hm] at hl256
        have HMM := Lib.hid hm
        clear hm HA
        go_wp2_with (at_builtin; refine wpList_append_lies _ rfl (.tmp 23) (.tmp 25) _ rfl w.heap.size 5 i0 _ 1 1 Try.underlying39 hi hi0 hi1 hi2 rfl (by omega) _ _ _ (by rfl) (HO.out.alloc _) ⟨wr.heap.size, 0, none⟩ 1 1 [.int .u8 (m : Int)] (by rfl) rfl (World.news_of_block (heap_alloc_new _ _)) (one_u8 _) (by omega) (by unfold maxLen; omega) (by omega) (by simp; omega) _ rfl ?_; intro g1 cap1 w2 hown2 hgrow2 hat2 hlt2)
        rw [← HMM.out, HST.out] at hown2
        go_roundw
        case rel => exact ⟨j + 1, by omega, by go_num, ⟨_, _, rfl⟩, hown2, (bbox HB.out _).grown hgrow2 (by simp; omega) (fun k hk => (HO.out.lt k hk).1)⟩
        case measure => simp [intOf]; omega
      | false =>
        have hno := lw_no hb
        rw [hno] at HST
        unfold lup at hb
        have hb1 : ¬ ((65 : Int) ≤ c.toNat ∧ (c.toNat : Int) ≤ 90) := by simp at hb; omega
        clear hb hno
        by_cases h1 : (65 : Int) ≤ c.toNat
        · have h2 : ¬ (c.toNat : Int) ≤ 90 := fun k => hb1 ⟨h1, k⟩
          clear hb1
          obtain ⟨n, hn⟩ : ∃ n, c.toNat = n := ⟨_, rfl⟩
          rw [hn] at hix h256 h1 h2
          have HNN := Lib.hid hn
          clear hn
          go_wp2_with (at_builtin; refine wpList_append_lies _ rfl (.tmp 23) (.tmp 25) _ rfl w.heap.size 5 i0 _ 1 1 Try.underlying39 hi hi0 hi1 hi2 rfl (by omega) _ _ _ (by rfl) (HO.out.alloc _) ⟨wr.heap.size, 0, none⟩ 1 1 [.int .u8 (n : Int)] (by rfl) rfl (World.news_of_block (heap_alloc_new _ _)) (one_u8 _) (by omega) (by unfold maxLen; omega) (by omega) (by simp; omega) _ rfl ?_; intro g1 cap1 w2 hown2 hgrow2 hat2 hlt2)
          rw [← HNN.out, HST.out] at hown2
          go_roundw
          case rel => exact ⟨j + 1, by omega, by go_num, ⟨_, _, rfl⟩, hown2, (bbox HB.out _).grown hgrow2 (by simp; omega) (fun k hk => (HO.out.lt k hk).1)⟩
          case measure => simp [intOf]; omega
        · clear hb1
          obtain ⟨n, hn⟩ : ∃ n, c.toNat = n := ⟨_, rfl⟩
          rw [hn] at hix h256 h1
          have HNN := Lib.hid hn
          clear hn
          go_wp2_with (at_builtin; refine wpList_append_lies _ rfl (.tmp 23) (.tmp 25) _ rfl w.heap.size 5 i0 _ 1 1 Try.underlying39 hi hi0 hi1 hi2 rfl (by omega) _ _ _ (by rfl) (HO.out.alloc _) ⟨wr.heap.size, 0, none⟩ 1 1 [.int .u8 (n : Int)] (by rfl) rfl (World.news_of_block (heap_alloc_new _ _)) (one_u8 _) (by omega) (by unfold maxLen; omega) (by omega) (by simp; omega) _ rfl ?_; intro g1 cap1 w2 hown2 hgrow2 hat2 hlt2)
          rw [← HNN.out, HST.out] at hown2
          go_roundw
          case rel => exact ⟨j + 1, by omega, by go_num, ⟨_, _, rfl⟩, hown2, (bbox HB.out _).grown hgrow2 (by simp; omega) (fun k hk => (HO.out.lt k hk).1)⟩
          case measure => simp [intOf]; omega
    · obtain rfl : j = z := by omega
      have hjz : ¬ (j : Int) < (j : Int) := by omega
      by_cases h0 : j = 0
      · have hnil : L = [] := by
          rw [← HL.out]
          have := HZ.out
          rw [h0] at this
          rw [List.length_eq_zero_iff.1 this]
          rfl
        subst hnil
        rcases HO.out.2 with ⟨e, _⟩ | ⟨g, c2, cur, e, _⟩
        · injection e with e1 _ e3
          subst e1
          subst e3
          subst h0
          have hb0 : (convert 39 9 (.slice none 0 0)).run Try.prog wr = .ok (.string ⟨#[]⟩) wr := by kernel_rfl
          go_wp2
          go_ret
          exact ⟨rfl, HB.out⟩
        · injection e with e1 _ e3
          subst e1
          subst e3
          have hback := run_convert_bytes_back (P := Try.prog) wr 39 9 5 ⟨g, 0, none⟩ cap [] Try.underlying39 Try.underlying5 Try.underlying9 (fun i hi => absurd hi (by simp))
          subst h0
          have hb2 : (convert 39 9 (.slice (some ⟨g, 0, none⟩) 0 cap)).run Try.prog wr = .ok (.string (Ml.mk [])) wr := hback
          clear hback
          go_wp2
          go_ret
          exact ⟨rfl, HB.out⟩
      · rcases HO.out.2 with ⟨_, e⟩ | ⟨g, c2, cur, e, _⟩
        · exact absurd e h0
        · injection e with e1 _ e3
          subst e1
          subst e3
          have hback := run_convert_bytes_back (P := Try.prog) wr 39 9 5 ⟨g, 0, none⟩ cap L Try.underlying39 Try.underlying5 Try.underlying9 (fun i hi => by
            have hi2 : i < l.length := by rw [← HL.out] at hi; simpa using hi
            rw [HO.out.cells (g := g) rfl i (.int .u8 ((L[i]'hi).toNat : Int)) (by
              unfold lowI
              rw [← HZ.out, List.take_length, List.getElem?_map]
              have : l[i]? = some l[i] := List.getElem?_eq_getElem hi2
              rw [this]
              simp [← HL.out])])
          have hlen : L.length = j := by rw [← HL.out, List.length_map]; exact HZ.out
          rw [hlen] at hback
          have hb2 : (convert 39 9 (.slice (some ⟨g, 0, none⟩) j cap)).run Try.prog wr = .ok (.string (Ml.mk L)) wr := hback
          clear hback hlen
          go_wp2
          go_ret
          exact ⟨rfl, HB.out⟩
end Go.Proofs.Ytbhafhbaldddiaa
