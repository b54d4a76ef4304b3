/- The iterator over a text's pieces: its contract. -/
import Derived.Test.YthepfbkbfkhcaaaGreatRf
import Derived.Test.YthepfbkbfkhcaaaGreatUtB
import Derived.Test.YthepfbkbfkhcaaaGreatUtP
import Derived.Shelf.Abstract
import Derived.Shelf.RegionOpen
import Derived.OwnWalkIn
import Derived.TacticsInMore
import Derived.LoopNIn
import Derived.LoopIn
namespace Go.Proofs.YthepfbkbfkhcaaaGreat
open Go.RowKit Go.Shelf
open Go
set_option linter.unusedVariables false
set_option maxRecDepth 100000
attribute [local go_sem] Oper.semAt_some
def encP (u : List Nat) (k : Nat) : Array Value := #[.int .i64 (Ut.posP u k : Int), .int .i64 (Ut.rP u k)]
def KpB (b : Nat) (W W' : World) : Prop := W'.heap[b]? = W.heap[b]?
theorem pieces_any (s : ByteArray) (w : World) : Calls Tryz.prog 59 #[.string s] w fun e w' => e = .returned (.func (.func 80) #[] #[.pointer (some ⟨w.heap.size, 0, none⟩)]) ∧ w' = w.alloc (.cells #[.string s] 9) := by
  go_enter Tryz.func59, Tryz.ntmps59
  go_wp2
  go_ret
  exact ⟨rfl, rfl⟩
set_option maxHeartbeats 4000000 in
theorem pieces1_in (b : Nat) (s : ByteArray) (hs : s.size ≤ 1000000) (w : World) (hb : w.cell? ⟨b, 0, none⟩ = some (.string s)) :
    SeqN Fence.wide 5 Tryz.prog 80 #[.pointer (some ⟨b, 0, none⟩)] (encP (Ut.bsL s)) (KpB b) none (Ut.pcs (Ut.bsL s)).length w := by
  intro l J Jx W hW hJ hJx hY h0
  have hbl : b < w.heap.size := World.block_lt_of_cell? _ _ hb
  have hb1 := (hW.cell (p := ⟨b, 0, none⟩) hbl).trans hb
  have hlen := Ut.bsL_len s
  have hp0 := Ut.posP_zero (Ut.bsL s)
  have hpe := Ut.posP_end (Ut.bsL s)
  rw [hlen] at hpe
  refine callsIn_of_wp Tryz.func80 rfl trivial ?_ rfl
  simp only [Tryz.ntmps80, List.size_toArray, List.length_cons, List.length_nil, Nat.reduceAdd, Nat.reduceSub, Array.replicate_succ, Array.replicate_zero, List.push_toArray, List.append_toArray, List.nil_append, List.cons_append]
  gi_wp2_with fail
  gi_loopw [3] (fun s3 wr => ∃ k : Nat, k ≤ (Ut.pcs (Ut.bsL s)).length ∧ s3 = .int .i64 (Ut.posP (Ut.bsL s) k : Int) ∧ J k wr ∧ wr.cell? ⟨b, 0, none⟩ = some (.string s)) (fun s3 _ => s.size - (intOf s3).toNat)
  case atStart => exact ⟨0, Nat.zero_le _, by rw [hp0]; rfl, h0, hb1⟩
  case round =>
    obtain ⟨k, hk, rfl, hJk, hc⟩ := hrel
    by_cases hlt : k < (Ut.pcs (Ut.bsL s)).length
    · obtain ⟨p1, -, p3⟩ := Ut.posP_at hlt
      have hr := Ut.rP_at hlt
      rw [hlen] at p1
      have c1 := piece_any s hs (Ut.posP (Ut.bsL s) k) p1 wr
      obtain ⟨fn, tmps, assign, body, hy, hR⟩ := hY k wr hlt hJk
      unfold encP at hy
      rw [hr] at hy
      have hn := Ut.piece_width (Sm.B s (Ut.posP (Ut.bsL s) k)) ((Ut.bsL s).drop (Ut.posP (Ut.bsL s) k + 1))
      rw [← Ut.bsL_drop s _ p1, List.length_drop, hlen] at hn
      obtain ⟨hn1, hn2, hn3⟩ := hn
      have HK := Lib.hid hlt
      generalize hpp : Ut.piece ((Ut.bsL s).drop (Ut.posP (Ut.bsL s) k)) = pp at *
      obtain ⟨r, n⟩ := pp
      generalize hq : Ut.posP (Ut.bsL s) k = q at *
      have HP := Lib.hid p3
      have HY := Lib.hid hY
      have HPP := Lib.hid hpp
      have HQ := Lib.hid hq
      have q1 : (q : Int) < (s.size : Int) := by omega
      simp only at hn1 hn2
      clear hY hp0 hpe hlen hlt p3 hpp hq hr h0 hb1 hk
      gi_wp2_with (refine ⟨trivial, ?_⟩; gi_at_call 81; refine (callsIn_wide.2 c1).mono ?_; rintro e' w' ⟨rfl, rfl⟩; unfold pieceV)
      refine hR.mono ?_
      rintro e W' (⟨rfl, hJ', hkp⟩ | ⟨rfl, hJx'⟩)
      · have hkp2 : W'.heap[b]? = wr.heap[b]? := hkp
        have hc2 : W'.cell? ⟨b, 0, none⟩ = some (.string s) := (World.cell?_of_block hkp2).trans hc
        have HJ := Lib.hid hJ'
        clear hJ' hkp hkp2 hc hJk hR hy c1
        gi_wp2_with fail
        go_roundw
        case rel => exact ⟨k + 1, HK.out, by rw [HP.out]; go_num, HJ.out, hc2⟩
        case measure => simp [intOf]; omega
      · gi_wp2_with fail
        refine bodyPost_ret (results_none rfl _ _ _) rfl ?_
        exact ⟨⟨_, rfl⟩, Or.inr ⟨k + 1, HK.out, hJx'⟩⟩
    · obtain rfl : k = (Ut.pcs (Ut.bsL s)).length := by omega
      rw [hpe]
      have HJ := Lib.hid hJk
      clear hJk hY hp0 hpe
      gi_wp2_with fail
      go_end0
      exact ⟨⟨_, rfl⟩, Or.inl HJ.out⟩
end Go.Proofs.YthepfbkbfkhcaaaGreat
