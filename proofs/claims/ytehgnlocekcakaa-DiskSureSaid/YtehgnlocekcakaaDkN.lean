/- Plain law: operations on unlike zones may be turned about. -/
import Derived.Test.YtehgnlocekcakaaDkM
namespace Dm
/-- What an operation that is done leaves of its zone. -/
def zoneAct (b : ByteArray) (s : Int) (x : Wr) : ByteArray × Int :=
  if x.op = 0 then (b ++ x.b, s) else if x.op = 1 then (b, b.size) else (b.extract 0 x.n.toNat, x.n)
def roomB (cap : Int) (b : ByteArray) (x : Wr) : Bool := decide (x.op = 0 → (b.size : Int) + x.b.size ≤ cap)
theorem act0 (d : Dk) (x : Wr) (hz : x.zone = 0) (h : roomB d.cap d.b0 x = true) :
    actF d x = (tick { d with b0 := (zoneAct d.b0 d.s0 x).1, s0 := (zoneAct d.b0 d.s0 x).2 }, 0) := by
  unfold actF zoneAct zb zs setZ
  rw [hz]
  unfold roomB at h
  simp only [decide_eq_true_eq] at h
  by_cases h0 : x.op = 0
  · have := h h0
    simp only [h0, if_true]
    rw [if_neg (by omega)]
  · by_cases h1 : x.op = 1
    · simp [h1]
    · simp [h0, h1]
theorem act1 (d : Dk) (x : Wr) (hz : x.zone = 1) (h : roomB d.cap d.b1 x = true) :
    actF d x = (tick { d with b1 := (zoneAct d.b1 d.s1 x).1, s1 := (zoneAct d.b1 d.s1 x).2 }, 0) := by
  unfold actF zoneAct zb zs setZ
  rw [hz]
  unfold roomB at h
  simp only [decide_eq_true_eq] at h
  by_cases h0 : x.op = 0
  · have := h h0
    simp only [h0, if_true]
    rw [if_neg (by simp; omega)]
    simp
  · by_cases h1 : x.op = 1
    · simp [h1]
    · simp [h0, h1]
theorem act_full (d : Dk) (x : Wr) (h : roomB d.cap (zb d x.zone) x = false) : actF d x = (zero, 31) := by
  unfold roomB at h
  simp only [decide_eq_false_iff_not, Classical.not_imp] at h
  unfold actF
  rw [if_pos h.1, if_pos (by omega)]
theorem act_room {d : Dk} {x : Wr} {r : Dk} (h : actF d x = (r, 0)) : roomB d.cap (zb d x.zone) x = true := by
  cases e : roomB d.cap (zb d x.zone) x
  · rw [act_full d x e] at h
    have := congrArg Prod.snd h
    exact absurd this (show ¬ (31 : Int) = 0 by decide)
  · rfl
def zOk (cap : Int) (b : ByteArray) (s : Int) : Prop := (b.size : Int) ≤ cap ∧ 0 ≤ s ∧ s ≤ b.size
theorem okB_iff (d : Dk) : okB d = true ↔ (0 ≤ d.cap ∧ d.cap ≤ 131072) ∧ zOk d.cap d.b0 d.s0 ∧ zOk d.cap d.b1 d.s1 := by
  unfold okB zOk; simp
theorem zoneAct_ok {cap : Int} {b : ByteArray} {s : Int} {x : Wr} (h : zOk cap b s) (hm : mayB x b = true) (hr : roomB cap b x = true) : zOk cap (zoneAct b s x).1 (zoneAct b s x).2 := by
  unfold mayB at hm
  unfold roomB at hr
  simp only [decide_eq_true_eq] at hm hr
  obtain ⟨a1, a2, a3⟩ := h
  unfold zoneAct
  by_cases h0 : x.op = 0
  · have := hr h0
    rw [if_pos h0]
    refine ⟨?_, a2, ?_⟩ <;> simp only [ByteArray.size_append] <;> push_cast <;> omega
  · rw [if_neg h0]
    by_cases h1 : x.op = 1
    · rw [if_pos h1]; exact ⟨a1, by omega, by simp⟩
    · rw [if_neg h1]
      have hn : 0 ≤ x.n ∧ x.n ≤ b.size := by
        rcases hm with k | k | k
        · exact absurd k.1 h0
        · exact absurd k.1 h1
        · exact k.2.2
      refine ⟨?_, hn.1, ?_⟩ <;> simp only [ByteArray.size_extract] <;> omega
theorem apart01 (d : Dk) (v x : Wr) (a b : Dk) (hv : v.zone = 0) (hx : x.zone = 1) (hl : d.left < 0) (h1 : doF d v = (a, 0)) (h2 : doF d x = (b, 0)) :
    ∃ r, doF a x = (r, 0) ∧ doF b v = (r, 0) := by
  obtain ⟨k1, _, k3, k4, k5, k6⟩ := do_ok h1
  obtain ⟨m1, _, m3, m4, m5, m6⟩ := do_ok h2
  have r1 := act_room k6
  have r2 := act_room m6
  rw [hv] at r1 k3
  rw [hx] at r2 m3
  have e0 : zb d 0 = d.b0 := rfl
  have e1 : zb d 1 = d.b1 := by unfold zb; rw [if_neg (by decide)]
  rw [e0] at r1 k3
  rw [e1] at r2 m3
  have ha := act0 d v hv r1
  have hb := act1 d x hx r2
  rw [ha] at k6
  rw [hb] at m6
  obtain rfl := (congrArg Prod.fst k6).symm
  obtain rfl := (congrArg Prod.fst m6).symm
  have o := (okB_iff d).1 k1
  have z0 := zoneAct_ok o.2.1 k3 r1
  have z1 := zoneAct_ok o.2.2 m3 r2
  have hna : ¬ 0 < d.left := by omega
  have t1 : ∀ q : Dk, q.left = d.left → tick q = q := by
    intro q hq; unfold tick; rw [hq, if_neg hna, ← hq]
  have ta : tick { d with b0 := (zoneAct d.b0 d.s0 v).1, s0 := (zoneAct d.b0 d.s0 v).2 } = { d with b0 := (zoneAct d.b0 d.s0 v).1, s0 := (zoneAct d.b0 d.s0 v).2 } := t1 _ rfl
  have tb : tick { d with b1 := (zoneAct d.b1 d.s1 x).1, s1 := (zoneAct d.b1 d.s1 x).2 } = { d with b1 := (zoneAct d.b1 d.s1 x).1, s1 := (zoneAct d.b1 d.s1 x).2 } := t1 _ rfl
  have tc : tick { d with b0 := (zoneAct d.b0 d.s0 v).1, s0 := (zoneAct d.b0 d.s0 v).2, b1 := (zoneAct d.b1 d.s1 x).1, s1 := (zoneAct d.b1 d.s1 x).2 } = { d with b0 := (zoneAct d.b0 d.s0 v).1, s0 := (zoneAct d.b0 d.s0 v).2, b1 := (zoneAct d.b1 d.s1 x).1, s1 := (zoneAct d.b1 d.s1 x).2 } := t1 _ rfl
  simp only [ta, tb]
  refine ⟨{ d with b0 := (zoneAct d.b0 d.s0 v).1, s0 := (zoneAct d.b0 d.s0 v).2, b1 := (zoneAct d.b1 d.s1 x).1, s1 := (zoneAct d.b1 d.s1 x).2 }, ?_, ?_⟩
  · unfold doF
    rw [if_neg, if_neg (by simp [k4]), if_neg (by simpa using k5), act1 _ x hx (by exact r2)]
    · exact congrArg (fun q => (q, (0 : Int))) tc
    rintro (q | q | q)
    · have := (okB_iff { d with b0 := (zoneAct d.b0 d.s0 v).1, s0 := (zoneAct d.b0 d.s0 v).2 }).2 ⟨o.1, z0, o.2.2⟩; rw [this] at q; cases q
    · omega
    · rw [hx] at q; unfold zb at q; rw [if_neg (by decide)] at q; rw [m3] at q; cases q
  · unfold doF
    rw [if_neg, if_neg (by simp [k4]), if_neg (by simpa using k5), act0 _ v hv (by exact r1)]
    · exact congrArg (fun q => (q, (0 : Int))) tc
    rintro (q | q | q)
    · have := (okB_iff { d with b1 := (zoneAct d.b1 d.s1 x).1, s1 := (zoneAct d.b1 d.s1 x).2 }).2 ⟨o.1, o.2.1, z1⟩; rw [this] at q; cases q
    · omega
    · rw [hv] at q; unfold zb at q; rw [if_pos rfl] at q; rw [k3] at q; cases q
theorem apart_law (d : Dk) (v x : Wr) (a b : Dk) (hz : v.zone ≠ x.zone) (hl : d.left < 0) (h1 : doF d v = (a, 0)) (h2 : doF d x = (b, 0)) :
    ∃ r, doF a x = (r, 0) ∧ doF b v = (r, 0) := by
  rcases (do_ok h1).2.1 with e | e <;> rcases (do_ok h2).2.1 with f | f
  · exact absurd (e.trans f.symm) hz
  · exact apart01 d v x a b e f hl h1 h2
  · obtain ⟨r, p, q⟩ := apart01 d x v b a f e hl h2 h1
    exact ⟨r, q, p⟩
  · exact absurd (e.trans f.symm) hz
end Dm
