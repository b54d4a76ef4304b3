/- Plain laws on disks: what an operation does to a disk of two zones. No program in sight. -/
namespace Dm
structure Dk where
  b0 : ByteArray
  s0 : Int
  b1 : ByteArray
  s1 : Int
  cap : Int
  left : Int
  down : Bool
structure Wr where
  op : Int
  zone : Int
  b : ByteArray
  n : Int
def zero : Dk := ⟨⟨#[]⟩, 0, ⟨#[]⟩, 0, 0, 0, false⟩
def okB (d : Dk) : Bool := decide ((0 ≤ d.cap ∧ d.cap ≤ 131072) ∧ ((d.b0.size : Int) ≤ d.cap ∧ 0 ≤ d.s0 ∧ d.s0 ≤ d.b0.size) ∧ ((d.b1.size : Int) ≤ d.cap ∧ 0 ≤ d.s1 ∧ d.s1 ≤ d.b1.size))
def zb (d : Dk) (z : Int) : ByteArray := if z = 0 then d.b0 else d.b1
def zs (d : Dk) (z : Int) : Int := if z = 0 then d.s0 else d.s1
def setZ (d : Dk) (z : Int) (b : ByteArray) (s : Int) : Dk := if z = 0 then { d with b0 := b, s0 := s } else { d with b1 := b, s1 := s }
def mayB (x : Wr) (z : ByteArray) : Bool :=
  decide ((x.op = 0 ∧ x.b.toList ≠ [] ∧ x.n = 0) ∨ (x.op = 1 ∧ x.b.toList = [] ∧ x.n = 0) ∨ (x.op = 2 ∧ x.b.toList = [] ∧ 0 ≤ x.n ∧ x.n ≤ z.size))
def tick (d : Dk) : Dk := { d with left := if 0 < d.left then d.left - 1 else d.left }
/-- What an operation answers that may be, on a disk that is up. -/
def actF (d : Dk) (x : Wr) : Dk × Int :=
  if x.op = 0 then (if d.cap < ((zb d x.zone).size : Int) + x.b.size then (zero, 31) else (tick (setZ d x.zone (zb d x.zone ++ x.b) (zs d x.zone)), 0))
  else if x.op = 1 then (tick (setZ d x.zone (zb d x.zone) (zb d x.zone).size), 0)
  else (tick (setZ d x.zone ((zb d x.zone).extract 0 x.n.toNat) x.n), 0)
def doF (d : Dk) (x : Wr) : Dk × Int :=
  if okB d = false ∨ (x.zone ≠ 0 ∧ x.zone ≠ 1) ∨ mayB x (zb d x.zone) = false then (zero, 2)
  else if d.down = true then (zero, 30)
  else if d.left = 0 then ({ d with down := true }, 30)
  else actF d x
end Dm
namespace Dm
def newF (most : Int) : Dk × Int := if 0 ≤ most ∧ most ≤ 131072 then (⟨⟨#[]⟩, 0, ⟨#[]⟩, 0, most, -1, false⟩, 0) else (zero, 2)
def armF (d : Dk) (n : Int) : Dk × Int := if okB d = true then ({ d with left := if n < -1 then -1 else n }, 0) else (zero, 2)
/-- What a crash leaves of a zone: how much is sure then. -/
def left1 (b : ByteArray) (s a : Int) : Int := if a < 0 then s else if a ≤ b.size - s then s + a else b.size
def crashF (d : Dk) (a b : Int) : Dk × Int :=
  if okB d = true then (⟨d.b0.extract 0 (left1 d.b0 d.s0 a).toNat, left1 d.b0 d.s0 a, d.b1.extract 0 (left1 d.b1 d.s1 b).toNat, left1 d.b1 d.s1 b, d.cap, -1, false⟩, 0) else (zero, 2)
def allF : Dk → List Wr → Int → Dk × Int × Int
  | d, [], i => (d, i, 0)
  | d, x :: xs, i => if (doF d x).2 = 0 then allF (doF d x).1 xs (i + 1) else (if (doF d x).1.down = true then (doF d x).1 else d, i, (doF d x).2)
def greatB (d : Dk) : Bool := decide (262144 < (d.b0.size : Int) ∨ 262144 < (d.b1.size : Int))
def greatW (xs : List Wr) : Bool := decide (100 < xs.length) || xs.any fun x => decide (4096 < (x.b.size : Int))
end Dm
namespace Dm
theorem left1_lo (b : ByteArray) (s a : Int) (h : a < 0) : left1 b s a = s := by unfold left1; rw [if_pos h]
theorem left1_mid (b : ByteArray) (s a : Int) (h : 0 ≤ a) (k : a ≤ b.size - s) : left1 b s a = s + a := by unfold left1; rw [if_neg (by omega), if_pos k]
theorem left1_hi (b : ByteArray) (s a : Int) (h : 0 ≤ a) (k : b.size - s < a) : left1 b s a = s + (b.size - s) := by unfold left1; rw [if_neg (by omega), if_neg (by omega)]; omega
end Dm
namespace Dm
theorem allF_stop {d : Dk} {x : Wr} {xs : List Wr} {i : Int} {r : Dk × Int} (hr : doF d x = r) (h : r.2 ≠ 0) : allF d (x :: xs) i = (if r.1.down = true then r.1 else d, i, r.2) := by
  subst hr; rw [allF, if_neg h]
theorem allF_next {d : Dk} {x : Wr} {xs : List Wr} {i : Int} {r : Dk × Int} (hr : doF d x = r) (h : r.2 = 0) : allF d (x :: xs) i = allF r.1 xs (i + 1) := by
  subst hr; rw [allF, if_pos h]
theorem setZ_left (d : Dk) (z : Int) (b : ByteArray) (s : Int) : (setZ d z b s).left = d.left := by unfold setZ; split <;> rfl
theorem tick_left (d : Dk) : (tick d).left = if 0 < d.left then d.left - 1 else d.left := rfl
/-- How many operations are left, behind one. -/
theorem do_left (d : Dk) (x : Wr) : (doF d x).1.left = 0 ∨ (doF d x).1.left = d.left ∨ (0 < d.left ∧ (doF d x).1.left = d.left - 1) := by
  unfold doF actF
  split
  · left; rfl
  · split
    · left; rfl
    · split
      · right; left; rfl
      · split
        · split
          · left; rfl
          · simp only [tick_left, setZ_left]; split <;> omega
        · split
          · simp only [tick_left, setZ_left]; split <;> omega
          · simp only [tick_left, setZ_left]; split <;> omega
end Dm
namespace Dm
theorem do_ok {d : Dk} {x : Wr} {r : Dk} (h : doF d x = (r, 0)) : okB d = true ∧ (x.zone = 0 ∨ x.zone = 1) ∧ mayB x (zb d x.zone) = true ∧ d.down = false ∧ d.left ≠ 0 ∧ actF d x = (r, 0) := by
  unfold doF at h
  split at h
  · have := congrArg Prod.snd h; exact absurd this (show ¬ (2 : Int) = 0 by decide)
  · rename_i hn
    split at h
    · have := congrArg Prod.snd h; exact absurd this (show ¬ (30 : Int) = 0 by decide)
    · rename_i hd
      split at h
      · have := congrArg Prod.snd h; exact absurd this (show ¬ (30 : Int) = 0 by decide)
      · rename_i hl
        refine ⟨?_, ?_, ?_, by simpa using hd, hl, h⟩
        · cases e : okB d
          · exact absurd (Or.inl e) hn
          · rfl
        · by_cases e : x.zone ≠ 0 ∧ x.zone ≠ 1
          · exact absurd (Or.inr (Or.inl e)) hn
          · omega
        · cases e : mayB x (zb d x.zone)
          · exact absurd (Or.inr (Or.inr e)) hn
          · rfl
end Dm
