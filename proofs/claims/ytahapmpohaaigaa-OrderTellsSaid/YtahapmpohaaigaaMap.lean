/- Maps as partial functions from values to values: a map that the call made or was handed, its stores, its look-ups, its ranges. Over any program; conditions: keys of a kind that reads as a key. -/
import Derived.Test.YtahapmpohaaigaaBase
import Derived.Maps.RangeWalk
import Derived.Maps.OwnOps
import Derived.Lib.OthersKept
namespace Go.Proofs.Ytahapmpohaaigaa
open Go.Maps (Keyed)
open Go.WideShapes Go.RowKit
open Go
/-- How an element reads that is told as itself. -/
def heldElem (ok : Value → Bool) (v : Value) : Option (DataW Value × List MemPlace) := if ok v then some (.held v, []) else none
theorem held_mk {ok : Value → Bool} {v : Value} (h : ok v = true) : heldElem ok v = some (.held v, []) := by simp [heldElem, h]
theorem held_inv {ok : Value → Bool} {v : Value} {z : DataW Value × List MemPlace} (h : heldElem ok v = some z) : ok v = true ∧ z = (.held v, []) := by
  unfold heldElem at h
  split at h
  · exact ⟨by assumption, by cases h; rfl⟩
  · cases h
/-- The datum of a map tells what f tells. -/
def Tells (P : Program) (k : TypeId) (D : DataW Value) (f : Value → Option Value) : Prop :=
  ∀ key kl, keyOf P k key = some kl → (f key = none → Maps.has D kl = false) ∧ ∀ v, f key = some v → Maps.has D kl = true ∧ ∀ z, D.atKey kl z = .held v
/-- Block b of w is a map of at most n entries that tells f. -/
def MapF (P : Program) (k : TypeId) (ok : Value → Bool) (w : World) (b n : Nat) (f : Value → Option Value) : Prop := ∃ D, w.ownsMap P k (heldElem ok) b n D ∧ Tells P k D f
section
variable {P : Program} {k e t : TypeId} {ok : Value → Bool} {w : World} {b n : Nat} {f : Value → Option Value}
theorem MapF.lt (h : MapF P k ok w b n f) : b < w.heap.size := by
  obtain ⟨D, h1, _⟩ := h
  exact h1.lt
theorem MapF.mono (h : MapF P k ok w b n f) {m : Nat} (hm : n ≤ m) : MapF P k ok w b m f := by
  obtain ⟨D, h1, h2⟩ := h
  exact ⟨D, h1.mono hm, h2⟩
theorem MapF.congr (h : MapF P k ok w b n f) {g : Value → Option Value} (hg : ∀ key kl, keyOf P k key = some kl → f key = g key) : MapF P k ok w b n g := by
  obtain ⟨D, h1, h2⟩ := h
  exact ⟨D, h1, fun key kl hk => by rw [← hg key kl hk]; exact h2 key kl hk⟩
theorem MapF.kept {w' : World} {row : Option Nat} (h : MapF P k ok w b n f) (hg : w.grownBy w' row) (hne : some b ≠ row) : MapF P k ok w' b n f := by
  obtain ⟨D, h1, h2⟩ := h
  exact ⟨D, h1.kept hg hne, h2⟩
theorem MapF.alloc (h : MapF P k ok w b n f) (o : Obj) : MapF P k ok (w.alloc o) b n f := h.kept (World.grownBy_alloc w o none) (by simp)
theorem MapF.drew (h : MapF P k ok w b n f) : MapF P k ok w.drew b n f := h
theorem MapF.setCell (h : MapF P k ok w b n f) {a : Addr} (ha : b ≠ a.block) (u : Value) : MapF P k ok (w.setCell a u) b n f := by
  obtain ⟨D, h1, h2⟩ := h
  exact ⟨D, h1.setCell ha u, h2⟩
/-- A callee that leaves what was there leaves the map. -/
theorem MapF.below {w' : World} {m : Nat} (h : MapF P k ok w b n f) (hb : Below m w w') (hm : b < m) : MapF P k ok w' b n f := by
  obtain ⟨D, ⟨es, clock, h1, h3⟩, h2⟩ := h
  exact ⟨D, ⟨es, clock, (hb.block _ hm).trans h1, h3⟩, h2⟩
theorem MapF.made (P : Program) (k : TypeId) (ok : Value → Bool) (w : World) : MapF P k ok (w.alloc (.map #[] 0)) w.heap.size 0 (fun _ => none) :=
  ⟨.map [], World.ownsMap_made w P k _, fun key kl _ => ⟨fun _ => rfl, fun v hv => by cases hv⟩⟩
/-- f with v at the key. -/
noncomputable def updF (f : Value → Option Value) (key v : Value) : Value → Option Value := fun x => @ite _ (x = key) (Classical.propDecidable _) (some v) (f x)
theorem updF_same (f : Value → Option Value) (key v : Value) : updF f key v key = some v := by simp [updF]
theorem updF_other {f : Value → Option Value} {key v x : Value} (h : x ≠ key) : updF f key v x = f x := by simp [updF, h]
theorem Tells.put {D : DataW Value} (K : Keyed P k) (hD : Maps.IsMap D) (h : Tells P k D f) {key v : Value} {kl : Lit} (hkey : keyOf P k key = some kl) : Tells P k (D.put kl (.held v)) (updF f key v) := by
  intro x xl hx
  by_cases e : x = key
  · subst e
    rw [hkey] at hx
    cases hx
    rw [updF_same]
    refine ⟨(fun h => nomatch h), fun u hu => ?_⟩
    cases hu
    exact ⟨Maps.has_put_same hD (K.key hkey) _, fun z => Maps.atKey_put_same hD (K.key hkey) _ z⟩
  · have hne : xl ≠ kl := fun e1 => e (K.inj hx (e1 ▸ hkey))
    rw [updF_other e, Maps.has_put_other hne]
    refine ⟨(h x xl hx).1, fun u hu => ?_⟩
    obtain ⟨h1, h2⟩ := (h x xl hx).2 u hu
    exact ⟨h1, fun z => by rw [Maps.atKey_put_other hne]; exact h2 z⟩
/-- m[k] = v. -/
theorem MapF.store (h : MapF P k ok w b n f) (K : Keyed P k) (ht : P.underlying t = some (.map k e)) (hn : n < maxLen) {key v : Value} {kl : Lit} (hkey : keyOf P k key = some kl) (hv : ok v = true) :
    ∃ w', (Instr.mapUpdate t (.map (some b)) key v).run P w = .ok () w' ∧ MapF P k ok w' b (n + 1) (updF f key v) ∧ w.mapTurned w' b := by
  obtain ⟨D, h1, h2⟩ := h
  obtain ⟨w', hr, h3, h4⟩ := h1.store K ht hn hkey (held_mk hv)
  exact ⟨w', hr, ⟨_, h3, h2.put K h1.isMap hkey⟩, h4⟩
/-- m[k], with ok or without. -/
theorem MapF.look (h : MapF P k ok w b n f) (K : Keyed P k) (ht : P.underlying t = some (.map k e)) {z : Value} (hz : (zeroValue e).run P w = .ok z w) (hzo : ok z = true) {key : Value} {kl : Lit} (hkey : keyOf P k key = some kl) :
    (Instr.lookup t (.map (some b)) key true).run P w = .ok (.tuple #[(f key).getD z, .bool (f key).isSome]) w := by
  obtain ⟨D, h1, h2⟩ := h
  obtain ⟨v, ps, hr, hv⟩ := h1.look_ok K ht hz (held_mk hzo) hkey
  obtain ⟨_, hv2⟩ := held_inv hv
  obtain ⟨g1, g2⟩ := h2 key kl hkey
  rw [hr]
  cases hf : f key with
  | none =>
    rw [g1 hf]
    rw [Maps.atKey_of_not_has (g1 hf)] at hv2
    simp only [Prod.mk.injEq, DataW.held.injEq] at hv2
    simp [← hv2.1]
  | some u =>
    rw [(g2 u hf).1]
    rw [(g2 u hf).2] at hv2
    simp only [Prod.mk.injEq, DataW.held.injEq] at hv2
    simp [← hv2.1]
theorem MapF.look1 (h : MapF P k ok w b n f) (K : Keyed P k) (ht : P.underlying t = some (.map k e)) {z : Value} (hz : (zeroValue e).run P w = .ok z w) (hzo : ok z = true) {key : Value} {kl : Lit} (hkey : keyOf P k key = some kl) :
    (Instr.lookup t (.map (some b)) key false).run P w = .ok ((f key).getD z) w := by
  obtain ⟨D, h1, h2⟩ := h
  obtain ⟨v, ps, hr, hv⟩ := h1.lookup K ht hz (held_mk hzo) hkey
  obtain ⟨_, hv2⟩ := held_inv hv
  obtain ⟨g1, g2⟩ := h2 key kl hkey
  rw [hr]
  cases hf : f key with
  | none =>
    rw [Maps.atKey_of_not_has (g1 hf)] at hv2
    simp only [Prod.mk.injEq, DataW.held.injEq] at hv2
    simp [← hv2.1]
  | some u =>
    rw [(g2 u hf).2] at hv2
    simp only [Prod.mk.injEq, DataW.held.injEq] at hv2
    simp [← hv2.1]
/-- A range over the map under way: left: the keys that are still to come. -/
def RangeF (P : Program) (k : TypeId) (ok : Value → Bool) (w : World) (b r n : Nat) (f : Value → Option Value) (left : Value → Prop) (cnt : Nat) : Prop :=
  ∃ D lf, w.ranges P k (heldElem ok) b r n D lf cnt ∧ Tells P k D f ∧ ∀ key kl, keyOf P k key = some kl → (lf kl = true ↔ left key)
variable {r cnt : Nat} {left : Value → Prop}
theorem RangeF.owns (h : RangeF P k ok w b r n f left cnt) : MapF P k ok w b n f := by
  obtain ⟨D, lf, h1, h2, _⟩ := h
  exact ⟨D, h1.owns, h2⟩
theorem RangeF.left_eq (h : RangeF P k ok w b r n f left cnt) : w.rangeLeft b r = cnt := by
  obtain ⟨D, lf, h1, _⟩ := h
  exact h1.left_eq
theorem RangeF.ne (h : RangeF P k ok w b r n f left cnt) : r ≠ b := by
  obtain ⟨D, lf, h1, _⟩ := h
  exact h1.ne
theorem RangeF.rlt (h : RangeF P k ok w b r n f left cnt) : r < w.heap.size := by
  obtain ⟨D, lf, h1, _⟩ := h
  exact h1.lt
theorem RangeF.kept {w' : World} {row : Option Nat} (h : RangeF P k ok w b r n f left cnt) (hg : w.grownBy w' row) (hb : some b ≠ row) (hr : some r ≠ row) : RangeF P k ok w' b r n f left cnt := by
  obtain ⟨D, lf, h1, h2⟩ := h
  exact ⟨D, lf, h1.kept hg hb hr, h2⟩
theorem MapF.range (h : MapF P k ok w b n f) (K : Keyed P k) (ht : P.underlying t = some (.map k e)) :
    ∃ w' cnt, (Instr.range t (.map (some b))).run P w = .ok (.pointer (some ⟨w.heap.size, 0, none⟩)) w' ∧ RangeF P k ok w' b w.heap.size n f (fun x => f x ≠ none) cnt ∧ cnt ≤ n ∧ w.grownBy w' none ∧ w'.heap.size = w.heap.size + 1 := by
  obtain ⟨D, h1, h2⟩ := h
  obtain ⟨w', hr, h3, h4, h5⟩ := h1.range K ht
  refine ⟨w', _, hr, ⟨D, _, h3, h2, fun key kl hk => ?_⟩, h1.size_le, h4, h5⟩
  obtain ⟨g1, g2⟩ := h2 key kl hk
  constructor
  · intro hh e
    rw [g1 e] at hh
    cases hh
  · intro hh
    cases hf : f key with
    | none => exact absurd hf hh
    | some u => exact (g2 u hf).1
theorem RangeF.next (h : RangeF P k ok w b r n f left cnt) (K : Keyed P k) (ty : TypeId) :
    (cnt = 0 ∧ (∀ key kl, keyOf P k key = some kl → ¬ left key) ∧ (Instr.next (.pointer (some ⟨r, 0, none⟩)) false ty).run P w = .ok (.tuple #[.bool false]) w) ∨
    ∃ key v kl w' cnt', keyOf P k key = some kl ∧ left key ∧ ok v = true ∧ f key = some v ∧ (Instr.next (.pointer (some ⟨r, 0, none⟩)) false ty).run P w = .ok (.tuple #[.bool true, key, v]) w' ∧
      RangeF P k ok w' b r n f (fun x => left x ∧ x ≠ key) cnt' ∧ cnt' < cnt ∧ w.grownBy w' (some r) ∧ w'.heap.size = w.heap.size ∧ (Instr.entry (.pointer (some ⟨r, 0, none⟩))).run P w' = .ok (.tuple #[key, v]) w' := by
  obtain ⟨D, lf, h1, h2, h3⟩ := h
  rcases h1.next K ty with ⟨c0, hl, hr⟩ | ⟨key, v, kl, y, w', cnt', hkey, hlk, hv, hat, hr, h4, hlt, hg, hs, hen⟩
  · refine Or.inl ⟨c0, fun key kl hk hh => ?_, hr⟩
    have := (h3 key kl hk).2 hh
    rw [hl kl] at this
    cases this
  · obtain ⟨hok, rfl⟩ := held_inv hv
    obtain ⟨g1, g2⟩ := h2 key kl hkey
    have hf : f key = some v := by
      cases hf : f key with
      | none =>
        have h5 := Maps.atKey_of_not_has (g1 hf) (DataW.nil : DataW Value)
        rw [hat] at h5
        cases h5
      | some u =>
        have h5 := (g2 u hf).2 .nil
        rw [hat] at h5
        cases h5
        rfl
    refine Or.inr ⟨key, v, kl, w', cnt', hkey, (h3 key kl hkey).1 hlk, hok, hf, hr, ⟨D, _, h4, h2, fun x xl hx => ?_⟩, hlt, hg, hs, hen⟩
    have hx3 := h3 x xl hx
    by_cases e : x = key
    · subst e
      rw [hkey] at hx
      cases hx
      simp [WideAt.sameKey_self (K.key hkey)]
    · have hne : xl ≠ kl := fun e1 => e (K.inj hx (e1 ▸ hkey))
      rw [Maps.sameKey_ne hne]
      simp [e, hx3]
end
/-! Worlds that differ in one map alone. -/
theorem gb_refl (w : World) (row : Option Nat) : w.grownBy w row := ⟨rfl, rfl, rfl, Nat.le_refl _, fun _ _ _ => rfl⟩
theorem gb_iterAt (w : World) (k : Nat) (s : ByteArray) (pos : Nat) : w.grownBy (w.iterAt k s pos) (some k) := ⟨rfl, rfl, rfl, by rw [Lib.iterAt_size]; exact Nat.le_refl _, fun j _ hj => Lib.iterAt_other w k j s pos (fun e => hj (by rw [e]))⟩
/-- Some row, then a block that is new. -/
theorem gb_new {a b c : World} {row : Option Nat} {k : Nat} (h : a.grownBy b row) (h2 : b.grownBy c (some k)) (hk : a.heap.size ≤ k) : a.grownBy c row := h.andThen h2 (fun _ e => by cases e; exact Or.inl hk)
theorem gb_same {a b c : World} {row : Option Nat} (h : a.grownBy b row) (h2 : b.grownBy c row) : a.grownBy c row := h.andThen h2 (fun _ e => Or.inr e)
theorem gb_none {a b c : World} {row : Option Nat} (h : a.grownBy b row) (h2 : b.grownBy c none) : a.grownBy c row := h.andThen h2 (fun _ e => nomatch e)
theorem gb_cell {w w' : World} {row : Option Nat} (hg : w.grownBy w' row) {a : Addr} (hlt : a.block < w.heap.size) (hne : some a.block ≠ row) : w'.cell? a = w.cell? a := World.cell?_of_block (hg.block _ hlt hne)
theorem gb_frozen {w w' : World} {row : Option Nat} (hg : w.grownBy w' row) {a : Addr} (hlt : a.block < w.heap.size) (hne : some a.block ≠ row) : w'.frozen? a = w.frozen? a := World.frozen?_of_block (hg.block _ hlt hne)
theorem gb_below {w w' : World} {b : Nat} (h : w.grownBy w' (some b)) (n : Nat) (hn : n ≤ b) (hn2 : n ≤ w.heap.size) : Below n w w' := ⟨h.os, h.tape, h.output, h.size, fun k hk => h.block k (by omega) (fun e => by cases e; omega)⟩
/-! At the operation, for the walk. -/
section
variable {P : Program} (w : World) {ops : Array Oper} {rest : List Oper} {o : Oper} {a : Act} {Q : Exit → Act → World → Prop}
theorem wpList_store_f (hg : o.guard = none) (m x v : Operand) (t : TypeId) (hop : o.op = Op.mapUpdate t m x v) (k e : TypeId) (K : Keyed P k) (ht : P.underlying t = some (.map k e)) (ok : Value → Bool) (b n : Nat) (f : Value → Option Value)
    (hm : a.eval m = .map (some b)) (h : MapF P k ok w b n f) (hn : n < maxLen) (key val : Value) (kl : Lit) (hx : a.eval x = key) (hv : a.eval v = val) (hkey : keyOf P k key = some kl) (hval : ok val = true)
    (hK : ∀ w', MapF P k ok w' b (n + 1) (updF f key val) → w.mapTurned w' b → wpList P ops Q rest (a.put o.dst undef) w') : wpList P ops Q (o :: rest) a w := by
  refine wpList_plain hg fun K' hK' => ?_
  obtain ⟨w', hrun, r1, r2⟩ := h.store K ht hn hkey hval
  unfold Oper.wp
  simp [execOp, hop, hm, hx, hv, hrun, Result.andThen]
  exact hK' _ _ (hK w' r1 r2)
theorem wpList_insert_f (hg : o.guard = none) (m x v : Operand) (t : TypeId) (hop : o.op = Op.insert t m x v) (k e : TypeId) (K : Keyed P k) (ht : P.underlying t = some (.map k e)) (ok : Value → Bool) (b n : Nat) (f : Value → Option Value)
    (hm : a.eval m = .map (some b)) (h : MapF P k ok w b n f) (hn : n < maxLen) (key val : Value) (kl : Lit) (hx : a.eval x = key) (hv : a.eval v = val) (hkey : keyOf P k key = some kl) (hval : ok val = true)
    (hK : ∀ w', MapF P k ok w' b (n + 1) (updF f key val) → w.mapTurned w' b → wpList P ops Q rest (a.put o.dst undef) w') : wpList P ops Q (o :: rest) a w := by
  refine wpList_plain hg fun K' hK' => ?_
  obtain ⟨w', hrun, r1, r2⟩ := h.store K ht hn hkey hval
  unfold Oper.wp
  simp [execOp, hop, hm, hx, hv, hrun, Result.andThen]
  exact hK' _ _ (hK w' r1 r2)
theorem wpList_look_f (hg : o.guard = none) (m x : Operand) (t : TypeId) (hop : o.op = Op.lookup t m x true) (k e : TypeId) (K : Keyed P k) (ht : P.underlying t = some (.map k e)) (ok : Value → Bool) (b n : Nat) (f : Value → Option Value)
    (hm : a.eval m = .map (some b)) (h : MapF P k ok w b n f) {z : Value} (hz : (zeroValue e).run P w = .ok z w) (hzo : ok z = true) (key : Value) (kl : Lit) (hx : a.eval x = key) (hkey : keyOf P k key = some kl) (r : Option Value) (hr : f key = r)
    (hK : wpList P ops Q rest (a.put o.dst (.tuple #[r.getD z, .bool r.isSome])) w) : wpList P ops Q (o :: rest) a w := by
  refine wpList_plain hg fun K' hK' => ?_
  have hrun := h.look K ht hz hzo hkey
  rw [hr] at hrun
  unfold Oper.wp
  simp [execOp, hop, hm, hx, hrun, Result.andThen]
  exact hK' _ _ hK
theorem wpList_range_f (hg : o.guard = none) (m : Operand) (t : TypeId) (hop : o.op = Op.range t m) (k e : TypeId) (K : Keyed P k) (ht : P.underlying t = some (.map k e)) (ok : Value → Bool) (b n : Nat) (f : Value → Option Value)
    (hm : a.eval m = .map (some b)) (h : MapF P k ok w b n f)
    (hK : ∀ w' cnt, RangeF P k ok w' b w.heap.size n f (fun x => f x ≠ none) cnt → cnt ≤ n → w.grownBy w' none → w'.heap.size = w.heap.size + 1 → wpList P ops Q rest (a.put o.dst (.pointer (some ⟨w.heap.size, 0, none⟩))) w') :
    wpList P ops Q (o :: rest) a w := by
  refine wpList_plain hg fun K' hK' => ?_
  obtain ⟨w', cnt, hrun, r1, r2, r3, r4⟩ := h.range K ht
  unfold Oper.wp
  simp [execOp, hop, hm, hrun, Result.andThen]
  exact hK' _ _ (hK w' cnt r1 r2 r3 r4)
theorem wpList_next_f {α β : Type} (hg : o.guard = none) (it : Operand) (hop : o.op = Op.next it false) (k : TypeId) (K : Keyed P k) (ok : Value → Bool) (mkK : α → Value) (mkV : β → Value)
    (invK : ∀ key kl, keyOf P k key = some kl → ∃ x, key = mkK x) (invV : ∀ v, ok v = true → ∃ c, v = mkV c) (b r n : Nat) (f : Value → Option Value) (left : Value → Prop) (cnt : Nat)
    (hit : a.eval it = .pointer (some ⟨r, 0, none⟩)) (h : RangeF P k ok w b r n f left cnt)
    (hDone : cnt = 0 → (∀ key kl, keyOf P k key = some kl → ¬ left key) → wpList P ops Q rest (a.put o.dst (.tuple #[.bool false])) w)
    (hMore : ∀ (x : α) (c : β) (kl : Lit) (w' : World) (cnt' : Nat), keyOf P k (mkK x) = some kl → left (mkK x) → ok (mkV c) = true → f (mkK x) = some (mkV c) → RangeF P k ok w' b r n f (fun z => left z ∧ z ≠ mkK x) cnt' → cnt' < cnt →
      w.grownBy w' (some r) → w'.heap.size = w.heap.size → (Instr.entry (.pointer (some ⟨r, 0, none⟩))).run P w' = .ok (.tuple #[mkK x, mkV c]) w' → wpList P ops Q rest (a.put o.dst (.tuple #[.bool true, mkK x, mkV c])) w') :
    wpList P ops Q (o :: rest) a w := by
  refine wpList_plain hg fun K' hK' => ?_
  unfold Oper.wp
  rcases h.next K o.type with ⟨h0, hl, hrun⟩ | ⟨key, v, kl, w', cnt', hkey, hlk, hok, hf, hrun, hrg, hlt, hgr, hsz, hen⟩
  · simp [execOp, hop, hit, hrun, Result.andThen]
    exact hK' _ _ (hDone h0 hl)
  · obtain ⟨x, rfl⟩ := invK key kl hkey
    obtain ⟨c, rfl⟩ := invV v hok
    simp [execOp, hop, hit, hrun, Result.andThen]
    exact hK' _ _ (hMore x c kl w' cnt' hkey hlk hok hf hrg hlt hgr hsz hen)
end
end Go.Proofs.Ytahapmpohaaigaa
