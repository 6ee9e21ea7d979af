/- A small program logic over pure contents: the values, the ownership of blocks, and what they say of a world. -/
import Derived.Below
import Derived.Calls
import Derived.Orders
import Derived.Laws.AppendOwn
import Derived.Laws.MakeOwn
import Derived.Laws.Cells
import Derived.Laws.Rows
import Derived.Lib.LaidTab
import Derived.Lib.ItoaNum
import Derived.Deep.MidRow
import Derived.Laws.BytesArg
set_option linter.unusedVariables false
set_option linter.unusedSimpArgs false
namespace Go.Vm
open Go Go.RowKit

/-- Pure contents. -/
inductive PV where
  | w (v : Value)
  | nil
  | sl (k : Nat) (xs : List PV)
  | agg (ps : List PV)
  | ptr (p : PV)
  | fn (f : FuncId) (caps : List PV)
  | lnk (c : Nat)
instance : Inhabited PV := ⟨.nil⟩

mutual
def sz : PV → Nat
  | .agg ps => szs ps
  | _ => 1
def szs : List PV → Nat
  | [] => 0
  | p :: ps => sz p + szs ps
end

/-- Which root, and which place in it, owns a block. -/
abbrev Col := Nat → Option (Nat × List Nat)
/-- The roots' header values. -/
abbrev Lk := Nat → Option Value

def lk0 : Lk := fun _ => none
def CellsAt (w : World) (b o : Nat) (d : List Value) : Prop := ∀ j v, d[j]? = some v → w.cell? ⟨b, o + j, none⟩ = some v

/-- A row of n elements of k cells that begins a block. -/
def OwnsRow (w : World) (k : Nat) (v : Value) (n : Nat) (d : List Value) : Prop := ∃ e, w.ownsRow 0 e k v n d

/-- A slice's header and cells, held to the depth n (0: to be read only) by the root r at a place. -/
def SlRep (w : World) (col : Col) (r : Nat) (n : Nat) (pos : List Nat) (k len : Nat) (v : Value) (d : List Value) : Prop :=
  match n with
  | 0 => ∃ A cap, v = .slice A len cap ∧ len ≤ cap ∧ (d ≠ [] → ∃ b o, A = some ⟨b, o, none⟩ ∧ col b = none ∧ CellsAt w b o d)
  | _ + 1 => OwnsRow w k v len d ∧ ∀ b, v.ownBlock = some b → col b = some (r, pos)
def PtRep (w : World) (col : Col) (r : Nat) (n : Nat) (pos : List Nat) (b f : Nat) (d : List Value) : Prop :=
  match n with
  | 0 => col b = none ∧ CellsAt w b f d
  | _ + 1 => f = 0 ∧ col b = some (r, pos) ∧ ∃ T, w.heap[b]? = some (.cells d.toArray T (0, 0))

mutual
def Rep (w : World) (col : Col) (lk : Lk) (r : Nat) : Nat → List Nat → PV → List Value → Prop
  | _, _, .w v, cs => cs = [v] ∧ v.oneCell' = true
  | _, _, .nil, cs => cs = [.slice none 0 0]
  | n, pos, .sl k xs, cs =>
    ∃ v d, cs = [v] ∧ (∀ x ∈ xs, sz x = k) ∧ RepL w col lk0 r (n - 1) pos 0 xs d ∧ SlRep w col r n pos k xs.length v d
  | n, pos, .agg ps, cs => RepL w col lk r n pos 0 ps cs
  | n, pos, .ptr p, cs =>
    ∃ b f d, cs = [.pointer (some ⟨b, f, none⟩)] ∧ d ≠ [] ∧ Rep w col lk r (n - 1) (pos ++ [0]) p d ∧ PtRep w col r n pos b f d
  | _, pos, .fn f caps, cs => ∃ vs, cs = [.func (.func f) #[] vs.toArray] ∧ RepL w col lk0 r 0 pos 0 caps vs
  | _, _, .lnk c, cs => ∃ v, lk c = some v ∧ cs = [v] ∧ v.oneCell' = true
def RepL (w : World) (col : Col) (lk : Lk) (r : Nat) : Nat → List Nat → Nat → List PV → List Value → Prop
  | _, _, _, [], cs => cs = []
  | n, pos, i, p :: ps, cs => ∃ c d, cs = c ++ d ∧ Rep w col lk r n (pos ++ [i]) p c ∧ RepL w col lk r n pos (i + 1) ps d
end

section
variable {w : World} {col : Col}
mutual
theorem Rep.len {lk : Lk} : ∀ (p : PV) {r n pos cs}, Rep w col lk r n pos p cs → cs.length = sz p
  | .w v, _, _, _, _, h => by simp only [Rep] at h; simp [h.1, sz]
  | .nil, _, _, _, _, h => by simp only [Rep] at h; simp [h, sz]
  | .sl k xs, _, _, _, _, h => by simp only [Rep] at h; obtain ⟨v, d, rfl, _⟩ := h; simp [sz]
  | .agg ps, _, _, _, _, h => by simp only [Rep] at h; simpa [sz] using RepL.len ps h
  | .ptr p, _, _, _, _, h => by simp only [Rep] at h; obtain ⟨b, f, d, rfl, _⟩ := h; simp [sz]
  | .fn f caps, _, _, _, _, h => by simp only [Rep] at h; obtain ⟨vs, rfl, _⟩ := h; simp [sz]
  | .lnk c, _, _, _, _, h => by simp only [Rep] at h; obtain ⟨v, _, rfl, _⟩ := h; simp [sz]
theorem RepL.len {lk : Lk} : ∀ (ps : List PV) {r n pos i cs}, RepL w col lk r n pos i ps cs → cs.length = szs ps
  | [], _, _, _, _, _, h => by simp only [RepL] at h; simp [h, szs]
  | p :: ps, _, _, _, _, _, h => by
    simp only [RepL] at h
    obtain ⟨c, d, rfl, h1, h2⟩ := h
    simp [szs, Rep.len p h1, RepL.len ps h2]
end
mutual
theorem Rep.one {lk : Lk} : ∀ (p : PV) {r n pos cs}, Rep w col lk r n pos p cs → ∀ u ∈ cs, u.oneCell' = true
  | .w v, _, _, _, _, h => by simp only [Rep] at h; obtain ⟨rfl, h⟩ := h; simpa using h
  | .nil, _, _, _, _, h => by simp only [Rep] at h; subst h; simp [Value.oneCell']
  | .sl k xs, _, n, _, _, h => by
    simp only [Rep] at h; obtain ⟨v, d, rfl, _, _, h⟩ := h
    cases n <;> simp only [SlRep] at h
    · obtain ⟨A, cap, rfl, _⟩ := h; simp [Value.oneCell']
    · obtain ⟨⟨e, h1, h2⟩, _⟩ := h
      rcases h2 with ⟨rfl, _⟩ | ⟨g, cap, cur, rfl, _⟩ <;> simp [Value.oneCell']
  | .agg ps, _, _, _, _, h => by simp only [Rep] at h; exact RepL.one ps h
  | .ptr p, _, _, _, _, h => by simp only [Rep] at h; obtain ⟨b, f, d, rfl, _⟩ := h; simp [Value.oneCell']
  | .fn f caps, _, _, _, _, h => by simp only [Rep] at h; obtain ⟨vs, rfl, _⟩ := h; simp [Value.oneCell']
  | .lnk c, _, _, _, _, h => by simp only [Rep] at h; obtain ⟨v, _, rfl, h⟩ := h; simpa using h
theorem RepL.one {lk : Lk} : ∀ (ps : List PV) {r n pos i cs}, RepL w col lk r n pos i ps cs → ∀ u ∈ cs, u.oneCell' = true
  | [], _, _, _, _, _, h => by simp only [RepL] at h; simp [h]
  | p :: ps, _, _, _, _, _, h => by
    simp only [RepL] at h
    obtain ⟨c, d, rfl, h1, h2⟩ := h
    intro u hu
    rcases List.mem_append.1 hu with hu | hu
    · exact Rep.one p h1 u hu
    · exact RepL.one ps h2 u hu
end
end

/-- The blocks that a content, held to a depth by a root at a place, may speak of. -/
def Mine (col : Col) (r n : Nat) (pos : List Nat) (b : Nat) : Prop := col b = none ∨ (n ≠ 0 ∧ ∃ q, col b = some (r, pos ++ q))
/-- Nothing has changed that such a content may speak of. -/
structure Same (w w' : World) (col col' : Col) (r n : Nat) (pos : List Nat) : Prop where
  blk : ∀ b, b < w.heap.size → Mine col r n pos b → w'.heap[b]? = w.heap[b]? ∧ col' b = col b
theorem Mine.sub {col : Col} {r n pos b} (i : Nat) (h : Mine col r n (pos ++ [i]) b) : Mine col r n pos b := by
  rcases h with h | ⟨hn, q, h⟩
  · exact .inl h
  · exact .inr ⟨hn, i :: q, by simpa using h⟩
theorem Mine.less {col : Col} {r n n' pos b} (hn : n' ≤ n) (h : Mine col r n' pos b) : Mine col r n pos b := by
  rcases h with h | ⟨h0, q, h⟩
  · exact .inl h
  · exact .inr ⟨by omega, q, h⟩
theorem Same.sub {w w' : World} {col col' : Col} {r n pos} (h : Same w w' col col' r n pos) (i : Nat) : Same w w' col col' r n (pos ++ [i]) := ⟨fun b hb hm => h.blk b hb (hm.sub i)⟩
theorem Same.less {w w' : World} {col col' : Col} {r n n' pos} (hn : n' ≤ n) (h : Same w w' col col' r n pos) : Same w w' col col' r n' pos := ⟨fun b hb hm => h.blk b hb (hm.less hn)⟩
theorem Same.pred {w w' : World} {col col' : Col} {r n pos} (h : Same w w' col col' r n pos) : Same w w' col col' r (n - 1) pos := h.less (Nat.sub_le _ _)

theorem block_lt_of_get {w : World} {b : Nat} {o : Obj} (h : w.heap[b]? = some o) : b < w.heap.size := (Array.getElem?_eq_some_iff.1 h).1
theorem CellsAt.lt {w : World} {b o : Nat} {d : List Value} (h : CellsAt w b o d) (hd : d ≠ []) : b < w.heap.size := by
  cases d with
  | nil => exact absurd rfl hd
  | cons v d => exact World.block_lt_of_cell? w _ (h 0 v rfl)
theorem CellsAt.same {w w' : World} {b o : Nat} {d : List Value} (h : CellsAt w b o d) (hb : d ≠ [] → w'.heap[b]? = w.heap[b]?) : CellsAt w' b o d := by
  intro j v hj
  have hd : d ≠ [] := by rintro rfl; simp at hj
  rw [World.cell?_of_block (w := w) (a := ⟨b, o + j, none⟩) (hb hd)]
  exact h j v hj

theorem SlRep.same {w w' : World} {col col' : Col} {r n pos k len v d} (hs : Same w w' col col' r n pos) (h : SlRep w col r n pos k len v d) : SlRep w' col' r n pos k len v d := by
  cases n with
  | zero =>
    obtain ⟨A, cap, rfl, hn, h⟩ := h
    refine ⟨A, cap, rfl, hn, fun hd => ?_⟩
    obtain ⟨b, o, rfl, hc, hcs⟩ := h hd
    have := hs.blk b (hcs.lt hd) (.inl hc)
    exact ⟨b, o, rfl, this.2.trans hc, hcs.same fun _ => this.1⟩
  | succ n =>
    obtain ⟨⟨e, hl, h⟩, hb⟩ := h
    rcases h with ⟨rfl, hn⟩ | ⟨g, cap, cur, rfl, h0, hg, hrest⟩
    · exact ⟨⟨e, hl, .inl ⟨rfl, hn⟩⟩, fun b hb => by simp [Value.ownBlock] at hb⟩
    · have hc := hb g rfl
      have := hs.blk g (block_lt_of_get hg) (.inr ⟨by omega, [], by simpa using hc⟩)
      refine ⟨⟨e, hl, .inr ⟨g, cap, cur, rfl, h0, this.1.trans hg, hrest⟩⟩, fun b hb => ?_⟩
      simp [Value.ownBlock] at hb
      subst hb
      exact this.2.trans hc
theorem PtRep.same {w w' : World} {col col' : Col} {r n pos b f d} (hs : Same w w' col col' r n pos) (hd : d ≠ []) (h : PtRep w col r n pos b f d) : PtRep w' col' r n pos b f d := by
  cases n with
  | zero =>
    obtain ⟨hc, hcs⟩ := h
    have := hs.blk b (hcs.lt hd) (.inl hc)
    exact ⟨this.2.trans hc, hcs.same fun _ => this.1⟩
  | succ n =>
    obtain ⟨rfl, hc, T, hg⟩ := h
    have := hs.blk b (block_lt_of_get hg) (.inr ⟨by omega, [], by simpa using hc⟩)
    exact ⟨rfl, this.2.trans hc, T, this.1.trans hg⟩
mutual
theorem Rep.same {w w' : World} {col col' : Col} {lk lk' : Lk} {r : Nat} (hlk : ∀ c v, lk c = some v → lk' c = some v) : ∀ (p : PV) {n pos cs}, Same w w' col col' r n pos → Rep w col lk r n pos p cs → Rep w' col' lk' r n pos p cs
  | .w v, _, _, _, _, h => by simpa only [Rep] using h
  | .nil, _, _, _, _, h => by simpa only [Rep] using h
  | .sl k xs, n, pos, _, hs, h => by
    simp only [Rep] at h ⊢
    obtain ⟨v, d, rfl, h1, h2, h3⟩ := h
    exact ⟨v, d, rfl, h1, RepL.same (fun _ _ h => h) xs hs.pred h2, h3.same hs⟩
  | .agg ps, n, pos, _, hs, h => by simp only [Rep] at h ⊢; exact RepL.same hlk ps hs h
  | .ptr p, n, pos, _, hs, h => by
    simp only [Rep] at h ⊢
    obtain ⟨b, f, d, rfl, hd, h2, h3⟩ := h
    exact ⟨b, f, d, rfl, hd, Rep.same hlk p (hs.pred.sub 0) h2, h3.same hs hd⟩
  | .fn f caps, n, pos, _, hs, h => by
    simp only [Rep] at h ⊢
    obtain ⟨vs, rfl, h⟩ := h
    exact ⟨vs, rfl, RepL.same (fun _ _ h => h) caps (hs.less (Nat.zero_le _)) h⟩
  | .lnk c, n, pos, _, hs, h => by
    simp only [Rep] at h ⊢
    obtain ⟨v, h1, h2⟩ := h
    exact ⟨v, hlk _ _ h1, h2⟩
theorem RepL.same {w w' : World} {col col' : Col} {lk lk' : Lk} {r : Nat} (hlk : ∀ c v, lk c = some v → lk' c = some v) : ∀ (ps : List PV) {n pos i cs}, Same w w' col col' r n pos → RepL w col lk r n pos i ps cs → RepL w' col' lk' r n pos i ps cs
  | [], _, _, _, _, _, h => by simpa only [RepL] using h
  | p :: ps, _, _, i, _, hs, h => by
    simp only [RepL] at h ⊢
    obtain ⟨c, d, rfl, h1, h2⟩ := h
    exact ⟨c, d, rfl, Rep.same hlk p (hs.sub i) h1, RepL.same hlk ps hs h2⟩
end
/-- An owned row can be read. -/
theorem SlRep.bare {w : World} {col : Col} {r n pos k len v d} (h : SlRep w col r n pos k len v d) : SlRep w (fun _ => none) 0 0 [] k len v d := by
  cases n with
  | zero =>
    obtain ⟨A, cap, rfl, hn, h⟩ := h
    refine ⟨A, cap, rfl, hn, fun hd => ?_⟩
    obtain ⟨b, o, rfl, hc, hcs⟩ := h hd
    exact ⟨b, o, rfl, rfl, hcs⟩
  | succ n =>
    obtain ⟨⟨e, hl, h⟩, hb⟩ := h
    rcases h with ⟨rfl, rfl⟩ | ⟨g, cap, cur, rfl, h0, hg, hle, hcm, hcs, htk⟩
    · exact ⟨none, 0, rfl, Nat.le_refl _, fun hd => absurd (List.eq_nil_of_length_eq_zero (by simpa using hl)) hd⟩
    · refine ⟨some ⟨g, 0, none⟩, cap, rfl, hle, fun _ => ⟨g, 0, rfl, rfl, fun j u hj => ?_⟩⟩
      rw [Nat.zero_add, cell_of_row w g j cur e (0, 0) hg]
      rw [← htk, List.getElem?_take] at hj
      split at hj
      · simpa using hj
      · cases hj
theorem PtRep.bare {w : World} {col : Col} {r n pos b f d} (h : PtRep w col r n pos b f d) : PtRep w (fun _ => none) 0 0 [] b f d := by
  cases n with
  | zero => exact ⟨rfl, h.2⟩
  | succ n =>
    obtain ⟨rfl, hc, T, hg⟩ := h
    exact ⟨rfl, fun j u hj => by rw [Nat.zero_add, cell_of_row w b j _ T (0, 0) hg]; simpa using hj⟩
mutual
theorem Rep.bare {w : World} {col : Col} {lk : Lk} {r : Nat} : ∀ (p : PV) {n pos pos' cs}, Rep w col lk r n pos p cs → Rep w (fun _ => none) lk 0 0 pos' p cs
  | .w v, _, _, _, _, h => by simpa only [Rep] using h
  | .nil, _, _, _, _, h => by simpa only [Rep] using h
  | .sl k xs, n, pos, pos', _, h => by
    simp only [Rep] at h ⊢
    obtain ⟨v, d, rfl, h1, h2, h3⟩ := h
    exact ⟨v, d, rfl, h1, RepL.bare xs h2, h3.bare⟩
  | .agg ps, _, _, _, _, h => by simp only [Rep] at h ⊢; exact RepL.bare ps h
  | .ptr p, n, pos, pos', _, h => by
    simp only [Rep] at h ⊢
    obtain ⟨b, f, d, rfl, hd, h2, h3⟩ := h
    exact ⟨b, f, d, rfl, hd, Rep.bare p h2, h3.bare⟩
  | .fn f caps, _, _, _, _, h => by
    simp only [Rep] at h ⊢
    obtain ⟨vs, rfl, h⟩ := h
    exact ⟨vs, rfl, RepL.bare caps h⟩
  | .lnk c, _, _, _, _, h => by simpa only [Rep] using h
theorem RepL.bare {w : World} {col : Col} {lk : Lk} {r : Nat} : ∀ (ps : List PV) {n pos pos' i i' cs}, RepL w col lk r n pos i ps cs → RepL w (fun _ => none) lk 0 0 pos' i' ps cs
  | [], _, _, _, _, _, _, h => by simpa only [RepL] using h
  | p :: ps, _, _, _, _, _, _, h => by
    simp only [RepL] at h ⊢
    obtain ⟨c, d, rfl, h1, h2⟩ := h
    exact ⟨c, d, rfl, Rep.bare p h1, RepL.bare ps h2⟩
end
-- What is held by nobody doesn't hang on the place, nor on who looks.
mutual
theorem Rep.move {w : World} {col : Col} {lk : Lk} : ∀ (p : PV) {r r' pos pos' cs}, Rep w col lk r 0 pos p cs → Rep w col lk r' 0 pos' p cs
  | .w v, _, _, _, _, _, h => by simpa only [Rep] using h
  | .nil, _, _, _, _, _, h => by simpa only [Rep] using h
  | .sl k xs, _, _, pos, pos', _, h => by
    simp only [Rep] at h ⊢
    obtain ⟨v, d, rfl, h1, h2, h3⟩ := h
    exact ⟨v, d, rfl, h1, RepL.move xs h2, h3⟩
  | .agg ps, _, _, _, _, _, h => by simp only [Rep] at h ⊢; exact RepL.move ps h
  | .ptr p, _, _, _, _, _, h => by
    simp only [Rep] at h ⊢
    obtain ⟨b, f, d, rfl, hd, h2, h3⟩ := h
    exact ⟨b, f, d, rfl, hd, Rep.move p h2, h3⟩
  | .fn f caps, _, _, _, _, _, h => by
    simp only [Rep] at h ⊢
    obtain ⟨vs, rfl, h⟩ := h
    exact ⟨vs, rfl, RepL.move caps h⟩
  | .lnk c, _, _, _, _, _, h => by simpa only [Rep] using h
theorem RepL.move {w : World} {col : Col} {lk : Lk} : ∀ (ps : List PV) {r r' pos pos' i i' cs}, RepL w col lk r 0 pos i ps cs → RepL w col lk r' 0 pos' i' ps cs
  | [], _, _, _, _, _, _, _, h => by simpa only [RepL] using h
  | p :: ps, _, _, _, _, _, _, _, h => by
    simp only [RepL] at h ⊢
    obtain ⟨c, d, rfl, h1, h2⟩ := h
    exact ⟨c, d, rfl, Rep.move p h1, RepL.move ps h2⟩
end
/-- The part of a list's cells that its i-th member has. -/
theorem RepL.get {w : World} {col : Col} {lk : Lk} {r n pos} : ∀ (ps : List PV) {i0 cs} (i : Nat) (p : PV), RepL w col lk r n pos i0 ps cs → ps[i]? = some p →
    ∃ a c b, cs = a ++ c ++ b ∧ a.length = szs (ps.take i) ∧ Rep w col lk r n (pos ++ [i0 + i]) p c
  | [], _, _, i, p, _, hi => by simp at hi
  | q :: ps, i0, _, 0, p, h, hi => by
    simp only [RepL] at h
    obtain ⟨c, d, rfl, h1, _⟩ := h
    obtain rfl : q = p := by simpa using hi
    exact ⟨[], c, d, by simp, by simp [szs], h1⟩
  | q :: ps, i0, _, i + 1, p, h, hi => by
    simp only [RepL] at h
    obtain ⟨c, d, rfl, h1, h2⟩ := h
    obtain ⟨a, c', b, rfl, ha, hr⟩ := RepL.get ps i p h2 (by simpa using hi)
    exact ⟨c ++ a, c', b, by simp, by simp [szs, Rep.len q h1, ha], by rw [show i0 + (i + 1) = i0 + 1 + i by omega]; exact hr⟩
theorem szs_of {k : Nat} : ∀ {xs : List PV}, (∀ x ∈ xs, sz x = k) → szs xs = xs.length * k
  | [], _ => by simp [szs]
  | x :: xs, h => by
    simp only [szs, h x (by simp), szs_of (xs := xs) (fun y hy => h y (by simp [hy])), List.length_cons, Nat.succ_mul]
    omega
theorem szs_take {k : Nat} {xs : List PV} (h : ∀ x ∈ xs, sz x = k) {i : Nat} (hi : i ≤ xs.length) : szs (xs.take i) = i * k := by
  rw [szs_of fun x hx => h x (List.mem_of_mem_take hx), List.length_take, Nat.min_eq_left hi]
theorem CellsAt.mid {w : World} {b o : Nat} {x y z : List Value} (h : CellsAt w b o (x ++ y ++ z)) : CellsAt w b (o + x.length) y := by
  intro j v hj
  have := h (x.length + j) v (by
    rw [List.append_assoc, List.getElem?_append_right (by omega), Nat.add_sub_cancel_left, List.getElem?_append_left (List.getElem?_eq_some_iff.1 hj).1]; exact hj)
  simpa [Nat.add_assoc] using this
end Go.Vm

/- The symbolic frame: what the temporaries hold, the roots of what the call owns, and what they say of a frame and a world. -/
set_option linter.unusedVariables false
set_option linter.unusedSimpArgs false
namespace Go.Vm
open Go Go.RowKit

/-- What a temporary holds. -/
inductive V where
  | pv (p : PV)
  | any
  | row (c : Nat)
  | win (c off len : Nat)
  | el (c i off : Nat)
  | bx (c off : Nat)
  | agg (vs : List V)
  | tup (vs : List V)
  | fn (f : FuncId) (caps : List V)
instance : Inhabited V := ⟨.pv .nil⟩

def lookup {α : Type} : List (Nat × α) → Nat → Option α
  | [], _ => none
  | (t, v) :: l, u => match Nat.beq t u with | true => some v | false => lookup l u
def putL {α : Type} (t : Nat) (v : α) : List (Nat × α) → List (Nat × α)
  | [] => [(t, v)]
  | (u, x) :: l => match Nat.beq u t with | true => (t, v) :: l | false => (u, x) :: putL t v l
def eraseL {α : Type} (t : Nat) : List (Nat × α) → List (Nat × α)
  | [] => []
  | (u, x) :: l => match Nat.beq u t with | true => eraseL t l | false => (u, x) :: eraseL t l
theorem beqT (a b : Nat) : Nat.beq a b = decide (a = b) := by
  cases h : Nat.beq a b
  · exact (decide_eq_false (Nat.ne_of_beq_eq_false h)).symm
  · exact (decide_eq_true (Nat.eq_of_beq_eq_true h)).symm
theorem lookup_cons {α : Type} (t : Nat) (v : α) (l : List (Nat × α)) (u : Nat) : lookup ((t, v) :: l) u = if t = u then some v else lookup l u := by
  simp only [lookup, beqT]; by_cases h : t = u <;> simp [h]
theorem putL_cons {α : Type} (t : Nat) (v : α) (u : Nat) (x : α) (l : List (Nat × α)) : putL t v ((u, x) :: l) = if u = t then (t, v) :: l else (u, x) :: putL t v l := by
  simp only [putL, beqT]; by_cases h : u = t <;> simp [h]
theorem eraseL_cons {α : Type} (t : Nat) (u : Nat) (x : α) (l : List (Nat × α)) : eraseL t ((u, x) :: l) = if u = t then eraseL t l else (u, x) :: eraseL t l := by
  simp only [eraseL, beqT]; by_cases h : u = t <;> simp [h]
theorem lookup_put {α : Type} (t : Nat) (v : α) (u : Nat) (l : List (Nat × α)) : lookup (putL t v l) u = if t = u then some v else lookup l u := by
  induction l with
  | nil => simp [putL, lookup_cons]
  | cons p l ih =>
    obtain ⟨s, x⟩ := p
    rw [putL_cons]
    by_cases h : s = t
    · subst h; simp only [if_true, lookup_cons]; split <;> rfl
    · simp only [h, if_false, lookup_cons, ih]
      by_cases h' : s = u
      · subst h'; have e : ¬ t = s := fun e => h e.symm; simp [e]
      · simp [h']
theorem lookup_erase {α : Type} (t : Nat) (u : Nat) (l : List (Nat × α)) : lookup (eraseL t l) u = if t = u then none else lookup l u := by
  induction l with
  | nil => simp [eraseL, lookup]
  | cons p l ih =>
    obtain ⟨s, x⟩ := p
    rw [eraseL_cons]
    by_cases h : s = t
    · subst h; simp only [if_true, lookup_cons, ih]; split <;> rfl
    · simp only [h, if_false, lookup_cons, ih]
      by_cases h' : s = u
      · subst h'; have e : ¬ t = s := fun e => h e.symm; simp [e]
      · simp [h']

/-- A root: how deep it is owned (0: to be read only), its elements' type, and its content; none: it is no more. -/
abbrev Root := Option (Nat × Nat × PV)
structure St where
  n : Nat
  tmps : List (Nat × V)
  roots : List (Nat × Root)

def toVal : PV → List Value → Value
  | .agg _, cs => .agg cs.toArray
  | _, v :: _ => v
  | _, [] => undef

def onRow (rs : List (Nat × Root)) (c : Nat) (φ : Nat → List PV → Prop) : Prop :=
  match lookup rs c with
  | some none => True
  | some (some (_, _, .sl k xs)) => φ k xs
  | _ => False
def onBx (rs : List (Nat × Root)) (c : Nat) (φ : PV → Prop) : Prop :=
  match lookup rs c with
  | some none => True
  | some (some (_, _, .ptr p)) => φ p
  | _ => False

mutual
def VRep (w : World) (col : Col) (lk : Lk) (rs : List (Nat × Root)) : V → Value → Prop
  | .pv p, y => ∃ cs, Rep w col lk0 0 0 [] p cs ∧ y = toVal p cs
  | .any, _ => True
  | .row c, y => onRow rs c fun _ _ => lk c = some y
  | .win c off len, y => onRow rs c fun k _ => ∃ A n cap, lk c = some (.slice A n cap) ∧ off + len ≤ n ∧ y = .slice (if off = cap then A else A.map (·.add (off * k))) len (cap - off)
  | .el c i off, y => onRow rs c fun k _ => ∃ b n cap, lk c = some (.slice (some ⟨b, 0, none⟩) n cap) ∧ y = .pointer (some ⟨b, i * k + off, none⟩)
  | .bx c off, y => onBx rs c fun _ => ∃ b, lk c = some (.pointer (some ⟨b, 0, none⟩)) ∧ y = .pointer (some ⟨b, off, none⟩)
  | .agg vs, y => ∃ cs, VCells w col lk rs vs cs ∧ y = .agg cs.toArray
  | .tup vs, y => ∃ ys, VRepL w col lk rs vs ys ∧ y = .tuple ys.toArray
  | .fn f caps, y => ∃ ys, VRepL w col lk rs caps ys ∧ y = .func (.func f) #[] ys.toArray
def VRepL (w : World) (col : Col) (lk : Lk) (rs : List (Nat × Root)) : List V → List Value → Prop
  | [], ys => ys = []
  | v :: vs, ys => ∃ y zs, ys = y :: zs ∧ VRep w col lk rs v y ∧ VRepL w col lk rs vs zs
/-- The cells of a struct's parts. -/
def VCells (w : World) (col : Col) (lk : Lk) (rs : List (Nat × Root)) : List V → List Value → Prop
  | [], cs => cs = []
  | v :: vs, cs => ∃ y zs, cs = y.cells.toList ++ zs ∧ VRep w col lk rs v y ∧ VCells w col lk rs vs zs
end

/-- The library's tables that are as the text lays them. -/
def laidCells : List (String × List Value) := [("internal/strconv.uint64pow10", Lib.pow10Tab.map (Value.int .u64))]
structure GlobOk (P : Program) (w : World) (col : Col) : Prop where
  tab : ∀ n cs g, (n, cs) ∈ laidCells → P.globalNamed n = some g → col g = none ∧ ∃ T fr, w.heap[g]? = some (.cells cs.toArray T fr)
/-- Names from here on are those of what was handed in. -/
def PN : Nat := 1000000
/-- The call's begin: what nobody here owns stays as it was. -/
structure Ctx (P : Program) where
  w0 : World
  col0 : Col
  lkI : Lk
  gl : GlobOk P w0 col0
/-- Nobody's, or somebody else's. -/
def Old (x : Option (Nat × List Nat)) : Prop := x = none ∨ x = some (0, [])
structure Inv {P : Program} (c : Ctx P) (w : World) (col : Col) : Prop where
  os : w.os = c.w0.os
  tape : w.tape = c.w0.tape
  output : w.output = c.w0.output
  size : c.w0.heap.size ≤ w.heap.size
  old : ∀ b, b < c.w0.heap.size → Old (c.col0 b) → w.heap[b]? = c.w0.heap[b]? ∧ col b = c.col0 b
  live : ∀ b x, col b = some x → b < w.heap.size
/-- An owned row's block says the type of its elements. -/
def TypeAt (w : World) (v : Value) (e : Nat) : Prop := ∀ b, v.ownBlock = some b → ∃ cur, w.heap[b]? = some (.cells cur e (0, 0))
def tyAt (w : World) (v : Value) (n e : Nat) : PV → Prop
  | .sl _ _ => n ≠ 0 → TypeAt w v e
  | .ptr _ => True
  | _ => False
def RtOk (w : World) (col : Col) (lk : Lk) (r n e : Nat) (p : PV) : Prop := ∃ v, lk r = some v ∧ Rep w col lk r n [] p [v] ∧ tyAt w v n e p
structure Rel {P : Program} (c : Ctx P) (s : St) (a : Act) (w : World) (col : Col) (lk : Lk) : Prop where
  inv : Inv c w col
  n : a.tmps.size = s.n
  tm : ∀ t v, lookup s.tmps t = some v → t < s.n ∧ VRep w col lk s.roots v (a.tmps.getD t undef)
  rt : ∀ r n e p, lookup s.roots r = some (some (n, e, p)) → RtOk w col lk r n e p
  cl : ∀ b r q, col b = some (r, q) → r ≠ 0 → ∃ x, lookup s.roots r = some (some x)
  ln : ∀ r v, lk r = some v → ∃ x, lookup s.roots r = some x
  z : lookup s.roots 0 = none
  df : a.defers = []
  pr : ∀ r v, lk r = some v → PN ≤ r → c.lkI r = some v
def Rels {P : Program} (c : Ctx P) (s : St) (a : Act) (w : World) : Prop := ∃ col lk, Rel c s a w col lk

theorem cells_toVal {w : World} {col : Col} {lk : Lk} {r n pos p cs} (h : Rep w col lk r n pos p cs) : (toVal p cs).cells.toList = cs := by
  cases p with
  | agg ps => simp [toVal, Value.cells]
  | _ =>
    have hl := Rep.len _ h
    simp only [sz] at hl
    match cs, hl with
    | [u], _ =>
      have h1 := Rep.one _ h u (by simp)
      cases u <;> simp_all [toVal, Value.cells, Value.oneCell']

/-- Some temporaries forgotten. -/
def subT (l : List (Nat × V)) : List (Nat × V) → Prop
  | [] => True
  | (t, v) :: m => lookup l t = some v ∧ subT l m

theorem Rel.put {P : Program} {c : Ctx P} {s : St} {a : Act} {w : World} {col : Col} {lk : Lk} (h : Rel c s a w col lk) {d : Nat} (hd : d < s.n) {v : V} {y : Value}
    (hv : VRep w col lk s.roots v y) : Rel c { s with tmps := putL d v s.tmps } (a.put (some d) y) w col lk := by
  refine ⟨h.inv, by simpa [Act.put] using h.n, fun t u ht => ?_, h.rt, h.cl, h.ln, h.z, h.df, h.pr⟩
  simp only [lookup_put] at ht
  by_cases e : d = t
  · subst e
    simp only [if_true, Option.some.injEq] at ht
    subst ht
    refine ⟨hd, ?_⟩
    have : d < a.tmps.size := by rw [h.n]; exact hd
    simpa [Act.put, Array.getD_eq_getD_getElem?, this] using hv
  · simp only [e, if_false] at ht
    obtain ⟨h1, h2⟩ := h.tm t u ht
    refine ⟨h1, ?_⟩
    simpa [Act.put, Array.getD_eq_getD_getElem?, Array.getElem?_setIfInBounds_ne e] using h2
theorem Rel.drop {P : Program} {c : Ctx P} {s : St} {a : Act} {w : World} {col : Col} {lk : Lk} (h : Rel c s a w col lk) (d : Nat) (y : Value) :
    Rel c { s with tmps := eraseL d s.tmps } (a.put (some d) y) w col lk := by
  refine ⟨h.inv, by simpa [Act.put] using h.n, fun t u ht => ?_, h.rt, h.cl, h.ln, h.z, h.df, h.pr⟩
  simp only [lookup_erase] at ht
  by_cases e : d = t
  · simp [e] at ht
  · simp only [e, if_false] at ht
    obtain ⟨h1, h2⟩ := h.tm t u ht
    refine ⟨h1, ?_⟩
    simpa [Act.put, Array.getD_eq_getD_getElem?, Array.getElem?_setIfInBounds_ne e] using h2
/-- Less is told. -/
structure St.Le (s s' : St) : Prop where
  n : s.n = s'.n
  tm : ∀ t v, lookup s.tmps t = some v → lookup s'.tmps t = some v
  rt : ∀ r x, lookup s.roots r = some x → lookup s'.roots r = some x

/-- How a root may go on under one name: it ends, or keeps its shape. -/
def shape : Root → Root → Prop
  | _, none => True
  | some (_, _, .sl k _), some (_, _, .sl k' _) => k = k'
  | some (_, _, .ptr _), some (_, _, .ptr _) => True
  | _, _ => False
theorem shape_refl {x : Root} {k xs} {o e : Nat} (h : x = none ∨ x = some (o, e, .sl k xs) ∨ ∃ p, x = some (o, e, .ptr p)) : shape x x := by
  rcases h with rfl | rfl | ⟨p, rfl⟩ <;> simp [shape]
structure VStep (w w' : World) (col col' : Col) (lk lk' : Lk) (rs rs' : List (Nat × Root)) : Prop where
  blk : ∀ b, b < w.heap.size → col b = none → w'.heap[b]? = w.heap[b]? ∧ col' b = none
  lk : ∀ c v, lk c = some v → lk' c = some v
  rt : ∀ c x, lookup rs c = some x → ∃ x', lookup rs' c = some x' ∧ (x' = x ∨ shape x x')
section
variable {w w' : World} {col col' : Col} {lk lk' : Lk} {rs rs' : List (Nat × Root)}
theorem VStep.same (h : VStep w w' col col' lk lk' rs rs') : Same w w' col col' 0 0 [] := ⟨fun b hb hm => by
  rcases hm with hm | ⟨h0, _⟩
  · have := h.blk b hb hm; exact ⟨this.1, by rw [this.2, hm]⟩
  · exact absurd rfl h0⟩
theorem onRow.step (h : VStep w w' col col' lk lk' rs rs') {c : Nat} {φ ψ : Nat → List PV → Prop} (hφ : ∀ k xs ys, φ k xs → ψ k ys) (hr : onRow rs c φ) : onRow rs' c ψ := by
  unfold onRow at hr
  split at hr
  · rename_i hl
    obtain ⟨x', h1, h2⟩ := h.rt c _ hl
    rcases h2 with rfl | h2
    · simp [onRow, h1]
    · cases x' <;> simp_all [onRow, shape]
  · rename_i o e k xs hl
    obtain ⟨x', h1, h2⟩ := h.rt c _ hl
    rcases h2 with rfl | h2
    · simp only [onRow, h1]; exact hφ _ _ _ hr
    · match x', h2 with
      | none, _ => simp [onRow, h1]
      | some (o', e', .sl k' xs'), h2 =>
        simp only [shape] at h2
        subst h2
        simp only [onRow, h1]; exact hφ _ _ _ hr
  · exact hr.elim
theorem onBx.step (h : VStep w w' col col' lk lk' rs rs') {c : Nat} {φ ψ : PV → Prop} (hφ : ∀ p q, φ p → ψ q) (hr : onBx rs c φ) : onBx rs' c ψ := by
  unfold onBx at hr
  split at hr
  · rename_i hl
    obtain ⟨x', h1, h2⟩ := h.rt c _ hl
    rcases h2 with rfl | h2
    · simp [onBx, h1]
    · cases x' <;> simp_all [onBx, shape]
  · rename_i o e p hl
    obtain ⟨x', h1, h2⟩ := h.rt c _ hl
    rcases h2 with rfl | h2
    · simp only [onBx, h1]; exact hφ _ _ hr
    · match x', h2 with
      | none, _ => simp [onBx, h1]
      | some (o', e', .ptr q), h2 => simp only [onBx, h1]; exact hφ _ _ hr
  · exact hr.elim
mutual
theorem VRep.step (h : VStep w w' col col' lk lk' rs rs') : ∀ (v : V) {y}, VRep w col lk rs v y → VRep w' col' lk' rs' v y
  | .pv p, _, hv => by
    simp only [VRep] at hv ⊢
    obtain ⟨cs, h1, h2⟩ := hv
    exact ⟨cs, Rep.same (fun _ _ h => h) p h.same h1, h2⟩
  | .any, _, hv => by simp only [VRep]
  | .row c, _, hv => by simp only [VRep] at hv ⊢; exact hv.step h fun _ _ _ h1 => h.lk _ _ h1
  | .win c off len, _, hv => by simp only [VRep] at hv ⊢; exact hv.step h fun _ _ _ ⟨A, n, cap, h1, h2⟩ => ⟨A, n, cap, h.lk _ _ h1, h2⟩
  | .el c i off, _, hv => by simp only [VRep] at hv ⊢; exact hv.step h fun _ _ _ ⟨b, n, cap, h1, h2⟩ => ⟨b, n, cap, h.lk _ _ h1, h2⟩
  | .bx c off, _, hv => by simp only [VRep] at hv ⊢; exact hv.step h fun _ _ ⟨b, h1, h2⟩ => ⟨b, h.lk _ _ h1, h2⟩
  | .agg vs, _, hv => by simp only [VRep] at hv ⊢; obtain ⟨cs, h1, h2⟩ := hv; exact ⟨cs, VCells.step h vs h1, h2⟩
  | .tup vs, _, hv => by simp only [VRep] at hv ⊢; obtain ⟨cs, h1, h2⟩ := hv; exact ⟨cs, VRepL.step h vs h1, h2⟩
  | .fn f caps, _, hv => by simp only [VRep] at hv ⊢; obtain ⟨cs, h1, h2⟩ := hv; exact ⟨cs, VRepL.step h caps h1, h2⟩
theorem VRepL.step (h : VStep w w' col col' lk lk' rs rs') : ∀ (vs : List V) {ys}, VRepL w col lk rs vs ys → VRepL w' col' lk' rs' vs ys
  | [], _, hv => by simpa only [VRepL] using hv
  | v :: vs, _, hv => by simp only [VRepL] at hv ⊢; obtain ⟨y, zs, h0, h1, h2⟩ := hv; exact ⟨y, zs, h0, VRep.step h v h1, VRepL.step h vs h2⟩
theorem VCells.step (h : VStep w w' col col' lk lk' rs rs') : ∀ (vs : List V) {ys}, VCells w col lk rs vs ys → VCells w' col' lk' rs' vs ys
  | [], _, hv => by simpa only [VCells] using hv
  | v :: vs, _, hv => by simp only [VCells] at hv ⊢; obtain ⟨y, zs, h0, h1, h2⟩ := hv; exact ⟨y, zs, h0, VRep.step h v h1, VCells.step h vs h2⟩
end
end
theorem TypeAt.same {w w' : World} {v : Value} {e : Nat} (h : TypeAt w v e) (hb : ∀ b, v.ownBlock = some b → w'.heap[b]? = w.heap[b]?) : TypeAt w' v e := fun b hv => by
  obtain ⟨cur, h1⟩ := h b hv
  exact ⟨cur, (hb b hv).trans h1⟩
theorem RtOk.same {w w' : World} {col col' : Col} {lk lk' : Lk} {r n e : Nat} {p : PV} (hs : Same w w' col col' r n []) (hlk : ∀ c v, lk c = some v → lk' c = some v) (h : RtOk w col lk r n e p) : RtOk w' col' lk' r n e p := by
  obtain ⟨v, h1, h2, h3⟩ := h
  refine ⟨v, hlk _ _ h1, Rep.same hlk p hs h2, ?_⟩
  cases p with
  | sl k xs =>
    simp only [tyAt] at h3 ⊢
    intro hn
    refine (h3 hn).same fun b hb => ?_
    obtain ⟨cur, hg⟩ := h3 hn b hb
    refine (hs.blk b (block_lt_of_get hg) ?_).1
    cases n with
    | zero => exact absurd rfl hn
    | succ n =>
      simp only [Rep, SlRep] at h2
      obtain ⟨u, d, hu, _, _, _, h4⟩ := h2
      obtain rfl : v = u := by simpa using hu
      exact .inr ⟨by omega, [], by simpa using h4 b hb⟩
  | ptr q => trivial
  | _ => exact h3.elim
/-- All that was there is as it was. -/
structure Kept (w w' : World) (col col' : Col) : Prop where
  blk : ∀ b, b < w.heap.size → w'.heap[b]? = w.heap[b]? ∧ col' b = col b
theorem Kept.same {w w' : World} {col col' : Col} (h : Kept w w' col col') (r n : Nat) (pos : List Nat) : Same w w' col col' r n pos := ⟨fun b hb _ => h.blk b hb⟩
theorem Kept.vstep {w w' : World} {col col' : Col} {lk lk' : Lk} {rs : List (Nat × Root)} (h : Kept w w' col col') (hlk : ∀ c v, lk c = some v → lk' c = some v) : VStep w w' col col' lk lk' rs rs :=
  ⟨fun b hb hc => ⟨(h.blk b hb).1, by rw [(h.blk b hb).2, hc]⟩, hlk, fun c x hx => ⟨x, hx, .inl rfl⟩⟩
theorem Rel.kept {P : Program} {c : Ctx P} {s : St} {a : Act} {w w' : World} {col col' : Col} {lk : Lk} (h : Rel c s a w col lk) (hk : Kept w w' col col') (hi : Inv c w' col') (hc : ∀ b r q, col' b = some (r, q) → r ≠ 0 → ∃ x, lookup s.roots r = some (some x)) :
    Rel c s a w' col' lk :=
  ⟨hi, h.n, fun t v ht => ⟨(h.tm t v ht).1, VRep.step (hk.vstep fun _ _ h => h) v (h.tm t v ht).2⟩, fun r n e p hp => (h.rt r n e p hp).same (hk.same _ _ _) fun _ _ h => h, hc, h.ln, h.z, h.df, h.pr⟩
theorem Inv.drew {P : Program} {c : Ctx P} {w : World} {col : Col} (h : Inv c w col) : Inv c w.drew col := ⟨h.os, h.tape, h.output, h.size, h.old, h.live⟩
theorem Rel.drew {P : Program} {c : Ctx P} {s : St} {a : Act} {w : World} {col : Col} {lk : Lk} (h : Rel c s a w col lk) : Rel c s a w.drew col lk :=
  h.kept ⟨fun _ _ => ⟨rfl, rfl⟩⟩ h.inv.drew h.cl
end Go.Vm

/- The operations that only compute and read: what they give, in pure contents. -/
set_option linter.unusedVariables false
set_option linter.unusedSimpArgs false
namespace Go.Vm
open Go Go.RowKit

def hasN (x : Nat) : List Nat → Bool
  | [] => false
  | y :: ys => Nat.beq x y || hasN x ys
theorem hasN_iff {x : Nat} : ∀ {l : List Nat}, hasN x l = true ↔ x ∈ l
  | [] => by simp [hasN]
  | y :: ys => by simp [hasN, beqT, hasN_iff (l := ys)]
/-- What must be known of a type. -/
inductive TD where
  | int (k : IntKind) | bool | str | slice (e : Nat) | struct (fs : List Nat) | arr (n e : Nat) | ptr (e : Nat) | one | other
structure TI where
  td : TD
  cells : Nat
  bytes : Nat
abbrev Tab := Nat → TI
def TD.isAgg : TD → Bool | .struct _ | .arr _ _ => true | _ => false
def TD.isOther : TD → Bool | .other => true | _ => false
def fieldsOk (T : Tab) : Nat → List Nat → List Field → Prop
  | _, [], [] => True
  | off, t :: ts, f :: fs => f.type = t ∧ f.offset = off ∧ fieldsOk T (off + (T t).cells) ts fs
  | _, _, _ => False
def tdOk (P : Program) (T : Tab) (t : Nat) : TD → Prop
  | .int k => P.underlying t = some (.int k)
  | .bool => P.underlying t = some .bool
  | .str => P.underlying t = some .string
  | .slice e => P.underlying t = some (.slice e)
  | .struct ts => ∃ F, P.underlying t = some (.struct F) ∧ fieldsOk T 0 ts F.toList
  | .arr n e => P.underlying t = some (.array n e)
  | .ptr e => P.underlying t = some (.pointer e)
  | .one => ∃ d, P.underlying t = some d ∧ (∀ F, d ≠ .struct F) ∧ ∀ n e, d ≠ .array n e
  | .other => True
def zeroL (g : Nat → Option PV) : List Nat → Option (List PV)
  | [] => some []
  | t :: ts => match g t, zeroL g ts with
    | some p, some ps => some (p :: ps)
    | _, _ => none
/-- The zero value of a type. -/
def zeroP (T : Tab) : Nat → Nat → Option PV
  | 0, _ => none
  | f + 1, t => match (T t).td with
    | .int k => some (.w (.int k 0))
    | .bool => some (.w (.bool false))
    | .str => some (.w (.string ByteArray.empty))
    | .slice _ => some .nil
    | .ptr _ => some (.w (.pointer none))
    | .struct ts => match zeroL (zeroP T f) ts with | some ps => some (.agg ps) | none => none
    | _ => none
mutual
def flatP : PV → List Value
  | .w v => [v]
  | .nil => [.slice none 0 0]
  | .agg ps => flatPs ps
  | _ => []
def flatPs : List PV → List Value
  | [] => []
  | p :: ps => flatP p ++ flatPs ps
end
/-- Structs of whole numbers alone. -/
def intT (T : Tab) (t : Nat) : Bool := match (T t).td with | .int _ => Nat.beq (T t).cells 1 | _ => false
def allInt (T : Tab) : List Nat → Bool
  | [] => true
  | t :: ts => intT T t && allInt T ts
structure TyOk (P : Program) (T : Tab) (t : Nat) : Prop where
  zero : ∀ p, zeroP T 9 t = some p → ∃ i z, P.info? t = some i ∧ i.zero = some z ∧ z.cells.toList = flatP p
  info : (T t).td.isOther = false → ∃ i, P.info? t = some i ∧ i.size = (T t).cells ∧ i.bytes = (T t).bytes
  td : tdOk P T t (T t).td
  eqi : ∀ ts, (T t).td = .struct ts → allInt T ts = true → P.stoodInHeld t = false ∧ P.eqGuardType P.depth t = false ∧ ∀ F, P.underlying t = some (.struct F) → ∀ f ∈ F.toList, (f.name == "_") = false
def TabOk (P : Program) (T : Tab) : Prop := ∀ t, TyOk P T t

def constV : Value → Option V
  | .int k n => some (.pv (.w (.int k n)))
  | .bool b => some (.pv (.w (.bool b)))
  | .string s => some (.pv (.w (.string s)))
  | .slice none 0 0 => some (.pv .nil)
  | .nilIface => some (.pv (.w .nilIface))
  | .nilFunc => some (.pv (.w .nilFunc))
  | .pointer none => some (.pv (.w (.pointer none)))
  | _ => none
def ev (s : St) : Operand → Option V
  | .tmp t => lookup s.tmps t
  | .const v => constV v
  | .func f => some (.fn f [])
  | .global _ => none
theorem ev_rep {P0 : Program} {c : Ctx P0} {s : St} {a : Act} {w : World} {col : Col} {lk : Lk} (h : Rel c s a w col lk) {x : Operand} {v : V} (hx : ev s x = some v) :
    VRep w col lk s.roots v (a.eval x) := by
  cases x with
  | tmp t => exact (h.tm t v hx).2
  | func f => simp only [ev, Option.some.injEq] at hx; subst hx; simp [VRep, VRepL, Act.eval]
  | global g => simp [ev] at hx
  | const u =>
    simp only [ev] at hx
    unfold constV at hx
    split at hx <;> simp at hx <;> subst hx <;> simp [VRep, Rep, Act.eval, toVal, Value.oneCell']

/-- What an operator on words gives: a value; or a number that whoever proves spells (behind what is owed). -/
inductive BR where
  | tst (b : Bool)
  | val (ob : Option Prop) (v : Value)
  | num (ob : Option Prop) (k : IntKind) (e : Int)
def bitsE (op : BinOp) (k : IntKind) (x y : Int) : Int :=
  let a := BitVec.ofInt k.bits x
  let b := BitVec.ofInt k.bits y
  match op with
  | .and => k.wrap (a &&& b).toNat
  | .or => k.wrap (a ||| b).toNat
  | .xor => k.wrap (a ^^^ b).toNat
  | _ => k.wrap (a &&& ~~~b).toNat
def binI (op : BinOp) (k : IntKind) (x y : Int) : Option BR :=
  match op with
  | .add => some (.num none k (k.wrap (x + y)))
  | .sub => some (.num none k (k.wrap (x - y)))
  | .mul => some (.num none k (k.wrap (x * y)))
  | .quo => some (.num (some (y ≠ 0)) k (k.wrap (x.tdiv y)))
  | .rem => some (.num (some (y ≠ 0)) k (x.tmod y))
  | .and => some (.num none k (bitsE .and k x y))
  | .or => some (.num none k (bitsE .or k x y))
  | .xor => some (.num none k (bitsE .xor k x y))
  | .andNot => some (.num none k (bitsE .andNot k x y))
  | .eql => some (.tst (decide (x = y)))
  | .neq => some (.tst (!decide (x = y)))
  | .lss => some (.tst (decide (x < y)))
  | .leq => some (.tst (decide (x ≤ y)))
  | .gtr => some (.tst (decide (y < x)))
  | .geq => some (.tst (decide (y ≤ x)))
  | _ => none
def binV (op : BinOp) : Value → Value → Option BR
  | .int k x, .int k' y =>
    match op with
    | .shl => some (.num (some (0 ≤ y)) k (k.wrap (x * 2 ^ min y.toNat k.bits)))
    | .shr => some (.num (some (0 ≤ y)) k (x.fdiv (2 ^ min y.toNat k.bits)))
    | op => match decide (k = k') with
      | false => none
      | true => binI op k x y
  | .string x, .string y =>
    match op with
    | .add => some (.val (some (x.size + y.size ≤ 9223372036854775807)) (.string (x ++ y)))
    | .eql => some (.tst (x.toList == y.toList))
    | .neq => some (.tst (!(x.toList == y.toList)))
    | _ => none
  | _, _ => none
def obOf (ob : Option Prop) : Prop := match ob with | none => True | some p => p
def BR.ok : BR → Value → Prop
  | .tst b, u => u = .bool b
  | .val ob v, u => obOf ob ∧ u = v
  | .num ob k e, u => obOf ob ∧ ∃ z, e = z ∧ u = .int k z
theorem binI_run {P : Program} {w : World} {op : BinOp} {k : IntKind} {x y : Int} {r : BR} {v : Value} (h : binI op k x y = some r) (hv : r.ok v) (t : TypeId) (X Y : Operand) :
    (do eqGuard op t X Y (.int k x) (.int k y); binOp op t (.int k x) (.int k y) : Sem Value).run P w = .ok v w ∧ v.oneCell' = true := by
  have hg : (eqGuard op t X Y (.int k x) (.int k y)).run P w = .ok () w := by
    unfold eqGuard; cases op <;> simp
  simp only [Sem.run_bind, hg, Result.andThen_ok]
  cases op <;> simp only [binI, Option.some.injEq, reduceCtorEq] at h <;> subst h <;> simp only [BR.ok, obOf] at hv <;>
    (first
      | (obtain ⟨h0, z, rfl, rfl⟩ := hv) | (obtain ⟨h0, rfl⟩ := hv) | subst hv) <;>
    simp [binOp, Op.intArith, Op.intDiv, Op.intCmp, Op.intBits, bitsE, Value.oneCell', bne, BEq.beq]
  all_goals (intro e; exact absurd e h0)
theorem binV_run {P : Program} {w : World} {op : BinOp} {x y : Value} {r : BR} {v : Value} (h : binV op x y = some r) (hv : r.ok v) (t : TypeId) (X Y : Operand) :
    (do eqGuard op t X Y x y; binOp op t x y : Sem Value).run P w = .ok v w ∧ v.oneCell' = true := by
  unfold binV at h
  split at h
  · rename_i k x k' y
    split at h
    · simp only [Option.some.injEq] at h; subst h
      obtain ⟨h0, z, rfl, rfl⟩ := hv
      have h0' : ¬ y < 0 := by simp only [obOf] at h0; omega
      simp [eqGuard, binOp, Op.shift, h0', Value.oneCell']
    · simp only [Option.some.injEq] at h; subst h
      obtain ⟨h0, z, rfl, rfl⟩ := hv
      have h0' : ¬ y < 0 := by simp only [obOf] at h0; omega
      simp [eqGuard, binOp, Op.shift, h0', Value.oneCell']
    · cases hk : decide (k = k') <;> rw [hk] at h <;> simp only [] at h
      · cases h
      obtain rfl := of_decide_eq_true hk
      exact binI_run h hv t X Y
  · rename_i x y
    have hg : (eqGuard op t X Y (.string x) (.string y)).run P w = .ok () w := by
      unfold eqGuard; cases op <;> simp
    simp only [Sem.run_bind, hg, Result.andThen_ok]
    cases op <;> simp only [Option.some.injEq, reduceCtorEq] at h <;> subst h <;> simp only [BR.ok, obOf] at hv <;> (first | (obtain ⟨h0, rfl⟩ := hv) | subst hv) <;>
      simp [binOp, Op.stringOp, Value.oneCell']
    have h1 : x.size + y.size ≤ 9223372036854775807 := h0
    simp [IntKind.max, IntKind.signed, IntKind.bits]
    omega
  · cases h

/-- What an operation gives: a value, and what becomes of the roots. -/
structure Eff where
  v : V
  ups : List (Nat × Root)
def appUps : List (Nat × Root) → List (Nat × Root) → List (Nat × Root)
  | [], rs => rs
  | (r, x) :: us, rs => appUps us (putL r x rs)
inductive Out where
  | val (ob : Option Prop) (e : Eff)
  | br (r : BR)
  | elt (ob : Prop) (xs : List PV) (i : Nat) (f : PV → Option Eff)
  | row (ob : Prop) (xs : List PV) (f : List PV → Eff)
  | alt (a b : Out)
  | bytes (xs : List PV)
/-- A byte in a cell. -/
def Yb (c : UInt8) : PV := .w (.int .u8 c.toNat)
def Out.ok : Out → Eff → Prop
  | .val ob v, u => obOf ob ∧ u = v
  | .br r, u => ∃ x, r.ok x ∧ u = ⟨.pv (.w x), []⟩
  | .elt ob xs i f, u => ob ∧ ∃ p, xs[i]? = some p ∧ f p = some u
  | .row ob xs f, u => ob ∧ ∃ ys, xs = ys ∧ u = f ys
  | .alt a b, u => a.ok u ∨ b.ok u
  | .bytes xs, u => ∃ b : ByteArray, xs = b.data.toList.map Yb ∧ u = ⟨.pv (.w (.string b)), []⟩
def brP (b : Bool) (p q : Prop) : Prop := match b with | true => p | false => q
/-- A comparison: either way. -/
inductive Tst (b : Bool) (p q : Prop) : Prop
  | yes (h : b = true) (k : p) : Tst b p q
  | no (h : b = false) (k : q) : Tst b p q
/-- A number that whoever proves spells. -/
inductive Num (ob : Prop) (k : IntKind) (e : Int) (K : Int → Prop) : Prop
  | mk (h : ob) (z : Int) (he : e = z) (kk : K z) : Num ob k e K
/-- Something owed. -/
inductive Owe (ob : Prop) (K : Prop) : Prop
  | mk (h : ob) (k : K) : Owe ob K
/-- An element. -/
inductive Elt (ob : Prop) (xs : List PV) (i : Nat) (K : PV → Prop) : Prop
  | mk (h : ob) (p : PV) (hp : xs[i]? = some p) (k : K p) : Elt ob xs i K
/-- A row that whoever proves spells. -/
inductive Row (ob : Prop) (xs : List PV) (K : List PV → Prop) : Prop
  | mk (h : ob) (ys : List PV) (hy : xs = ys) (k : K ys) : Row ob xs K
/-- Either way serves. -/
inductive Alt (p q : Prop) : Prop
  | l (h : p) : Alt p q
  | r (h : q) : Alt p q
/-- The text that bytes make. -/
inductive Byt (xs : List PV) (K : ByteArray → Prop) : Prop
  | mk (b : ByteArray) (h : xs = b.data.toList.map Yb) (k : K b) : Byt xs K
def Out.cps (K : Eff → Prop) : Out → Prop
  | .val none v => K v
  | .val (some p) v => Owe p (K v)
  | .br (.tst b) => Tst b (K ⟨.pv (.w (.bool true)), []⟩) (K ⟨.pv (.w (.bool false)), []⟩)
  | .br (.val none u) => K ⟨.pv (.w u), []⟩
  | .br (.val (some p) u) => Owe p (K ⟨.pv (.w u), []⟩)
  | .br (.num none k e) => Num True k e fun z => K ⟨.pv (.w (.int k z)), []⟩
  | .br (.num (some p) k e) => Num p k e fun z => K ⟨.pv (.w (.int k z)), []⟩
  | .elt ob xs i f => Elt ob xs i fun p => match f p with | some e => K e | none => False
  | .row ob xs f => Row ob xs fun ys => K (f ys)
  | .alt a b => Alt (a.cps K) (b.cps K)
  | .bytes xs => Byt xs fun b => K ⟨.pv (.w (.string b)), []⟩
theorem Out.cps_ok {K : Eff → Prop} {o : Out} (h : o.cps K) : ∃ v, o.ok v ∧ K v := by
  match o, h with
  | .val none v, h => exact ⟨v, ⟨trivial, rfl⟩, h⟩
  | .val (some p) v, ⟨h1, h⟩ => exact ⟨v, ⟨h1, rfl⟩, h⟩
  | .br (.tst b), .yes h0 h => exact ⟨_, ⟨.bool b, rfl, rfl⟩, by rw [h0]; exact h⟩
  | .br (.tst b), .no h0 h => exact ⟨_, ⟨.bool b, rfl, rfl⟩, by rw [h0]; exact h⟩
  | .br (.val none u), h => exact ⟨_, ⟨u, ⟨trivial, rfl⟩, rfl⟩, h⟩
  | .br (.val (some p) u), ⟨h1, h⟩ => exact ⟨_, ⟨u, ⟨h1, rfl⟩, rfl⟩, h⟩
  | .br (.num none k e), ⟨_, z, e1, h⟩ => exact ⟨_, ⟨_, ⟨trivial, z, e1, rfl⟩, rfl⟩, h⟩
  | .br (.num (some p) k e), ⟨h1, z, e1, h⟩ => exact ⟨_, ⟨_, ⟨h1, z, e1, rfl⟩, rfl⟩, h⟩
  | .elt ob xs i f, ⟨h1, p, h2, h⟩ =>
    split at h
    · rename_i e he
      exact ⟨e, ⟨h1, p, h2, he⟩, h⟩
    · exact h.elim
  | .row ob xs f, ⟨h1, ys, h2, h⟩ => exact ⟨_, ⟨h1, ys, h2, rfl⟩, h⟩
  | .alt a b, .l h => obtain ⟨v, h1, h2⟩ := Out.cps_ok (o := a) h; exact ⟨v, .inl h1, h2⟩
  | .alt a b, .r h => obtain ⟨v, h1, h2⟩ := Out.cps_ok (o := b) h; exact ⟨v, .inr h1, h2⟩
  | .bytes xs, ⟨b, h1, h⟩ => exact ⟨_, ⟨b, h1, rfl⟩, h⟩

/-- Does a content fit a type that is loaded or stored? -/
def fits (T : Tab) (t : Nat) : PV → Bool
  | .agg ps => (T t).td.isAgg && Nat.beq (T t).cells (szs ps) && !(Nat.beq (szs ps) 0)
  | _ => !(T t).td.isAgg && !(T t).td.isOther && Nat.beq (T t).cells 1
mutual
/-- The part that lies behind so many cells. -/
def getO (fit : PV → Bool) : PV → Nat → Option PV
  | .agg ps, off => match Nat.beq off 0 && fit (.agg ps) with
    | true => some (.agg ps)
    | false => getOs fit ps off
  | p, off => match Nat.beq off 0 && fit p with
    | true => some p
    | false => none
def getOs (fit : PV → Bool) : List PV → Nat → Option PV
  | [], _ => none
  | p :: ps, off => match Nat.blt off (sz p) with
    | true => getO fit p off
    | false => getOs fit ps (off - sz p)
end
mutual
def setO (fit : PV → Bool) (q : PV) : PV → Nat → Option PV
  | .agg ps, off => match Nat.beq off 0 && fit (.agg ps) with
    | true => some q
    | false => match setOs fit q ps off with | some qs => some (.agg qs) | none => none
  | p, off => match Nat.beq off 0 && fit p with
    | true => some q
    | false => none
def setOs (fit : PV → Bool) (q : PV) : List PV → Nat → Option (List PV)
  | [], _ => none
  | p :: ps, off => match Nat.blt off (sz p) with
    | true => match setO fit q p off with | some p' => some (p' :: ps) | none => none
    | false => match setOs fit q ps (off - sz p) with | some qs => some (p :: qs) | none => none
end
mutual
def linksP : PV → List Nat
  | .lnk c => [c]
  | .agg ps => linksPs ps
  | .ptr p => linksP p
  | _ => []
def linksPs : List PV → List Nat
  | [] => []
  | p :: ps => linksP p ++ linksPs ps
end
def noLinks (p : PV) : Bool := match linksP p with | [] => true | _ => false
def noAgg : List PV → Bool
  | [] => true
  | .agg _ :: _ => false
  | _ :: ps => noAgg ps
mutual
/-- What a value is once it is only read, and the roots that are only read then. -/
def pvOf (rs : List (Nat × Root)) : V → Option (PV × List Nat)
  | .pv p => some (p, [])
  | .row c => match lookup rs c with
    | some (some (_, _, .sl k xs)) => some (.sl k xs, [c])
    | _ => none
  | .bx c 0 => match lookup rs c with
    | some (some (_, _, .ptr p)) => match noLinks p with
      | true => some (.ptr p, [c])
      | false => none
    | _ => none
  | .agg vs => match pvsOf rs vs with
    | some (ps, cs) => some (.agg ps, cs)
    | none => none
  | .fn f caps => match pvsOf rs caps with
    | some (ps, cs) => match noAgg ps with
      | true => some (.fn f ps, cs)
      | false => none
    | none => none
  | _ => none
def pvsOf (rs : List (Nat × Root)) : List V → Option (List PV × List Nat)
  | [] => some ([], [])
  | v :: vs => match pvOf rs v with
    | some (p, cs) => match pvsOf rs vs with
      | some (ps, ds) => some (p :: ps, cs ++ ds)
      | none => none
    | none => none
end
/-- Roots that are only read from now on. -/
def frz (rs : List (Nat × Root)) : List Nat → List (Nat × Root)
  | [] => []
  | c :: cs => match lookup rs c with
    | some (some (_, e, p)) => (c, some (0, e, p)) :: frz rs cs
    | _ => frz rs cs
def lenS (s : St) : TD → V → Option Int
  | .slice _, .pv (.sl _ xs) => some xs.length
  | .slice _, .pv .nil => some 0
  | .slice _, .pv (.w (.slice _ n _)) => some n
  | .str, .pv (.w (.string s)) => some s.size
  | .slice _, .row c => match lookup s.roots c with | some (some (_, _, .sl _ xs)) => some xs.length | _ => none
  | _, _ => none
def optV (o : Option V) : Option Out := match o with | some v => some (.val none ⟨v, []⟩) | none => none
def valE (v : V) : Option Out := some (.val none ⟨v, []⟩)
def pickS (b : Bool) : Option V → Option V → Option Out
  | some (.pv (.w (.bool x))), some (.pv (.w (.bool y))) => valE (.pv (.w (.bool (cond b x y))))
  | x, y => match b with | true => optV x | false => optV y
def newId (o : Oper) : Nat := match o.dst with | some d => d + 1 | none => 0
def newIds (o : Oper) : List Nat := [newId o, newId o + 10000, newId o + 20000]
/-- A new root may be made here. -/
def free (s : St) (o : Oper) : Bool := match lookup s.roots (newId o), newId o with | none, n + 1 => Nat.blt (n + 1) PN | _, _ => false
def newRow (s : St) (o : Oper) (ob : Prop) (cs : List Nat) (e : Nat) (k : Nat) (xs : List PV) : Option Out :=
  match free s o with
  | true => some (.row ob xs fun ys => ⟨.row (newId o), frz s.roots cs ++ [(newId o, some (1, e, .sl k ys))]⟩)
  | false => none
def newBox (s : St) (o : Oper) (cs : List Nat) (p : PV) : Option Out :=
  match free s o && !(Nat.beq (sz p) 0) with
  | true => some (.val none ⟨.bx (newId o) 0, frz s.roots cs ++ [(newId o, some (1, 0, .ptr p))]⟩)
  | false => none
/-- An element's address. -/
def idxP (T : Tab) (s : St) (t : Nat) : V → V → Option Out
  | x, .pv (.w (.int _ n)) => match (T t).td with
    | .slice e => match x with
      | .pv (.sl k xs) => match Nat.beq (T e).cells k && !(Nat.beq k 0) && !(T e).td.isOther with
        | true => some (.elt (0 ≤ n) xs n.toNat fun p => some ⟨.pv (.ptr p), []⟩)
        | false => none
      | .row c => match lookup s.roots c with
        | some (some (0, _, .sl k xs)) => match Nat.beq (T e).cells k && !(Nat.beq k 0) && !(T e).td.isOther with
          | true => some (.elt (0 ≤ n) xs n.toNat fun p => some ⟨.pv (.ptr p), []⟩)
          | false => none
        | some (some (_ + 1, _, .sl k xs)) => match Nat.beq (T e).cells k && !(Nat.beq k 0) && !(T e).td.isOther with
          | true => some (.val (some (0 ≤ n ∧ n.toNat < xs.length)) ⟨.el c n.toNat 0, []⟩)
          | false => none
        | _ => none
      | _ => none
    | _ => none
  | _, _ => none
def offT (T : Tab) (f : Nat) : List Nat → Nat → Option Nat
  | [], _ => none
  | t :: ts, off => match f with
    | 0 => match !(Nat.beq (T t).cells 0) && !(T t).td.isOther with | true => some off | false => none
    | f + 1 => offT T f ts (off + (T t).cells)
def fieldP (T : Tab) (rs : List (Nat × Root)) (t f : Nat) : V → Option Out
  | .pv (.ptr (.agg ps)) => match (T t).td, ps[f]? with
    | .struct ts, some p => match offT T f ts 0 with
      | some off => match Nat.beq off (szs (ps.take f)) && !(Nat.beq (sz p) 0) with
        | true => valE (.pv (.ptr p))
        | false => none
      | none => none
    | _, _ => none
  | .el c i o => match (T t).td, lookup rs c with
    | .struct ts, some (some (_, _, .sl _ _)) => match offT T f ts 0 with | some off => valE (.el c i (o + off)) | none => none
    | _, _ => none
  | .bx c o => match (T t).td, lookup rs c with
    | .struct ts, some (some (_, _, .ptr _)) => match offT T f ts 0 with | some off => valE (.bx c (o + off)) | none => none
    | _, _ => none
  | _ => none
/-- A value that is loaded out of a box: a root that is linked there, or what is only read. -/
def unlink (rs : List (Nat × Root)) : PV → Option V
  | .lnk c => match lookup rs c with
    | some (some (_, _, .sl _ _)) => some (.row c)
    | some (some (_ + 1, _, .ptr _)) => some (.bx c 0)
    | _ => none
  | p => match noLinks p with | true => some (.pv p) | false => none
def effV (o : Option V) : Option Eff := match o with | some v => some ⟨v, []⟩ | none => none
def pvV (o : Option PV) : Option Eff := match o with | some v => some ⟨.pv v, []⟩ | none => none
def loadS (T : Tab) (s : St) (t : Nat) : V → Option Out
  | .pv (.ptr p) => match fits T t p with | true => valE (.pv p) | false => none
  | .el c i off => match lookup s.roots c with
    | some (some (d, _, .sl _ xs)) => match Nat.ble d 1 with
      | true => some (.elt True xs i fun x => pvV (getO (fits T t) x off))
      | false => none
    | _ => none
  | .bx c off => match lookup s.roots c with
    | some (some (d, _, .ptr p)) => match Nat.ble d 1, getO (fits T t) p off with
      | true, some q => optV (unlink s.roots q)
      | _, _ => none
    | _ => none
  | _ => none
/-- A value as it is laid in a box. -/
def linked (rs : List (Nat × Root)) : V → Option (PV × List Nat)
  | .row c => match lookup rs c with | some (some (_, _, .sl _ _)) => some (.lnk c, []) | _ => none
  | .bx c 0 => match lookup rs c with | some (some (_, _, .ptr _)) => some (.lnk c, []) | _ => none
  | v => pvOf rs v
def storeS (T : Tab) (s : St) (t : Nat) : V → V → Option Out
  | .el c i 0, v => match pvOf s.roots v, lookup s.roots c with
    | some (q, cs), some (some (1, e, .sl k xs)) => match Nat.beq (T t).cells k && Nat.beq (sz q) k && !(hasN c cs) && !(T t).td.isOther && !(Nat.beq k 0) with
      | true => some (.row (i < xs.length) (xs.set i q) fun ys => ⟨.any, frz s.roots cs ++ [(c, some (1, e, .sl k ys))]⟩)
      | false => none
    | _, _ => none
  | .bx c off, v => match linked s.roots v, lookup s.roots c with
    | some (q, cs), some (some (1, e, .ptr p)) => match Nat.beq (sz q) (T t).cells && !(hasN c cs) && !(T t).td.isOther, setO (fits T t) q p off with
      | true, some p' => some (.val none ⟨.any, frz s.roots cs ++ [(c, some (1, e, .ptr p'))]⟩)
      | _, _ => none
    | _, _ => none
  | _, _ => none
/-- The elements of a slice that is read. -/
def elemsOf (rs : List (Nat × Root)) : V → Option (Nat × List PV)
  | .pv (.sl k xs) => some (k, xs)
  | .pv (.w (.slice _ 0 _)) => some (1, [])
  | .row c => match lookup rs c with
    | some (some (d, _, .sl k xs)) => match Nat.ble d 1 with | true => some (k, xs) | false => none
    | _ => none
  | _ => none
def appendS (T : Tab) (s : St) (o : Oper) (t : Nat) (x y : V) : Option Out :=
  match (T t).td, elemsOf s.roots y with
  | .slice e, some (k, ys) => match zeroP T 9 e with
    | some z => match Nat.beq (T e).cells k && !(Nat.beq k 0) && !(T e).td.isOther && Nat.beq (sz z) k, x with
      | true, .pv .nil => newRow s o (ys.length ≤ maxLen ∧ ys.length * (T e).bytes ≤ 140737488355328) [] e k ys
      | true, .row c => match lookup s.roots c with
        | some (some (1, e', .sl k' xs)) => match Nat.beq e e' && Nat.beq k k' && free s o with
          | true => some (.row (xs.length + ys.length ≤ maxLen ∧ (xs.length + ys.length) * (T e).bytes ≤ 140737488355328) (xs ++ ys) fun zs =>
              ⟨.row (newId o), [(c, none), (newId o, some (1, e, .sl k zs))]⟩)
          | false => none
        | _ => none
      | _, _ => none
    | none => none
  | _, _ => none
def callP (T : Tab) (s : St) (o : Oper) : Callee → List Operand → List Nat → Option Out
  | .builtin .len, [x], [t] => match ev s x with
    | some v => match lenS s (T t).td v with
      | some n => some (.br (.num none .i64 n))
      | none => none
    | none => none
  | .builtin .min, [x, y], _ => match ev s x, ev s y with
    | some (.pv (.w (.int k m))), some (.pv (.w (.int _ n))) => some (.br (.num none k (if n < m then n else m)))
    | _, _ => none
  | .builtin .max, [x, y], _ => match ev s x, ev s y with
    | some (.pv (.w (.int k m))), some (.pv (.w (.int _ n))) => some (.br (.num none k (if n > m then n else m)))
    | _, _ => none
  | .builtin .append, [x, y], [t, t'] => match ev s x, ev s y, Nat.beq t t' with
    | some u, some v, true => appendS T s o t u v
    | _, _, _ => none
  | _, _, _ => none
def evs (s : St) : List Operand → Option (List V)
  | [] => some []
  | x :: xs => match ev s x, evs s xs with
    | some v, some vs => some (v :: vs)
    | _, _ => none
/-- Parts in their order, from the first on. -/
def inOrder : Nat → List (Nat × Operand) → Bool
  | _, [] => true
  | i, (j, _) :: l => Nat.beq i j && inOrder (i + 1) l
def allSz (k : Nat) : List PV → Bool
  | [] => true
  | p :: ps => Nat.beq (sz p) k && allSz k ps
def sizesT (T : Tab) (rs : List (Nat × Root)) : List Nat → List V → Bool
  | [], [] => true
  | t :: ts, .pv p :: vs => Nat.beq (sz p) (T t).cells && !(T t).td.isOther && sizesT T rs ts vs
  | t :: ts, .row c :: vs => match lookup rs c with
    | some (some (_, _, .sl _ _)) => Nat.beq 1 (T t).cells && !(T t).td.isOther && sizesT T rs ts vs
    | _ => false
  | _, _ => false
def sumT (T : Tab) : List Nat → Nat
  | [] => 0
  | t :: ts => (T t).cells + sumT T ts
def allPv : List V → Option (List PV)
  | [] => some []
  | .pv p :: vs => match allPv vs with | some ps => some (p :: ps) | none => none
  | _ => none
/-- Are structs of whole numbers equal? -/
def eqTs (T : Tab) : List Nat → List PV → List PV → Option Bool
  | [], [], [] => some true
  | t :: ts, .w (.int k x) :: ps, .w (.int k' y) :: qs => match intT T t && decide (k = k'), eqTs T ts ps qs with
    | true, some b => some (decide (x = y) && b)
    | _, _ => none
  | _, _, _ => none
/-- A slice expression's bound. -/
def bnd (s : St) (d : Int) : Option Operand → Option Int
  | none => some d
  | some x => match ev s x with
    | some (.pv (.w (.int _ n))) => some n
    | _ => none
def sliceS (T : Tab) (s : St) (o : Oper) (t : Nat) (x : V) (low high : Option Operand) : Option Out :=
  match (T t).td, x with
  | .str, .pv (.w (.string b)) => match bnd s 0 low, bnd s b.size high with
    | some l, some h => some (.val (some (0 ≤ l ∧ l ≤ h ∧ h ≤ b.size)) ⟨.pv (.w (.string (b.extract l.toNat h.toNat))), []⟩)
    | _, _ => none
  | .slice e, .pv (.sl k xs) => match bnd s 0 low, bnd s xs.length high, Nat.beq (T e).cells k && !(T e).td.isOther with
    | some l, some h, true => some (.row (0 ≤ l ∧ l ≤ h ∧ h ≤ xs.length) ((xs.take h.toNat).drop l.toNat) fun ys => ⟨.pv (.sl k ys), []⟩)
    | _, _, _ => none
  | .slice e, .row c => match lookup s.roots c with
    | some (some (d, e', .sl k xs)) => match bnd s 0 low, bnd s xs.length high, Nat.beq (T e).cells k && !(T e).td.isOther with
      | some l, some h, true =>
        let f : Out := .row (0 ≤ l ∧ l ≤ h ∧ h ≤ xs.length) ((xs.take h.toNat).drop l.toNat) fun ys => ⟨.pv (.sl k ys), frz s.roots [c]⟩
        match low, Nat.beq d 1 with
        | none, true => match free s o with
          | false => none
          | true => some (.alt f (.row (0 ≤ h ∧ h ≤ xs.length) (xs.take h.toNat) fun ys => ⟨.row (newId o), [(c, none), (newId o, some (1, e', .sl k ys))]⟩))
        | _, _ => some f
      | _, _, _ => none
    | _ => none
  | _, _ => none
/-- The text of bytes. -/
def convB (T : Tab) (s : St) (src : Nat) (x : V) : Option Out :=
  match (T src).td, x with
  | .slice e, .pv .nil => match (T e).td with | .int .u8 => valE (.pv (.w (.string ByteArray.empty))) | _ => none
  | .slice e, x => match (T e).td, elemsOf s.roots x with
    | .int .u8, some (1, ys) => some (.bytes ys)
    | _, _ => none
  | _, _ => none
/-- Is a slice nil? -/
def nilS : PV → Option Bool
  | .nil => some true
  | .sl (_ + 1) (p :: _) => match Nat.beq (sz p) 0 with | true => none | false => some false
  | .w (.slice A _ _) => some A.isNone
  | _ => none
def stepP (T : Tab) (s : St) (o : Oper) : Option Out :=
  match o.op with
  | .move x => optV (ev s x)
  | .assign x => optV (ev s x)
  | .pick c x y => match ev s c with
    | some (.pv (.w (.bool b))) => pickS b (ev s x) (ev s y)
    | _ => none
  | .binOp op t x y _ => match ev s x, ev s y with
    | some (.pv (.w (.bool p))), some (.pv (.w (.bool q))) => match (T t).td, op with
      | .bool, .eql => some (.br (.tst (p == q)))
      | .bool, .neq => some (.br (.tst (!(p == q))))
      | _, _ => none
    | some (.pv p), some (.pv .nil) => match (T t).td, op, nilS p with
      | .slice _, .eql, some b => some (.br (.val none (.bool b)))
      | .slice _, .neq, some b => some (.br (.val none (.bool !b)))
      | _, _, _ => none
    | some (.pv (.agg ps)), some (.pv (.agg qs)) => match (T t).td, op with
      | .struct ts, .eql => match eqTs T ts ps qs with | some b => some (.br (.tst b)) | none => none
      | .struct ts, .neq => match eqTs T ts ps qs with | some b => some (.br (.tst (!b))) | none => none
      | _, _ => none
    | some (.pv (.w u)), some (.pv (.w v)) => match binV op u v with
      | some r => some (.br r)
      | none => none
    | _, _ => none
  | .unOp .not _ x => match ev s x with
    | some (.pv (.w (.bool b))) => valE (.pv (.w (.bool (!b))))
    | _ => none
  | .unOp .neg _ x => match ev s x with
    | some (.pv (.w (.int k n))) => some (.br (.num none k (k.wrap (0 - n))))
    | _ => none
  | .convert src dst x => match (T dst).td, ev s x with
    | .int k, some (.pv (.w (.int _ n))) => match (T src).td with
      | .int _ => some (.br (.num none k (k.wrap n)))
      | _ => none
    | .str, some v => convB T s src v
    | _, _ => none
  | .indexAddr t x i => match ev s x, ev s i with
    | some u, some v => idxP T s t u v
    | _, _ => none
  | .nilCheck x => match ev s x with
    | some (.pv (.ptr p)) => valE (.pv (.ptr p))
    | some (.bx c off) => match lookup s.roots c with
      | some (some (_, _, .ptr _)) => valE (.bx c off)
      | _ => none
    | _ => none
  | .load t x => match ev s x with
    | some v => loadS T s t v
    | none => none
  | .store t x y => match ev s x, ev s y, o.dst with
    | some u, some v, none => storeS T s t u v
    | _, _, _ => none
  | .fieldAddr t x f => match ev s x with
    | some v => fieldP T s.roots t f v
    | none => none
  | .field t x f => match ev s x, (T t).td with
    | some (.pv (.agg ps)), .struct ts => match offT T f ts 0, ps[f]? with
      | some off, some p => match Nat.beq off (szs (ps.take f)) && fits T (ts.getD f 0) p with
        | true => valE (.pv p)
        | false => none
      | _, _ => none
    | _, _ => none
  | .extract x i => match ev s x with
    | some (.tup vs) => optV vs[i]?
    | _ => none
  | .index t x i => match ev s x, ev s i with
    | some (.pv (.w (.string b))), some (.pv (.w (.int _ n))) => match (T t).td with
      | .str => some (.val (some (0 ≤ n ∧ n < b.size)) ⟨.pv (.w (.int .u8 (b.data.getD n.toNat 0).toNat)), []⟩)
      | _ => none
    | _, _ => none
  | .alloc t => match zeroP T 9 t with
    | some p => newBox s o [] p
    | none => none
  | .box t x => match ev s x with
    | some v => match linked s.roots v with
      | some (q, cs) => match Nat.beq (sz q) (T t).cells && !(T t).td.isOther with
        | true => newBox s o cs q
        | false => none
      | none => none
    | none => none
  | .makeSlice t x y => match ev s x, ev s y with
    | some (.pv (.w (.int _ l))), some (.pv (.w (.int _ m))) => match (T t).td with
      | .slice e => match zeroP T 9 e with
        | some z => match Nat.beq (sz z) (T e).cells && !(T e).td.isOther && !(Nat.beq (sz z) 0) with
          | true => newRow s o (0 ≤ l ∧ l ≤ m ∧ ((T e).bytes : Int) * m ≤ 281474976710656 ∧ m ≤ 9223372036854775807) [] e (sz z) (List.replicate l.toNat z)
          | false => none
        | none => none
      | _ => none
    | _, _ => none
  | .buildSlice t len parts => match inOrder 0 parts.toList && Nat.beq parts.toList.length len, evs s (parts.toList.map (·.2)), (T t).td with
    | true, some vs, .slice e => match pvsOf s.roots vs with
      | some (ps, cs) => match allSz (T e).cells ps && !(T e).td.isOther && Nat.ble (len * (T e).cells) 16777216 && !(Nat.beq (T e).cells 0), zeroP T 9 e with
        | true, some _ => newRow s o True cs e (T e).cells ps
        | _, _ => none
      | none => none
    | _, _, _ => none
  | .build t parts => match inOrder 0 parts.toList, evs s (parts.toList.map (·.2)), (T t).td with
    | true, some vs, .struct ts => match sizesT T s.roots ts vs, zeroP T 9 t with
      | true, some z => match Nat.beq (sz z) (sumT T ts), allPv vs with
        | true, some ps => valE (.pv (.agg ps))
        | true, none => valE (.agg vs)
        | _, _ => none
      | _, _ => none
    | _, _, _ => none
  | .makeFunc (.func f) first caps => match first.toList, evs s caps.toList with
    | [], some vs => valE (.fn f vs)
    | _, _ => none
  | .call cl => callP T s o cl.callee cl.args.toList cl.argTypes.toList
  | .slice t x low high none => match ev s x with
    | some v => sliceS T s o t v low high
    | none => none
  | _ => none
end Go.Vm

/- What is owned becomes what is only read. -/
set_option linter.unusedVariables false
set_option linter.unusedSimpArgs false
namespace Go.Vm
open Go Go.RowKit

theorem SlRep.loose {w : World} {col col' : Col} {r n pos k len v d} (hc : ∀ b, Mine col r n pos b → col' b = none) (h : SlRep w col r n pos k len v d) : SlRep w col' 0 0 [] k len v d := by
  cases n with
  | zero =>
    obtain ⟨A, cap, rfl, hn, h⟩ := h
    refine ⟨A, cap, rfl, hn, fun hd => ?_⟩
    obtain ⟨b, o, rfl, hcb, hcs⟩ := h hd
    exact ⟨b, o, rfl, hc b (.inl hcb), hcs⟩
  | succ n =>
    have hown := h.2
    obtain ⟨A, cap, rfl, hn, hb⟩ := h.bare
    refine ⟨A, cap, rfl, hn, fun hd => ?_⟩
    obtain ⟨b, o, rfl, _, hcs⟩ := hb hd
    exact ⟨b, o, rfl, hc b (.inr ⟨by omega, [], by simpa using hown b rfl⟩), hcs⟩
theorem PtRep.loose {w : World} {col col' : Col} {r n pos b f d} (hc : ∀ b, Mine col r n pos b → col' b = none) (h : PtRep w col r n pos b f d) : PtRep w col' 0 0 [] b f d := by
  have hcol : col' b = none := by
    cases n with
    | zero => exact hc b (.inl h.1)
    | succ n => exact hc b (.inr ⟨by omega, [], by simpa using h.2.1⟩)
  exact ⟨hcol, h.bare.2⟩
mutual
theorem Rep.loose {w : World} {col col' : Col} {lk : Lk} {r : Nat} : ∀ (p : PV) {n pos pos' cs}, (∀ b, Mine col r n pos b → col' b = none) → Rep w col lk r n pos p cs → Rep w col' lk 0 0 pos' p cs
  | .w v, _, _, _, _, _, h => by simpa only [Rep] using h
  | .nil, _, _, _, _, _, h => by simpa only [Rep] using h
  | .sl k xs, n, pos, pos', _, hc, h => by
    simp only [Rep] at h ⊢
    obtain ⟨v, d, rfl, h1, h2, h3⟩ := h
    exact ⟨v, d, rfl, h1, RepL.loose xs (fun b hb => hc b (hb.less (Nat.sub_le _ _))) h2, h3.loose hc⟩
  | .agg ps, _, _, _, _, hc, h => by simp only [Rep] at h ⊢; exact RepL.loose ps hc h
  | .ptr p, n, pos, pos', _, hc, h => by
    simp only [Rep] at h ⊢
    obtain ⟨b, f, d, rfl, hd, h2, h3⟩ := h
    exact ⟨b, f, d, rfl, hd, Rep.loose p (fun b hb => hc b ((hb.less (Nat.sub_le _ _)).sub 0)) h2, h3.loose hc⟩
  | .fn f caps, n, pos, pos', _, hc, h => by
    simp only [Rep] at h ⊢
    obtain ⟨vs, rfl, h⟩ := h
    exact ⟨vs, rfl, RepL.loose caps (fun b hb => hc b (hb.less (Nat.zero_le _))) h⟩
  | .lnk c, _, _, _, _, _, h => by simpa only [Rep] using h
theorem RepL.loose {w : World} {col col' : Col} {lk : Lk} {r : Nat} : ∀ (ps : List PV) {n pos pos' i i' cs}, (∀ b, Mine col r n pos b → col' b = none) → RepL w col lk r n pos i ps cs → RepL w col' lk 0 0 pos' i' ps cs
  | [], _, _, _, _, _, _, _, h => by simpa only [RepL] using h
  | p :: ps, _, _, _, i, _, _, hc, h => by
    simp only [RepL] at h ⊢
    obtain ⟨c, d, rfl, h1, h2⟩ := h
    exact ⟨c, d, rfl, Rep.loose p (fun b hb => hc b (hb.sub i)) h1, RepL.loose ps hc h2⟩
end
theorem linksPs_nil {p : PV} {ps : List PV} (h : linksPs (p :: ps) = []) : linksP p = [] ∧ linksPs ps = [] := by simpa [linksPs] using h
mutual
/-- Without links the roots' headers don't matter. -/
theorem Rep.unlk {w : World} {col : Col} {lk lk' : Lk} {r : Nat} : ∀ (p : PV) {n pos cs}, linksP p = [] → Rep w col lk r n pos p cs → Rep w col lk' r n pos p cs
  | .w v, _, _, _, _, h => by simpa only [Rep] using h
  | .nil, _, _, _, _, h => by simpa only [Rep] using h
  | .sl k xs, n, pos, _, _, h => by simpa only [Rep] using h
  | .agg ps, _, _, _, hl, h => by simp only [Rep] at h ⊢; exact RepL.unlk ps (by simpa only [linksP] using hl) h
  | .ptr p, n, pos, _, hl, h => by
    simp only [Rep] at h ⊢
    obtain ⟨b, f, d, rfl, hd, h2, h3⟩ := h
    exact ⟨b, f, d, rfl, hd, Rep.unlk p (by simpa only [linksP] using hl) h2, h3⟩
  | .fn f caps, n, pos, _, _, h => by simpa only [Rep] using h
  | .lnk c, _, _, _, hl, h => by simp [linksP] at hl
theorem RepL.unlk {w : World} {col : Col} {lk lk' : Lk} {r : Nat} : ∀ (ps : List PV) {n pos i cs}, linksPs ps = [] → RepL w col lk r n pos i ps cs → RepL w col lk' r n pos i ps cs
  | [], _, _, _, _, _, h => by simpa only [RepL] using h
  | p :: ps, _, _, _, _, hl, h => by
    simp only [RepL] at h ⊢
    obtain ⟨c, d, rfl, h1, h2⟩ := h
    have hp := linksPs_nil hl
    exact ⟨c, d, rfl, Rep.unlk p hp.1 h1, RepL.unlk ps hp.2 h2⟩
end
theorem noLinks_iff {p : PV} (h : noLinks p = true) : linksP p = [] := by
  unfold noLinks at h
  split at h
  · assumption
  · cases h
def colF (cs : List Nat) (col : Col) : Col := fun b => match col b with | none => none | some (r, q) => if r ≠ 0 ∧ r ∈ cs then none else some (r, q)
theorem colF_none {cs : List Nat} {col : Col} {b : Nat} (h : col b = none) : colF cs col b = none := by simp [colF, h]
theorem colF_in {cs : List Nat} {col : Col} {b r : Nat} {q : List Nat} (h : col b = some (r, q)) (h0 : r ≠ 0) (hc : r ∈ cs) : colF cs col b = none := by simp [colF, h, h0, hc]
theorem colF_out {cs : List Nat} {col : Col} {b r : Nat} {q : List Nat} (h : col b = some (r, q)) (hc : r = 0 ∨ r ∉ cs) : colF cs col b = some (r, q) := by
  rcases hc with rfl | hc <;> simp [colF, h]
  intro _ h2; exact absurd h2 hc
theorem colF_some {cs : List Nat} {col : Col} {b r : Nat} {q : List Nat} (h : colF cs col b = some (r, q)) : col b = some (r, q) ∧ (r = 0 ∨ r ∉ cs) := by
  unfold colF at h
  split at h
  · cases h
  · rename_i r' q' hc
    split at h
    · cases h
    · rename_i hn
      obtain ⟨rfl, rfl⟩ : r' = r ∧ q' = q := by simpa using h
      refine ⟨hc, ?_⟩
      by_cases h0 : r' = 0
      · exact .inl h0
      · exact .inr fun h1 => hn ⟨h0, h1⟩
theorem lookup_appUps_append : ∀ (us vs : List (Nat × Root)) (rs : List (Nat × Root)), appUps (us ++ vs) rs = appUps vs (appUps us rs)
  | [], _, _ => rfl
  | (r, x) :: us, vs, rs => by simp only [List.cons_append, appUps, lookup_appUps_append us vs]
theorem lookup_frz' (rs : List (Nat × Root)) (r : Nat) : ∀ (cs : List Nat) (rs' : List (Nat × Root)),
    lookup (appUps (frz rs cs) rs') r = if r ∈ cs then (match lookup rs r with | some (some (_, e, p)) => some (some (0, e, p)) | _ => lookup rs' r) else lookup rs' r
  | [], rs' => by simp [frz, appUps]
  | c :: cs, rs' => by
    simp only [frz]
    split
    · rename_i n e p hl
      simp only [appUps]
      rw [lookup_frz' rs r cs]
      simp only [lookup_put, List.mem_cons]
      by_cases hr : r = c
      · subst hr
        simp only [if_true, true_or, hl]
        split <;> rfl
      · have : ¬ c = r := fun h => hr h.symm
        simp only [this, if_false, hr, false_or]
    · rename_i hn
      rw [lookup_frz' rs r cs]
      simp only [List.mem_cons]
      by_cases hr : r = c
      · subst hr
        simp only [true_or, if_true]
        split <;> rfl
      · simp only [hr, false_or]
def frzL : Option Root → Option Root
  | some (some (_, e, p)) => some (some (0, e, p))
  | x => x
theorem lookup_frz (rs : List (Nat × Root)) (r : Nat) (cs : List Nat) : lookup (appUps (frz rs cs) rs) r = if r ∈ cs then frzL (lookup rs r) else lookup rs r := by
  rw [lookup_frz']
  split
  · rcases hl : lookup rs r with _ | _ | ⟨n, e, p⟩ <;> simp [frzL]
  · rfl
theorem RtOk.kind {w : World} {col : Col} {lk : Lk} {r n e : Nat} {p : PV} (h : RtOk w col lk r n e p) : (∃ k xs, p = .sl k xs) ∨ ∃ q, p = .ptr q := by
  obtain ⟨v, _, _, h⟩ := h
  cases p <;> simp [tyAt] at h ⊢
theorem shape_frz {n n' e : Nat} {p : PV} (h : (∃ k xs, p = .sl k xs) ∨ ∃ q, p = .ptr q) : shape (some (n, e, p)) (some (n', e, p)) := by
  rcases h with ⟨k, xs, rfl⟩ | ⟨q, rfl⟩ <;> simp [shape]
section
variable {P0 : Program} {c : Ctx P0} {s : St} {a : Act} {w : World} {col : Col} {lk : Lk}
theorem RtOk.frz {r n e : Nat} {p : PV} {cs : List Nat} (h0 : r ≠ 0) (hc : r ∈ cs) (h : RtOk w col lk r n e p) : RtOk w (colF cs col) lk r 0 e p := by
  have hk := h.kind
  obtain ⟨v, h1, h2, h3⟩ := h
  refine ⟨v, h1, Rep.move p (Rep.loose (pos' := []) p (fun b hb => ?_) h2), ?_⟩
  · rcases hb with hb | ⟨_, q, hb⟩
    · exact colF_none hb
    · exact colF_in hb h0 hc
  · rcases hk with ⟨k, xs, rfl⟩ | ⟨q, rfl⟩ <;> simp [tyAt]
theorem Inv.frz {cs : List Nat} (h : Inv c w col) : Inv c w (colF cs col) := by
  refine ⟨h.os, h.tape, h.output, h.size, fun b hb ho => ?_, fun b x hx => ?_⟩
  · have := h.old b hb ho
    refine ⟨this.1, ?_⟩
    rcases ho with ho | ho
    · rw [ho] at this ⊢; exact colF_none this.2
    · rw [ho] at this ⊢; exact colF_out this.2 (.inl rfl)
  · obtain ⟨r, q⟩ := x
    exact h.live b _ (colF_some hx).1
theorem Rel.ne0 (h : Rel c s a w col lk) {r : Nat} {x : Root} (hr : lookup s.roots r = some x) : r ≠ 0 := by
  rintro rfl; rw [h.z] at hr; cases hr
theorem Rel.frz_vstep (h : Rel c s a w col lk) (cs : List Nat) : VStep w w col (colF cs col) lk lk s.roots (appUps (frz s.roots cs) s.roots) := by
  refine ⟨fun b hb hc => ⟨rfl, colF_none hc⟩, fun _ _ h => h, fun r x hx => ?_⟩
  rw [lookup_frz]
  split
  · rw [hx]
    rcases x with _ | ⟨n, e, p⟩
    · exact ⟨none, rfl, .inl rfl⟩
    · exact ⟨_, rfl, .inr (shape_frz (h.rt r n e p hx).kind)⟩
  · exact ⟨x, hx, .inl rfl⟩
theorem Rel.freeze (h : Rel c s a w col lk) (cs : List Nat) : Rel c { s with roots := appUps (frz s.roots cs) s.roots } a w (colF cs col) lk := by
  refine ⟨h.inv.frz, h.n, fun t v ht => ⟨(h.tm t v ht).1, VRep.step (h.frz_vstep cs) v (h.tm t v ht).2⟩, fun r n e p hp => ?_, fun b r q hb h0 => ?_, fun r v hv => ?_, ?_, h.df, h.pr⟩
  · simp only [lookup_frz] at hp
    split at hp
    · rename_i hc
      rcases hl : lookup s.roots r with _ | _ | ⟨n', e', p'⟩ <;> rw [hl] at hp <;> simp only [frzL, reduceCtorEq, Option.some.injEq, Prod.mk.injEq] at hp
      obtain ⟨rfl, rfl, rfl⟩ := hp
      exact (h.rt r n' e' p' hl).frz (h.ne0 hl) hc
    · rename_i hc
      refine (h.rt r n e p hp).same ⟨fun b hb hm => ⟨rfl, ?_⟩⟩ fun _ _ h => h
      rcases hm with hm | ⟨_, q, hm⟩
      · rw [hm, colF_none hm]
      · rw [hm, colF_out hm (.inr hc)]
  · obtain ⟨h1, h2⟩ := colF_some hb
    obtain ⟨x, hx⟩ := h.cl b r q h1 h0
    have : r ∉ cs := h2.resolve_left h0
    exact ⟨x, by simp only [lookup_frz, this, if_false, hx]⟩
  · obtain ⟨x, hx⟩ := h.ln r v hv
    simp only [lookup_frz]
    split
    · rw [hx]; rcases x with _ | ⟨n, e, p⟩ <;> exact ⟨_, rfl⟩
    · exact ⟨x, hx⟩
  · simp only [lookup_frz]
    rw [h.z]
    split <;> rfl
end
section
variable {P0 : Program} {c : Ctx P0} {s : St} {a : Act} {w : World} {col : Col} {lk : Lk}
theorem VRep.row_rt (h : Rel c s a w col lk) {r n e k : Nat} {xs : List PV} {y : Value} (hv : VRep w col lk s.roots (.row r) y) (hl : lookup s.roots r = some (some (n, e, .sl k xs))) :
    lk r = some y ∧ Rep w col lk r n [] (.sl k xs) [y] ∧ (n ≠ 0 → TypeAt w y e) := by
  simp only [VRep, onRow, hl] at hv
  obtain ⟨v, h1, h2, h3⟩ := h.rt _ _ _ _ hl
  rw [hv] at h1
  obtain rfl : y = v := by simpa using h1
  exact ⟨hv, h2, h3⟩
theorem VRep.bx_rt (h : Rel c s a w col lk) {r n e off : Nat} {p : PV} {y : Value} (hv : VRep w col lk s.roots (.bx r off) y) (hl : lookup s.roots r = some (some (n, e, .ptr p))) :
    ∃ b, lk r = some (.pointer (some ⟨b, 0, none⟩)) ∧ y = .pointer (some ⟨b, off, none⟩) ∧ Rep w col lk r n [] (.ptr p) [.pointer (some ⟨b, 0, none⟩)] := by
  simp only [VRep, onBx, hl] at hv
  obtain ⟨b, h1, h2⟩ := hv
  obtain ⟨v, h3, h4, _⟩ := h.rt _ _ _ _ hl
  rw [h1] at h3
  obtain rfl : _ = v := by simpa using h3
  exact ⟨b, h1, h2, h4⟩
mutual
theorem pvOf_rep (h : Rel c s a w col lk) {cs : List Nat} : ∀ (v : V) {y : Value} {p : PV} {ds : List Nat}, VRep w col lk s.roots v y → pvOf s.roots v = some (p, ds) → (∀ d ∈ ds, d ∈ cs) →
    ∃ cells, Rep w (colF cs col) lk0 0 0 [] p cells ∧ y = toVal p cells
  | .pv p, y, q, ds, hv, hp, hs => by
    simp only [pvOf, Option.some.injEq, Prod.mk.injEq] at hp
    obtain ⟨rfl, rfl⟩ := hp
    simp only [VRep] at hv
    obtain ⟨cells, h1, h2⟩ := hv
    refine ⟨cells, Rep.same (fun _ _ h => h) p ⟨fun b hb hm => ⟨rfl, ?_⟩⟩ h1, h2⟩
    rcases hm with hm | ⟨h0, _⟩
    · rw [hm, colF_none hm]
    · exact absurd rfl h0
  | .row r, y, q, ds, hv, hp, hs => by
    simp only [pvOf] at hp
    split at hp
    · rename_i n e k xs hl
      simp only [Option.some.injEq, Prod.mk.injEq] at hp
      obtain ⟨rfl, rfl⟩ := hp
      obtain ⟨_, h2, _⟩ := hv.row_rt h hl
      refine ⟨[y], Rep.unlk _ rfl (Rep.loose _ (fun b hb => ?_) h2), rfl⟩
      rcases hb with hb | ⟨_, q, hb⟩
      · exact colF_none hb
      · exact colF_in hb (h.ne0 hl) (hs r (by simp))
    · cases hp
  | .bx r 0, y, q, ds, hv, hp, hs => by
    simp only [pvOf] at hp
    split at hp
    · rename_i n e p hl
      split at hp
      · rename_i hnl
        simp only [Option.some.injEq, Prod.mk.injEq] at hp
        obtain ⟨rfl, rfl⟩ := hp
        obtain ⟨b, _, rfl, h2⟩ := hv.bx_rt h hl
        refine ⟨[.pointer (some ⟨b, 0, none⟩)], Rep.unlk _ (by simpa only [linksP] using noLinks_iff hnl) (Rep.loose _ (fun b hb => ?_) h2), rfl⟩
        rcases hb with hb | ⟨_, q, hb⟩
        · exact colF_none hb
        · exact colF_in hb (h.ne0 hl) (hs r (by simp))
      · cases hp
    · cases hp
  | .agg vs, y, q, ds, hv, hp, hs => by
    simp only [pvOf] at hp
    split at hp
    · rename_i ps ds' hps
      simp only [Option.some.injEq, Prod.mk.injEq] at hp
      obtain ⟨rfl, rfl⟩ := hp
      simp only [VRep] at hv
      obtain ⟨cells, h1, rfl⟩ := hv
      exact ⟨cells, by simp only [Rep]; exact pvsOf_cells h vs h1 hps hs, rfl⟩
    · cases hp
  | .fn f caps, y, q, ds, hv, hp, hs => by
    simp only [pvOf] at hp
    split at hp
    · rename_i ps ds' hps
      split at hp
      · rename_i hna
        simp only [Option.some.injEq, Prod.mk.injEq] at hp
        obtain ⟨rfl, rfl⟩ := hp
        simp only [VRep] at hv
        obtain ⟨ys, h1, rfl⟩ := hv
        exact ⟨[_], by simp only [Rep]; exact ⟨ys, rfl, pvsOf_vals h caps h1 hps hna hs⟩, rfl⟩
      · cases hp
    · cases hp
  | .any, _, _, _, _, hp, _ => by simp [pvOf] at hp
  | .win .., _, _, _, _, hp, _ => by simp [pvOf] at hp
  | .el .., _, _, _, _, hp, _ => by simp [pvOf] at hp
  | .bx _ (_ + 1), _, _, _, _, hp, _ => by simp [pvOf] at hp
  | .tup _, _, _, _, _, hp, _ => by simp [pvOf] at hp
theorem pvsOf_vals (h : Rel c s a w col lk) {cs : List Nat} : ∀ (vs : List V) {i : Nat} {ys : List Value} {ps : List PV} {ds : List Nat}, VRepL w col lk s.roots vs ys → pvsOf s.roots vs = some (ps, ds) → noAgg ps = true → (∀ d ∈ ds, d ∈ cs) →
    RepL w (colF cs col) lk0 0 0 [] i ps ys
  | [], i, ys, ps, ds, hv, hp, hna, hs => by
    simp only [pvsOf, Option.some.injEq, Prod.mk.injEq] at hp
    obtain ⟨rfl, rfl⟩ := hp
    simpa only [VRepL, RepL] using hv
  | v :: vs, i, ys, ps, ds, hv, hp, hna, hs => by
    simp only [pvsOf] at hp
    split at hp
    · rename_i p ds1 hp1
      split at hp
      · rename_i ps' ds2 hp2
        simp only [Option.some.injEq, Prod.mk.injEq] at hp
        obtain ⟨rfl, rfl⟩ := hp
        simp only [VRepL] at hv
        obtain ⟨y, zs, rfl, h1, h2⟩ := hv
        obtain ⟨cc, h3, rfl⟩ := pvOf_rep h v h1 hp1 fun d hd => hs d (by simp [hd])
        have hl := Rep.len _ h3
        have hna' : noAgg ps' = true ∧ cc = [toVal p cc] := by
          cases p <;> simp only [noAgg, reduceCtorEq] at hna <;> refine ⟨hna, ?_⟩ <;> simp only [sz] at hl <;> match cc, hl with | [u], _ => rfl
        simp only [RepL]
        exact ⟨cc, zs, by rw [List.cons_eq_append_iff]; exact .inr ⟨[], by simpa using hna'.2, by simp⟩, Rep.move p h3, pvsOf_vals h vs h2 hp2 hna'.1 fun d hd => hs d (by simp [hd])⟩
      · cases hp
    · cases hp
theorem pvsOf_cells (h : Rel c s a w col lk) {cs : List Nat} : ∀ (vs : List V) {i : Nat} {cells : List Value} {ps : List PV} {ds : List Nat}, VCells w col lk s.roots vs cells → pvsOf s.roots vs = some (ps, ds) → (∀ d ∈ ds, d ∈ cs) →
    RepL w (colF cs col) lk0 0 0 [] i ps cells
  | [], i, cells, ps, ds, hv, hp, hs => by
    simp only [pvsOf, Option.some.injEq, Prod.mk.injEq] at hp
    obtain ⟨rfl, rfl⟩ := hp
    simpa only [VCells, RepL] using hv
  | v :: vs, i, cells, ps, ds, hv, hp, hs => by
    simp only [pvsOf] at hp
    split at hp
    · rename_i p ds1 hp1
      split at hp
      · rename_i ps' ds2 hp2
        simp only [Option.some.injEq, Prod.mk.injEq] at hp
        obtain ⟨rfl, rfl⟩ := hp
        simp only [VCells] at hv
        obtain ⟨y, zs, rfl, h1, h2⟩ := hv
        obtain ⟨cc, h3, rfl⟩ := pvOf_rep h v h1 hp1 fun d hd => hs d (by simp [hd])
        simp only [RepL]
        exact ⟨cc, zs, by rw [cells_toVal h3], Rep.move p h3, pvsOf_cells h vs h2 hp2 fun d hd => hs d (by simp [hd])⟩
      · cases hp
    · cases hp
end
end
end Go.Vm

/- A new root: a block is made, or a row grows. -/
set_option linter.unusedVariables false
set_option linter.unusedSimpArgs false
namespace Go.Vm
open Go Go.RowKit

def killU (kill : List Nat) : List (Nat × Root) := kill.map fun r => (r, none)
theorem lookup_kill (r : Nat) : ∀ (kill : List Nat) (rs : List (Nat × Root)), lookup (appUps (killU kill) rs) r = if r ∈ kill then some none else lookup rs r
  | [], rs => by simp [killU, appUps]
  | k :: ks, rs => by
    have := lookup_kill r ks (putL k none rs)
    simp only [killU, List.map_cons, appUps] at this ⊢
    rw [this, lookup_put]
    by_cases h : r ∈ ks
    · simp [h]
    · by_cases h' : k = r
      · subst h'; simp
      · have : ¬ r = k := fun e => h' e.symm
        simp [h, h', this]
def colG (kill : List Nat) (g : Option Nat) (id : Nat) (col : Col) : Col := fun b => if g = some b then some (id, []) else colF kill col b
def lkP (lk : Lk) (id : Nat) (y : Value) : Lk := fun r => if r = id then some y else lk r
structure Grow (w w' : World) (col : Col) (kill : List Nat) (row g : Option Nat) : Prop where
  grown : w.grownBy w' row
  row : ∀ b, row = some b → ∃ r ∈ kill, ∃ q, col b = some (r, q)
  blk : ∀ b, g = some b → b < w'.heap.size ∧ (w.heap.size ≤ b ∨ ∃ r ∈ kill, ∃ q, col b = some (r, q))
section
variable {P0 : Program} {c : Ctx P0} {s : St} {a : Act} {w w' : World} {col : Col} {lk : Lk} {kill : List Nat} {row g : Option Nat}
theorem Grow.same (h : Grow w w' col kill row g) {id r n : Nat} (hr : r ∉ kill) : Same w w' col (colG kill g id col) r n [] := by
  refine ⟨fun b hb hm => ?_⟩
  have hcol : col b = none ∨ ∃ q, col b = some (r, q) := by
    rcases hm with hm | ⟨_, q, hm⟩
    · exact .inl hm
    · exact .inr ⟨_, hm⟩
  have hne : ∀ r' ∈ kill, ∀ q, col b ≠ some (r', q) := by
    intro r' hr' q he
    rcases hcol with hc | ⟨q', hc⟩
    · rw [hc] at he; cases he
    · rw [hc] at he
      obtain ⟨rfl, _⟩ : r = r' ∧ q' = q := by simpa using he
      exact hr hr'
  have h1 : some b ≠ row := fun e => by obtain ⟨r', hr', q, hq⟩ := h.row b e.symm; exact hne r' hr' q hq
  have h2 : g ≠ some b := fun e => by
    rcases (h.blk b e).2 with h3 | ⟨r', hr', q, hq⟩
    · omega
    · exact hne r' hr' q hq
  refine ⟨h.grown.block b hb h1, ?_⟩
  simp only [colG, h2, if_false]
  rcases hcol with hc | ⟨q', hc⟩
  · rw [hc, colF_none hc]
  · rw [hc, colF_out hc (.inr hr)]
theorem lookup_grow {id : Nat} {x : Root} (rs : List (Nat × Root)) (r : Nat) : lookup (appUps (killU kill ++ [(id, x)]) rs) r = if id = r then some x else if r ∈ kill then some none else lookup rs r := by
  rw [lookup_appUps_append]
  simp only [appUps, lookup_put, lookup_kill]
theorem Rel.grow (h : Rel c s a w col lk) (hg : Grow w w' col kill row g) {id e : Nat} {p : PV} {y : Value} (hid : lookup s.roots id = none) (hid0 : id ≠ 0 ∧ id < PN) (hk : ∀ r ∈ kill, ∃ x, lookup s.roots r = some x)
    (hrt : RtOk w' (colG kill g id col) (lkP lk id y) id 1 e p) :
    Rel c { s with roots := appUps (killU kill ++ [(id, some (1, e, p))]) s.roots } a w' (colG kill g id col) (lkP lk id y) := by
  have hk0 : ∀ r ∈ kill, r ≠ 0 := fun r hr => by obtain ⟨x, hx⟩ := hk r hr; exact h.ne0 hx
  have h0 : 0 ∉ kill := fun h => hk0 0 h rfl
  have hlk : ∀ r v, lk r = some v → lkP lk id y r = some v := fun r v hv => by
    have : r ≠ id := by rintro rfl; obtain ⟨x, hx⟩ := h.ln r v hv; rw [hid] at hx; cases hx
    simp only [lkP, this, if_false, hv]
  have hvs : VStep w w' col (colG kill g id col) lk (lkP lk id y) s.roots (appUps (killU kill ++ [(id, some (1, e, p))]) s.roots) := by
    refine ⟨fun b hb hc => ?_, hlk, fun r x hx => ?_⟩
    · have := (hg.same (id := id) (n := 0) h0).blk b hb (.inl hc)
      exact ⟨this.1, this.2.trans hc⟩
    · have : id ≠ r := by rintro rfl; rw [hid] at hx; cases hx
      simp only [lookup_grow, this, if_false]
      split
      · exact ⟨none, rfl, .inr (by cases x <;> trivial)⟩
      · exact ⟨x, hx, .inl rfl⟩
  refine ⟨⟨hg.grown.os.trans h.inv.os, hg.grown.tape.trans h.inv.tape, hg.grown.output.trans h.inv.output, Nat.le_trans h.inv.size hg.grown.size, fun b hb ho => ?_, fun b x hx => ?_⟩, h.n,
    fun t v ht => ⟨(h.tm t v ht).1, VRep.step hvs v (h.tm t v ht).2⟩, fun r n e' p' hp => ?_, fun b r q hb h1 => ?_, fun r v hv => ?_, ?_, h.df, fun r v hv hp => ?_⟩
  · have h1 := h.inv.old b hb ho
    have hcb : col b = none ∨ col b = some (0, []) := by rw [h1.2]; exact ho
    have hlt := Nat.lt_of_lt_of_le hb h.inv.size
    have h2 := (hg.same (id := id) (r := 0) (n := 1) h0).blk b hlt (by
      rcases hcb with hc | hc
      · exact .inl hc
      · exact .inr ⟨by omega, [], by simpa using hc⟩)
    exact ⟨h2.1.trans h1.1, h2.2.trans h1.2⟩
  · simp only [colG] at hx
    split at hx
    · rename_i he; exact (hg.blk b he).1
    · obtain ⟨r, q⟩ := x
      exact Nat.lt_of_lt_of_le (h.inv.live b _ (colF_some hx).1) hg.grown.size
  · simp only [lookup_grow] at hp
    split at hp
    · rename_i he
      subst he
      obtain ⟨rfl, rfl, rfl⟩ : 1 = n ∧ e = e' ∧ p = p' := by simpa using hp
      exact hrt
    · split at hp
      · cases hp
      · rename_i hn
        exact (h.rt r n e' p' hp).same (hg.same hn) hlk
  · simp only [colG] at hb
    split at hb
    · obtain ⟨rfl, _⟩ : id = r ∧ [] = q := by simpa using hb
      exact ⟨(1, e, p), by simp only [lookup_grow, if_true]⟩
    · obtain ⟨h2, h3⟩ := colF_some hb
      obtain ⟨x, hx⟩ := h.cl b r q h2 h1
      have h4 : r ∉ kill := h3.resolve_left h1
      have : id ≠ r := by rintro rfl; rw [hid] at hx; cases hx
      exact ⟨x, by simp only [lookup_grow, this, h4, if_false, hx]⟩
  · simp only [lookup_grow]
    by_cases he : id = r
    · exact ⟨some (1, e, p), by simp only [he, if_true]⟩
    · have : ¬ r = id := fun e => he e.symm
      simp only [lkP, this, if_false] at hv
      obtain ⟨x, hx⟩ := h.ln r v hv
      simp only [he, if_false]
      split
      · exact ⟨_, rfl⟩
      · exact ⟨x, hx⟩
  · simp only [lookup_grow, hid0.1, if_false, h0, h.z]
  · have : r ≠ id := by have := hid0.2; omega
    simp only [lkP, this, if_false] at hv
    exact h.pr r v hv hp
/-- A root's block is written. -/
theorem Rel.write (h : Rel c s a w col lk) {r n e e' : Nat} {p p' : PV} {b : Nat} (hr : lookup s.roots r = some (some (n, e, p))) (hg : w.grownBy w' (some b)) (hb : ∃ q, col b = some (r, q)) (hsh : shape (some (n, e, p)) (some (1, e', p')))
    (hrt : RtOk w' col lk r 1 e' p') : Rel c { s with roots := appUps [(r, some (1, e', p'))] s.roots } a w' col lk := by
  obtain ⟨qb, hb⟩ := hb
  have hr0 := h.ne0 hr
  have hsame : ∀ r' n', r' ≠ r → Same w w' col col r' n' [] := fun r' n' hne => ⟨fun b' hb' hm => ⟨hg.block b' hb' fun e => by
    obtain rfl : b' = b := by simpa using e
    rcases hm with hm | ⟨_, q, hm⟩
    · rw [hm] at hb; cases hb
    · rw [hm] at hb
      obtain ⟨rfl, _⟩ : r' = r ∧ _ := by simpa using hb
      exact hne rfl, rfl⟩⟩
  have hvs : VStep w w' col col lk lk s.roots (appUps [(r, some (1, e', p'))] s.roots) := by
    refine ⟨fun b' hb' hc => ⟨((hsame 0 0 (Ne.symm hr0)).blk b' hb' (.inl hc)).1, hc⟩, fun _ _ h => h, fun r' x hx => ?_⟩
    simp only [appUps, lookup_put]
    split
    · rename_i he; subst he; rw [hr] at hx
      obtain rfl : _ = x := by simpa using hx
      exact ⟨_, rfl, .inr hsh⟩
    · exact ⟨x, hx, .inl rfl⟩
  refine ⟨⟨hg.os.trans h.inv.os, hg.tape.trans h.inv.tape, hg.output.trans h.inv.output, Nat.le_trans h.inv.size hg.size, fun b' hb' ho => ?_, fun b' x hx => Nat.lt_of_lt_of_le (h.inv.live b' x hx) hg.size⟩, h.n,
    fun t v ht => ⟨(h.tm t v ht).1, VRep.step hvs v (h.tm t v ht).2⟩, fun r' n' e2 p2 hp => ?_, fun b' r' q hb' h1 => ?_, fun r' v hv => ?_, ?_, h.df, h.pr⟩
  · have h1 := h.inv.old b' hb' ho
    have hcb : col b' = none ∨ col b' = some (0, []) := by rw [h1.2]; exact ho
    have h2 := (hsame 0 1 (Ne.symm hr0)).blk b' (Nat.lt_of_lt_of_le hb' h.inv.size) (by
      rcases hcb with hc | hc
      · exact .inl hc
      · exact .inr ⟨by omega, [], by simpa using hc⟩)
    exact ⟨h2.1.trans h1.1, h1.2⟩
  · simp only [appUps, lookup_put] at hp
    split at hp
    · rename_i he
      subst he
      obtain ⟨rfl, rfl, rfl⟩ : 1 = n' ∧ e' = e2 ∧ p' = p2 := by simpa using hp
      exact hrt
    · rename_i he
      exact (h.rt r' n' e2 p2 hp).same (hsame r' n' fun e => he e.symm) fun _ _ h => h
  · obtain ⟨x, hx⟩ := h.cl b' r' q hb' h1
    simp only [appUps, lookup_put]
    split
    · exact ⟨_, rfl⟩
    · exact ⟨x, hx⟩
  · obtain ⟨x, hx⟩ := h.ln r' v hv
    simp only [appUps, lookup_put]
    split
    · exact ⟨_, rfl⟩
    · exact ⟨x, hx⟩
  · simp only [appUps, lookup_put, hr0, if_false, h.z]
end
end Go.Vm

/- The operations that make, write and grow what is owned. -/
set_option linter.unusedVariables false
set_option linter.unusedSimpArgs false
namespace Go.Vm
open Go Go.RowKit

section
variable {P : Program} {T : Tab} {c : Ctx P} {s : St} {a : Act} {w w' : World} {col : Col} {lk : Lk}

theorem RepL.moveS {w w' : World} {col col' : Col} {lk : Lk} {ps : List PV} {r r' : Nat} {pos pos' i i' cs} (hs : Same w w' col col' 0 0 []) (h : RepL w col lk r 0 pos i ps cs) : RepL w' col' lk r' 0 pos' i' ps cs :=
  RepL.move ps (RepL.same (fun _ _ h => h) ps hs (RepL.move (r' := 0) (pos' := []) (i' := 0) ps h))
theorem Rep.moveS {w w' : World} {col col' : Col} {lk lk' : Lk} {p : PV} {r r' : Nat} {pos pos' cs} (hlk : ∀ c v, lk c = some v → lk' c = some v) (hs : Same w w' col col' 0 0 []) (h : Rep w col lk r 0 pos p cs) : Rep w' col' lk' r' 0 pos' p cs :=
  Rep.move p (Rep.same hlk p hs (Rep.move (r' := 0) (pos' := []) p h))
theorem Rel.lk_out (h : Rel c s a w col lk) {id : Nat} (hid : lookup s.roots id = none) {y : Value} (r : Nat) (v : Value) (hv : lk r = some v) : lkP lk id y r = some v := by
  have : r ≠ id := by rintro rfl; obtain ⟨x, hx⟩ := h.ln r v hv; rw [hid] at hx; cases hx
  simp only [lkP, this, if_false, hv]
/-- A row that is made, or that grows out of another. -/
theorem Rel.row (h : Rel c s a w col lk) {kill : List Nat} {row : Option Nat} {id e k : Nat} {xs : List PV} {y : Value} {d : List Value} (hid : lookup s.roots id = none) (hid0 : id ≠ 0 ∧ id < PN) (hk : ∀ r ∈ kill, ∃ x, lookup s.roots r = some x)
    (hgr : w.grownBy w' row) (hrow : ∀ b, row = some b → ∃ r ∈ kill, ∃ q, col b = some (r, q)) (hown : w'.ownsRow 0 e k y xs.length d)
    (hb : ∀ b, y.ownBlock = some b → w.heap.size ≤ b ∨ ∃ r ∈ kill, ∃ q, col b = some (r, q)) (hxs : ∀ x ∈ xs, sz x = k) (hrep : RepL w col lk0 0 0 [] 0 xs d) :
    Rel c { s with roots := appUps (killU kill ++ [(id, some (1, e, .sl k xs))]) s.roots } a w' (colG kill y.ownBlock id col) (lkP lk id y) := by
  have hg : Grow w w' col kill row y.ownBlock := ⟨hgr, hrow, fun b hbb => ⟨(hown.lt b hbb).2, hb b hbb⟩⟩
  have h0 : 0 ∉ kill := fun hm => by obtain ⟨x, hx⟩ := hk 0 hm; exact h.ne0 hx rfl
  refine h.grow hg hid hid0 hk ⟨y, by simp [lkP], ?_, ?_⟩
  · simp only [Rep]
    refine ⟨y, d, rfl, hxs, RepL.moveS (hg.same h0) hrep, ⟨e, hown⟩, fun b hbb => by simp [colG, hbb]⟩
  · simp only [tyAt]
    intro _ b hbb
    rcases hown.2 with ⟨rfl, _⟩ | ⟨g, cap, cur, rfl, _, hgg, _⟩
    · simp [Value.ownBlock] at hbb
    · obtain rfl : g = b := by simpa [Value.ownBlock] using hbb
      exact ⟨cur, hgg⟩
theorem Rel.box (h : Rel c s a w col lk) {id t : Nat} {q : PV} {d : List Value} (hid : lookup s.roots id = none) (hid0 : id ≠ 0 ∧ id < PN) (hd : d ≠ []) (hrep : Rep w col lk 0 0 [] q d) :
    Rel c { s with roots := appUps [(id, some (1, 0, .ptr q))] s.roots } a (w.alloc (.cells d.toArray t)) (colG [] (some w.heap.size) id col) (lkP lk id (.pointer (some ⟨w.heap.size, 0, none⟩))) := by
  have hg : Grow w (w.alloc (.cells d.toArray t)) col [] none (some w.heap.size) := ⟨World.grownBy_alloc w _ none, fun b hb => by simp at hb, fun b hb => by
    obtain rfl : w.heap.size = b := by simpa using hb
    exact ⟨by simp, .inl (Nat.le_refl _)⟩⟩
  have := h.grow (e := 0) (p := .ptr q) (y := .pointer (some ⟨w.heap.size, 0, none⟩)) hg hid hid0 (fun r hr => by cases hr) ⟨.pointer (some ⟨w.heap.size, 0, none⟩), by simp [lkP], ?_, trivial⟩
  · simpa [killU] using this
  · simp only [Rep]
    exact ⟨w.heap.size, 0, d, rfl, hd, Rep.moveS (h.lk_out hid) (hg.same (by simp)) hrep, rfl, by simp [colG], t, by show (w.heap.push _)[w.heap.size]? = _; simp⟩
theorem free_ok {o : Oper} (h : free s o = true) : lookup s.roots (newId o) = none ∧ newId o ≠ 0 ∧ newId o < PN := by
  unfold free at h
  split at h
  · rename_i n h1 h2
    refine ⟨h1, by omega, ?_⟩
    rw [h2]
    exact Nat.le_of_ble_eq_true h
  · cases h
theorem free_frz {cs : List Nat} {id : Nat} (h : lookup s.roots id = none) : lookup (appUps (frz s.roots cs) s.roots) id = none := by
  rw [lookup_frz, h]; split <;> rfl
theorem zeroL_rep {g : Nat → Option PV} (hg : ∀ t p, g t = some p → ∀ r n pos, Rep w col lk r n pos p (flatP p)) : ∀ {ts : List Nat} {ps : List PV}, zeroL g ts = some ps → ∀ r n pos i, RepL w col lk r n pos i ps (flatPs ps)
  | [], ps, h, r, n, pos, i => by simp only [zeroL, Option.some.injEq] at h; subst h; simp [RepL, flatPs]
  | t :: ts, ps, h, r, n, pos, i => by
    simp only [zeroL] at h
    split at h
    · rename_i p ps' h1 h2
      simp only [Option.some.injEq] at h
      subst h
      simp only [RepL, flatPs]
      exact ⟨_, _, rfl, hg t p h1 _ _ _, zeroL_rep hg h2 _ _ _ _⟩
    · cases h
theorem zeroP_rep : ∀ {f t : Nat} {p : PV}, zeroP T f t = some p → ∀ r n pos, Rep w col lk r n pos p (flatP p)
  | 0, _, _, h, _, _, _ => by simp [zeroP] at h
  | f + 1, t, p, h, r, n, pos => by
    simp only [zeroP] at h
    split at h
    · simp only [Option.some.injEq] at h; subst h; simp [Rep, flatP, Value.oneCell']
    · simp only [Option.some.injEq] at h; subst h; simp [Rep, flatP, Value.oneCell']
    · simp only [Option.some.injEq] at h; subst h; simp [Rep, flatP, Value.oneCell']
    · simp only [Option.some.injEq] at h; subst h; simp [Rep, flatP]
    · simp only [Option.some.injEq] at h; subst h; simp [Rep, flatP, Value.oneCell']
    · split at h
      · rename_i ps hps
        simp only [Option.some.injEq] at h
        subst h
        simp only [Rep, flatP]
        exact zeroL_rep (fun t p hp r n pos => zeroP_rep hp r n pos) hps _ _ _ _
      · cases h
    · cases h
theorem flat_len (w : World) {f t : Nat} {p : PV} (h : zeroP T f t = some p) : (flatP p).length = sz p := Rep.len (w := w) (col := fun _ => none) (lk := lk0) p (zeroP_rep h 0 0 [])
/- ### The operations -/
def Does (P : Program) (c : Ctx P) (s : St) (a : Act) (w : World) (o : Oper) (e : Eff) : Prop :=
  ∃ nx w' col' lk' y, (execOp a.eval o).run P w = .ok nx w' ∧ (nx = .value y ∨ (nx = .skip ∧ y = undef)) ∧ Rel c { s with roots := appUps e.ups s.roots } a w' col' lk' ∧
    VRep w' col' lk' (appUps e.ups s.roots) e.v y
theorem VRep.word {v : Value} {y : Value} {rs : List (Nat × Root)} (h : VRep w col lk rs (.pv (.w v)) y) : y = v := by
  simp only [VRep, Rep] at h
  obtain ⟨cs, ⟨rfl, _⟩, rfl⟩ := h
  rfl
theorem VRep.of_word {v : Value} {rs : List (Nat × Root)} (h : v.oneCell' = true) : VRep w col lk rs (.pv (.w v)) v := by
  simp only [VRep, Rep]; exact ⟨[v], ⟨rfl, h⟩, rfl⟩
theorem linked_rep (h : Rel c s a w col lk) {v : V} {y : Value} {q : PV} {cs : List Nat} (hv : VRep w col lk s.roots v y) (hl : linked s.roots v = some (q, cs)) :
    ∃ d, Rep w (colF cs col) lk 0 0 [] q d ∧ y.cells.toList = d := by
  have main : ∀ v, pvOf s.roots v = some (q, cs) → VRep w col lk s.roots v y → ∃ d, Rep w (colF cs col) lk 0 0 [] q d ∧ y.cells.toList = d := fun v hp hv => by
    obtain ⟨d, h1, rfl⟩ := pvOf_rep h v hv hp fun _ h => h
    exact ⟨d, Rep.same (fun c v hc => by simp [lk0] at hc) q (Same.mk fun _ _ _ => ⟨rfl, rfl⟩) h1, cells_toVal h1⟩
  unfold linked at hl
  split at hl
  · rename_i r
    split at hl
    · rename_i n e k xs hr
      simp only [Option.some.injEq, Prod.mk.injEq] at hl
      obtain ⟨rfl, rfl⟩ := hl
      obtain ⟨h1, h2, _⟩ := hv.row_rt h hr
      have h3 := Rep.one _ h2 y (by simp)
      refine ⟨[y], by simp only [Rep]; exact ⟨y, h1, rfl, h3⟩, ?_⟩
      cases y <;> simp_all [Value.cells, Value.oneCell']
    · cases hl
  · rename_i r
    split at hl
    · rename_i n e p hr
      simp only [Option.some.injEq, Prod.mk.injEq] at hl
      obtain ⟨rfl, rfl⟩ := hl
      obtain ⟨b, h1, rfl, _⟩ := hv.bx_rt h hr
      exact ⟨[.pointer (some ⟨b, 0, none⟩)], by simp only [Rep]; exact ⟨_, h1, rfl, rfl⟩, by simp [Value.cells]⟩
    · cases hl
  · exact main _ hl hv
/-- A box. -/
theorem newBox_sound {o : Oper} {cs : List Nat} {q : PV} {d : List Value} {t : Nat} {out : Out} {e : Eff} (h : Rel c s a w col lk) (hrep : Rep w (colF cs col) lk 0 0 [] q d) (hn : newBox s o cs q = some out) (he : out.ok e)
    (hrun : (execOp a.eval o).run P w = .ok (.value (.pointer (some ⟨w.heap.size, 0, none⟩))) (w.alloc (.cells d.toArray t))) : Does P c s a w o e := by
  unfold newBox at hn
  split at hn
  · rename_i hb
    simp only [Bool.and_eq_true, Bool.not_eq_true', beqT, decide_eq_false_iff_not] at hb
    simp only [Option.some.injEq] at hn
    subst hn
    obtain ⟨_, rfl⟩ := he
    obtain ⟨hid, hid0⟩ := free_ok hb.1
    have hd : d ≠ [] := by rintro rfl; have := Rep.len _ hrep; simp at this; omega
    have := (h.freeze cs).box (t := t) (free_frz hid) hid0 hd hrep
    refine ⟨_, _, colG [] (some w.heap.size) (newId o) (colF cs col), lkP lk (newId o) (.pointer (some ⟨w.heap.size, 0, none⟩)), _, hrun, .inl rfl, ?_, ?_⟩
    · rw [lookup_appUps_append]; exact this
    · rw [lookup_appUps_append]
      simp only [VRep, onBx, appUps, lookup_put, if_true]
      exact ⟨w.heap.size, by simp [lkP], rfl⟩
  · cases hn
theorem newRow_sound {o : Oper} {cs : List Nat} {e k : Nat} {xs : List PV} {ob : Prop} {y : Value} {d : List Value} {out : Out} {ef : Eff} (h : Rel c s a w col lk) (hn : newRow s o ob cs e k xs = some out) (he : out.ok ef)
    (hmk : ob → ∃ w', (execOp a.eval o).run P w = .ok (.value y) w' ∧ w.grownBy w' none ∧ w'.ownsRow 0 e k y xs.length d ∧ (∀ b, y.ownBlock = some b → w.heap.size ≤ b)) (hxs : ∀ x ∈ xs, sz x = k) (hrep : RepL w (colF cs col) lk0 0 0 [] 0 xs d) : Does P c s a w o ef := by
  unfold newRow at hn
  split at hn
  · rename_i hb
    simp only [Option.some.injEq] at hn
    subst hn
    obtain ⟨hob, ys, rfl, rfl⟩ := he
    obtain ⟨hid, hid0⟩ := free_ok hb
    obtain ⟨w', hrun, hgr, hown, hblk⟩ := hmk hob
    have := (h.freeze cs).row (kill := []) (row := none) (free_frz hid) hid0 (fun r hr => by cases hr) hgr (fun b hb => by cases hb) hown (fun b hb => .inl (hblk b hb)) hxs hrep
    refine ⟨_, w', colG [] y.ownBlock (newId o) (colF cs col), lkP lk (newId o) y, y, hrun, .inl rfl, ?_, ?_⟩
    · rw [lookup_appUps_append]; simpa [killU] using this
    · rw [lookup_appUps_append]
      simp only [VRep, onRow, appUps, lookup_put, if_true]
      simp [lkP]
  · cases hn
end
end Go.Vm

/- Makes: alloc, box, makeSlice, buildSlice, build. -/
set_option linter.unusedVariables false
set_option linter.unusedSimpArgs false
namespace Go.Vm
open Go Go.RowKit

section
variable {P : Program} {T : Tab} {c : Ctx P} {s : St} {a : Act} {w w' : World} {col : Col} {lk : Lk}
theorem arr_of {α : Type} {x : Array α} {l : List α} (h : x.toList = l) : x = l.toArray := by subst h; simp
theorem alloc_sound {o : Oper} {t : Nat} {p : PV} {out : Out} {e : Eff} (hT : TabOk P T) (h : Rel c s a w col lk) (ho : o.op = .alloc t) (hz : zeroP T 9 t = some p) (hn : newBox s o [] p = some out) (he : out.ok e) : Does P c s a w o e := by
  obtain ⟨i, z, hi, hzz, hcells⟩ := (hT t).zero p hz
  refine newBox_sound (t := t) (d := flatP p) h (zeroP_rep hz _ _ _) hn he ?_
  simp [execOp, ho, Instr.alloc, zeroValue, typeInfo, hi, hzz, newVar, Go.newRow, arr_of hcells]
theorem box_sound {o : Oper} {t : Nat} {x : Operand} {v : V} {q : PV} {cs : List Nat} {out : Out} {e : Eff} (h : Rel c s a w col lk) (ho : o.op = .box t x) (hx : ev s x = some v) (hl : linked s.roots v = some (q, cs)) (hn : newBox s o cs q = some out) (he : out.ok e) :
    Does P c s a w o e := by
  obtain ⟨d, h1, h2⟩ := linked_rep h (ev_rep h hx) hl
  refine newBox_sound (t := t) (d := d) h h1 hn he ?_
  simp [execOp, ho, Instr.box, newVar, Go.newRow, arr_of h2]
theorem flatten_rep {l : Nat} {z : PV} {d : List Value} (hz : ∀ r n pos, Rep w col lk r n pos z d) : ∀ {r n pos i}, RepL w col lk r n pos i (List.replicate l z) (List.replicate l d).flatten := by
  induction l with
  | zero => intros; simp [RepL]
  | succ l ih =>
    intro r n pos i
    rw [List.replicate_succ, List.replicate_succ, List.flatten_cons]
    simp only [RepL]
    exact ⟨_, _, rfl, hz _ _ _, ih⟩
theorem made_take {z : Array Value} (l n : Nat) (h : l * z.size ≤ n) : (madeCells z n).toList.take (l * z.size) = (List.replicate l z.toList).flatten := by
  apply List.ext_getElem?
  intro j
  by_cases hz : z.size = 0
  · have : z.toList = [] := by simpa using hz
    simp [hz, this]
  by_cases hj : j < l * z.size
  · have hk : (List.replicate l z.toList).flatten[j]? = z.toList[j % z.size]? := by
      clear h
      induction l generalizing j with
      | zero => omega
      | succ l ih =>
        rw [List.replicate_succ, List.flatten_cons]
        by_cases hlt : j < z.size
        · rw [List.getElem?_append_left (by simpa using hlt), Nat.mod_eq_of_lt hlt]
        · rw [List.getElem?_append_right (by simpa using Nat.le_of_not_lt hlt), Array.length_toList, ih (j - z.size) (by rw [Nat.succ_mul] at hj; omega), ← Nat.mod_eq_sub_mod (Nat.le_of_not_lt hlt)]
    rw [hk, List.getElem?_take_of_lt hj]
    have hm : j % z.size < z.size := Nat.mod_lt _ (by omega)
    have hjn : j < n := by omega
    simp [madeCells, hjn, hm]
  · have h1 : ((madeCells z n).toList.take (l * z.size)).length ≤ j := by simp [size_madeCells]; omega
    have h2 : ((List.replicate l z.toList).flatten).length ≤ j := by simp; omega
    rw [List.getElem?_eq_none h1, List.getElem?_eq_none h2]
theorem make_sound {o : Oper} {t ee : Nat} {x y : Operand} {k1 k2 : IntKind} {l m : Int} {z : PV} {out : Out} {e : Eff} (hT : TabOk P T) (h : Rel c s a w col lk) (ho : o.op = .makeSlice t x y) (hx : ev s x = some (.pv (.w (.int k1 l)))) (hy : ev s y = some (.pv (.w (.int k2 m))))
    (ht : (T t).td = .slice ee) (hz : zeroP T 9 ee = some z) (hsz : sz z = (T ee).cells) (hot : (T ee).td.isOther = false)
    (hn : newRow s o (0 ≤ l ∧ l ≤ m ∧ ((T ee).bytes : Int) * m ≤ 281474976710656 ∧ m ≤ 9223372036854775807) [] ee (sz z) (List.replicate l.toNat z) = some out) (he : out.ok e) : Does P c s a w o e := by
  have htd := (hT t).td
  rw [ht] at htd
  obtain ⟨i, zz, hi, hzz, hcells⟩ := (hT ee).zero z hz
  obtain ⟨i', hi', hs', hb'⟩ := (hT ee).info hot
  rw [hi] at hi'
  obtain rfl : i = i' := by simpa using hi'
  have hfl := flat_len w hz
  have hzs : zz.cells.size = sz z := by rw [← Array.length_toList, hcells, hfl]
  have hX := VRep.word (ev_rep h hx)
  have hY := VRep.word (ev_rep h hy)
  refine newRow_sound (y := .slice (some ⟨w.heap.size, 0, none⟩) l.toNat m.toNat) (d := (List.replicate l.toNat (flatP z)).flatten) h hn he ?_ ?_ ?_
  · rintro ⟨h0, hlm, hbytes, h63⟩
    refine ⟨w.alloc (.cells (madeCells zz.cells (m.toNat * i.size)) ee), ?_, World.grownBy_alloc w _ none, ?_, ?_⟩
    · have := run_make (P := P) w t ee i zz htd hi hzz k1 k2 l m h0 hlm (by rw [hb']; exact hbytes) h63
      simp [execOp, ho, hX, hY, this]
    · refine ⟨by simp [hfl], .inr ⟨w.heap.size, m.toNat, _, by simp, Nat.zero_le _, by show (w.heap.push _)[w.heap.size]? = _; simp; rfl, by simp; omega, by simp only [maxLen]; omega, by rw [size_madeCells, hs', hsz], ?_⟩⟩
      have := made_take (z := zz.cells) l.toNat (m.toNat * i.size) (by rw [hzs, hs', hsz]; exact Nat.mul_le_mul_right _ (by omega))
      rw [hzs, hcells] at this
      simpa using this
    · intro b hb
      obtain rfl : w.heap.size = b := by simpa [Value.ownBlock] using hb
      exact Nat.le_refl _
  · intro x hx
    rw [List.eq_of_mem_replicate hx]
  · exact flatten_rep fun r n pos => zeroP_rep hz r n pos
theorem foldl_set (off : Nat) : ∀ (l : List Value) (n : Nat) (cur : Array Value) (pre mid post : List Value), cur.toList = pre ++ mid ++ post → pre.length = off + n → mid.length = l.length →
    ((l.zipIdx n).foldl (fun cs x => cs.setIfInBounds (off + x.2) x.1) cur).toList = pre ++ l ++ post
  | [], n, cur, pre, mid, post, h, hp, hm => by
    obtain rfl : mid = [] := List.eq_nil_of_length_eq_zero (by simpa using hm)
    simpa using h
  | v :: l, n, cur, pre, [], post, h, hp, hm => by simp at hm
  | v :: l, n, cur, pre, u :: mid, post, h, hp, hm => by
    rw [List.zipIdx_cons, List.foldl_cons]
    have := foldl_set off l (n + 1) (cur.setIfInBounds (off + n) v) (pre ++ [v]) mid post (by
      rw [Array.toList_setIfInBounds, h]
      simp [List.append_assoc, ← hp]) (by simp [hp]; omega) (by simpa using hm)
    rw [this]
    simp
/-- Parts that are laid into the cells one after another. -/
theorem fill_order {place : Nat → Option (Nat × Nat)} : ∀ (vs : List Value) (i : Nat) (cur : Array Value) (pre mid post : List Value), cur.toList = pre ++ mid ++ post → mid.length = (vs.flatMap fun v => v.cells.toList).length →
    (∀ j v, vs[j]? = some v → place (i + j) = some (pre.length + ((vs.take j).flatMap fun v => v.cells.toList).length, v.cells.size)) →
    ∃ cells, Instr.fill place cur ((List.range' i vs.length).zip vs) = some cells ∧ cells.toList = pre ++ (vs.flatMap fun v => v.cells.toList) ++ post
  | [], i, cur, pre, mid, post, h, hm, hpl => by
    obtain rfl : mid = [] := List.eq_nil_of_length_eq_zero (by simpa using hm)
    exact ⟨cur, rfl, by simpa using h⟩
  | v :: vs, i, cur, pre, mid, post, h, hm, hpl => by
    have h0 := hpl 0 v rfl
    simp only [Nat.add_zero, List.take_zero, List.flatMap_nil, List.length_nil] at h0
    simp only [List.flatMap_cons, List.length_append, Array.length_toList] at hm
    have hmid : mid = mid.take v.cells.size ++ mid.drop v.cells.size := (List.take_append_drop _ _).symm
    have hlt : (mid.take v.cells.size).length = v.cells.size := by simp; omega
    have hset := foldl_set pre.length v.cells.toList 0 cur pre (mid.take v.cells.size) (mid.drop v.cells.size ++ post) (by rw [h]; simp only [List.append_assoc]; rw [← List.append_assoc (mid.take _) (mid.drop _), List.take_append_drop]) (by simp) (by simpa using hlt)
    have hsz : cur.size = pre.length + mid.length + post.length := by rw [← Array.length_toList, h]; simp; omega
    obtain ⟨cells, h1, h2⟩ := fill_order (place := place) vs (i + 1) (v.cells.zipIdx.foldl (fun cs x => cs.setIfInBounds (pre.length + x.2) x.1) cur) (pre ++ v.cells.toList) (mid.drop v.cells.size) post (by
      rw [← Array.foldl_toList, Array.toList_zipIdx, hset]; simp) (by simp only [List.length_drop]; omega) (fun j u hj => by
      have := hpl (j + 1) u (by simpa using hj)
      rw [show i + 1 + j = i + (j + 1) by omega, this]
      simp; omega)
    refine ⟨cells, ?_, by rw [h2]; simp⟩
    simp only [List.length_cons, List.range'_succ, List.zip_cons_cons, Instr.fill, h0]
    rw [if_neg (by simp; omega)]
    exact h1
theorem inOrder_zip : ∀ {l : List (Nat × Operand)} {i : Nat} (f : Operand → Value), inOrder i l = true → (l.map fun x => (x.1, f x.2)) = (List.range' i (l.map fun x => f x.2).length).zip (l.map fun x => f x.2)
  | [], _, _, _ => by simp
  | (j, x) :: l, i, f, h => by
    simp only [inOrder, Bool.and_eq_true, beqT, decide_eq_true_eq] at h
    obtain ⟨rfl, h⟩ := h
    simp only [List.map_cons, List.length_cons, List.range'_succ, List.zip_cons_cons, inOrder_zip f h]
theorem allSz_ok {k : Nat} : ∀ {ps : List PV}, allSz k ps = true → ∀ x ∈ ps, sz x = k
  | [], _, x, hx => by cases hx
  | p :: ps, h, x, hx => by
    simp only [allSz, Bool.and_eq_true, beqT, decide_eq_true_eq] at h
    rcases List.mem_cons.1 hx with rfl | hx
    · exact h.1
    · exact allSz_ok h.2 x hx
theorem evs_rep (hr : Rel c s a w col lk) : ∀ {xs : List Operand} {vs : List V}, evs s xs = some vs → VRepL w col lk s.roots vs (xs.map a.eval)
  | [], _, h => by simp only [evs, Option.some.injEq] at h; subst h; simp [VRepL]
  | x :: xs, vs, h => by
    simp only [evs] at h
    split at h
    · rename_i v vs' h1 h2
      simp only [Option.some.injEq] at h
      subst h
      simp only [VRepL, List.map_cons]
      exact ⟨_, _, rfl, ev_rep hr h1, evs_rep hr h2⟩
    · cases h
/-- The cells of values, and what they say. -/
theorem pvsOf_flat (h : Rel c s a w col lk) {cs : List Nat} : ∀ (vs : List V) {i : Nat} {ys : List Value} {ps : List PV} {ds : List Nat}, VRepL w col lk s.roots vs ys → pvsOf s.roots vs = some (ps, ds) → (∀ d ∈ ds, d ∈ cs) →
    RepL w (colF cs col) lk0 0 0 [] i ps (ys.flatMap fun v => v.cells.toList) ∧ ∀ (j : Nat) (v : Value) (p : PV), ys[j]? = some v → ps[j]? = some p → v.cells.size = sz p
  | [], i, ys, ps, ds, hv, hp, hs => by
    simp only [pvsOf, Option.some.injEq, Prod.mk.injEq] at hp
    obtain ⟨rfl, rfl⟩ := hp
    simp only [VRepL] at hv
    subst hv
    exact ⟨by simp [RepL], by simp⟩
  | v :: vs, i, ys, ps, ds, hv, hp, hs => by
    simp only [pvsOf] at hp
    split at hp
    · rename_i p ds1 hp1
      split at hp
      · rename_i ps' ds2 hp2
        simp only [Option.some.injEq, Prod.mk.injEq] at hp
        obtain ⟨rfl, rfl⟩ := hp
        simp only [VRepL] at hv
        obtain ⟨y, zs, rfl, h1, h2⟩ := hv
        obtain ⟨cc, h3, rfl⟩ := pvOf_rep h v h1 hp1 fun d hd => hs d (by simp [hd])
        obtain ⟨h4, h5⟩ := pvsOf_flat h vs (i := i + 1) h2 hp2 fun d hd => hs d (by simp [hd])
        have hc := cells_toVal h3
        refine ⟨?_, fun j u q hj hq => ?_⟩
        · simp only [RepL, List.flatMap_cons]
          exact ⟨cc, _, by rw [hc], Rep.move p h3, h4⟩
        · cases j with
          | zero =>
            obtain rfl : _ = u := by simpa using hj
            obtain rfl : p = q := by simpa using hq
            rw [← Array.length_toList, hc, Rep.len _ h3]
          | succ j => exact h5 j u q (by simpa using hj) (by simpa using hq)
      · cases hp
    · cases hp
theorem pvsOf_len {rs : List (Nat × Root)} : ∀ {vs : List V} {ps : List PV} {ds : List Nat}, pvsOf rs vs = some (ps, ds) → ps.length = vs.length
  | [], ps, ds, hp => by simp only [pvsOf, Option.some.injEq, Prod.mk.injEq] at hp; obtain ⟨rfl, rfl⟩ := hp; rfl
  | v :: vs, ps, ds, hp => by
    simp only [pvsOf] at hp
    split at hp
    · split at hp
      · rename_i h2
        simp only [Option.some.injEq, Prod.mk.injEq] at hp
        obtain ⟨rfl, rfl⟩ := hp
        simp [pvsOf_len h2]
      · cases hp
    · cases hp
theorem evs_len {xs : List Operand} {vs : List V} (h : evs s xs = some vs) : vs.length = xs.length := by
  induction xs generalizing vs with
  | nil => simp only [evs, Option.some.injEq] at h; subst h; rfl
  | cons x xs ih =>
    simp only [evs] at h
    split at h
    · rename_i h1 h2
      simp only [Option.some.injEq] at h
      subst h
      simp [ih h2]
    · cases h
theorem flatMap_len {k : Nat} : ∀ {ys : List Value}, (∀ v ∈ ys, v.cells.size = k) → (ys.flatMap fun v => v.cells.toList).length = ys.length * k
  | [], _ => by simp
  | v :: ys, h => by
    rw [List.flatMap_cons, List.length_append, flatMap_len fun v hv => h v (by simp [hv]), Array.length_toList, h v (by simp), List.length_cons, Nat.succ_mul]; omega
theorem buildSlice_sound {o : Oper} {t len ee : Nat} {parts : Array (Nat × Operand)} {vs : List V} {ps : List PV} {cs : List Nat} {z : PV} {out : Out} {e : Eff} (hT : TabOk P T) (h : Rel c s a w col lk) (ho : o.op = .buildSlice t len parts) (hord : inOrder 0 parts.toList = true)
    (hlen : parts.toList.length = len) (hvs : evs s (parts.toList.map (·.2)) = some vs) (ht : (T t).td = .slice ee) (hps : pvsOf s.roots vs = some (ps, cs)) (hall : allSz (T ee).cells ps = true) (hot : (T ee).td.isOther = false)
    (hroom : len * (T ee).cells ≤ 16777216) (hk : (T ee).cells ≠ 0) (hz : zeroP T 9 ee = some z) (hn : newRow s o True cs ee (T ee).cells ps = some out) (he : out.ok e) : Does P c s a w o e := by
  have htd := (hT t).td
  rw [ht] at htd
  obtain ⟨i, zz, hi, hzz, hcells⟩ := (hT ee).zero z hz
  obtain ⟨i', hi', hs', _⟩ := (hT ee).info hot
  rw [hi] at hi'
  obtain rfl : i = i' := by simpa using hi'
  have hv := evs_rep h hvs
  obtain ⟨hrep, hsz⟩ := pvsOf_flat h (cs := cs) vs (i := 0) hv hps fun _ h => h
  have hlen' : ps.length = len := by rw [pvsOf_len hps, evs_len hvs]; simpa using hlen
  have hlen2 : ((parts.toList.map (·.2)).map a.eval).length = len := by simpa using hlen
  have hval : ∀ v ∈ (parts.toList.map (·.2)).map a.eval, v.cells.size = (T ee).cells := by
    intro v hv
    obtain ⟨j, hj, rfl⟩ := List.getElem_of_mem hv
    have hjp : j < ps.length := by rw [hlen', ← hlen2]; exact hj
    rw [hsz j _ ps[j] (List.getElem?_eq_getElem hj) (List.getElem?_eq_getElem hjp)]
    exact allSz_ok hall _ (List.getElem_mem hjp)
  have hmid : ((madeCells zz.cells (len * i.size)).toList).length = (((parts.toList.map (·.2)).map a.eval).flatMap fun v => v.cells.toList).length := by
    rw [flatMap_len hval]
    simp [size_madeCells, hs', hlen]
  obtain ⟨cells, hfill, hcs⟩ := fill_order (place := fun i' => some (i' * i.size, i.size)) ((parts.toList.map (·.2)).map a.eval) 0 (madeCells zz.cells (len * i.size)) [] _ [] (by simp) hmid (fun j v hj => by
    have hv2 := hval v (List.mem_of_getElem? hj)
    have hjl := (List.getElem?_eq_some_iff.1 hj).1
    rw [flatMap_len fun u hu => hval u (List.mem_of_mem_take hu), List.length_take, Nat.min_eq_left (Nat.le_of_lt hjl), hv2, hs']
    simp)
  refine newRow_sound (y := .slice (some ⟨w.heap.size, 0, none⟩) len len) (d := cells.toList) h hn he (fun _ => ?_) (allSz_ok hall) (by rw [hcs]; simpa using hrep)
  refine ⟨w.alloc (.cells cells ee), ?_, World.grownBy_alloc w _ none, ?_, fun b hb => ?_⟩
  · have hzip := inOrder_zip a.eval hord
    have hf2 : Instr.fill (fun i' => some (i' * i.size, i.size)) (madeCells zz.cells (len * i.size)) (parts.toList.map fun x => (x.1, a.eval x.2)) = some cells := by
      rw [hzip, ← hfill]
      simp [List.map_map, Function.comp_def]
    have hr2 : ¬ 16777216 < len * i.size := by rw [hs']; omega
    simp only [execOp, ho]
    by_cases h0 : len * i.size = 0
    · have hm : madeCells zz.cells (len * i.size) = #[] := by rw [h0]; simp [madeCells, Array.range_zero']
      rw [hm] at hf2
      have e0 : (Array.map (fun _ => (default : Value)) (Array.range 0)) = #[] := by simp [Array.range_zero']
      simp [Instr.buildSlice, run_underlying htd, sizeOf, typeInfo, hi, hr2, h0, e0, hf2, Go.newRow]
    · simp only [madeCells] at hf2
      simp [Instr.buildSlice, run_underlying htd, sizeOf, typeInfo, hi, hr2, h0, zeroValue, hzz, hf2, Go.newRow]
  · refine ⟨by rw [hcs]; simp only [List.nil_append, List.append_nil]; rw [flatMap_len hval, hlen2, hlen'], .inr ⟨w.heap.size, len, cells, by rw [hlen'], Nat.zero_le _, by show (w.heap.push _)[w.heap.size]? = _; simp, by omega, ?_, ?_, ?_⟩⟩
    · simp only [maxLen]
      have : len ≤ len * (T ee).cells := Nat.le_mul_of_pos_right _ (Nat.pos_of_ne_zero hk)
      omega
    · rw [← Array.length_toList, hcs]; simp only [List.nil_append, List.append_nil]; rw [flatMap_len hval, hlen2]
    · rw [List.take_of_length_le]
      rw [hcs]; simp only [List.nil_append, List.append_nil]; rw [flatMap_len hval, hlen2, hlen']; exact Nat.le_refl _
  · obtain rfl : w.heap.size = b := by simpa [Value.ownBlock] using hb
    exact Nat.le_refl _
def plc (T : Tab) : Nat → List Nat → List (Nat × Nat)
  | _, [] => []
  | off, t :: ts => (off, (T t).cells) :: plc T (off + (T t).cells) ts
theorem sizesT_hd {rs : List (Nat × Root)} {t : Nat} {ts : List Nat} {v : V} {vs : List V} (hs : sizesT T rs (t :: ts) (v :: vs) = true) : (T t).td.isOther = false ∧ sizesT T rs ts vs = true ∧
    ∀ (P : Program) (c : Ctx P) (s : St) (a : Act) (w : World) (col : Col) (lk : Lk) y, Rel c s a w col lk → s.roots = rs → VRep w col lk rs v y → y.cells.size = (T t).cells := by
  unfold sizesT at hs
  split at hs
  · rename_i heq; cases heq
  · rename_i t' ts' p vs' h1 h2
    obtain ⟨rfl, rfl⟩ : t = t' ∧ ts = ts' := by simpa using h1
    obtain ⟨rfl, rfl⟩ : v = .pv p ∧ vs = vs' := by simpa using h2
    simp only [Bool.and_eq_true, Bool.not_eq_true', beqT, decide_eq_true_eq] at hs
    refine ⟨hs.1.2, hs.2, fun _ _ _ _ _ _ _ y _ _ hv => ?_⟩
    simp only [VRep] at hv
    obtain ⟨cs, h3, rfl⟩ := hv
    rw [← Array.length_toList, cells_toVal h3, Rep.len _ h3, hs.1.1]
  · rename_i t' ts' r vs' h1 h2
    obtain ⟨rfl, rfl⟩ : t = t' ∧ ts = ts' := by simpa using h1
    obtain ⟨rfl, rfl⟩ : v = .row r ∧ vs = vs' := by simpa using h2
    split at hs
    · rename_i n e k xs hl
      simp only [Bool.and_eq_true, Bool.not_eq_true', beqT, decide_eq_true_eq] at hs
      refine ⟨hs.1.2, hs.2, fun _ _ _ _ _ _ _ y hr hrs hv => ?_⟩
      subst hrs
      obtain ⟨_, h2, _⟩ := hv.row_rt hr hl
      have h3 := Rep.one _ h2 y (by simp)
      rw [← hs.1.1]
      cases y <;> simp_all [Value.cells, Value.oneCell']
    · cases hs
  · cases hs
theorem places_run {rs : List (Nat × Root)} (hT : TabOk P T) : ∀ {ts : List Nat} {fs : List Field} {vs : List V} {off : Nat}, fieldsOk T off ts fs → sizesT T rs ts vs = true →
    (fs.mapM fun f => do pure (f.offset, ← sizeOf f.type) : Sem (List (Nat × Nat))).run P w = .ok (plc T off ts) w
  | [], [], _, _, _, _ => rfl
  | t :: ts, f :: fs, v :: vs, off, hf, hs => by
    simp only [fieldsOk] at hf
    obtain ⟨h1, h2, h3⟩ := hf
    have hh := sizesT_hd hs
    obtain ⟨i, hi, hsz, _⟩ := (hT t).info hh.1
    rw [List.mapM_cons]
    simp only [Sem.run_bind, Sem.run_pure, sizeOf, typeInfo, h1, hi, run_program, Result.andThen_ok, plc, h2, hsz]
    have := places_run hT h3 hh.2.1
    simp only [sizeOf, typeInfo] at this
    rw [this]
    rfl
  | [], _ :: _, _, _, hf, _ => by simp [fieldsOk] at hf
  | _ :: _, [], _, _, hf, _ => by simp [fieldsOk] at hf
  | t :: ts, f :: fs, [], _, _, hs => by simp [sizesT] at hs
theorem sizesT_get (h : Rel c s a w col lk) : ∀ {ts : List Nat} {vs : List V} {ys : List Value} {off : Nat}, sizesT T s.roots ts vs = true → VRepL w col lk s.roots vs ys →
    (ys.flatMap fun v => v.cells.toList).length = sumT T ts ∧ ∀ j v, ys[j]? = some v → (plc T off ts)[j]? = some (off + ((ys.take j).flatMap fun v => v.cells.toList).length, v.cells.size)
  | [], [], ys, off, _, hv => by simp only [VRepL] at hv; subst hv; simp [sumT]
  | t :: ts, v :: vs, ys, off, hs, hv => by
    simp only [VRepL] at hv
    obtain ⟨y, zs, rfl, h1, h2⟩ := hv
    obtain ⟨_, h3, h4⟩ := sizesT_hd hs
    have h5 := h4 P c s a w col lk y h rfl h1
    obtain ⟨h6, h7⟩ := sizesT_get h (off := off + (T t).cells) h3 h2
    refine ⟨by rw [List.flatMap_cons, List.length_append, h6, Array.length_toList, h5]; rfl, fun j u hj => ?_⟩
    cases j with
    | zero =>
      obtain rfl : y = u := by simpa using hj
      simp [plc, h5]
    | succ j =>
      have := h7 j u (by simpa using hj)
      simp only [plc, List.getElem?_cons_succ, this, List.take_succ_cons, List.flatMap_cons, List.length_append, Array.length_toList, h5, Nat.add_assoc]
  | [], _ :: _, _, _, hs, _ => by simp [sizesT] at hs
  | _ :: _, [], _, _, hs, _ => by simp [sizesT] at hs
theorem VRepL.cells {rs : List (Nat × Root)} : ∀ {vs : List V} {ys : List Value}, VRepL w col lk rs vs ys → VCells w col lk rs vs (ys.flatMap fun v => v.cells.toList)
  | [], _, h => by simp only [VRepL] at h; subst h; simp [VCells]
  | v :: vs, _, h => by
    simp only [VRepL] at h
    obtain ⟨y, zs, rfl, h1, h2⟩ := h
    simp only [VCells, List.flatMap_cons]
    exact ⟨y, _, rfl, h1, VRepL.cells h2⟩
theorem allPv_pvs {rs : List (Nat × Root)} : ∀ {vs : List V} {ps : List PV}, allPv vs = some ps → pvsOf rs vs = some (ps, [])
  | [], ps, h => by simp only [allPv, Option.some.injEq] at h; subst h; rfl
  | v :: vs, ps, h => by
    unfold allPv at h
    split at h
    · rename_i heq; cases heq
    · rename_i p vs' heq
      obtain ⟨rfl, rfl⟩ : v = .pv p ∧ vs = vs' := by simpa using heq
      split at h
      · rename_i ps' h2
        simp only [Option.some.injEq] at h
        subst h
        simp [pvsOf, pvOf, allPv_pvs h2]
      · cases h
    · cases h
theorem colF_nil (col : Col) : colF [] col = col := by
  funext b; unfold colF; cases col b <;> simp
/-- What an operation that leaves the world alone gives. -/
def Gives (P : Program) (a : Act) (w : World) (o : Oper) (R : Value → Prop) : Prop := ∃ y, (execOp a.eval o).run P w = .ok (.value y) w ∧ R y
theorem Gives.does {o : Oper} {v : V} (h : Rel c s a w col lk) (hg : Gives P a w o (VRep w col lk s.roots v)) : Does P c s a w o ⟨v, []⟩ := by
  obtain ⟨y, h1, h2⟩ := hg
  exact ⟨_, w, col, lk, y, h1, .inl rfl, h, h2⟩
theorem build_sound {o : Oper} {t : Nat} {ts : List Nat} {parts : Array (Nat × Operand)} {vs : List V} {z : PV} (hT : TabOk P T) (h : Rel c s a w col lk) (ho : o.op = .build t parts) (hord : inOrder 0 parts.toList = true)
    (hvs : evs s (parts.toList.map (·.2)) = some vs) (ht : (T t).td = .struct ts) (hsz : sizesT T s.roots ts vs = true) (hz : zeroP T 9 t = some z) (hsum : sz z = sumT T ts) :
    Gives P a w o fun y => VRep w col lk s.roots (.agg vs) y ∧ ∀ ps, allPv vs = some ps → VRep w col lk s.roots (.pv (.agg ps)) y := by
  have htd := (hT t).td
  rw [ht] at htd
  obtain ⟨F, hF, hfs⟩ := htd
  obtain ⟨i, zz, hi, hzz, hcells⟩ := (hT t).zero z hz
  have hv := evs_rep h hvs
  obtain ⟨hlen, hget⟩ := sizesT_get h (off := 0) hsz hv
  have hpl := places_run (w := w) hT hfs hsz
  have hzip := inOrder_zip a.eval hord
  have hzl : zz.cells.toList.length = (((parts.toList.map (·.2)).map a.eval).flatMap fun v => v.cells.toList).length := by rw [hcells, flat_len w hz, hsum, hlen]
  obtain ⟨cells, hfill, hcs⟩ := fill_order (place := fun i' => (plc T 0 ts).toArray[i']?) ((parts.toList.map (·.2)).map a.eval) 0 zz.cells [] zz.cells.toList [] (by simp) hzl (fun j v hj => by
    have := hget j v hj
    simpa using this)
  have hf2 : Instr.fill (fun i' => (plc T 0 ts).toArray[i']?) zz.cells (parts.toList.map fun x => (x.1, a.eval x.2)) = some cells := by
    rw [hzip, ← hfill]
    simp [List.map_map, Function.comp_def]
  have hpl2 : (F.mapM fun f => do pure (f.offset, ← sizeOf f.type) : Sem (Array (Nat × Nat))).run P w = .ok (plc T 0 ts).toArray w := by
    have : F = F.toList.toArray := by simp
    rw [this, List.mapM_toArray]
    simp only [Sem.run_map]
    rw [hpl]
    rfl
  refine ⟨.agg cells, ?_, ?_, fun ps hps => ?_⟩
  · simp only [execOp, ho, Instr.build, Sem.run_bind, Sem.run_pure, zeroValue, typeInfo, hi, hzz, run_underlying hF, Result.andThen_ok]
    simp only [run_program, Result.andThen_ok, hi, hzz, Sem.run_pure, hpl2, Array.toList_map, hf2]
  · simp only [VRep]
    refine ⟨cells.toList, ?_, by simp⟩
    rw [hcs]
    simpa using hv.cells
  · simp only [VRep, Rep]
    refine ⟨cells.toList, ?_, by simp [toVal]⟩
    rw [hcs]
    have := pvsOf_cells h (cs := []) vs (i := 0) hv.cells (allPv_pvs hps) (fun _ h => h)
    rw [colF_nil] at this
    simpa using this
end
end Go.Vm

/- Append, stores, loads, addresses. -/
set_option linter.unusedVariables false
set_option linter.unusedSimpArgs false
namespace Go.Vm
open Go Go.RowKit

section
variable {P : Program} {T : Tab} {c : Ctx P} {s : St} {a : Act} {w w' : World} {col : Col} {lk : Lk}
theorem run_append_own2 (base : Nat) (t ty e : TypeId) (i : TypeInfo) (z : Value) (size bytes : Nat) (ht : P.underlying t = some (.slice e)) (hi : P.info? e = some i) (hz : i.zero = some z)
    (hsize : i.size = size) (hby : i.bytes = bytes) (hzs : z.cells.size = size) (hsz : 0 < size)
    (v : Value) (n : Nat) (xs : List Value) (hown : w.ownsRow base e size v n xs)
    (a : Addr) (m c : Nat) (news : List Value) (hl : news.length = m * size) (hnews : ∀ j u, news[j]? = some u → w.cell? (a.add j) = some u) (h1 : ∀ u ∈ news, u.oneCell' = true)
    (h63 : n + m ≤ maxLen) (hbytes : (n + m) * bytes ≤ 140737488355328) (hbase : base ≤ w.heap.size) :
    ∃ v' w', (Builtin.append_ #[t, t] ty #[v, .slice (some a) m c]).run P w = .ok v' w' ∧ w'.ownsRow base e size v' (n + m) (xs ++ news) ∧ w.grownBy w' v.ownBlock ∧
      ∀ b, v'.ownBlock = some b → v.ownBlock = some b ∨ w.heap.size ≤ b := by
  obtain ⟨v', w', hr, h2, h3, h4⟩ := run_append_own (P := P) w base t ty e i z size bytes ht hi hz hsize hby hzs hsz v n xs hown a m c news hl hnews h1 h63 hbytes hbase
  refine ⟨v', w', hr, h2, h3, ?_⟩
  subst hsize
  subst hby
  have hsmall : n + m ≤ 9223372036854775807 := by simp only [maxLen] at h63; omega
  rcases hown.2 with ⟨rfl, rfl⟩ | ⟨g, cap, cur, rfl, hbg, hg, hnc, hcm, hcs, htake⟩
  · by_cases hm : m = 0
    · obtain rfl := h4.2 ⟨rfl, hm⟩
      intro b hb
      simp [Value.ownBlock] at hb
    · have := run_append_nil (P := P) w t ty e i z ht hi hz a m c news hl hnews (by omega) (by omega) (by simp only [Nat.zero_add] at hbytes; omega)
      rw [hr] at this
      obtain ⟨rfl, rfl⟩ : v' = _ ∧ w' = _ := by simpa using this
      intro b hb
      obtain rfl : w.heap.size = b := by simpa [Value.ownBlock] using hb
      exact .inr (Nat.le_refl _)
  · by_cases hroom : n + m ≤ cap
    · have hfit : n * i.size + news.length ≤ cur.size := by rw [hl, hcs, ← Nat.add_mul]; exact Nat.mul_le_mul_right _ hroom
      have := run_append_room (P := P) w t ty e i ht hi g n cap cur hg a m c news hl hnews h1 hroom hfit
      rw [hr] at this
      obtain ⟨rfl, rfl⟩ : v' = _ ∧ w' = _ := by simpa using this
      intro b hb
      exact .inl hb
    · have holds : ∀ j u, xs[j]? = some u → w.cell? ((⟨g, 0, none⟩ : Addr).add j) = some u := hown.cells (g := g) rfl
      have := run_append_grow (P := P) w t ty e i z ht hi hz ⟨g, 0, none⟩ n cap xs hown.1 holds a m c news hl hnews (by omega) (by omega) (growslice_fits (by omega) hbytes)
      rw [hr] at this
      obtain ⟨rfl, rfl⟩ : v' = _ ∧ w' = _ := by simpa using this
      intro b hb
      obtain rfl : w.heap.size = b := by simpa [Value.ownBlock] using hb
      exact .inr (Nat.le_refl _)
/-- The same with nothing to append. -/
theorem run_append_none (base : Nat) (t ty e : TypeId) (i : TypeInfo) (size : Nat) (ht : P.underlying t = some (.slice e)) (hi : P.info? e = some i) (v : Value) (n : Nat) (xs : List Value) (hown : w.ownsRow base e size v n xs) (cap : Nat) :
    (Builtin.append_ #[t, t] ty #[v, .slice none 0 cap]).run P w = .ok v w := by
  rcases hown.2 with ⟨rfl, rfl⟩ | ⟨g, cp, cur, rfl, hbg, hg, hnc, hcm, hcs, htake⟩
  · simp [Builtin.append_, run_underlying ht, sizeOf, typeInfo, hi, Builtin.lenOf, Builtin.firstCells]
  · simp [Builtin.append_, run_underlying ht, sizeOf, typeInfo, hi, Builtin.lenOf, Builtin.firstCells, hnc, storeCells]
theorem ownsRow_base {base e size n : Nat} {v : Value} {xs : List Value} (h : w.ownsRow base e size v n xs) : w.ownsRow 0 e size v n xs := by
  refine ⟨h.1, ?_⟩
  rcases h.2 with h | ⟨g, cap, cur, rfl, _, h⟩
  · exact .inl h
  · exact .inr ⟨g, cap, cur, rfl, Nat.zero_le _, h⟩
theorem elems_rep (h : Rel c s a w col lk) {v : V} {y : Value} {k : Nat} {ys : List PV} (hv : VRep w col lk s.roots v y) (he : elemsOf s.roots v = some (k, ys)) :
    ∃ A cap d, y = .slice A ys.length cap ∧ RepL w col lk0 0 0 [] 0 ys d ∧ (∀ x ∈ ys, sz x = k) ∧ (d ≠ [] → ∃ b o, A = some ⟨b, o, none⟩ ∧ CellsAt w b o d) := by
  unfold elemsOf at he
  split at he
  · rename_i k' xs
    simp only [Option.some.injEq, Prod.mk.injEq] at he
    obtain ⟨rfl, rfl⟩ := he
    simp only [VRep, Rep] at hv
    obtain ⟨cs, ⟨v, d, rfl, h1, h2, A, cap, rfl, _, h3⟩, rfl⟩ := hv
    exact ⟨A, cap, d, rfl, h2, h1, fun hd => by obtain ⟨b, o, h4, _, h5⟩ := h3 hd; exact ⟨b, o, h4, h5⟩⟩
  · simp only [Option.some.injEq, Prod.mk.injEq] at he
    obtain ⟨rfl, rfl⟩ := he
    simp only [VRep, Rep] at hv
    obtain ⟨cs, ⟨rfl, _⟩, rfl⟩ := hv
    exact ⟨_, _, [], rfl, by simp [RepL], by simp, fun h => absurd rfl h⟩
  · rename_i r
    split at he
    · rename_i n e k' xs hl
      split at he
      · rename_i hn
        simp only [Option.some.injEq, Prod.mk.injEq] at he
        obtain ⟨rfl, rfl⟩ := he
        have hn := Nat.le_of_ble_eq_true hn
        obtain ⟨_, h2, _⟩ := hv.row_rt h hl
        simp only [Rep] at h2
        obtain ⟨v, d, hy, h1, h3, h4⟩ := h2
        obtain rfl : y = v := by simpa using hy
        have : n - 1 = 0 := by omega
        rw [this] at h3
        obtain ⟨A, cap, rfl, _, h5⟩ := h4.bare
        exact ⟨A, cap, d, rfl, RepL.move xs h3, h1, fun hd => by obtain ⟨b, o, h6, _, h7⟩ := h5 hd; exact ⟨b, o, h6, h7⟩⟩
      · cases he
    · cases he
  · cases he
theorem RepL.app {w : World} {col : Col} {lk : Lk} {r : Nat} : ∀ {ps qs : List PV} {i : Nat} {cs ds : List Value}, RepL w col lk r 0 [] i ps cs → RepL w col lk 0 0 [] 0 qs ds → RepL w col lk r 0 [] i (ps ++ qs) (cs ++ ds)
  | [], qs, i, cs, ds, h1, h2 => by simp only [RepL] at h1; subst h1; exact RepL.move qs h2
  | p :: ps, qs, i, _, ds, h1, h2 => by
    simp only [RepL] at h1
    obtain ⟨c, d, rfl, h3, h4⟩ := h1
    simp only [List.cons_append, RepL]
    exact ⟨c, d ++ ds, by simp, h3, RepL.app h4 h2⟩
theorem append_sound {o : Oper} {t : Nat} {X Y : Operand} {x y : V} {out : Out} {e : Eff} (hT : TabOk P T) (h : Rel c s a w col lk) (ho : o.op = .call { callee := .builtin .append, args := #[X, Y], argTypes := #[t, t] })
    (hx : ev s X = some x) (hy : ev s Y = some y) (hn : appendS T s o t x y = some out) (he : out.ok e) : Does P c s a w o e := by
  unfold appendS at hn
  split at hn
  case h_2 => cases hn
  rename_i ee k ys ht hys
  have htd := (hT t).td
  rw [ht] at htd
  obtain ⟨A, cap, d, hY, hrep, hsz, hcells⟩ := elems_rep h (ev_rep h hy) hys
  have hdl : d.length = ys.length * k := by rw [RepL.len _ hrep, szs_of hsz]
  have hX := ev_rep h hx
  -- what the operation does, in either case
  have main : ∀ (base : Nat) (n : Nat) (xd : List Value) (_ : w.ownsRow base ee k (a.eval X) n xd) (_ : base ≤ w.heap.size) (_ : (T ee).cells = k) (_ : k ≠ 0) (_ : (T ee).td.isOther = false) (z : PV) (_ : zeroP T 9 ee = some z) (_ : sz z = k)
      (_ : n + ys.length ≤ maxLen) (_ : (n + ys.length) * (T ee).bytes ≤ 140737488355328),
      ∃ v' w', (execOp a.eval o).run P w = .ok (.value v') w' ∧ w'.ownsRow base ee k v' (n + ys.length) (xd ++ d) ∧ w.grownBy w' (a.eval X).ownBlock ∧ ∀ b, v'.ownBlock = some b → (a.eval X).ownBlock = some b ∨ w.heap.size ≤ b := by
    intro base n xd hown hbase hk hk0 hot z hz hszz h63 hbytes
    obtain ⟨i, zz, hi, hzz, hzc⟩ := (hT ee).zero z hz
    obtain ⟨i', hi', hs', hb'⟩ := (hT ee).info hot
    rw [hi] at hi'
    obtain rfl : i = i' := by simpa using hi'
    cases hA : A with
    | none =>
      subst hA
      have hd : d = [] := by
        by_cases hd : d = []
        · exact hd
        · obtain ⟨b, o, h1, _⟩ := hcells hd; cases h1
      subst hd
      have hy0 : ys.length = 0 := by
        have : 0 = ys.length * k := by simpa using hdl
        rcases Nat.mul_eq_zero.1 this.symm with h | h
        · exact h
        · exact absurd h hk0
      have hr := run_append_none (P := P) base t o.type ee i k htd hi (a.eval X) n xd hown cap
      refine ⟨a.eval X, w, ?_, by simpa [hy0] using hown, ⟨rfl, rfl, rfl, Nat.le_refl _, fun _ _ _ => rfl⟩, fun b hb => .inl hb⟩
      rw [hy0] at hY
      simp [execOp, ho, resolve, invoke, builtin, hY, hr]
    | some ad =>
      subst hA
      have hnews : ∀ j u, d[j]? = some u → w.cell? (ad.add j) = some u := by
        intro j u hj
        obtain ⟨b, o, h1, h2⟩ := hcells (by rintro rfl; simp at hj)
        obtain rfl : ad = ⟨b, o, none⟩ := by simpa using h1
        rw [Addr.add_mid]
        exact h2 j u hj
      have hzs : zz.cells.size = k := by rw [← Array.length_toList, hzc, flat_len w hz, hszz]
      obtain ⟨v', w', hr, h1, h2, h3⟩ := run_append_own2 (P := P) base t o.type ee i zz k (T ee).bytes htd hi hzz (by rw [hs', hk]) hb' hzs (by omega) (a.eval X) n xd hown ad ys.length cap d hdl hnews (RepL.one _ hrep) h63 hbytes hbase
      refine ⟨v', w', ?_, h1, h2, h3⟩
      simp [execOp, ho, resolve, invoke, builtin, hY, hr]
  split at hn
  case h_2 => cases hn
  rename_i z hz
  split at hn
  · rename_i hb
    simp only [Bool.and_eq_true, Bool.not_eq_true', beqT, decide_eq_true_eq, decide_eq_false_iff_not] at hb
    obtain ⟨⟨⟨hk, hk0⟩, hot⟩, hszz⟩ := hb
    have hX' : a.eval X = .slice none 0 0 := by
      simp only [VRep, Rep] at hX
      obtain ⟨cs, rfl, h1⟩ := hX
      exact h1
    have hblk : (a.eval X).ownBlock = none := by rw [hX']; rfl
    have hob : (ys.length ≤ maxLen ∧ ys.length * (T ee).bytes ≤ 140737488355328) := by
      unfold newRow at hn
      split at hn
      · simp only [Option.some.injEq] at hn; subst hn; exact he.1
      · cases hn
    obtain ⟨v', w', h1, h2, h3, h4⟩ := main w.heap.size 0 [] (by rw [hX']; exact World.ownsRow_nil w _ _ _) (Nat.le_refl _) hk hk0 hot z hz hszz (by simpa using hob.1) (by simpa using hob.2)
    refine newRow_sound (y := v') (d := d) h hn he (fun _ => ⟨w', h1, by rw [hblk] at h3; exact h3, by simpa using ownsRow_base h2, fun b hb => ?_⟩) hsz (by rw [colF_nil]; exact hrep)
    rcases h4 b hb with h5 | h5
    · rw [hblk] at h5; cases h5
    · exact h5
  · rename_i r hb
    simp only [Bool.and_eq_true, Bool.not_eq_true', beqT, decide_eq_true_eq, decide_eq_false_iff_not] at hb
    obtain ⟨⟨⟨hk, hk0⟩, hot⟩, hszz⟩ := hb
    split at hn
    · rename_i e' k' xs hl
      split at hn
      · rename_i hb
        simp only [Bool.and_eq_true, beqT, decide_eq_true_eq] at hb
        obtain ⟨⟨rfl, rfl⟩, hfree⟩ := hb
        simp only [Option.some.injEq] at hn
        subst hn
        obtain ⟨⟨h63, hbytes⟩, zs, rfl, rfl⟩ := he
        obtain ⟨hid, hid0⟩ := free_ok hfree
        obtain ⟨_, h2, h3⟩ := hX.row_rt h hl
        have h3 := h3 (by omega)
        simp only [Rep] at h2
        obtain ⟨v, xd, hv, hxsz, hxrep, ⟨e2, hown⟩, hcol⟩ := h2
        obtain rfl : a.eval X = v := by simpa using hv
        have hown : w.ownsRow 0 ee k (a.eval X) xs.length xd := by
          refine ⟨hown.1, ?_⟩
          rcases hown.2 with ⟨e1, e2⟩ | ⟨g, cap, cur, hv, h0, hg, hrest⟩
          · exact .inl ⟨e1, e2⟩
          · obtain ⟨cur', hg'⟩ := h3 g (by rw [hv]; rfl)
            rw [hg] at hg'
            obtain ⟨rfl, rfl⟩ : cur = cur' ∧ e2 = ee := by simpa using hg'
            exact .inr ⟨g, cap, cur, hv, h0, hg, hrest⟩
        obtain ⟨v', w', h4, h5, h6, h7⟩ := main 0 xs.length xd hown (Nat.zero_le _) hk hk0 hot z hz hszz h63 hbytes
        have hrep2 : RepL w col lk0 0 0 [] 0 (xs ++ ys) (xd ++ d) := RepL.app (RepL.move xs hxrep) hrep
        have := h.row (kill := [r]) (row := (a.eval X).ownBlock) (id := newId o) (e := ee) (k := k) (xs := xs ++ ys) (y := v') (d := xd ++ d) hid hid0 (fun r' hr' => by
            obtain rfl : r' = r := by simpa using hr'
            exact ⟨_, hl⟩) h6 (fun b hb => ⟨r, by simp, [], hcol b hb⟩) (by simpa using h5) (fun b hb => by
            rcases h7 b hb with h8 | h8
            · exact .inr ⟨r, by simp, [], hcol b h8⟩
            · exact .inl h8) (fun x hx => by
            rcases List.mem_append.1 hx with hx | hx
            · exact hxsz x hx
            · exact hsz x hx) hrep2
        refine ⟨_, w', colG [r] v'.ownBlock (newId o) col, lkP lk (newId o) v', v', h4, .inl rfl, this, ?_⟩
        simp only [VRep, onRow, appUps, lookup_put, if_true]
        simp [lkP]
      · cases hn
    · cases hn
  · cases hn
end
end Go.Vm

/- Loads and stores. -/
set_option linter.unusedVariables false
set_option linter.unusedSimpArgs false
namespace Go.Vm
open Go Go.RowKit

section
variable {P : Program} {T : Tab} {c : Ctx P} {s : St} {a : Act} {w w' : World} {col : Col} {lk : Lk}
theorem fits_sz {t : Nat} {p : PV} (h : fits T t p = true) : sz p = (T t).cells ∧ (T t).td.isOther = false ∧ sz p ≠ 0 := by
  unfold fits at h
  split at h
  · rename_i ps
    simp only [Bool.and_eq_true, Bool.not_eq_true', beqT, decide_eq_true_eq, decide_eq_false_iff_not] at h
    refine ⟨by simp [sz, h.1.2], ?_, by simpa [sz] using h.2⟩
    cases hq : (T t).td <;> simp_all [TD.isAgg, TD.isOther]
  · rename_i hna
    simp only [Bool.and_eq_true, Bool.not_eq_true', beqT, decide_eq_true_eq] at h
    have : sz p = 1 := by cases p <;> simp_all [sz]
    exact ⟨by rw [this, h.2], h.1.2, by omega⟩
theorem load_cells {t b f : Nat} {q : PV} {d : List Value} {lk' : Lk} {r n : Nat} {pos : List Nat} (hT : TabOk P T) (hrep : Rep w col lk' r n pos q d) (hcs : CellsAt w b f d) (hf : fits T t q = true) : (loadVar t ⟨b, f, none⟩).run P w = .ok (toVal q d) w := by
  have htd := (hT t).td
  have hti := (hT t).info
  have hlen := Rep.len _ hrep
  unfold fits at hf
  split at hf
  · rename_i ps
    simp only [Bool.and_eq_true, Bool.not_eq_true', beqT, decide_eq_true_eq, decide_eq_false_iff_not] at hf
    obtain ⟨⟨ha, hcl⟩, hz⟩ := hf
    obtain ⟨i, hi1, hi2, _⟩ := hti (by cases hq : (T t).td <;> simp_all [TD.isAgg, TD.isOther])
    have : ∃ dd, P.underlying t = some dd ∧ dd.isRow = true := by
      cases hq : (T t).td <;> simp_all [TD.isAgg, tdOk]
      obtain ⟨F, hF, _⟩ := htd
      exact hF ▸ ⟨_, rfl, rfl⟩
    obtain ⟨dd, hu, hrow⟩ := this
    have := run_loadVar_mid (P := P) w b f t d dd hcs hu hrow (by simp [hi1, hi2, hcl, hlen, sz])
    simpa [toVal] using this
  · rename_i hna
    simp only [Bool.and_eq_true, Bool.not_eq_true'] at hf
    obtain ⟨⟨ha, hot⟩, _⟩ := hf
    have hagg : (isAgg t).run P w = .ok false w := by
      cases hq : (T t).td <;> simp_all [TD.isAgg, TD.isOther, tdOk] <;> (try (simp [isAgg, run_underlying htd]; done))
      obtain ⟨dd, hu, h1, h2⟩ := htd
      cases dd <;> simp_all [isAgg, run_underlying hu]
    have hs1 : sz q = 1 := by cases q <;> simp_all [sz]
    obtain ⟨u, rfl⟩ : ∃ u, d = [u] := by
      match d, hlen.trans hs1 with
      | [u], _ => exact ⟨u, rfl⟩
    have hcell := hcs 0 u rfl
    simp only [Nat.add_zero] at hcell
    have : toVal q [u] = u := by cases q <;> simp_all [toVal]
    rw [this]
    simp [loadVar, hagg, hcell]
mutual
theorem getO_rep {fit : PV → Bool} {r n : Nat} : ∀ (p : PV) {off : Nat} {q : PV} {pos : List Nat} {cs : List Value}, getO fit p off = some q → Rep w col lk r n pos p cs →
    ∃ x y z pos', cs = x ++ y ++ z ∧ x.length = off ∧ Rep w col lk r n pos' q y ∧ fit q = true
  | .agg ps, off, q, pos, cs, h, hr => by
    simp only [getO] at h
    split at h
    · rename_i hb
      simp only [Bool.and_eq_true, beqT, decide_eq_true_eq] at hb
      simp only [Option.some.injEq] at h
      subst h
      exact ⟨[], cs, [], pos, by simp, by simp [hb.1], hr, hb.2⟩
    · simp only [Rep] at hr
      exact getOs_rep ps h hr
  | .w v, off, q, pos, cs, h, hr => by
    simp only [getO] at h
    split at h
    · rename_i hb
      simp only [Bool.and_eq_true, beqT, decide_eq_true_eq] at hb
      simp only [Option.some.injEq] at h
      subst h
      exact ⟨[], cs, [], pos, by simp, by simp [hb.1], hr, hb.2⟩
    · cases h
  | .nil, off, q, pos, cs, h, hr => by
    simp only [getO] at h
    split at h
    · rename_i hb
      simp only [Bool.and_eq_true, beqT, decide_eq_true_eq] at hb
      simp only [Option.some.injEq] at h
      subst h
      exact ⟨[], cs, [], pos, by simp, by simp [hb.1], hr, hb.2⟩
    · cases h
  | .sl k xs, off, q, pos, cs, h, hr => by
    simp only [getO] at h
    split at h
    · rename_i hb
      simp only [Bool.and_eq_true, beqT, decide_eq_true_eq] at hb
      simp only [Option.some.injEq] at h
      subst h
      exact ⟨[], cs, [], pos, by simp, by simp [hb.1], hr, hb.2⟩
    · cases h
  | .ptr p, off, q, pos, cs, h, hr => by
    simp only [getO] at h
    split at h
    · rename_i hb
      simp only [Bool.and_eq_true, beqT, decide_eq_true_eq] at hb
      simp only [Option.some.injEq] at h
      subst h
      exact ⟨[], cs, [], pos, by simp, by simp [hb.1], hr, hb.2⟩
    · cases h
  | .fn f caps, off, q, pos, cs, h, hr => by
    simp only [getO] at h
    split at h
    · rename_i hb
      simp only [Bool.and_eq_true, beqT, decide_eq_true_eq] at hb
      simp only [Option.some.injEq] at h
      subst h
      exact ⟨[], cs, [], pos, by simp, by simp [hb.1], hr, hb.2⟩
    · cases h
  | .lnk c, off, q, pos, cs, h, hr => by
    simp only [getO] at h
    split at h
    · rename_i hb
      simp only [Bool.and_eq_true, beqT, decide_eq_true_eq] at hb
      simp only [Option.some.injEq] at h
      subst h
      exact ⟨[], cs, [], pos, by simp, by simp [hb.1], hr, hb.2⟩
    · cases h
theorem getOs_rep {fit : PV → Bool} {r n : Nat} : ∀ (ps : List PV) {off i : Nat} {q : PV} {pos : List Nat} {cs : List Value}, getOs fit ps off = some q → RepL w col lk r n pos i ps cs →
    ∃ x y z pos', cs = x ++ y ++ z ∧ x.length = off ∧ Rep w col lk r n pos' q y ∧ fit q = true
  | [], off, i, q, pos, cs, h, hr => by simp [getOs] at h
  | p :: ps, off, i, q, pos, cs, h, hr => by
    simp only [RepL] at hr
    obtain ⟨c1, d1, rfl, h1, h2⟩ := hr
    simp only [getOs] at h
    split at h
    · obtain ⟨x, y, z, pos', rfl, h3, h4, h5⟩ := getO_rep p h h1
      exact ⟨x, y, z ++ d1, pos', by simp, h3, h4, h5⟩
    · rename_i hlt
      have hlt : ¬ off < sz p := by
        simp only [Nat.blt] at hlt
        intro h; have := Nat.ble_eq_true_of_le h; rw [this] at hlt; cases hlt
      obtain ⟨x, y, z, pos', rfl, h3, h4, h5⟩ := getOs_rep ps h h2
      exact ⟨c1 ++ x, y, z, pos', by simp, by rw [List.length_append, h3, Rep.len _ h1]; omega, h4, h5⟩
end
theorem Rel.sl_cells (h : Rel c s a w col lk) {r n e k : Nat} {xs : List PV} {b m cap : Nat} (hl : lookup s.roots r = some (some (n, e, .sl k xs))) (hn : n ≤ 1) (hlk : lk r = some (.slice (some ⟨b, 0, none⟩) m cap)) :
    ∃ d, RepL w col lk0 r 0 [] 0 xs d ∧ CellsAt w b 0 d ∧ (∀ x ∈ xs, sz x = k) := by
  obtain ⟨v, h1, h2, _⟩ := h.rt _ _ _ _ hl
  rw [hlk] at h1
  obtain rfl : _ = v := by simpa using h1
  simp only [Rep] at h2
  obtain ⟨u, d, hu, hsz, hrep, hsl⟩ := h2
  obtain rfl : _ = u := by simpa using hu
  obtain ⟨A, cp, hv, _, hd⟩ := hsl.bare
  have : n - 1 = 0 := by omega
  rw [this] at hrep
  refine ⟨d, hrep, ?_, hsz⟩
  intro j u hj
  obtain ⟨b', o, hA, _, hcs⟩ := hd (by rintro rfl; simp at hj)
  subst hA
  obtain ⟨⟨rfl, rfl⟩, _⟩ : (b = b' ∧ 0 = o) ∧ _ := by simpa using hv
  exact hcs j u hj
theorem Rel.bx_cells (h : Rel c s a w col lk) {r n e : Nat} {p : PV} {b : Nat} (hl : lookup s.roots r = some (some (n, e, .ptr p))) (hn : n ≤ 1) (hlk : lk r = some (.pointer (some ⟨b, 0, none⟩))) :
    ∃ d, Rep w col lk r 0 [0] p d ∧ CellsAt w b 0 d ∧ d ≠ [] ∧ (n = 1 → col b = some (r, []) ∧ ∃ t, w.heap[b]? = some (.cells d.toArray t (0, 0))) := by
  obtain ⟨v, h1, h2, _⟩ := h.rt _ _ _ _ hl
  rw [hlk] at h1
  obtain rfl : _ = v := by simpa using h1
  simp only [Rep] at h2
  obtain ⟨b', f, d, hu, hd, hrep, hpt⟩ := h2
  obtain ⟨rfl, rfl⟩ : b = b' ∧ 0 = f := by simpa using hu
  have : n - 1 = 0 := by omega
  rw [this] at hrep
  refine ⟨d, hrep, (PtRep.bare hpt).2, hd, ?_⟩
  rintro rfl
  exact ⟨hpt.2.1, hpt.2.2⟩
theorem pv_of_rep {r : Nat} {pos : List Nat} {q : PV} {d : List Value} {rs : List (Nat × Root)} (hnl : noLinks q = true) (h : Rep w col lk r 0 pos q d) : VRep w col lk rs (.pv q) (toVal q d) := by
  simp only [VRep]
  exact ⟨d, Rep.unlk q (noLinks_iff hnl) (Rep.move q h), rfl⟩
theorem load_sound {t : Nat} {o : Oper} {X : Operand} {x : V} {out : Out} {e : Eff} (hT : TabOk P T) (h : Rel c s a w col lk) (ho : o.op = .load t X) (hx : ev s X = some x) (hl : loadS T s t x = some out) (he : out.ok e) : Does P c s a w o e := by
  have hX := ev_rep h hx
  have fin : ∀ b f v y, a.eval X = .pointer (some ⟨b, f, none⟩) → (loadVar t ⟨b, f, none⟩).run P w = .ok y w → VRep w col lk s.roots v y → Does P c s a w o ⟨v, []⟩ := fun b f v y h1 h2 h3 =>
    Gives.does h ⟨y, by simp [execOp, ho, h1, Instr.loadAt, Instr.sureAddr, h2], h3⟩
  unfold loadS at hl
  split at hl
  · rename_i p
    split at hl
    · rename_i hf
      simp only [valE, Option.some.injEq] at hl
      subst hl
      obtain ⟨_, rfl⟩ := he
      simp only [VRep, Rep] at hX
      obtain ⟨cs, ⟨b, f, d, rfl, hd, hrep, hpt⟩, hy⟩ := hX
      refine fin b f _ _ hy (load_cells hT hrep hpt.2 hf) ?_
      simp only [VRep]
      exact ⟨d, Rep.move p hrep, rfl⟩
    · cases hl
  · rename_i r i off
    split at hl
    · rename_i n e' k xs hlr
      split at hl
      · rename_i hn
        have hn := Nat.le_of_ble_eq_true hn
        simp only [Option.some.injEq] at hl
        subst hl
        obtain ⟨_, p, hp, hg⟩ := he
        simp only [pvV] at hg
        split at hg
        · rename_i q hq
          simp only [Option.some.injEq] at hg
          subst hg
          simp only [VRep, onRow, hlr] at hX
          obtain ⟨b, m, cap, hlk, hy⟩ := hX
          obtain ⟨d, hrep, hcs, hsz⟩ := h.sl_cells hlr hn hlk
          obtain ⟨u, cc, z, rfl, hul, hrc⟩ := RepL.get xs i p hrep hp
          obtain ⟨x1, y1, z1, pos', rfl, hx1, hrq, hfit⟩ := getO_rep p hq hrc
          rw [szs_take hsz (Nat.le_of_lt (List.getElem?_eq_some_iff.1 hp).1)] at hul
          have hmid : CellsAt w b (i * k + off) y1 := by
            have := (CellsAt.mid (x := u ++ x1) (y := y1) (z := z1 ++ z) (by simpa using hcs))
            simpa [hul, hx1] using this
          refine fin b (i * k + off) _ _ hy (load_cells hT hrq hmid hfit) ?_
          simp only [VRep]
          exact ⟨y1, Rep.move q hrq, rfl⟩
        · cases hg
      · cases hl
    · cases hl
  · rename_i r off
    split at hl
    · rename_i n e' p hlr
      split at hl
      · rename_i q hn hq
        have hn := Nat.le_of_ble_eq_true hn
        obtain ⟨b, hlk, hy, _⟩ := hX.bx_rt h hlr
        obtain ⟨d, hrep, hcs, _, _⟩ := h.bx_cells hlr hn hlk
        obtain ⟨x1, y1, z1, pos', rfl, hx1, hrq, hfit⟩ := getO_rep p hq hrep
        have hmid : CellsAt w b off y1 := by
          have := hcs.mid
          simpa [hx1] using this
        have hld := load_cells hT hrq hmid hfit
        cases hu : unlink s.roots q with
        | none => rw [hu] at hl; cases hl
        | some v =>
          rw [hu] at hl
          simp only [optV, Option.some.injEq] at hl
          subst hl
          obtain ⟨_, rfl⟩ := he
          refine fin b off _ _ hy hld ?_
          unfold unlink at hu
          split at hu
          · rename_i r2
            simp only [Rep] at hrq
            obtain ⟨y2, h2, rfl, h3⟩ := hrq
            split at hu
            · rename_i h4
              simp only [Option.some.injEq] at hu
              subst hu
              simp only [VRep, onRow, h4, toVal]
              exact h2
            · rename_i n2 e2 p2 h4
              simp only [Option.some.injEq] at hu
              subst hu
              obtain ⟨v5, h5, h6, _⟩ := h.rt _ _ _ _ h4
              rw [h2] at h5
              obtain rfl : y2 = v5 := by simpa using h5
              simp only [Rep] at h6
              obtain ⟨b6, f6, d6, h7, _, _, h8⟩ := h6
              obtain rfl : y2 = _ := by simpa using h7
              simp only [VRep, onBx, h4, toVal]
              obtain rfl := h8.1
              exact ⟨b6, h2, rfl⟩
            · cases hu
          · split at hu
            · rename_i hnl
              simp only [Option.some.injEq] at hu
              subst hu
              exact pv_of_rep hnl hrq
            · cases hu
      · cases hl
    · cases hl
  · cases hl
end
end Go.Vm

/- Stores. -/
set_option linter.unusedVariables false
set_option linter.unusedSimpArgs false
namespace Go.Vm
open Go Go.RowKit

section
variable {P : Program} {T : Tab} {c : Ctx P} {s : St} {a : Act} {w w' : World} {col : Col} {lk : Lk}
mutual
theorem setO_rep {fit : PV → Bool} {q : PV} {cq : List Value} {r n : Nat} (hq : ∀ pos, Rep w col lk r n pos q cq) (hfit : ∀ p, fit p = true → sz p = sz q) : ∀ (p : PV) {off : Nat} {p' : PV} {pos : List Nat} {cs : List Value}, setO fit q p off = some p' → Rep w col lk r n pos p cs →
    ∃ x y z, cs = x ++ y ++ z ∧ x.length = off ∧ y.length = cq.length ∧ Rep w col lk r n pos p' (x ++ cq ++ z)
  | .agg ps, off, p', pos, cs, h, hr => by
    simp only [setO] at h
    split at h
    · rename_i hb
      simp only [Bool.and_eq_true, beqT, decide_eq_true_eq] at hb
      simp only [Option.some.injEq] at h
      subst h
      exact ⟨[], cs, [], by simp, by simp [hb.1], by rw [Rep.len _ hr, hfit _ hb.2, ← Rep.len _ (hq pos)], by simpa using hq pos⟩
    · split at h
      · rename_i qs hqs
        simp only [Option.some.injEq] at h
        subst h
        simp only [Rep] at hr ⊢
        exact setOs_rep hq hfit ps hqs hr
      · cases h
  | .w v, off, p', pos, cs, h, hr => by
    simp only [setO] at h
    split at h
    · rename_i hb
      simp only [Bool.and_eq_true, beqT, decide_eq_true_eq] at hb
      simp only [Option.some.injEq] at h
      subst h
      exact ⟨[], cs, [], by simp, by simp [hb.1], by rw [Rep.len _ hr, hfit _ hb.2, ← Rep.len _ (hq pos)], by simpa using hq pos⟩
    · cases h
  | .nil, off, p', pos, cs, h, hr => by
    simp only [setO] at h
    split at h
    · rename_i hb
      simp only [Bool.and_eq_true, beqT, decide_eq_true_eq] at hb
      simp only [Option.some.injEq] at h
      subst h
      exact ⟨[], cs, [], by simp, by simp [hb.1], by rw [Rep.len _ hr, hfit _ hb.2, ← Rep.len _ (hq pos)], by simpa using hq pos⟩
    · cases h
  | .sl k xs, off, p', pos, cs, h, hr => by
    simp only [setO] at h
    split at h
    · rename_i hb
      simp only [Bool.and_eq_true, beqT, decide_eq_true_eq] at hb
      simp only [Option.some.injEq] at h
      subst h
      exact ⟨[], cs, [], by simp, by simp [hb.1], by rw [Rep.len _ hr, hfit _ hb.2, ← Rep.len _ (hq pos)], by simpa using hq pos⟩
    · cases h
  | .ptr p, off, p', pos, cs, h, hr => by
    simp only [setO] at h
    split at h
    · rename_i hb
      simp only [Bool.and_eq_true, beqT, decide_eq_true_eq] at hb
      simp only [Option.some.injEq] at h
      subst h
      exact ⟨[], cs, [], by simp, by simp [hb.1], by rw [Rep.len _ hr, hfit _ hb.2, ← Rep.len _ (hq pos)], by simpa using hq pos⟩
    · cases h
  | .fn f caps, off, p', pos, cs, h, hr => by
    simp only [setO] at h
    split at h
    · rename_i hb
      simp only [Bool.and_eq_true, beqT, decide_eq_true_eq] at hb
      simp only [Option.some.injEq] at h
      subst h
      exact ⟨[], cs, [], by simp, by simp [hb.1], by rw [Rep.len _ hr, hfit _ hb.2, ← Rep.len _ (hq pos)], by simpa using hq pos⟩
    · cases h
  | .lnk r2, off, p', pos, cs, h, hr => by
    simp only [setO] at h
    split at h
    · rename_i hb
      simp only [Bool.and_eq_true, beqT, decide_eq_true_eq] at hb
      simp only [Option.some.injEq] at h
      subst h
      exact ⟨[], cs, [], by simp, by simp [hb.1], by rw [Rep.len _ hr, hfit _ hb.2, ← Rep.len _ (hq pos)], by simpa using hq pos⟩
    · cases h
theorem setOs_rep {fit : PV → Bool} {q : PV} {cq : List Value} {r n : Nat} (hq : ∀ pos, Rep w col lk r n pos q cq) (hfit : ∀ p, fit p = true → sz p = sz q) : ∀ (ps : List PV) {off i : Nat} {ps' : List PV} {pos : List Nat} {cs : List Value}, setOs fit q ps off = some ps' → RepL w col lk r n pos i ps cs →
    ∃ x y z, cs = x ++ y ++ z ∧ x.length = off ∧ y.length = cq.length ∧ RepL w col lk r n pos i ps' (x ++ cq ++ z)
  | [], off, i, ps', pos, cs, h, hr => by simp [setOs] at h
  | p :: ps, off, i, ps', pos, cs, h, hr => by
    simp only [RepL] at hr
    obtain ⟨c1, d1, rfl, h1, h2⟩ := hr
    simp only [setOs] at h
    split at h
    · split at h
      · rename_i p' hp'
        simp only [Option.some.injEq] at h
        subst h
        obtain ⟨x, y, z, rfl, h3, h4, h5⟩ := setO_rep hq hfit p hp' h1
        refine ⟨x, y, z ++ d1, by simp, h3, h4, ?_⟩
        simp only [RepL]
        exact ⟨x ++ cq ++ z, d1, by simp, h5, h2⟩
      · cases h
    · rename_i hlt
      have hlt : ¬ off < sz p := by
        simp only [Nat.blt] at hlt
        intro h; have := Nat.ble_eq_true_of_le h; rw [this] at hlt; cases hlt
      split at h
      · rename_i qs hqs
        simp only [Option.some.injEq] at h
        subst h
        obtain ⟨x, y, z, rfl, h3, h4, h5⟩ := setOs_rep hq hfit ps hqs h2
        refine ⟨c1 ++ x, y, z, by simp, by rw [List.length_append, h3, Rep.len _ h1]; omega, h4, ?_⟩
        simp only [RepL]
        exact ⟨c1, x ++ cq ++ z, by simp, h1, h5⟩
      · cases h
end
theorem RepL.set {q : PV} {cq : List Value} {r n : Nat} {pos : List Nat} (hq : ∀ pos, Rep w col lk r n pos q cq) : ∀ (ps : List PV) {i0 i : Nat} {cs : List Value}, i < ps.length → (∀ p ∈ ps, sz p = sz q) → RepL w col lk r n pos i0 ps cs →
    ∃ x y z, cs = x ++ y ++ z ∧ x.length = i * sz q ∧ y.length = cq.length ∧ RepL w col lk r n pos i0 (ps.set i q) (x ++ cq ++ z)
  | [], _, _, _, h, _, _ => by simp at h
  | p :: ps, i0, 0, cs, h, hs, hr => by
    simp only [RepL] at hr
    obtain ⟨c1, d1, rfl, h1, h2⟩ := hr
    refine ⟨[], c1, d1, by simp, by simp, by rw [Rep.len _ h1, hs p (by simp), ← Rep.len _ (hq pos)], ?_⟩
    simp only [List.set_cons_zero, RepL]
    exact ⟨cq, d1, by simp, hq _, h2⟩
  | p :: ps, i0, i + 1, cs, h, hs, hr => by
    simp only [RepL] at hr
    obtain ⟨c1, d1, rfl, h1, h2⟩ := hr
    obtain ⟨x, y, z, rfl, h3, h4, h5⟩ := RepL.set hq ps (i := i) (by simpa using h) (fun p hp => hs p (by simp [hp])) h2
    refine ⟨c1 ++ x, y, z, by simp, by rw [List.length_append, h3, Rep.len _ h1, hs p (by simp), Nat.succ_mul]; omega, h4, ?_⟩
    simp only [List.set_cons_succ, RepL]
    exact ⟨c1, x ++ cq ++ z, by simp, h1, h5⟩
/-- The world after a part of a block is written. -/
theorem run_store {t b : Nat} {v : Value} {x y z : List Value} {off : Nat} {et : Nat} {rest : List Value} {i : TypeInfo} (hi : P.info? t = some i) (hs : i.size = v.cells.size) (hg : w.heap[b]? = some (.cells (x ++ y ++ z ++ rest).toArray et (0, 0))) (hx : x.length = off) (hy : y.length = v.cells.size)
    (h1 : ∀ u ∈ v.cells.toList, u.oneCell' = true) : (storeVar t ⟨b, off, none⟩ v).run P w = .ok () (w.setRow b (x ++ v.cells.toList ++ z ++ rest).toArray) := by
  have := run_storeCells_at P b off et v.cells.toList 0 (x ++ y ++ z ++ rest).toArray w hg (by simp; omega) h1
  simp only [Nat.add_zero] at this
  have e1 : (x ++ y ++ z ++ rest).toArray.toList.take off ++ v.cells.toList ++ (x ++ y ++ z ++ rest).toArray.toList.drop (off + v.cells.toList.length) = x ++ v.cells.toList ++ z ++ rest := by
    subst hx
    simp only [List.append_assoc, List.take_left]
    congr 2
    rw [← List.append_assoc x y, show x.length + v.cells.toList.length = (x ++ y).length by simp [hy]]
    exact List.drop_left
  rw [e1] at this
  simp [storeVar, sizeOf, typeInfo, hi, hs, this]
theorem grown_set (b : Nat) (cur : Array Value) : w.grownBy (w.setRow b cur) (some b) := ⟨rfl, rfl, rfl, by simp, fun k _ hk => setRow_other w b k _ fun e => hk (by rw [e])⟩
theorem storeEl_sound {t i r e k : Nat} {xs ys : List PV} {o : Oper} {X Y : Operand} {v : V} {q : PV} {cs : List Nat} (hT : TabOk P T) (h : Rel c s a w col lk) (ho : o.op = .store t X Y) (hX : VRep w col lk s.roots (.el r i 0) (a.eval X))
    (hY : VRep w col lk s.roots v (a.eval Y)) (hq : pvOf s.roots v = some (q, cs)) (hl : lookup s.roots r = some (some (1, e, .sl k xs))) (hk : (T t).cells = k) (hsq : sz q = k) (hcs : r ∉ cs) (hot : (T t).td.isOther = false) (hi : i < xs.length) (hys : xs.set i q = ys) :
    Does P c s a w o ⟨.any, frz s.roots cs ++ [(r, some (1, e, .sl k ys))]⟩ := by
  obtain ⟨d, hrq, hYe⟩ := pvOf_rep h v hY hq fun _ h => h
  have hYc := cells_toVal hrq
  rw [← hYe] at hYc
  have h1 := h.freeze cs
  have hl1 : lookup (appUps (frz s.roots cs) s.roots) r = some (some (1, e, .sl k xs)) := by rw [lookup_frz, if_neg hcs, hl]
  simp only [VRep, onRow, hl] at hX
  obtain ⟨b, m, cap, hlk, hXe⟩ := hX
  obtain ⟨u, hu, hrep, hty⟩ := h1.rt _ _ _ _ hl1
  rw [hlk] at hu
  obtain rfl : _ = u := by simpa using hu
  simp only [tyAt] at hty
  simp only [Rep] at hrep
  obtain ⟨u, dd, hu2, hsz, hxs, ⟨e2, hown⟩, hcol⟩ := hrep
  obtain rfl : _ = u := by simpa using hu2
  obtain ⟨cur, hcur⟩ := hty (by omega) b rfl
  rcases hown.2 with ⟨hc, _⟩ | ⟨g, cp, cur2, hv, _, hg, hle, hcm, hcsz, htake⟩
  · cases hc
  obtain ⟨rfl, rfl, rfl⟩ : b = g ∧ m = xs.length ∧ cap = cp := by simpa using hv
  rw [hcur] at hg
  obtain ⟨rfl, rfl⟩ : cur = cur2 ∧ e = e2 := by simpa using hg
  obtain ⟨x, y, z, rfl, hx, hy, hset⟩ := RepL.set (q := q) (cq := d) (r := r) (n := 0) (pos := []) (fun pos => Rep.move q hrq) xs (i0 := 0) hi (fun p hp => by rw [hsz p hp, hsq]) hxs
  obtain ⟨it, hit, hits, _⟩ := (hT t).info hot
  have hcell : (a.eval Y).cells.size = k := by rw [← Array.length_toList, hYc, Rep.len _ hrq, hsq]
  have hcur3 : cur = (x ++ y ++ z ++ cur.toList.drop (xs.length * k)).toArray := by
    rw [← htake, List.take_append_drop]
  have hg3 : w.heap[b]? = some (.cells (x ++ y ++ z ++ cur.toList.drop (xs.length * k)).toArray e (0, 0)) := by rw [← hcur3]; exact hcur
  have hrun := run_store (P := P) (t := t) (v := a.eval Y) (off := i * k) hit (by rw [hits, hk, hcell]) hg3 (by rw [hx, hsq]) (by rw [hy, ← hYc, Array.length_toList]) (by rw [hYc]; exact Rep.one _ hrq)
  rw [hYc] at hrun
  have hgr : w.grownBy (w.setRow b (x ++ d ++ z ++ cur.toList.drop (xs.length * k)).toArray) (some b) := grown_set b _
  have hcb : colF cs col b = some (r, []) := by simpa using hcol b rfl
  have hsame : Same w (w.setRow b (x ++ d ++ z ++ cur.toList.drop (xs.length * k)).toArray) (colF cs col) (colF cs col) 0 0 [] := ⟨fun b' hb' hm => ⟨hgr.block b' hb' fun e => by
    obtain rfl : b' = b := by simpa using e
    rcases hm with hm | ⟨h0, _⟩
    · rw [hm] at hcb; cases hcb
    · exact absurd rfl h0, rfl⟩⟩
  have hlen1 : (x ++ d ++ z).length = xs.length * k := by
    have := hown.1
    simp only [List.length_append] at this ⊢
    omega
  have := h1.write (b := b) (e' := e) (p' := .sl k ys) hl1 hgr ⟨[], hcb⟩ (by simp [shape]) ⟨_, hlk, by
    simp only [Rep]
    refine ⟨_, x ++ d ++ z, rfl, fun p hp => ?_, ?_, ⟨e, hlen1.trans (by rw [← hys]; simp), .inr ⟨b, cap, (x ++ d ++ z ++ cur.toList.drop (xs.length * k)).toArray, by rw [← hys]; simp, Nat.zero_le _, setRow_heap w b cur _ e _ hcur, by rw [← hys]; simpa using hle, hcm, ?_, ?_⟩⟩, fun b' hb' => hcol b' hb'⟩
    · rw [← hys] at hp
      rcases List.mem_or_eq_of_mem_set hp with hp | rfl
      · exact hsz p hp
      · exact hsq
    · rw [← hys]; exact RepL.moveS hsame (RepL.move (r' := 0) (pos' := []) (i' := 0) _ hset)
    · rw [List.size_toArray, List.length_append, hlen1, List.length_drop]
      have h5 : cur.toList.length = cap * k := by simpa using hcsz
      have : xs.length * k ≤ cap * k := Nat.mul_le_mul_right _ hle
      omega
    · rw [show ys.length = xs.length by rw [← hys]; simp, ← hlen1]
      exact List.take_left, by
    simp only [tyAt]
    intro _ b' hb'
    obtain rfl : b = b' := by simpa [Value.ownBlock] using hb'
    exact ⟨_, setRow_heap w b cur _ e _ hcur⟩⟩
  refine ⟨.skip, _, _, _, undef, ?_, .inr ⟨rfl, rfl⟩, by rw [lookup_appUps_append]; exact this, by simp only [VRep]⟩
  simp only [Nat.add_zero] at hXe
  simp [execOp, ho, hXe, Instr.storeAt, Instr.sureAddr, hrun]
theorem storeBx_sound {t off r e : Nat} {p p' : PV} {o : Oper} {X Y : Operand} {v : V} {q : PV} {cs : List Nat} (hT : TabOk P T) (h : Rel c s a w col lk) (ho : o.op = .store t X Y) (hX : VRep w col lk s.roots (.bx r off) (a.eval X))
    (hY : VRep w col lk s.roots v (a.eval Y)) (hq : linked s.roots v = some (q, cs)) (hl : lookup s.roots r = some (some (1, e, .ptr p))) (hsq : sz q = (T t).cells) (hcs : r ∉ cs) (hot : (T t).td.isOther = false) (hset : setO (fits T t) q p off = some p') :
    Does P c s a w o ⟨.any, frz s.roots cs ++ [(r, some (1, e, .ptr p'))]⟩ := by
  obtain ⟨d, hrq, hYc⟩ := linked_rep h hY hq
  have h1 := h.freeze cs
  have hl1 : lookup (appUps (frz s.roots cs) s.roots) r = some (some (1, e, .ptr p)) := by rw [lookup_frz, if_neg hcs, hl]
  obtain ⟨b, hlk, hXe, _⟩ := hX.bx_rt h hl
  obtain ⟨dd, hrep, _, hdne, hown⟩ := h1.bx_cells hl1 (by omega) hlk
  obtain ⟨hcb, et, hg⟩ := hown rfl
  obtain ⟨x, y, z, rfl, hx, hy, hset2⟩ := setO_rep (q := q) (cq := d) (r := r) (n := 0) (fun pos => Rep.move q hrq) (fun p0 hp0 => by rw [(fits_sz hp0).1, hsq]) p hset hrep
  obtain ⟨it, hit, hits, _⟩ := (hT t).info hot
  have hcell : (a.eval Y).cells.size = sz q := by rw [← Array.length_toList, hYc, Rep.len _ hrq]
  have hrun := run_store (P := P) (t := t) (v := a.eval Y) (off := off) (rest := []) (w := w) (b := b) (x := x) (y := y) (z := z) hit (by rw [hits, hcell, hsq]) (by simpa using hg) hx (by rw [hy, ← hYc, Array.length_toList]) (by rw [hYc]; exact Rep.one _ hrq)
  rw [hYc, List.append_nil] at hrun
  have hgr : w.grownBy (w.setRow b (x ++ d ++ z).toArray) (some b) := grown_set b _
  have hsame : Same w (w.setRow b (x ++ d ++ z).toArray) (colF cs col) (colF cs col) 0 0 [] := ⟨fun b' hb' hm => ⟨hgr.block b' hb' fun e => by
    obtain rfl : b' = b := by simpa using e
    rcases hm with hm | ⟨h0, _⟩
    · rw [hm] at hcb; cases hcb
    · exact absurd rfl h0, rfl⟩⟩
  have := h1.write (b := b) (e' := e) (p' := .ptr p') hl1 hgr ⟨[], hcb⟩ (by simp [shape]) ⟨_, hlk, by
    simp only [Rep]
    refine ⟨b, 0, x ++ d ++ z, rfl, ?_, Rep.moveS (fun _ _ h => h) hsame hset2, rfl, hcb, et, setRow_heap w b _ _ et _ hg⟩
    intro h0
    apply hdne
    have h2 := congrArg List.length h0
    apply List.eq_nil_of_length_eq_zero
    simp only [List.length_append, List.length_nil] at h2 ⊢
    omega, trivial⟩
  refine ⟨.skip, _, _, _, undef, ?_, .inr ⟨rfl, rfl⟩, by rw [lookup_appUps_append]; exact this, by simp only [VRep]⟩
  simp [execOp, ho, hXe, Instr.storeAt, Instr.sureAddr, hrun]
theorem store_sound {t : Nat} {o : Oper} {X Y : Operand} {x y : V} {out : Out} {e : Eff} (hT : TabOk P T) (h : Rel c s a w col lk) (ho : o.op = .store t X Y) (hx : ev s X = some x) (hy : ev s Y = some y) (hn : storeS T s t x y = some out) (he : out.ok e) : Does P c s a w o e := by
  have hX := ev_rep h hx
  have hY := ev_rep h hy
  have hasN : ∀ (r : Nat) (l : List Nat), hasN r l = false → r ∉ l := fun r l h1 h2 => by rw [hasN_iff.2 h2] at h1; cases h1
  unfold storeS at hn
  split at hn
  · rename_i r i
    split at hn
    · rename_i q cs e' k xs hq hl
      split at hn
      · rename_i hb
        simp only [Bool.and_eq_true, Bool.not_eq_true', beqT, decide_eq_true_eq, decide_eq_false_iff_not] at hb
        obtain ⟨⟨⟨⟨hk, hsq⟩, hcs⟩, hot⟩, hk0⟩ := hb
        simp only [Option.some.injEq] at hn
        subst hn
        obtain ⟨hi, ys, hys, rfl⟩ := he
        exact storeEl_sound hT h ho hX hY hq hl hk hsq (hasN _ _ hcs) hot hi hys
      · cases hn
    · cases hn
  · rename_i r off
    split at hn
    · rename_i q cs e' p hq hl
      split at hn
      · rename_i p' hb hset
        simp only [Bool.and_eq_true, Bool.not_eq_true', beqT, decide_eq_true_eq] at hb
        obtain ⟨⟨hsq, hcs⟩, hot⟩ := hb
        simp only [Option.some.injEq] at hn
        subst hn
        obtain ⟨_, rfl⟩ := he
        exact storeBx_sound hT h ho hX hY hq hl hsq (hasN _ _ hcs) hot hset
      · cases hn
    · cases hn
  · cases hn
end
end Go.Vm

/- Slice expressions, the text of bytes. -/
set_option linter.unusedVariables false
set_option linter.unusedSimpArgs false
namespace Go.Vm
open Go Go.RowKit

section
variable {P : Program} {T : Tab} {c : Ctx P} {s : St} {a : Act} {w : World} {col : Col} {lk : Lk}
theorem RepL.take {r n : Nat} {pos : List Nat} {k : Nat} : ∀ {ps : List PV} {i h : Nat} {cs : List Value}, (∀ x ∈ ps, sz x = k) → RepL w col lk r n pos i ps cs → RepL w col lk r n pos i (ps.take h) (cs.take (h * k))
  | [], i, h, cs, _, hr => by simp only [RepL] at hr; subst hr; simp [RepL]
  | p :: ps, i, 0, cs, _, hr => by simp [RepL]
  | p :: ps, i, h + 1, cs, hk, hr => by
    simp only [RepL] at hr
    obtain ⟨c1, d1, rfl, h1, h2⟩ := hr
    have hl : c1.length = k := by rw [Rep.len _ h1]; exact hk p (by simp)
    simp only [List.take_succ_cons, RepL]
    refine ⟨c1, d1.take (h * k), ?_, h1, RepL.take (fun x hx => hk x (by simp [hx])) h2⟩
    rw [List.take_append, hl, List.take_of_length_le (by rw [hl, Nat.succ_mul]; omega), Nat.succ_mul, Nat.add_sub_cancel]
theorem RepL.drop {r : Nat} {pos : List Nat} {k : Nat} : ∀ {ps : List PV} {i h : Nat} {cs : List Value}, (∀ x ∈ ps, sz x = k) → RepL w col lk r 0 pos i ps cs → RepL w col lk r 0 pos i (ps.drop h) (cs.drop (h * k))
  | [], i, h, cs, _, hr => by simp only [RepL] at hr; subst hr; simp [RepL]
  | p :: ps, i, 0, cs, _, hr => by simpa using hr
  | p :: ps, i, h + 1, cs, hk, hr => by
    simp only [RepL] at hr
    obtain ⟨c1, d1, rfl, h1, h2⟩ := hr
    have hl : c1.length = k := by rw [Rep.len _ h1]; exact hk p (by simp)
    simp only [List.drop_succ_cons]
    have := RepL.drop (h := h) (fun x hx => hk x (by simp [hx])) h2
    rw [show (c1 ++ d1).drop ((h + 1) * k) = d1.drop (h * k) by
      rw [List.drop_append, hl, List.drop_eq_nil_of_le (by rw [hl, Nat.succ_mul]; omega), Nat.succ_mul, Nat.add_sub_cancel]; rfl]
    exact RepL.move _ this
theorem bnd_ok {d n : Int} {x : Option Operand} (hr : Rel c s a w col lk) (h : bnd s d x = some n) : (x = none ∧ n = d) ∨ ∃ k, x.map a.eval = some (.int k n) := by
  unfold bnd at h
  split at h
  · simp only [Option.some.injEq] at h; exact .inl ⟨rfl, h.symm⟩
  · rename_i y
    split at h
    · rename_i k m hv
      simp only [Option.some.injEq] at h
      subst h
      exact .inr ⟨k, by simp [VRep.word (ev_rep hr hv)]⟩
    · cases h
/-- The bounds of a slice expression that lies within the length. -/
theorem bounds_run {isS : Bool} {len cap : Nat} {low high : Option Operand} {l h : Int} (hcap : len ≤ cap) (hr : Rel c s a w col lk) (hl : bnd s 0 low = some l) (hh : bnd s len high = some h) (h0 : 0 ≤ l) (h1 : l ≤ h) (h2 : h ≤ len) :
    (Instr.sliceBounds isS len cap (low.map a.eval) (high.map a.eval) none).run P w = .ok (l.toNat, h.toNat, cap) w := by
  have hlow := bnd_ok hr hl
  have hhigh := bnd_ok hr hh
  have e1 : h ≤ (cap : Int) := by omega
  have e2 : 0 ≤ h := by omega
  have e3 : (h.toNat : Int) = h := by omega
  rcases hlow with ⟨rfl, rfl⟩ | ⟨k1, h3⟩ <;> rcases hhigh with ⟨rfl, rfl⟩ | ⟨k2, h4⟩
  · simp [Instr.sliceBounds]
  · rw [h4]; simp [Instr.sliceBounds, Instr.sliceBound, asIntOf, e1, e2]
  · rw [h3]; simp [Instr.sliceBounds, Instr.sliceBound, asIntOf, h0, h1]
  · rw [h3, h4]; simp [Instr.sliceBounds, Instr.sliceBound, asIntOf, e1, e2, e3, h0, h1]
theorem SlRep.cut {k len : Nat} {v : Value} {d : List Value} {l h : Nat} (hs : SlRep w col 0 0 [] k len v d) (hd : d.length = len * k) (h1 : l ≤ h) (h2 : h ≤ len) :
    ∃ A cap, v = .slice A len cap ∧ len ≤ cap ∧ SlRep w col 0 0 [] k (h - l) (.slice (if cap = l then A else A.map (·.add (l * k))) (h - l) (cap - l)) ((d.take (h * k)).drop (l * k)) := by
  obtain ⟨A, cap, rfl, hle, hc⟩ := hs
  refine ⟨A, cap, rfl, hle, _, _, rfl, by omega, fun hne => ?_⟩
  have hd' : d ≠ [] := by rintro rfl; simp at hne
  obtain ⟨b, o, rfl, hcol, hcs⟩ := hc hd'
  by_cases hcl : cap = l
  · exfalso
    apply hne
    have : h = l := by omega
    subst this
    rw [List.drop_eq_nil_of_le (by simp; omega)]
  · refine ⟨b, o + l * k, by simp [hcl, Addr.add_mid], hcol, fun j u hj => ?_⟩
    rw [List.getElem?_drop] at hj
    have : d[l * k + j]? = some u := by
      rw [List.getElem?_take] at hj
      split at hj
      · exact hj
      · cases hj
    have := hcs _ _ this
    rw [Nat.add_assoc]
    exact this
theorem sl_cut {k : Nat} {xs : List PV} {y : Value} {l h : Nat} {col2 : Col} (hr : Rep w col2 lk0 0 0 [] (.sl k xs) [y]) (h1 : l ≤ h) (h2 : h ≤ xs.length) :
    ∃ A cap, y = .slice A xs.length cap ∧ xs.length ≤ cap ∧ ∀ lk rs, VRep w col2 lk rs (.pv (.sl k ((xs.take h).drop l))) (.slice (if cap = l then A else A.map (·.add (l * k))) (h - l) (cap - l)) := by
  simp only [Rep] at hr
  obtain ⟨v, d, hy, hsz, hrep, hsl⟩ := hr
  obtain rfl : y = v := by simpa using hy
  have hdl : d.length = xs.length * k := by rw [RepL.len _ hrep, szs_of hsz]
  obtain ⟨A, cap, rfl, hle, h3⟩ := hsl.cut (l := l) (h := h) hdl h1 h2
  refine ⟨A, cap, rfl, hle, fun lk rs => ?_⟩
  simp only [VRep, Rep]
  refine ⟨_, ⟨_, _, rfl, fun x hx => hsz x (List.mem_of_mem_take (List.mem_of_mem_drop hx)), RepL.drop (fun x hx => hsz x (List.mem_of_mem_take hx)) (RepL.take hsz hrep), ?_⟩, rfl⟩
  have : ((xs.take h).drop l).length = h - l := by simp; omega
  rw [this]
  exact h3
theorem grownBy_self (w : World) (row : Option Nat) : w.grownBy w row := ⟨rfl, rfl, rfl, Nat.le_refl _, fun _ _ _ => rfl⟩
theorem slice_sound {t : Nat} {o : Oper} {X : Operand} {x : V} {low high : Option Operand} {out : Out} {e : Eff} (hT : TabOk P T) (hr : Rel c s a w col lk) (ho : o.op = .slice t X low high none) (hx : ev s X = some x) (hs : sliceS T s o t x low high = some out) (he : out.ok e) : Does P c s a w o e := by
  have hX := ev_rep hr hx
  have htd := (hT t).td
  unfold sliceS at hs
  split at hs
  · rename_i b ht
    rw [ht] at htd
    have hX := VRep.word hX
    split at hs
    · rename_i l h hl hh
      simp only [Option.some.injEq] at hs
      subst hs
      obtain ⟨⟨h0, h1, h2⟩, rfl⟩ := he
      have := bounds_run (P := P) (isS := false) (Nat.le_refl _) hr hl hh h0 h1 h2
      exact Gives.does hr ⟨_, by simp [execOp, ho, hX, Instr.sliceAt, Instr.slice, run_underlying (show P.underlying t = some .string from htd), this], VRep.of_word rfl⟩
    · cases hs
  · rename_i e k xs ht
    rw [ht] at htd
    split at hs
    · rename_i l h hl hh hb
      simp only [Bool.and_eq_true, Bool.not_eq_true', beqT, decide_eq_true_eq] at hb
      simp only [Option.some.injEq] at hs
      subst hs
      obtain ⟨⟨h0, h1, h2⟩, ys, rfl, rfl⟩ := he
      obtain ⟨ie, hie, hsz, _⟩ := (hT e).info hb.2
      simp only [VRep] at hX
      obtain ⟨cs, hrep, hXe⟩ := hX
      have h3 := hrep
      simp only [Rep] at h3
      obtain ⟨v, d, rfl, _⟩ := h3
      simp only [toVal] at hXe
      subst hXe
      obtain ⟨A, cap, hXe, hle, hv⟩ := sl_cut (l := l.toNat) (h := h.toNat) hrep (by omega) (by omega)
      have := bounds_run (P := P) (isS := true) hle hr hl hh h0 h1 h2
      refine Gives.does hr ⟨_, ?_, hv _ _⟩
      simp [execOp, ho, hXe, Instr.sliceAt, Instr.slice, run_underlying (show P.underlying t = some (.slice e) from htd), this, sizeOf, typeInfo, hie, hsz, hb.1]
    · cases hs
  · rename_i e r ht
    rw [ht] at htd
    split at hs
    · rename_i n e' k xs hl
      split at hs
      · rename_i l h hlo hhi hb
        simp only [Bool.and_eq_true, Bool.not_eq_true', beqT, decide_eq_true_eq] at hb
        obtain ⟨ie, hie, hsz, _⟩ := (hT e).info hb.2
        have hfrz : ∀ {ef : Eff}, Out.ok (.row (0 ≤ l ∧ l ≤ h ∧ h ≤ xs.length) ((xs.take h.toNat).drop l.toNat) fun ys => ⟨.pv (.sl k ys), frz s.roots [r]⟩) ef → Does P c s a w o ef := by
          rintro ef ⟨⟨h0, h1, h2⟩, ys, rfl, rfl⟩
          have hr2 := hr.freeze [r]
          obtain ⟨cells, hrep, hXe⟩ := pvOf_rep hr (cs := [r]) (.row r) (p := .sl k xs) (ds := [r]) hX (by simp [pvOf, hl]) (by simp)
          have h3 := hrep
          simp only [Rep] at h3
          obtain ⟨v, d, rfl, _⟩ := h3
          simp only [toVal] at hXe
          subst hXe
          obtain ⟨A, cap, hXe, hle, hv⟩ := sl_cut (l := l.toNat) (h := h.toNat) hrep (by omega) (by omega)
          have := bounds_run (P := P) (isS := true) hle hr hlo hhi h0 h1 h2
          refine ⟨_, w, colF [r] col, lk, _, ?_, .inl rfl, hr2, hv _ _⟩
          simp [execOp, ho, hXe, Instr.sliceAt, Instr.slice, run_underlying (show P.underlying t = some (.slice e) from htd), this, sizeOf, typeInfo, hie, hsz, hb.1]
        split at hs
        · rename_i hd
          simp only [beqT, decide_eq_true_eq] at hd
          subst hd
          split at hs
          · cases hs
          rename_i hfree
          simp only [Option.some.injEq] at hs
          subst hs
          rcases he with he | ⟨⟨h0, h2⟩, ys, rfl, rfl⟩
          · exact hfrz he
          · obtain ⟨hid, hid0⟩ := free_ok hfree
            obtain rfl : l = 0 := by simpa [bnd] using hlo.symm
            obtain ⟨_, h3, h4⟩ := hX.row_rt hr hl
            have h4 := h4 (by omega)
            simp only [Rep] at h3
            obtain ⟨v, d, hv, hxsz, hxrep, ⟨e2, hown⟩, hcol⟩ := h3
            obtain rfl : a.eval X = v := by simpa using hv
            have hlen : (xs.take h.toNat).length = h.toNat := by simp; omega
            have hrep2 : RepL w col lk0 0 0 [] 0 (xs.take h.toNat) (d.take (h.toNat * k)) := RepL.move _ (RepL.take hxsz hxrep)
            obtain ⟨A, cap, hXe, hle, hown'⟩ : ∃ A cap, a.eval X = .slice A xs.length cap ∧ xs.length ≤ cap ∧ w.ownsRow 0 e' k (.slice A h.toNat cap) h.toNat (d.take (h.toNat * k)) := by
              rcases hown.2 with ⟨e1, e3⟩ | ⟨g, cap, cur, hv, h0', hg, hle, hcm, hcs, htk⟩
              · refine ⟨none, 0, by rw [e1, e3], by omega, ?_⟩
                have : h.toNat = 0 := by omega
                rw [this]
                simp only [Nat.zero_mul, List.take_zero]
                exact World.ownsRow_nil w _ _ _
              · obtain ⟨cur', hg'⟩ := h4 g (by rw [hv]; rfl)
                rw [hg] at hg'
                obtain ⟨rfl, rfl⟩ : cur = cur' ∧ e2 = e' := by simpa using hg'
                refine ⟨some ⟨g, 0, none⟩, cap, hv, hle, by rw [List.length_take, hown.1, Nat.min_eq_left (Nat.mul_le_mul_right _ (by omega))], .inr ⟨g, cap, cur, rfl, h0', hg, by omega, hcm, hcs, ?_⟩⟩
                rw [← htk, List.take_take, Nat.min_eq_left (Nat.mul_le_mul_right _ (by omega))]
            have := hr.row (kill := [r]) (row := none) (id := newId o) (e := e') (k := k) (xs := xs.take h.toNat) (y := .slice A h.toNat cap) (d := d.take (h.toNat * k)) hid hid0 (fun r' hr' => by
                obtain rfl : r' = r := by simpa using hr'
                exact ⟨_, hl⟩) (grownBy_self w none) (fun b hb => by cases hb) (by rw [hlen]; exact hown') (fun b hb => .inr ⟨r, by simp, [], hcol b (by rw [hXe]; cases A <;> simp [Value.ownBlock] at hb ⊢; exact hb)⟩) (fun x hx => hxsz x (List.mem_of_mem_take hx)) hrep2
            have hb2 := bounds_run (P := P) (isS := true) hle hr hlo hhi (Int.le_refl 0) h0 h2
            refine ⟨_, w, _, lkP lk (newId o) (.slice A h.toNat cap), .slice A h.toNat cap, ?_, .inl rfl, this, ?_⟩
            · simp only [Int.toNat_zero, Option.map_none] at hb2
              cases A <;> simp [execOp, ho, hXe, Instr.sliceAt, Instr.slice, run_underlying (show P.underlying t = some (.slice e) from htd), hb2, sizeOf, typeInfo, hie, Addr.add]
            · simp only [VRep, onRow, appUps, lookup_put, if_true]
              simp [lkP]
        · simp only [Option.some.injEq] at hs
          subst hs
          exact hfrz he
      · cases hs
    · cases hs
  · cases hs
theorem strOf_map (b : ByteArray) : strOfNums (b.data.toList.map fun c => (c.toNat : Int)) = b := by
  obtain ⟨⟨l⟩⟩ := b
  simp [strOfNums, Function.comp_def]
theorem convB_sound {src dst : Nat} {o : Oper} {X : Operand} {x : V} {out : Out} {e : Eff} (hT : TabOk P T) (hr : Rel c s a w col lk) (ho : o.op = .convert src dst X) (hd : (T dst).td = .str) (hx : ev s X = some x) (hs : convB T s src x = some out) (he : out.ok e) : Does P c s a w o e := by
  have hX := ev_rep hr hx
  have htd := (hT src).td
  have hdd := (hT dst).td
  rw [hd] at hdd
  unfold convB at hs
  split at hs
  · rename_i e' ht
    rw [ht] at htd
    split at hs
    · rename_i hk
      have hte := (hT e').td
      rw [hk] at hte
      simp only [valE, Option.some.injEq] at hs
      subst hs
      obtain ⟨_, rfl⟩ := he
      simp only [VRep, Rep] at hX
      obtain ⟨cs, rfl, hX⟩ := hX
      simp only [toVal] at hX
      exact Gives.does hr ⟨_, by simp [execOp, ho, hX, run_convert_bytes_nil w src e' htd hte 0 0 dst hdd], VRep.of_word rfl⟩
    · cases hs
  · rename_i y e' ht _
    rw [ht] at htd
    split at hs
    · rename_i ys hk hel
      simp only [Option.some.injEq] at hs
      subst hs
      obtain ⟨b, rfl, rfl⟩ := he
      have hte := (hT e').td
      rw [hk] at hte
      obtain ⟨A, cap, d, hXe, hrep, _, hc⟩ := elems_rep hr hX hel
      have hd2 : ∀ (l : List UInt8) (i : Nat) (d : List Value), RepL w col lk0 0 0 [] i (l.map Yb) d → d = l.map fun c => .int .u8 c.toNat := by
        intro l
        induction l with
        | nil => intro i d h; simp only [List.map_nil, RepL] at h; simp [h]
        | cons x l ih =>
          intro i d h
          simp only [List.map_cons, RepL, Rep, Yb] at h
          obtain ⟨c1, d1, rfl, ⟨rfl, _⟩, h2⟩ := h
          simp [ih _ _ h2]
      have hd3 := hd2 _ _ _ hrep
      subst hd3
      refine Gives.does hr ⟨.string b, ?_, VRep.of_word rfl⟩
      simp only [List.length_map] at hXe
      cases hbl : b.data.toList with
      | nil =>
        have hb : b = ByteArray.empty := by
          obtain ⟨⟨l⟩⟩ := b
          simp at hbl
          subst hbl
          rfl
        rw [hbl] at hXe
        simp only [List.length_nil] at hXe
        have hrun : (convert src dst (.slice A 0 cap)).run P w = .ok (.string b) w := by
          cases A with
          | none => rw [hb]; exact run_convert_bytes_nil w src e' htd hte 0 cap dst hdd
          | some x =>
            rw [run_convert_bytes_string w src dst e' _ 0 cap htd hte hdd, run_bytesToString w x 0 cap [] (by simp [loadCells, loadCellsFrom]), hb]
            rfl
        simp [execOp, ho, hXe, hrun]
      | cons c0 l0 =>
        obtain ⟨bb, oo, rfl, hcs⟩ := hc (by simp [hbl])
        have hsm := strOf_map b
        clear hbl hd2 hrep hc hel
        generalize b.data.toList = L at hXe hcs hsm
        have hrun := run_convert_bytes_arg (P := P) w src e' htd hte bb oo L.length cap (L.map fun c => (c.toNat : Int)) (by simp) (fun i hi => by
          have := hcs i (.int .u8 (L[i]).toNat) (by simp [hi])
          rw [this]
          simp [List.getD_eq_getElem?_getD, hi]) dst hdd
        rw [hsm] at hrun
        simp [execOp, ho, hXe, hrun]
    · cases hs
  · cases hs
end
end Go.Vm
