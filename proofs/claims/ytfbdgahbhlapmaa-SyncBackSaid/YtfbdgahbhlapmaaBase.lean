/- Small laws that all walks of this seat use: a text is written as a list of bytes. -/
import Derived.WalkKit
import Derived.WalkSpells
import Derived.WalkLawsBesides
import Derived.Lib.Hide
namespace Go.Proofs.Ytfbdgahbhlapmaa
open Go.RowKit

@[go_sem] theorem getElem_mk (l : List UInt8) (i : Nat) (h : i < (ByteArray.mk l.toArray).size) : (ByteArray.mk l.toArray)[i]'h = l[i]'(by simpa [ByteArray.size] using h) := rfl
theorem nextB {w W W' : World} (h : Below w.heap.size w W) (k : Below W.heap.size W W') : Below w.heap.size w W' := h.trans (k.mono h.size)
theorem bytes_eta (b : ByteArray) : ∃ l : List UInt8, b = ⟨l.toArray⟩ := ⟨b.data.toList, by cases b; simp⟩

theorem drop_cons {α : Type} (l : List α) (k : Nat) (h : k < l.length) : l.drop k = l[k] :: l.drop (k + 1) := List.drop_eq_getElem_cons h
theorem u8_eq (a b : UInt8) : a = b ↔ a.toNat = b.toNat := UInt8.toNat_inj.symm

theorem ret_bool {a b : Bool} (h : a = b) : Ending.returned (.bool a) = .returned (.bool b) := by rw [h]
theorem ret_int {k : IntKind} {a b : Int} (h : a = b) : Ending.returned (.int k a) = .returned (.int k b) := by rw [h]
theorem ret_str {a b : List UInt8} (h : a = b) : Ending.returned (.string ⟨a.toArray⟩) = .returned (.string ⟨b.toArray⟩) := by rw [h]

/-- bytes as cells -/
def cellsOf (l : List UInt8) : List Value := l.map fun c => Value.int .u8 (c.toNat : Int)
theorem cellsOf_snoc (l : List UInt8) (c : UInt8) : cellsOf (l ++ [c]) = cellsOf l ++ [Value.int .u8 (c.toNat : Int)] := by simp [cellsOf]
theorem cellsOf_length (l : List UInt8) : (cellsOf l).length = l.length := by simp [cellsOf]

/-- a row of bytes that the call itself made: as a text -/
theorem ownsRow_bytes {P : Program} {w : World} {base e src dst : TypeId} {v : Value} {n : Nat} {l : List UInt8} (h : w.ownsRow base e 1 v n (cellsOf l))
    (hs : P.underlying src = some (.slice e)) (he : P.underlying e = some (.int .u8)) (hd : P.underlying dst = some .string) :
    (convert src dst v).run P w = .ok (.string ⟨l.toArray⟩) w := by
  have hl := h.1
  rw [cellsOf_length] at hl
  rcases h.2 with ⟨rfl, rfl⟩ | ⟨g, cap, cur, rfl, hb, hg, hn, hc, hcs, ht⟩
  · have : l = [] := List.eq_nil_of_length_eq_zero (by omega)
    subst this
    rw [run_convert_bytes_nil w src e hs he _ _ _ hd]; rfl
  · have e1 : n = l.length := by omega
    subst e1
    refine run_convert_bytes_back w src dst e _ cap l hs he hd ?_
    intro j hj
    refine h.cells (g := g) rfl j _ ?_
    simp [cellsOf, hj]

/-- a slice value that owns a row of bytes which the call itself made -/
def Buf (w : World) (base e : Nat) (v : Value) (l : List UInt8) : Prop := w.ownsRow base e 1 v l.length (cellsOf l)
theorem Buf.kept {w w' : World} {base e : Nat} {v : Value} {l : List UInt8} {row : Option Nat} (h : Buf w base e v l) (hg : w.grownBy w' row) (hne : v.ownBlock = none ∨ v.ownBlock ≠ row) : Buf w' base e v l :=
  World.ownsRow.kept h hg hne
theorem Buf.below {w w' : World} {base e : Nat} {v : Value} {l : List UInt8} (h : Buf w base e v l) (hb : Below w.heap.size w w') : Buf w' base e v l := by
  refine ⟨h.1, ?_⟩
  rcases h.2 with hn | ⟨g, cap, cur, rfl, hbs, hg, rest⟩
  · exact .inl hn
  · exact .inr ⟨g, cap, cur, rfl, hbs, (hb.block g (Array.getElem?_eq_some_iff.1 hg).1).trans hg, rest⟩
theorem Buf.lt {w : World} {base e : Nat} {v : Value} {l : List UInt8} (h : Buf w base e v l) : ∀ k, v.ownBlock = some k → base ≤ k ∧ k < w.heap.size := World.ownsRow.lt h
theorem Buf.nil (w : World) (base e : Nat) : Buf w base e (.slice none 0 0) [] := World.ownsRow_nil _ _ _ _

theorem wpList_push {P : Program} (wr : World) {ops : Array Oper} {rest : List Oper} {o : Oper} {a : Act} {Q : Exit → Act → World → Prop} (hgd : o.guard = none) (s x : Operand) (t : TypeId)
    (ho : o.op = .call { callee := .builtin .append, args := #[s, x], argTypes := #[t, t] })
    (base e : Nat) (ht : P.underlying t = some (.slice e)) (hinfo : (P.info? e).map (fun i => (i.zero, i.size, i.bytes)) = some (some (.int .u8 0), 1, 1))
    (v : Value) (l : List UInt8) (c : UInt8) (u : Value) (hu : u = .int .u8 (c.toNat : Int)) (hs : a.eval s = v) (hbuf : Buf wr base e v l) (hx : a.eval x = .slice (some ⟨wr.heap.size, 0, none⟩) 1 1)
    (hlen : l.length ≤ 4000000000) (hbase : base ≤ wr.heap.size) (E : TypeId)
    (h : ∀ v' w', Buf w' base e v' (l ++ [c]) → wr.grownBy w' v.ownBlock → wpList P ops Q rest (a.put o.dst v') w') :
    wpList P ops Q (o :: rest) a (wr.alloc (.cells #[u] E)) := by
  obtain ⟨i, hi, hz0, hz1, hz2⟩ := info_parts hinfo
  subst hu
  refine wpList_append_own _ hgd s x t ho base e i (.int .u8 0) 1 1 ht hi hz0 hz1 hz2 rfl (by decide) v l.length (cellsOf l) hs (World.ownsRow.alloc hbuf _) ⟨wr.heap.size, 0, none⟩ 1 1 [.int .u8 (c.toNat : Int)] hx rfl ?_ ?_ ?_ ?_ ?_ ?_
  · intro j u hj
    match j, hj with
    | 0, hj => simp at hj; subst hj; simp [Addr.add]
  · intro u hu; simp at hu; subst hu; rfl
  · unfold maxLen; omega
  · omega
  · simp; omega
  · intro v' w' hown hg _
    refine h v' w' ?_ ⟨hg.os, hg.tape, hg.output, by have := hg.size; simp at this; omega, fun k hk hne => (hg.block k (by simp; omega) hne).trans (heap_alloc_old wr _ hk)⟩
    unfold Buf
    rw [cellsOf_snoc]
    simpa using hown
theorem take_one {α : Type} (l : List α) (k : Nat) (h : k < l.length) : (l.drop k).take 1 = [l[k]] := by rw [drop_cons l k h]; rfl
theorem len_snoc {α : Type} {l : List α} {c : α} {n : Nat} (h : l.length ≤ n) : (l ++ [c]).length ≤ n + 1 := by rw [List.length_append]; simpa using h
attribute [go_sem] ByteArray.mk_append_mk ByteArray.extract_mk
theorem Buf.push {w wr w1 : World} {B e : Nat} {v : Value} {acc : List UInt8} (hb : Below B w wr) (h : Buf wr B e v acc) (hg : wr.grownBy w1 v.ownBlock) (hs : B ≤ wr.heap.size) : Below B w w1 :=
  hb.grown hg hs (fun j hj => (h.lt j hj).1)
theorem toNat_ne {c d : UInt8} (h : ¬ (c.toNat : Int) = d.toNat) : (c == d) = false := by
  rw [beq_eq_false_iff_ne]; intro e; exact h (by rw [e])
theorem toNat_eq {c d : UInt8} (h : (c.toNat : Int) = d.toNat) : c = d := by
  rw [u8_eq]; omega
end Go.Proofs.Ytfbdgahbhlapmaa
