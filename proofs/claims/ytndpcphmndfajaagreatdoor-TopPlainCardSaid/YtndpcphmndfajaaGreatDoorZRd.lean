/- Small laws that all walks of this seat use: a text is written as a list of bytes. | A reader (octet.In) as plain data, and what each of its methods comes to. -/
import Derived.WalkKit
import Derived.WalkSpells
import Derived.WalkLawsBesides
import Derived.Lib.Hide
import Derived.Deep.Draws
import Derived.WalkSmall

namespace Go.Proofs.YtndpcphmndfajaaGreatDoor
open Go.RowKit

@[go_sem] theorem getElem_mk (l : List UInt8) (i : Nat) (h : i < (ByteArray.mk l.toArray).size) : (ByteArray.mk l.toArray)[i]'h = l[i]'(by simpa [ByteArray.size] using h) := rfl
theorem nextB {w W W' : World} (h : Below w.heap.size w W) (k : Below W.heap.size W W') : Below w.heap.size w W' := h.trans (k.mono h.size)
theorem bytes_eta (b : ByteArray) : ∃ l : List UInt8, b = ⟨l.toArray⟩ := ⟨b.data.toList, by cases b; simp⟩

theorem drop_cons {α : Type} (l : List α) (k : Nat) (h : k < l.length) : l.drop k = l[k] :: l.drop (k + 1) := List.drop_eq_getElem_cons h
theorem u8_eq (a b : UInt8) : a = b ↔ a.toNat = b.toNat := UInt8.toNat_inj.symm

theorem ret_bool {a b : Bool} (h : a = b) : Ending.returned (.bool a) = .returned (.bool b) := by rw [h]
theorem ret_int {k : IntKind} {a b : Int} (h : a = b) : Ending.returned (.int k a) = .returned (.int k b) := by rw [h]
theorem ret_str {a b : List UInt8} (h : a = b) : Ending.returned (.string ⟨a.toArray⟩) = .returned (.string ⟨b.toArray⟩) := by rw [h]

/-- bytes as cells -/
def cellsOf (l : List UInt8) : List Value := l.map fun c => Value.int .u8 (c.toNat : Int)
theorem cellsOf_snoc (l : List UInt8) (c : UInt8) : cellsOf (l ++ [c]) = cellsOf l ++ [Value.int .u8 (c.toNat : Int)] := by simp [cellsOf]
theorem cellsOf_length (l : List UInt8) : (cellsOf l).length = l.length := by simp [cellsOf]

/-- a row of bytes that the call itself made: as a text -/
theorem ownsRow_bytes {P : Program} {w : World} {base e src dst : TypeId} {v : Value} {n : Nat} {l : List UInt8} (h : w.ownsRow base e 1 v n (cellsOf l))
    (hs : P.underlying src = some (.slice e)) (he : P.underlying e = some (.int .u8)) (hd : P.underlying dst = some .string) :
    (convert src dst v).run P w = .ok (.string ⟨l.toArray⟩) w := by
  have hl := h.1
  rw [cellsOf_length] at hl
  rcases h.2 with ⟨rfl, rfl⟩ | ⟨g, cap, cur, rfl, hb, hg, hn, hc, hcs, ht⟩
  · have : l = [] := List.eq_nil_of_length_eq_zero (by omega)
    subst this
    rw [run_convert_bytes_nil w src e hs he _ _ _ hd]; rfl
  · have e1 : n = l.length := by omega
    subst e1
    refine run_convert_bytes_back w src dst e _ cap l hs he hd ?_
    intro j hj
    refine h.cells (g := g) rfl j _ ?_
    simp [cellsOf, hj]

/-- a slice value that owns a row of bytes which the call itself made -/
def Buf (w : World) (base e : Nat) (v : Value) (l : List UInt8) : Prop := w.ownsRow base e 1 v l.length (cellsOf l)
theorem Buf.kept {w w' : World} {base e : Nat} {v : Value} {l : List UInt8} {row : Option Nat} (h : Buf w base e v l) (hg : w.grownBy w' row) (hne : v.ownBlock = none ∨ v.ownBlock ≠ row) : Buf w' base e v l :=
  World.ownsRow.kept h hg hne
theorem Buf.below {w w' : World} {base e : Nat} {v : Value} {l : List UInt8} (h : Buf w base e v l) (hb : Below w.heap.size w w') : Buf w' base e v l := by
  refine ⟨h.1, ?_⟩
  rcases h.2 with hn | ⟨g, cap, cur, rfl, hbs, hg, rest⟩
  · exact .inl hn
  · exact .inr ⟨g, cap, cur, rfl, hbs, (hb.block g (Array.getElem?_eq_some_iff.1 hg).1).trans hg, rest⟩
theorem Buf.lt {w : World} {base e : Nat} {v : Value} {l : List UInt8} (h : Buf w base e v l) : ∀ k, v.ownBlock = some k → base ≤ k ∧ k < w.heap.size := World.ownsRow.lt h
theorem Buf.nil (w : World) (base e : Nat) : Buf w base e (.slice none 0 0) [] := World.ownsRow_nil _ _ _ _

theorem wpList_push {P : Program} (wr : World) {ops : Array Oper} {rest : List Oper} {o : Oper} {a : Act} {Q : Exit → Act → World → Prop} (hgd : o.guard = none) (s x : Operand) (t : TypeId)
    (ho : o.op = .call { callee := .builtin .append, args := #[s, x], argTypes := #[t, t] })
    (base e : Nat) (ht : P.underlying t = some (.slice e)) (hinfo : (P.info? e).map (fun i => (i.zero, i.size, i.bytes)) = some (some (.int .u8 0), 1, 1))
    (v : Value) (l : List UInt8) (c : UInt8) (u : Value) (hu : u = .int .u8 (c.toNat : Int)) (hs : a.eval s = v) (hbuf : Buf wr base e v l) (hx : a.eval x = .slice (some ⟨wr.heap.size, 0, none⟩) 1 1)
    (hlen : l.length ≤ 4000000000) (hbase : base ≤ wr.heap.size) (E : TypeId)
    (h : ∀ v' w', Buf w' base e v' (l ++ [c]) → wr.grownBy w' v.ownBlock → wpList P ops Q rest (a.put o.dst v') w') :
    wpList P ops Q (o :: rest) a (wr.alloc (.cells #[u] E)) := by
  obtain ⟨i, hi, hz0, hz1, hz2⟩ := info_parts hinfo
  subst hu
  refine wpList_append_own _ hgd s x t ho base e i (.int .u8 0) 1 1 ht hi hz0 hz1 hz2 rfl (by decide) v l.length (cellsOf l) hs (World.ownsRow.alloc hbuf _) ⟨wr.heap.size, 0, none⟩ 1 1 [.int .u8 (c.toNat : Int)] hx rfl ?_ ?_ ?_ ?_ ?_ ?_
  · intro j u hj
    match j, hj with
    | 0, hj => simp at hj; subst hj; simp [Addr.add]
  · intro u hu; simp at hu; subst hu; rfl
  · unfold maxLen; omega
  · omega
  · simp; omega
  · intro v' w' hown hg _
    refine h v' w' ?_ ⟨hg.os, hg.tape, hg.output, by have := hg.size; simp at this; omega, fun k hk hne => (hg.block k (by simp; omega) hne).trans (heap_alloc_old wr _ hk)⟩
    unfold Buf
    rw [cellsOf_snoc]
    simpa using hown
theorem take_one {α : Type} (l : List α) (k : Nat) (h : k < l.length) : (l.drop k).take 1 = [l[k]] := by rw [drop_cons l k h]; rfl
theorem Buf.cell {w : World} {base e g cap : Nat} {l : List UInt8} {n : Nat} (h : Buf w base e (.slice (some ⟨g, 0, none⟩) n cap) l) (j : Nat) (hj : j < l.length) : w.cell? ⟨g, j, none⟩ = some (.int .u8 (l[j].toNat : Int)) := by
  have h1 := World.ownsRow.cells h (g := g) rfl j (.int .u8 (l[j].toNat : Int)) (by simp [cellsOf, hj])
  rwa [Addr.add_lit, Nat.zero_add] at h1
theorem Buf.has {w : World} {base e g cap : Nat} {l : List UInt8} {n : Nat} (h : Buf w base e (.slice (some ⟨g, 0, none⟩) n cap) l) (j : Nat) (hj : j < l.length) : ∃ u, w.cell? ⟨g, j, none⟩ = some u := ⟨_, h.cell j hj⟩
theorem Buf.len {w : World} {base e : Nat} {a : Option Addr} {n cap : Nat} {l : List UInt8} (h : Buf w base e (.slice a n cap) l) : n = l.length := by
  rcases h.2 with ⟨h1, h2⟩ | ⟨g, cap', cur, h1, _⟩
  · simp at h1; omega
  · simp at h1; exact h1.2.1
theorem Buf.free {w : World} {base e g cap n : Nat} {l : List UInt8} (h : Buf w base e (.slice (some ⟨g, 0, none⟩) n cap) l) (j : Nat) : w.frozen? ⟨g, j, none⟩ = false := by
  have e1 := h.len
  subst e1
  exact World.ownsRow.frozenAt h j
theorem Buf.stored {w : World} {base e g cap n : Nat} {l : List UInt8} (h : Buf w base e (.slice (some ⟨g, 0, none⟩) n cap) l) (j : Nat) (c : UInt8) :
    Buf (w.setCell ⟨g, j, none⟩ (.int .u8 (c.toNat : Int))) base e (.slice (some ⟨g, 0, none⟩) n cap) (l.set j c) ∧ w.grownBy (w.setCell ⟨g, j, none⟩ (.int .u8 (c.toNat : Int))) (some g) := by
  have e1 := h.len
  subst e1
  have h1 := World.ownsRow.stored h j (.int .u8 (c.toNat : Int))
  refine ⟨?_, h1.2⟩
  unfold Buf
  rw [List.length_set]
  have e2 : cellsOf (l.set j c) = (cellsOf l).set j (.int .u8 (c.toNat : Int)) := by simp [cellsOf, List.map_set]
  rw [e2]
  exact h1.1
theorem Buf.zeros {w : World} {base e g n : Nat} (h : w.ownsRow base e 1 (.slice (some ⟨g, 0, none⟩) n n) n (madeCells #[Value.int .u8 0] n).toList) : Buf w base e (.slice (some ⟨g, 0, none⟩) n n) (List.replicate n 0) := by
  unfold Buf
  have e1 : cellsOf (List.replicate n 0) = (madeCells #[Value.int .u8 0] n).toList :=
     ((toList_madeCells_one (.int .u8 0) n).trans (by simp [cellsOf])).symm
  rw [e1, List.length_replicate]
  exact h
theorem u8_mod (x : Nat) : ((UInt8.ofNat x).toNat : Int) = (x : Int) % 256 := by
  rw [UInt8.toNat_ofNat']; omega
theorem set_mid {α : Type} (acc : List α) (k : Nat) (d c : α) (h : acc.length < k) : (acc ++ List.replicate (k - acc.length) d).set acc.length c = (acc ++ [c]) ++ List.replicate (k - (acc.length + 1)) d := by
  have e : k - acc.length = (k - (acc.length + 1)) + 1 := by omega
  rw [e, List.replicate_succ]
  simp
section
variable {P : Program} (w : World) (src dst e : TypeId)
theorem conv_of (xs : List Int) (h1 : P.underlying src = some (.slice e)) (h2 : P.underlying e = some (.int .u8)) (h3 : P.underlying dst = some .string) :
    (convert src dst (.slice (some ⟨w.heap.size, 0, none⟩) xs.length xs.length)).run P (w.alloc (.cells (xs.map (Value.int .u8)).toArray e)) =
      .ok (.string ⟨(xs.map fun n => UInt8.ofNat n.toNat).toArray⟩) (w.alloc (.cells (xs.map (Value.int .u8)).toArray e)) := by
  refine run_convert_bytes_arg _ src e h1 h2 w.heap.size 0 xs.length xs.length xs rfl ?_ dst h3
  intro i hi
  rw [Nat.zero_add, World.cell?_alloc_mark]
  simp [hi]
@[go_sem] theorem conv_lit1 (a : Int) (h1 : P.underlying src = some (.slice e)) (h2 : P.underlying e = some (.int .u8)) (h3 : P.underlying dst = some .string) :
    (convert src dst (.slice (some ⟨w.heap.size, 0, none⟩) 1 1)).run P (w.alloc (.cells #[.int .u8 a] e)) =
      .ok (.string ⟨[UInt8.ofNat a.toNat].toArray⟩) (w.alloc (.cells #[.int .u8 a] e)) := conv_of w src dst e [a] h1 h2 h3
@[go_sem] theorem conv_lit2 (a b : Int) (h1 : P.underlying src = some (.slice e)) (h2 : P.underlying e = some (.int .u8)) (h3 : P.underlying dst = some .string) :
    (convert src dst (.slice (some ⟨w.heap.size, 0, none⟩) 2 2)).run P (w.alloc (.cells #[.int .u8 a, .int .u8 b] e)) =
      .ok (.string ⟨[UInt8.ofNat a.toNat, UInt8.ofNat b.toNat].toArray⟩) (w.alloc (.cells #[.int .u8 a, .int .u8 b] e)) := conv_of w src dst e [a, b] h1 h2 h3
@[go_sem] theorem conv_lit3 (a b c : Int) (h1 : P.underlying src = some (.slice e)) (h2 : P.underlying e = some (.int .u8)) (h3 : P.underlying dst = some .string) :
    (convert src dst (.slice (some ⟨w.heap.size, 0, none⟩) 3 3)).run P (w.alloc (.cells #[.int .u8 a, .int .u8 b, .int .u8 c] e)) =
      .ok (.string ⟨[UInt8.ofNat a.toNat, UInt8.ofNat b.toNat, UInt8.ofNat c.toNat].toArray⟩) (w.alloc (.cells #[.int .u8 a, .int .u8 b, .int .u8 c] e)) := conv_of w src dst e [a, b, c] h1 h2 h3
@[go_sem] theorem conv_lit4 (a b c d : Int) (h1 : P.underlying src = some (.slice e)) (h2 : P.underlying e = some (.int .u8)) (h3 : P.underlying dst = some .string) :
    (convert src dst (.slice (some ⟨w.heap.size, 0, none⟩) 4 4)).run P (w.alloc (.cells #[.int .u8 a, .int .u8 b, .int .u8 c, .int .u8 d] e)) =
      .ok (.string ⟨[UInt8.ofNat a.toNat, UInt8.ofNat b.toNat, UInt8.ofNat c.toNat, UInt8.ofNat d.toNat].toArray⟩) (w.alloc (.cells #[.int .u8 a, .int .u8 b, .int .u8 c, .int .u8 d] e)) := conv_of w src dst e [a, b, c, d] h1 h2 h3
end
theorem and127 (x : Nat) (h : x < 18446744073709551616) : bits BinOp.and IntKind.u64 (x : Int) 127 = (x : Int) % 128 := by
  have := u64_and_nat x 127 h (by decide)
  rw [nat_mask7] at this
  exact this.trans (by omega)
theorem wrap_div (x d : Nat) (h : x < 18446744073709551616) : IntKind.u64.wrap ((x : Int) / (d : Int)) = (x : Int) / (d : Int) := by
  have h1 : x / d ≤ x := Nat.div_le_self _ _
  have h2 : ((x / d : Nat) : Int) = (x : Int) / (d : Int) := Int.natCast_ediv _ _
  rw [← h2]
  clear h2
  generalize x / d = q at h1 ⊢
  simp only [IntKind.wrap, IntKind.bits, IntKind.signed]
  simp
  omega
theorem ofNat_mod (x : Nat) : UInt8.ofNat (x % 256) = UInt8.ofNat x := by rw [u8_eq, UInt8.toNat_ofNat', UInt8.toNat_ofNat']; omega
theorem byte_le (c : UInt8) : ((c.toNat : Nat) : Int) ≤ 255 := by have := UInt8.toNat_lt c; omega
theorem or_byte (x : Nat) (c : UInt8) (h : x ≤ 72057594037927935) : bits BinOp.or IntKind.u64 ((x : Int) * 256) (c.toNat : Int) = (x : Int) * 256 + c.toNat := by
  have hc := UInt8.toNat_lt c
  have h1 := u64_or_nat (x * 256) c.toNat (by omega) (by omega)
  rw [nat_join 8 (x * 256) c.toNat (by omega) (by omega)] at h1
  simpa using h1
theorem i64_wrap_small (n : Nat) (h : n < 9223372036854775808) : IntKind.i64.wrap (n : Int) = n := by
  simp only [IntKind.wrap, IntKind.bits, IntKind.signed]
  simp
  omega
theorem i64_or_nat (a b : Nat) (ha : a < 9223372036854775808) (hb : b < 9223372036854775808) : bits .or .i64 (a : Int) (b : Int) = ((a ||| b : Nat) : Int) := by
  have h : a ||| b < 2 ^ 63 := Nat.or_lt_two_pow (by simpa using ha) (by simpa using hb)
  have e : (BitVec.ofInt IntKind.i64.bits (a : Int) ||| BitVec.ofInt IntKind.i64.bits (b : Int)).toNat = a ||| b := by
    rw [BitVec.toNat_or]
    show (BitVec.ofInt 64 (a : Int)).toNat ||| (BitVec.ofInt 64 (b : Int)).toNat = a ||| b
    rw [ofInt_u64 a (by omega), ofInt_u64 b (by omega)]
  simp only [bits, e]
  exact i64_wrap_small _ (by simpa using h)
theorem i64_and_nat (a b : Nat) (ha : a < 9223372036854775808) (hb : b < 9223372036854775808) : bits .and .i64 (a : Int) (b : Int) = ((a &&& b : Nat) : Int) := by
  have h : a &&& b < 2 ^ 63 := Nat.and_lt_two_pow a (by simpa using hb)
  have e : (BitVec.ofInt IntKind.i64.bits (a : Int) &&& BitVec.ofInt IntKind.i64.bits (b : Int)).toNat = a &&& b := by
    rw [BitVec.toNat_and]
    show (BitVec.ofInt 64 (a : Int)).toNat &&& (BitVec.ofInt 64 (b : Int)).toNat = a &&& b
    rw [ofInt_u64 a (by omega), ofInt_u64 b (by omega)]
  simp only [bits, e]
  exact i64_wrap_small _ (by simpa using h)
theorem or_seven (x c : Nat) (h : x ≤ 72057594037927) (hc : c < 128) : bits BinOp.or IntKind.i64 ((x : Int) * 128) (c : Int) = (x : Int) * 128 + c := by
  have h1 := i64_or_nat (x * 128) c (by omega) (by omega)
  rw [nat_join 7 (x * 128) c (by omega) (by omega)] at h1
  simpa using h1
theorem len_snoc {α : Type} {l : List α} {c : α} {n : Nat} (h : l.length ≤ n) : (l ++ [c]).length ≤ n + 1 := by rw [List.length_append]; simpa using h
attribute [go_sem] ByteArray.mk_append_mk ByteArray.extract_mk
theorem Buf.push {w wr w1 : World} {B e : Nat} {v : Value} {acc : List UInt8} (hb : Below B w wr) (h : Buf wr B e v acc) (hg : wr.grownBy w1 v.ownBlock) (hs : B ≤ wr.heap.size) : Below B w w1 :=
  hb.grown hg hs (fun j hj => (h.lt j hj).1)
theorem toNat_ne {c d : UInt8} (h : ¬ (c.toNat : Int) = d.toNat) : (c == d) = false := by
  rw [beq_eq_false_iff_ne]; intro e; exact h (by rw [e])
theorem toNat_eq {c d : UInt8} (h : (c.toNat : Int) = d.toNat) : c = d := by
  rw [u8_eq]; omega
end Go.Proofs.YtndpcphmndfajaaGreatDoor

namespace Go.Proofs.YtndpcphmndfajaaGreatDoor
open Go.RowKit

/-- a reader: its text, the next place, the base, the fault's number and place -/
structure Rd where
  t : List UInt8
  nx : Nat
  bs : Int
  cd : Int
  pl : Int

namespace Rd
/-- sizes that the program's callers keep -/
def Ok (m : Rd) : Prop := m.nx ≤ m.t.length ∧ m.t.length ≤ 1000000000 ∧ 0 ≤ m.bs ∧ m.bs ≤ 3000000000000
def fail (m : Rd) (c p : Int) : Rd := if m.cd = 0 ∧ c ≠ 0 then { m with cd := c, pl := p } else m
def short (m : Rd) : Rd := m.fail 1 (m.bs + m.t.length)
def left (m : Rd) : Int := if m.cd = 0 then (m.t.length : Int) - m.nx else 0
def take (m : Rd) (n : Int) : Rd × List UInt8 :=
  if m.cd = 0 then
    if n < 0 ∨ (m.t.length : Int) - m.nx < n then (m.short, [])
    else ({ m with nx := m.nx + n.toNat }, (m.t.drop m.nx).take n.toNat)
  else (m, [])
def rest (m : Rd) : Rd × List UInt8 := m.take m.left
def peek (m : Rd) (n : Int) : List UInt8 := if m.cd = 0 then (m.t.drop m.nx).take n.toNat else []

theorem fail_t (m : Rd) (c p : Int) : (m.fail c p).t = m.t := by unfold fail; split <;> rfl
theorem fail_nx (m : Rd) (c p : Int) : (m.fail c p).nx = m.nx := by unfold fail; split <;> rfl
theorem fail_bs (m : Rd) (c p : Int) : (m.fail c p).bs = m.bs := by unfold fail; split <;> rfl
theorem Ok.fail {m : Rd} (h : m.Ok) (c p : Int) : (m.fail c p).Ok := by unfold Ok; rw [fail_t, fail_nx, fail_bs]; exact h
theorem fail_no (m : Rd) (c p : Int) (h : ¬ (m.cd = 0 ∧ c ≠ 0)) : m.fail c p = m := if_neg h
theorem fail_yes (m : Rd) (c p : Int) (h : m.cd = 0) (hc : c ≠ 0) : m.fail c p = { m with cd := c, pl := p } := if_pos ⟨h, hc⟩
end Rd

/-- block b holds the reader m -/
def InAt (T : TypeId) (w : World) (b : Nat) (m : Rd) : Prop :=
  w.heap[b]? = some (.cells #[.string ⟨m.t.toArray⟩, .int .i64 m.nx, .int .i64 m.bs, .int .i64 m.cd, .int .i64 m.pl] T (0, 0))

section
variable {T : TypeId} {w : World} {b : Nat} {m : Rd}
theorem cell_at {C : Array Value} {e : TypeId} {j : Nat} (h : w.heap[b]? = some (.cells C e (0, 0))) : w.cell? ⟨b, j, none⟩ = C[j]? := by simp [World.cell?, h]
theorem free_at {C : Array Value} {e : TypeId} {j : Nat} (h : w.heap[b]? = some (.cells C e (0, 0))) : w.frozen? ⟨b, j, none⟩ = false := by simp [World.frozen?, h]
theorem cells2 {v0 v1 : Value} {r : List Value} {e : TypeId} (h : w.heap[b]? = some (.cells (List.toArray (v0 :: v1 :: r)) e (0, 0))) : w.cell? ⟨b, 0, none⟩ = some v0 ∧ w.cell? ⟨b, 1, none⟩ = some v1 := ⟨(cell_at h).trans (by simp), (cell_at h).trans (by simp)⟩
theorem frees2 {C : Array Value} {e : TypeId} (h : w.heap[b]? = some (.cells C e (0, 0))) : w.frozen? ⟨b, 0, none⟩ = false ∧ w.frozen? ⟨b, 1, none⟩ = false := ⟨free_at h, free_at h⟩
theorem cells3 {v0 v1 v2 : Value} {r : List Value} {e : TypeId} (h : w.heap[b]? = some (.cells (List.toArray (v0 :: v1 :: v2 :: r)) e (0, 0))) : w.cell? ⟨b, 0, none⟩ = some v0 ∧ w.cell? ⟨b, 1, none⟩ = some v1 ∧ w.cell? ⟨b, 2, none⟩ = some v2 := ⟨(cell_at h).trans (by simp), (cell_at h).trans (by simp), (cell_at h).trans (by simp)⟩
theorem frees3 {C : Array Value} {e : TypeId} (h : w.heap[b]? = some (.cells C e (0, 0))) : w.frozen? ⟨b, 0, none⟩ = false ∧ w.frozen? ⟨b, 1, none⟩ = false ∧ w.frozen? ⟨b, 2, none⟩ = false := ⟨free_at h, free_at h, free_at h⟩
theorem cells4 {v0 v1 v2 v3 : Value} {r : List Value} {e : TypeId} (h : w.heap[b]? = some (.cells (List.toArray (v0 :: v1 :: v2 :: v3 :: r)) e (0, 0))) : w.cell? ⟨b, 0, none⟩ = some v0 ∧ w.cell? ⟨b, 1, none⟩ = some v1 ∧ w.cell? ⟨b, 2, none⟩ = some v2 ∧ w.cell? ⟨b, 3, none⟩ = some v3 := ⟨(cell_at h).trans (by simp), (cell_at h).trans (by simp), (cell_at h).trans (by simp), (cell_at h).trans (by simp)⟩
theorem frees4 {C : Array Value} {e : TypeId} (h : w.heap[b]? = some (.cells C e (0, 0))) : w.frozen? ⟨b, 0, none⟩ = false ∧ w.frozen? ⟨b, 1, none⟩ = false ∧ w.frozen? ⟨b, 2, none⟩ = false ∧ w.frozen? ⟨b, 3, none⟩ = false := ⟨free_at h, free_at h, free_at h, free_at h⟩
theorem cells5 {v0 v1 v2 v3 v4 : Value} {r : List Value} {e : TypeId} (h : w.heap[b]? = some (.cells (List.toArray (v0 :: v1 :: v2 :: v3 :: v4 :: r)) e (0, 0))) : w.cell? ⟨b, 0, none⟩ = some v0 ∧ w.cell? ⟨b, 1, none⟩ = some v1 ∧ w.cell? ⟨b, 2, none⟩ = some v2 ∧ w.cell? ⟨b, 3, none⟩ = some v3 ∧ w.cell? ⟨b, 4, none⟩ = some v4 := ⟨(cell_at h).trans (by simp), (cell_at h).trans (by simp), (cell_at h).trans (by simp), (cell_at h).trans (by simp), (cell_at h).trans (by simp)⟩
theorem frees5 {C : Array Value} {e : TypeId} (h : w.heap[b]? = some (.cells C e (0, 0))) : w.frozen? ⟨b, 0, none⟩ = false ∧ w.frozen? ⟨b, 1, none⟩ = false ∧ w.frozen? ⟨b, 2, none⟩ = false ∧ w.frozen? ⟨b, 3, none⟩ = false ∧ w.frozen? ⟨b, 4, none⟩ = false := ⟨free_at h, free_at h, free_at h, free_at h, free_at h⟩
theorem cells6 {v0 v1 v2 v3 v4 v5 : Value} {r : List Value} {e : TypeId} (h : w.heap[b]? = some (.cells (List.toArray (v0 :: v1 :: v2 :: v3 :: v4 :: v5 :: r)) e (0, 0))) : w.cell? ⟨b, 0, none⟩ = some v0 ∧ w.cell? ⟨b, 1, none⟩ = some v1 ∧ w.cell? ⟨b, 2, none⟩ = some v2 ∧ w.cell? ⟨b, 3, none⟩ = some v3 ∧ w.cell? ⟨b, 4, none⟩ = some v4 ∧ w.cell? ⟨b, 5, none⟩ = some v5 := ⟨(cell_at h).trans (by simp), (cell_at h).trans (by simp), (cell_at h).trans (by simp), (cell_at h).trans (by simp), (cell_at h).trans (by simp), (cell_at h).trans (by simp)⟩
theorem frees6 {C : Array Value} {e : TypeId} (h : w.heap[b]? = some (.cells C e (0, 0))) : w.frozen? ⟨b, 0, none⟩ = false ∧ w.frozen? ⟨b, 1, none⟩ = false ∧ w.frozen? ⟨b, 2, none⟩ = false ∧ w.frozen? ⟨b, 3, none⟩ = false ∧ w.frozen? ⟨b, 4, none⟩ = false ∧ w.frozen? ⟨b, 5, none⟩ = false := ⟨free_at h, free_at h, free_at h, free_at h, free_at h, free_at h⟩
theorem cells7 {v0 v1 v2 v3 v4 v5 v6 : Value} {r : List Value} {e : TypeId} (h : w.heap[b]? = some (.cells (List.toArray (v0 :: v1 :: v2 :: v3 :: v4 :: v5 :: v6 :: r)) e (0, 0))) : w.cell? ⟨b, 0, none⟩ = some v0 ∧ w.cell? ⟨b, 1, none⟩ = some v1 ∧ w.cell? ⟨b, 2, none⟩ = some v2 ∧ w.cell? ⟨b, 3, none⟩ = some v3 ∧ w.cell? ⟨b, 4, none⟩ = some v4 ∧ w.cell? ⟨b, 5, none⟩ = some v5 ∧ w.cell? ⟨b, 6, none⟩ = some v6 := ⟨(cell_at h).trans (by simp), (cell_at h).trans (by simp), (cell_at h).trans (by simp), (cell_at h).trans (by simp), (cell_at h).trans (by simp), (cell_at h).trans (by simp), (cell_at h).trans (by simp)⟩
theorem frees7 {C : Array Value} {e : TypeId} (h : w.heap[b]? = some (.cells C e (0, 0))) : w.frozen? ⟨b, 0, none⟩ = false ∧ w.frozen? ⟨b, 1, none⟩ = false ∧ w.frozen? ⟨b, 2, none⟩ = false ∧ w.frozen? ⟨b, 3, none⟩ = false ∧ w.frozen? ⟨b, 4, none⟩ = false ∧ w.frozen? ⟨b, 5, none⟩ = false ∧ w.frozen? ⟨b, 6, none⟩ = false := ⟨free_at h, free_at h, free_at h, free_at h, free_at h, free_at h, free_at h⟩
theorem InAt.lt (h : InAt T w b m) : b < w.heap.size := (Array.getElem?_eq_some_iff.1 h).1
theorem InAt.c0 (h : InAt T w b m) : w.cell? ⟨b, 0, none⟩ = some (.string ⟨m.t.toArray⟩) := cell_at h
theorem InAt.c1 (h : InAt T w b m) : w.cell? ⟨b, 1, none⟩ = some (.int .i64 m.nx) := cell_at h
theorem InAt.c2 (h : InAt T w b m) : w.cell? ⟨b, 2, none⟩ = some (.int .i64 m.bs) := cell_at h
theorem InAt.c3 (h : InAt T w b m) : w.cell? ⟨b, 3, none⟩ = some (.int .i64 m.cd) := cell_at h
theorem InAt.c4 (h : InAt T w b m) : w.cell? ⟨b, 4, none⟩ = some (.int .i64 m.pl) := cell_at h
theorem InAt.f (h : InAt T w b m) (j : Nat) : w.frozen? ⟨b, j, none⟩ = false := free_at h
theorem InAt.below {w' : World} (h : InAt T w b m) (hb : Below w.heap.size w w') : InAt T w' b m := (hb.block b h.lt).trans h
theorem InAt.drewN (h : InAt T w b m) (n : Nat) : InAt T (w.drewN n) b m := h
theorem InAt.drew (h : InAt T w b m) : InAt T w.drew b m := h
theorem InAt.cells (h : InAt T w b m) : w.cell? ⟨b, 0, none⟩ = some (.string ⟨m.t.toArray⟩) ∧ w.cell? ⟨b, 1, none⟩ = some (.int .i64 m.nx) ∧ w.cell? ⟨b, 2, none⟩ = some (.int .i64 m.bs) ∧
    w.cell? ⟨b, 3, none⟩ = some (.int .i64 m.cd) ∧ w.cell? ⟨b, 4, none⟩ = some (.int .i64 m.pl) ∧ w.frozen? ⟨b, 1, none⟩ = false ∧ w.frozen? ⟨b, 3, none⟩ = false ∧ w.frozen? ⟨b, 4, none⟩ = false :=
  ⟨h.c0, h.c1, h.c2, h.c3, h.c4, h.f 1, h.f 3, h.f 4⟩
end

theorem setCell_at {w : World} {b j : Nat} {C : Array Value} {e : TypeId} {v : Value} (h : w.heap[b]? = some (.cells C e (0, 0))) :
    (w.setCell ⟨b, j, none⟩ v).heap[b]? = some (.cells (C.setIfInBounds j v) e (0, 0)) := by
  simp [World.setCell, Array.getElem?_modify, h]
theorem InAt.set1 {T : TypeId} {w : World} {b : Nat} {m : Rd} (h : InAt T w b m) (n : Nat) : InAt T (w.setCell ⟨b, 1, none⟩ (.int .i64 n)) b { m with nx := n } := setCell_at h
theorem InAt.set34 {T : TypeId} {w : World} {b : Nat} {m : Rd} (h : InAt T w b m) (c p : Int) : InAt T ((w.setCell ⟨b, 3, none⟩ (.int .i64 c)).setCell ⟨b, 4, none⟩ (.int .i64 p)) b { m with cd := c, pl := p } :=
  setCell_at (setCell_at h)

/-- 'only block b has turned, and new blocks have come' -/
def Only (b : Nat) (w w' : World) : Prop := w.grownBy w' (some b)
theorem Only.refl (b : Nat) (w : World) : Only b w w := ⟨rfl, rfl, rfl, Nat.le_refl _, fun _ _ _ => rfl⟩
theorem Only.trans {b : Nat} {u v w : World} (h : Only b u v) (k : Only b v w) : Only b u w :=
  ⟨k.os.trans h.os, k.tape.trans h.tape, k.output.trans h.output, Nat.le_trans h.size k.size, fun j hj hne => (k.block j (Nat.lt_of_lt_of_le hj h.size) hne).trans (h.block j hj hne)⟩
theorem Only.of_below {b : Nat} {w w' : World} (h : Below w.heap.size w w') : Only b w w' := ⟨h.os, h.tape, h.output, h.size, fun k hk _ => h.block k hk⟩
theorem Only.drewN {b : Nat} {w w' : World} (h : Only b w w') (n : Nat) : Only b w (w'.drewN n) := ⟨h.os, h.tape, h.output, h.size, h.block⟩
theorem Only.drew {b : Nat} {w w' : World} (h : Only b w w') : Only b w w'.drew := ⟨h.os, h.tape, h.output, h.size, h.block⟩
theorem Only.set {b j : Nat} {w : World} (v : Value) : Only b w (w.setCell ⟨b, j, none⟩ v) :=
  ⟨rfl, rfl, rfl, by simp [World.setCell], fun k hk hne => Below.heap_setCell w _ v k (by intro e; exact hne (by rw [e]))⟩
theorem Only.below {b B : Nat} {w w' : World} (h : Only b w w') (hb : B ≤ b) (hB : B ≤ w.heap.size) : Below B w w' :=
  ⟨h.os, h.tape, h.output, h.size, fun k hk => h.block k (by omega) (by intro e; have := Option.some.inj e; omega)⟩
theorem InAt.only {T : TypeId} {w w' : World} {b c : Nat} {m : Rd} (h : InAt T w b m) (k : Only c w w') (hne : b ≠ c) : InAt T w' b m := (k.block b h.lt (by intro e; exact hne (Option.some.inj e))).trans h
theorem bcell {W w1 : World} (hb : Below W.heap.size W w1) : (∀ b o, b < W.heap.size → w1.cell? ⟨b, o, none⟩ = W.cell? ⟨b, o, none⟩) ∧ (∀ b o, b < W.heap.size → w1.frozen? ⟨b, o, none⟩ = W.frozen? ⟨b, o, none⟩) :=
  ⟨fun b o h => hb.cell (p := ⟨b, o, none⟩) h, fun b o h => hb.frozen (p := ⟨b, o, none⟩) h⟩
theorem onlyB {w W W' : World} {b : Nat} (h : Below w.heap.size w W) (k : Only b W W') (hb : w.heap.size ≤ b) : Below w.heap.size w W' := h.trans (k.below hb h.size)
end Go.Proofs.YtndpcphmndfajaaGreatDoor
