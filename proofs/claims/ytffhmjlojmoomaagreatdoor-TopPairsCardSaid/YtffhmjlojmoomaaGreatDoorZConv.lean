/- Bytes of a text and back: '[]byte(text)', one byte turned, 'string(bytes)'. -/
import Derived.Test.YtffhmjlojmoomaaGreatDoorZLow
import Derived.Deep.DeepCutAuto
import Derived.Lib.ConvBytes
import Derived.Laws.IdiomStrings

namespace Go.Proofs.YtffhmjlojmoomaaGreatDoor
open Go.RowKit

theorem u8_xor (a b : UInt8) : bits .xor .u8 (a.toNat : Int) (b.toNat : Int) = ((a ^^^ b).toNat : Int) := by
  have h := UInt8.toNat_lt (a ^^^ b)
  have ha := UInt8.toNat_lt a
  have hb := UInt8.toNat_lt b
  have e : (BitVec.ofInt IntKind.u8.bits (a.toNat : Int) ^^^ BitVec.ofInt IntKind.u8.bits (b.toNat : Int)).toNat = (a ^^^ b).toNat := by
    rw [BitVec.toNat_xor, UInt8.toNat_xor]
    show (BitVec.ofInt 8 (a.toNat : Int)).toNat ^^^ (BitVec.ofInt 8 (b.toNat : Int)).toNat = _
    rw [BitVec.ofInt_natCast, BitVec.ofInt_natCast, BitVec.toNat_ofNat, BitVec.toNat_ofNat, Nat.mod_eq_of_lt ha, Nat.mod_eq_of_lt hb]
  simp only [bits, e]
  generalize (a ^^^ b).toNat = z at *
  simp only [IntKind.wrap, IntKind.bits, IntKind.signed]
  simp
  omega
theorem conv_bytes {P : Program} (w : World) (src dst e : TypeId) (l : List UInt8) (hs : P.underlying src = some .string) (hd : P.underlying dst = some (.slice e)) (he : P.underlying e = some (.int .u8)) :
    (convert src dst (.string ⟨l.toArray⟩)).run P w = .ok (.slice (some ⟨w.heap.size, 0, none⟩) l.length (grownCap w l.length 0 e)) (Lib.bytesWorld w e ⟨l.toArray⟩) := Lib.run_convert_string_bytes w src dst e ⟨l.toArray⟩ hs hd he
/-- the world behind '[]byte(text)' -/
theorem conv_facts (w : World) (e : TypeId) (l : List UInt8) : Below w.heap.size w (Lib.bytesWorld w e ⟨l.toArray⟩) ∧ (Lib.bytesWorld w e ⟨l.toArray⟩).heap.size = w.heap.size + 1 ∧
    ∀ j (h : j < l.length), (Lib.bytesWorld w e ⟨l.toArray⟩).cell? ⟨w.heap.size, j, none⟩ = some (.int .u8 (l[j].toNat : Int)) ∧ (Lib.bytesWorld w e ⟨l.toArray⟩).frozen? ⟨w.heap.size, j, none⟩ = false := by
  refine ⟨⟨rfl, rfl, rfl, ?_, fun k hk => Lib.bytesWorld_at_old w e _ k hk⟩, Lib.bytesWorld_size w e _, fun j h => ⟨?_, ?_⟩⟩
  · rw [Lib.bytesWorld_size]; omega
  · rw [Lib.bytesWorld_cell w e _ j (by simpa [ByteArray.size] using h)]
    simp [List.getD_eq_getElem?_getD, h]
  · have h1 := Lib.bytesWorld_at_new w e ⟨l.toArray⟩
    have h2 : j < (Lib.bytesCells w e ⟨l.toArray⟩).size := by simp [Lib.bytesCells]; omega
    simp [World.frozen?, h1]
    omega

theorem conv_back {P : Program} (V : World) (b : Nat) (l : List UInt8) (hc : ∀ j (h : j < l.length), V.cell? ⟨b, j, none⟩ = some (.int .u8 (l[j].toNat : Int))) (i : Nat) (hi : i < l.length) (d : UInt8) (src dst e : TypeId) (cap : Nat)
    (hs : P.underlying src = some (.slice e)) (he : P.underlying e = some (.int .u8)) (hd : P.underlying dst = some .string) (hb : b < V.heap.size) :
    ∀ w5, Below (V.setCell ⟨b, i, none⟩ (.int .u8 (d.toNat : Int))).heap.size (V.setCell ⟨b, i, none⟩ (.int .u8 (d.toNat : Int))) w5 → (convert src dst (.slice (some ⟨b, 0, none⟩) l.length cap)).run P w5 = .ok (.string ⟨(l.set i d).toArray⟩) w5 := by
  intro w5 h5
  have h := run_convert_bytes_back (P := P) w5 src dst e ⟨b, 0, none⟩ cap (l.set i d) hs he hd (by
    intro j hj
    rw [List.length_set] at hj
    rw [Addr.add_lit, Nat.zero_add, h5.cell (by simpa using hb)]
    by_cases hij : i = j
    · subst hij
      rw [World.cell?_setCell_same _ _ _ (hc i hi)]
      simp
    · rw [World.cell?_setCell_other _ _ _ _ (by intro e; injection e with _ e2; exact hij e2), hc j hj]
      simp [hij])
  rw [List.length_set] at h
  exact h
end Go.Proofs.YtffhmjlojmoomaaGreatDoor
