/- Layer 3 (wide): a unit, walked. -/
import Derived.Test.YtffhmjlojmoomaaGreatDoorZU25

namespace Go.Proofs.YtffhmjlojmoomaaGreatDoor
open Go.RowKit
set_option linter.unusedVariables false
set_option linter.unusedSimpArgs false

def unitS (x y : Nat) (big : Bool) : Nat := if big = true then x * 256 + y else y * 256 + x
theorem or_u16 (x y : Nat) (hx : x < 256) (hy : y < 256) : bits BinOp.or IntKind.i32 ((x : Int) * 256) (y : Int) = ((x * 256 + y : Nat) : Int) := by
  have h1 := i32_or_nat (x * 256) y (by omega) (by omega)
  rw [nat_join 8 (x * 256) y (by omega) (by omega)] at h1
  simpa using h1
set_option maxHeartbeats 4000000 in
set_option maxRecDepth 100000 in
theorem unit_any (b : List UInt8) (at' q : Nat) (big : Bool) (hq : q = at' + 1) (ha : at' < b.length) (h : q < b.length) (h9 : b.length ≤ 1000000) (w : World) : Calls Tryz.prog 101 #[.string ⟨b.toArray⟩, .int .i64 at', .bool big] w fun e w' => e = .returned (.int .i32 (unitS (b[at']'ha).toNat (b[q]'h).toNat big : Nat)) ∧ ∃ n, w' = w.drewN n := by
  have hx := UInt8.toNat_lt b[at']
  have hy := UInt8.toNat_lt b[q]
  have o1 := or_u16 b[at'].toNat b[q].toNat hx hy
  have o2 := or_u16 b[q].toNat b[at'].toNat hy hx
  have i0 : (at' : Int) < b.length := by omega
  have i1 : (q : Int) < b.length := by omega
  have hwr : (at' : Int) + 1 = (q : Int) := by omega
  have q9 : (q : Int) ≤ 1000000 := by omega
  have HU1 : Hid (unitS b[at'].toNat b[q].toNat true = b[at'].toNat * 256 + b[q].toNat) := Lib.hid rfl
  have HU2 : Hid (unitS b[at'].toNat b[q].toNat false = b[q].toNat * 256 + b[at'].toNat) := Lib.hid rfl
  have W : Hid (∀ z : Int, 0 ≤ z → z < 2147483648 → wrap32 z = z) := Lib.hid (fun z h0 h1 => by
    first
      | (unfold wrap32; omega)
      | (simp only [wrap32, IntKind.wrap, IntKind.bits, IntKind.signed]; simp; omega))
  have HX := Lib.hid (And.intro hx hy)
  have HO := Lib.hid (And.intro o1 o2)
  clear h9 hx hy hq o1 o2
  go_enter Tryz.func101, Tryz.ntmps101
  rcases big with _ | _
  · go_wp2
    go_quiet (fail)
    go_wp2
    go_ret
    rw [HU2.out, ← HO.out.2]
    obtain ⟨hx, hy⟩ := HX.out
    refine ⟨?_, _, rfl⟩
    show Ending.returned (.int .i32 (bits BinOp.or IntKind.i32 (wrap32 (wrap32 (b[q].toNat : Int) * 256)) (wrap32 (b[at'].toNat : Int)))) = _
    rw [W.out (b[q].toNat : Int) (by omega) (by omega), W.out (b[at'].toNat : Int) (by omega) (by omega), W.out _ (by omega) (by omega)]
  · go_wp2
    go_quiet (fail)
    go_wp2
    go_ret
    rw [HU1.out, ← HO.out.1]
    obtain ⟨hx, hy⟩ := HX.out
    refine ⟨?_, _, rfl⟩
    show Ending.returned (.int .i32 (bits BinOp.or IntKind.i32 (wrap32 (wrap32 (b[at'].toNat : Int) * 256)) (wrap32 (b[q].toNat : Int)))) = _
    rw [W.out (b[at'].toNat : Int) (by omega) (by omega), W.out (b[q].toNat : Int) (by omega) (by omega), W.out _ (by omega) (by omega)]
end Go.Proofs.YtffhmjlojmoomaaGreatDoor
