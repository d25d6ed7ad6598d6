/- Layer 3 (wide): units put behind bytes, walked. -/
import Derived.Test.YtffhmjlojmoomaaGreatDoorZV2
import Derived.Test.YtffhmjlojmoomaaGreatDoorZM1

namespace Go.Proofs.YtffhmjlojmoomaaGreatDoor
open Go.RowKit
set_option linter.unusedVariables false
set_option linter.unusedSimpArgs false

/-- a unit as two bytes -/
def uB (big : Bool) (u : Nat) : List UInt8 := if big = true then [UInt8.ofNat (u / 256), UInt8.ofNat (u % 256)] else [UInt8.ofNat (u % 256), UInt8.ofNat (u / 256)]
def uBs (big : Bool) (us : List Nat) : List UInt8 := (us.map (uB big)).flatten
theorem uB_len (big : Bool) (u : Nat) : (uB big u).length = 2 := by unfold uB; split <;> rfl
theorem uBs_len (big : Bool) : ∀ us : List Nat, (uBs big us).length = 2 * us.length
  | [] => rfl
  | u :: us => by
    have := uBs_len big us
    show (uB big u ++ uBs big us).length = _
    rw [List.length_append, uB_len, this, List.length_cons]
    omega
theorem uBs_snoc (big : Bool) (us : List Nat) (u : Nat) : uBs big (us ++ [u]) = uBs big us ++ uB big u := by simp [uBs]
/-- what stays while bytes are put behind bytes of the call's own: all that is older, and whatever isn't a row of bytes -/
def KeepB (B : Nat) (w w' : World) : Prop := Below B w w' ∧ ∀ (k : Nat) (o : Obj), w.heap[k]? = some o → (∀ C q, o ≠ .cells C 5 q) → w'.heap[k]? = some o
theorem KeepB.refl (B : Nat) (w : World) : KeepB B w w := ⟨Below.refl _ _, fun k o h _ => h⟩
theorem KeepB.trans {B : Nat} {w w' w'' : World} (h : KeepB B w w') (g : KeepB B w' w'') : KeepB B w w'' := ⟨h.1.trans g.1, fun k o hk ho => g.2 k o (h.2 k o hk ho) ho⟩
theorem Buf.ne {w : World} {B e : Nat} {v : Value} {l : List UInt8} (h : Buf w B e v l) {k : Nat} {o : Obj} (hk : w.heap[k]? = some o) (ho : ∀ C q, o ≠ .cells C e q) : v.ownBlock ≠ some k := by
  rcases h.2 with ⟨rfl, _⟩ | ⟨g, cap, cur, rfl, hb, hg, rest⟩
  · simp [Value.ownBlock]
  · intro e
    simp only [Value.ownBlock, Option.some.injEq] at e
    subst e
    rw [hk] at hg
    exact ho _ _ (Option.some.inj hg)
theorem KeepB.grown {B : Nat} {w w' w'' : World} {v : Value} {l : List UInt8} (h : KeepB B w w') (hb : Buf w' B 5 v l) (hB : B ≤ w'.heap.size) (hg : w'.grownBy w'' v.ownBlock) : KeepB B w w'' :=
  h.trans ⟨pk_grown (Below.refl _ _) hg (fun k e => (hb.lt k e).1) hB, fun k o hk ho => (hg.block k (Array.getElem?_eq_some_iff.1 hk).1 (fun e => hb.ne hk ho e.symm)).trans hk⟩
theorem u8_nat {x : Nat} (h : x < 256) : ((UInt8.ofNat x).toNat : Int) = (x : Int) := by rw [UInt8.toNat_ofNat', Nat.mod_eq_of_lt (by omega)]
set_option maxHeartbeats 4000000 in
set_option maxRecDepth 100000 in
theorem wjoin_any {B : Nat} {v : Value} {l : List UInt8} (big : Bool) (us : List Nat) (hu : Hid (∀ u ∈ us, u < 65536)) (w : World) (hb : Hid (Buf w B 5 v l)) (hl : l.length ≤ 1000000000) (hB : B ≤ w.heap.size) (ub T n : Nat) (hU : Hid (w.heap[ub]? = some (.cells (us.map (fun u => Value.int .i32 (u : Nat))).toArray T (0, 0)))) (hT : Hid (T ≠ 5)) (hn : us.length = n) (hn9 : n ≤ 1000) :
    Calls Tryz.prog 54 #[v, .bool big, .slice (some ⟨ub, 0, none⟩) n n] w fun e w' => ∃ v', e = .returned v' ∧ Buf w' B 5 v' (l ++ uBs big us) ∧ KeepB B w w' := by
  have hni : (n : Int) ≤ 1000 := by omega
  have HN := Lib.hid hn
  clear hn
  have HO : Hid (∀ C q, (Obj.cells (us.map (fun u => Value.int .i32 (u : Nat))).toArray T (0, 0)) ≠ .cells C 5 q) := Lib.hid (fun C q e => by
    injection e with e1 e2
    exact hT.out e2)
  go_enter Tryz.func54, Tryz.ntmps54
  go_wp2
  go_loopw [0, 11] (fun v i wr => ∃ k : Nat, k ≤ n ∧ i = .int .i64 k ∧ Hid (Buf wr B 5 v (l ++ uBs big (us.take k))) ∧ Hid (KeepB B w wr)) (fun _ i _ => n - (intOf i).toNat)
  case atStart => exact ⟨0, by omega, rfl, Lib.hid (by rw [List.take_zero]; simpa [uBs] using hb.out), Lib.hid (KeepB.refl _ _)⟩
  case round =>
    obtain ⟨k, hk, rfl, V, K⟩ := hrel
    by_cases hlt : k < n
    · have g0 : (k : Int) < n := by omega
      have hkl : k < us.length := by rw [HN.out]; exact hlt
      have hTK : us.take (k + 1) = us.take k ++ [us[k]] := List.take_succ_eq_append_getElem hkl
      have hul := hu.out us[k] (List.getElem_mem hkl)
      have x0 : wr.cell? ⟨ub, k, none⟩ = some (.int .i32 (us[k] : Nat)) := by
        rw [cell_at (K.out.2 _ _ hU.out HO.out)]
        simp [hkl]
      have HTK := Lib.hid hTK
      have HLN : Hid ((l ++ uBs big (us.take k)).length ≤ 1000002000) := Lib.hid (by
        rw [List.length_append, uBs_len, List.length_take]
        omega)
      generalize us[k] = u at *
      clear hTK hkl
      have H0 : Hid (((UInt8.ofNat (u / 256)).toNat : Int) = (u : Int) / 256 % 256) := Lib.hid (by rw [u8_nat (by omega)]; omega)
      have H1 : Hid (((UInt8.ofNat (u % 256)).toNat : Int) = (u : Int) % 256) := Lib.hid (by rw [u8_nat (by omega)]; omega)
      have hwb : B ≤ wr.heap.size := Nat.le_trans hB K.out.1.size
      clear hul
      rcases big with _ | _
      · go_upto_region 6 with (fail)
        generalize wr = w9 at *
        go_wp2_with (at_builtin; refine wpList_pushB2 w9 rfl (.tmp 24) (.tmp 30) 35 rfl B 5 Tryz.underlying35 info_u8' _ (l ++ uBs false (us.take k)) (UInt8.ofNat (u % 256)) (UInt8.ofNat (u / 256)) _ _ (by rw [H1.out]) (by rw [H0.out]) (by rfl) V.out (by rfl) (by have := HLN.out; omega) hwb _ ?_; intro v5 w5 hr5 hg5; have V5 := Lib.hid hr5; have HG5 := Lib.hid hg5; clear hr5 hg5)
        refine ⟨⟨k + 1, by omega, by simp, Lib.hid ?_, Lib.hid (K.out.grown V.out hwb HG5.out)⟩, by simp [intOf]; omega⟩
        rw [HTK.out, uBs_snoc, ← List.append_assoc]
        exact V5.out
      · go_upto_region 5 with (fail)
        generalize wr = w9 at *
        go_wp2_with (at_builtin; refine wpList_pushB2 w9 rfl (.tmp 16) (.tmp 22) 35 rfl B 5 Tryz.underlying35 info_u8' _ (l ++ uBs true (us.take k)) (UInt8.ofNat (u / 256)) (UInt8.ofNat (u % 256)) _ _ (by rw [H0.out]) (by rw [H1.out]) (by rfl) V.out (by rfl) (by have := HLN.out; omega) hwb _ ?_; intro v5 w5 hr5 hg5; have V5 := Lib.hid hr5; have HG5 := Lib.hid hg5; clear hr5 hg5)
        refine ⟨⟨k + 1, by omega, by simp, Lib.hid ?_, Lib.hid (K.out.grown V.out hwb HG5.out)⟩, by simp [intOf]; omega⟩
        rw [HTK.out, uBs_snoc, ← List.append_assoc]
        exact V5.out
    · have g0 : ¬ (k : Int) < n := by omega
      have hd0 : us.take k = us := List.take_of_length_le (by rw [HN.out]; omega)
      rw [hd0] at V
      clear hd0
      go_wp2
      go_ret
      exact ⟨_, rfl, V.out, K.out⟩
end Go.Proofs.YtffhmjlojmoomaaGreatDoor
