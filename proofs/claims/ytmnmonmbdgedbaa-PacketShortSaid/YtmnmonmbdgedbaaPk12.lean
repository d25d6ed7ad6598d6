/- Layer 18 (packet): the law's made packets, walked; slices of numbers of two bytes that come in. -/
import Derived.Test.YtmnmonmbdgedbaaPk5
import Derived.ChangeSlices
namespace Go.Proofs.Ytmnmonmbdgedbaa
open Go.RowKit Go.ChangeShapes Go.WideShapes
set_option linter.unusedVariables false
set_option linter.unusedSimpArgs false

def U16At (w : World) (a : Option Addr) (n : Nat) (L : List Nat) : Prop :=
  L.length = n ∧ (∀ x ∈ L, x < 65536) ∧ (n = 0 ∨ ∃ b off, a = some ⟨b, off, none⟩ ∧ b < w.heap.size ∧ ∀ i (h : i < L.length), w.cell? ⟨b, off + i, none⟩ = some (.int .u16 (L[i] : Nat)))
theorem U16At.below {w w' : World} {a : Option Addr} {n : Nat} {L : List Nat} (h : U16At w a n L) (hb : Below w.heap.size w w') : U16At w' a n L := by
  refine ⟨h.1, h.2.1, ?_⟩
  rcases h.2.2 with h0 | ⟨b, off, rfl, hlt, hc⟩
  · exact .inl h0
  · exact .inr ⟨b, off, rfl, Nat.lt_of_lt_of_le hlt hb.size, fun i h => by rw [hb.cell (by exact hlt)]; exact hc i h⟩
section
variable {H : Type} {enc : TypeId × Value → H} {w : World} {base : Nat} {spare : Nat → Bool} {held : Bool} {v : Value} {d : DataW H} {p : List MemPlace} {r : Reach} {b0 : Nat}
def U16In (w : World) (v : Value) : Prop := ∃ (a : Option Addr) (n cap : Nat) (L : List Nat), v = .slice a n cap ∧ U16At w a n L ∧ n ≤ cap ∧ n ≤ maxLen
set_option maxRecDepth 100000 in
theorem open_u16s (hv : Value.okWide Try.prog w r b0 76 v) (h : DataW.Trod enc Try.prog w base spare held 76 v d p) : U16In w v := by
  obtain ⟨sa, sl, sc, rfl⟩ := okWide_slice Try.underlying76 hv
  obtain ⟨fuel, hf⟩ := h
  have hlt := DataW.trod_lt _ _ _ _ hf
  rcases Go.ChangeShapes.open_ints Try.underlying76 Try.underlying84 (by kernel_rfl) hf with ⟨hc, hx⟩ | ⟨a, len, cap, zs, hc, hb, hl, hcap, hzs, hx, hi, hwf⟩
  · obtain ⟨rfl, rfl, rfl⟩ : sa = none ∧ sl = 0 ∧ sc = 0 := by simpa [Value.cells] using hc
    exact ⟨none, 0, 0, [], rfl, ⟨rfl, by simp, .inl rfl⟩, Nat.le_refl _, by decide⟩
  · obtain ⟨rfl, rfl, rfl⟩ : sa = some a ∧ sl = len ∧ sc = cap := by simpa [Value.cells] using hc
    have hlm : sl ≤ zs.length := by rw [hzs]; split <;> omega
    have hz : ∀ x ∈ zs, 0 ≤ x ∧ x < 65536 := by
      intro x hx
      have h1 := hwf x hx
      simp [Lit.wf, IntKind.min, IntKind.max, IntKind.bits, IntKind.signed] at h1
      omega
    refine ⟨some a, sl, sc, (zs.take sl).map Int.toNat, rfl, ⟨by simp; omega, ?_, ?_⟩, hl, by omega⟩
    · intro x hx
      obtain ⟨y, hy, rfl⟩ := List.mem_map.1 hx
      have := hz y (List.mem_of_mem_take hy)
      omega
    · by_cases h0 : sl = 0
      · exact .inl h0
      right
      have hzb : a.block < w.heap.size := by
        refine hlt (.cell a.block (a.off + 0)) ?_
        rw [hx]
        exact MemPlace.mem_row.2 ⟨0, by omega, rfl⟩
      obtain ⟨b, off, spot⟩ := a
      have hspot : spot = none := by simpa [Addr.add] using World.cell?_spot (hi 0 (by omega))
      subst hspot
      refine ⟨b, off, rfl, hzb, ?_⟩
      intro i h
      have hil : i < sl := by simp at h; omega
      have hc := hi i (by omega)
      rw [Go.WideShapes.add_plain] at hc
      rw [hc]
      have hi2 : i < zs.length := by omega
      have h3 := hz zs[i] (List.getElem_mem hi2)
      simp [List.getD_eq_getElem?_getD, hi2]
      omega
end
/-- packets that tell which they are -/
def madeT (j k : Nat) : List UInt8 := (List.range k).map (fun x => UInt8.ofNat (j + x / 255))
def madeB (j n : Nat) : List UInt8 := madeT j (n % 9000)
def madeS (L : List Nat) : List (List UInt8) := (List.range L.length).map (fun i => madeB i (L.getD i 0))
theorem madeT_len (j k : Nat) : (madeT j k).length = k := by simp [madeT]
theorem madeT_succ (j k : Nat) : madeT j (k + 1) = madeT j k ++ [UInt8.ofNat (j + k / 255)] := by simp [madeT, List.range_succ]
theorem madeB_len (j n : Nat) : (madeB j n).length = n % 9000 := madeT_len _ _
theorem madeS_len (L : List Nat) : (madeS L).length = L.length := by simp [madeS]
theorem madeS_get (L : List Nat) (i : Nat) (h : i < L.length) : (madeS L)[i]'(by rw [madeS_len]; exact h) = madeB i L[i] := by
  simp [madeS, List.getD_eq_getElem?_getD, h]
theorem madeS_bound (L : List Nat) : ∀ p ∈ madeS L, p.length ≤ 8999 := by
  intro p hp
  simp only [madeS, List.mem_map] at hp
  obtain ⟨i, _, rfl⟩ := hp
  rw [madeB_len]
  omega
set_option maxHeartbeats 2000000 in
set_option maxRecDepth 100000 in
theorem pmade_any (a : Option Addr) (n cap : Nat) (L : List Nat) (w : World) (hs : Hid (U16At w a n L)) (hn : n ≤ 1000) :
    Calls Try.prog 40 #[.slice a n cap] w fun e w' => ∃ u, e = .returned u ∧ Recs w' w.heap.size 9 1 u ((madeS L).map strR) ∧ Below w.heap.size w w' := by
  obtain ⟨i0, hi, hz0, hz1, hz2⟩ := info_parts info_u8'
  have HL : Hid (L.length = n) := Lib.hid hs.out.1
  have hni : (n : Int) ≤ 1000 := by omega
  go_enter Try.func40, Try.ntmps40
  go_wp2
  go_loopw [3, 10] (fun u i wr => ∃ (j : Nat), j ≤ n ∧ i = .int .i64 j ∧ Hid (Recs wr w.heap.size 9 1 u (((madeS L).take j).map strR)) ∧ Hid (Below w.heap.size w wr)) (fun _ i _ => n - (intOf i).toNat)
  case atStart => exact ⟨0, by omega, rfl, Lib.hid (Recs.nil _ _ _ _), Lib.hid (Below.refl _ _)⟩
  case round =>
    obtain ⟨j, hj, rfl, V, K⟩ := hrel
    have S := Lib.hid (hs.out.below K.out)
    by_cases hlt : j < n
    · have g0 : (j : Int) < n := by omega
      have hjl : j < L.length := by rw [HL.out]; exact hlt
      obtain ⟨b, off, rfl, hbb, hc⟩ : ∃ b off, a = some ⟨b, off, none⟩ ∧ b < wr.heap.size ∧ wr.cell? ⟨b, off + j, none⟩ = some (.int .u16 (L[j] : Nat)) := by
        rcases S.out.2.2 with h0 | ⟨b, off, ha, hb, hc⟩
        · omega
        · exact ⟨b, off, ha, hb, hc j hjl⟩
      have hx := hs.out.2.1 L[j] (List.getElem_mem hjl)
      have HV := Lib.hid (show ((madeS L).take (j + 1)).map strR = ((madeS L).take j).map strR ++ [strR (madeT j (L[j] % 9000))] by rw [List.take_succ_eq_append_getElem (by rw [madeS_len]; exact hjl), List.map_append, madeS_get L j hjl]; rfl)
      have HL1 : Hid ((((madeS L).take j).map strR).length = j) := Lib.hid (by simp [madeS_len]; omega)
      obtain ⟨m, hm⟩ : ∃ m, m = L[j] % 9000 := ⟨_, rfl⟩
      have hmi : ((L[j] : Nat) : Int) % 9000 = (m : Int) := by omega
      have hm9 : m < 9000 := by omega
      rw [← hm] at HV
      generalize L[j] = z at *
      clear hm
      have hks := K.out.size
      go_upto_region 6 with (at_make; refine wpList_make_full _ rfl _ _ 97 rfl wr.heap.size 5 i0 (.int .u8 0) 1 Try.underlying97 hi hz0 hz1 _ _ _ _ m rfl rfl rfl rfl (by rw [hz2]; omega) (by unfold maxLen; omega) (Nat.le_refl _) ?_; intro w1 hown hgrow; rw [Nat.mul_one] at hown; have B := Lib.hid (Buf.zeros hown); have KG := Lib.hid ((Below.refl wr.heap.size wr).grown hgrow (Nat.le_refl _) (by intro k hk; cases hk)); clear hown hgrow)
      have hvp : Hid (∀ k, u3.ownBlock = some k → k < wr.heap.size) := Lib.hid (fun k e => (V.out.lt k e).2)
      have V1 := Lib.hid (V.out.below KG.out)
      have K1 := Lib.hid (nextB K.out KG.out)
      clear KG hc V K S
      generalize wr.heap.size = bb at *
      clear hmi
      go_wp2
      go_loopw [21] (fun i wx => ∃ k : Nat, k ≤ m ∧ i = .int .i64 k ∧ Hid (Buf wx bb 5 (.slice (some ⟨bb, 0, none⟩) m m) (madeT j k ++ List.replicate (m - k) 0)) ∧ Hid (Recs wx w.heap.size 9 1 u3 (((madeS L).take j).map strR)) ∧ Hid (Below w.heap.size w wx)) (fun i _ => m - (intOf i).toNat)
      case atStart => exact ⟨0, Nat.zero_le _, rfl, B, V1, K1⟩
      case round =>
        clear B V1 K1
        obtain ⟨k, hk, rfl, B, V, K⟩ := hrel
        by_cases hkm : k < m
        · have g1 : (k : Int) < m := by omega
          obtain ⟨u, hu⟩ := B.out.has k (by rw [List.length_append, madeT_len, List.length_replicate]; omega)
          have hf := B.out.free k
          have hst := (B.out.stored k (UInt8.ofNat (j + k / 255))).1
          have e1 : (madeT j k ++ List.replicate (m - k) 0).set k (UInt8.ofNat (j + k / 255)) = madeT j (k + 1) ++ List.replicate (m - (k + 1)) 0 := by
            have h := set_mid (madeT j k) m (0 : UInt8) (UInt8.ofNat (j + k / 255)) (by rw [madeT_len]; exact hkm)
            rw [madeT_len] at h
            rw [madeT_succ]
            exact h
          rw [e1, u8_mod] at hst
          have e2 : (((j + k / 255 : Nat) : Int)) = (j : Int) + (k : Int) / 255 := by omega
          rw [e2] at hst
          have B2 := Lib.hid hst
          clear hst e1 e2
          go_wp2
          refine ⟨⟨k + 1, by omega, by simp, B2, Lib.hid (V.out.kept (row := some bb) (Only.set _) (.inr (fun e => Nat.lt_irrefl _ (hvp.out bb e)))), Lib.hid (K.out.setCell hks _)⟩, by simp [intOf]; omega⟩
        · have g1 : ¬ (k : Int) < m := by omega
          have hkk : k = m := by omega
          have B2 := B.out
          rw [hkk, Nat.sub_self, List.replicate_zero, List.append_nil] at B2
          have hlm : (madeT j m).length = m := madeT_len j m
          have hcv := ownsRow_bytes (P := Try.prog) (src := 97) (dst := 9) (show World.ownsRow _ _ _ _ _ _ _ from B2) Try.underlying97 Try.underlying5 Try.underlying9
          clear B2 hkk hlm
          have hws := K.out.size
          go_wp2_with (at_builtin; refine wpList_pushR wr rfl (.tmp 33) (.tmp 36) 67 rfl w.heap.size 9 1 16 _ Try.underlying67 info_strs rfl (by decide) (by decide) _ (((madeS L).take j).map strR) (strR (madeT j m)) _ (by rfl) rfl (one_strR _) (by rfl) V.out (by rfl) (by rw [HL1.out]; omega) (by omega) _ ?_; intro v5 w5 hr5 hg5; have hl5 := V.out.lt; have V5 := Lib.hid hr5; have K5 := Lib.hid (pk_grown K.out hg5 (fun k e => (hl5 k e).1) (by omega)); clear hl5 hr5 hg5)
          exact ⟨⟨j + 1, by omega, by simp, Lib.hid (by rw [HV.out]; exact V5.out), K5⟩, by simp [intOf]; omega⟩
    · have g0 : ¬ (j : Int) < n := by omega
      have hf : (madeS L).take j = madeS L := List.take_of_length_le (by rw [madeS_len, HL.out]; omega)
      rw [hf] at V
      go_wp2
      go_ret
      exact ⟨_, rfl, V.out, K.out⟩
end Go.Proofs.Ytmnmonmbdgedbaa
