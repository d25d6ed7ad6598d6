/- Layer 3 (wide): 'append(b, x, y)' and 'append(b, s...)' of bytes; the sign at a place, walked. -/
import Derived.Test.YtffhmjlojmoomaaGreatDoorZV1
import Derived.Lib.AppendStr

namespace Go.Proofs.YtffhmjlojmoomaaGreatDoor
open Go.RowKit
set_option linter.unusedVariables false
set_option linter.unusedSimpArgs false

/-- 'b = append(b, x, y)' -/
theorem wpList_pushB2 {P : Program} (wr : World) {ops : Array Oper} {rest : List Oper} {o : Oper} {a : Act} {Q : Exit → Act → World → Prop} (hgd : o.guard = none) (s x : Operand) (t : TypeId)
    (ho : o.op = .call { callee := .builtin .append, args := #[s, x], argTypes := #[t, t] })
    (base e : Nat) (ht : P.underlying t = some (.slice e)) (hinfo : (P.info? e).map (fun i => (i.zero, i.size, i.bytes)) = some (some (.int .u8 0), 1, 1))
    (v : Value) (l : List UInt8) (c d : UInt8) (u0 u1 : Value) (hu0 : u0 = .int .u8 (c.toNat : Int)) (hu1 : u1 = .int .u8 (d.toNat : Int)) (hs : a.eval s = v) (hbuf : Buf wr base e v l) (hx : a.eval x = .slice (some ⟨wr.heap.size, 0, none⟩) 2 2)
    (hlen : l.length ≤ 4000000000) (hbase : base ≤ wr.heap.size) (E : TypeId)
    (h : ∀ v' w', Buf w' base e v' (l ++ [c, d]) → wr.grownBy w' v.ownBlock → wpList P ops Q rest (a.put o.dst v') w') :
    wpList P ops Q (o :: rest) a (wr.alloc (.cells #[u0, u1] E)) := by
  obtain ⟨i, hi, hz0, hz1, hz2⟩ := info_parts hinfo
  subst hu0 hu1
  refine wpList_append_own _ hgd s x t ho base e i (.int .u8 0) 1 1 ht hi hz0 hz1 hz2 rfl (by decide) v l.length (cellsOf l) hs (World.ownsRow.alloc hbuf _) ⟨wr.heap.size, 0, none⟩ 2 2 [.int .u8 (c.toNat : Int), .int .u8 (d.toNat : Int)] hx rfl ?_ ?_ ?_ ?_ ?_ ?_
  · intro j u hj
    have : ((⟨wr.heap.size, 0, none⟩ : Addr).add j) = ⟨wr.heap.size, j, none⟩ := by rw [Go.WideShapes.add_plain, Nat.zero_add]
    rw [this, cell_at (at_a0 _ _ _)]
    simpa using hj
  · intro u hu
    simp only [List.mem_cons, List.not_mem_nil, or_false] at hu
    rcases hu with rfl | rfl <;> rfl
  · unfold maxLen; omega
  · omega
  · simp; omega
  · intro v' w' hown hg _
    refine h v' w' ?_ ⟨hg.os, hg.tape, hg.output, by have := hg.size; simp at this; omega, fun k hk hne => (hg.block k (by simp; omega) hne).trans (heap_alloc_old wr _ hk)⟩
    unfold Buf
    rw [show cellsOf (l ++ [c, d]) = cellsOf l ++ [.int .u8 (c.toNat : Int), .int .u8 (d.toNat : Int)] by simp [cellsOf]]
    simpa using hown
/-- 'b = append(b, s...)', s a text -/
theorem wpList_pushS {P : Program} (wr : World) {ops : Array Oper} {rest : List Oper} {o : Oper} {a : Act} {Q : Exit → Act → World → Prop} (hgd : o.guard = none) (sl x : Operand) (t u : TypeId)
    (ho : o.op = .call { callee := .builtin .append, args := #[sl, x], argTypes := #[t, u] })
    (base e : Nat) (ht : P.underlying t = some (.slice e)) (hu : P.underlying u = some .string) (hinfo : (P.info? e).map (fun i => (i.zero, i.size, i.bytes)) = some (some (.int .u8 0), 1, 1))
    (v : Value) (l s : List UInt8) (hs : a.eval sl = v) (hbuf : Buf wr base e v l) (hx : a.eval x = .string ⟨s.toArray⟩)
    (hlen : l.length + s.length ≤ 4000000000) (hbase : base ≤ wr.heap.size)
    (h : ∀ v' w', Buf w' base e v' (l ++ s) → wr.grownBy w' v.ownBlock → wpList P ops Q rest (a.put o.dst v') w') :
    wpList P ops Q (o :: rest) a wr := by
  obtain ⟨i, hi, hz0, hz1, hz2⟩ := info_parts hinfo
  have hsz : (ByteArray.mk s.toArray).size = s.length := by simp [ByteArray.size]
  refine Lib.wpList_append_own_string _ hgd sl x t u ho base e i ht hu hi hz0 hz1 hz2 v l.length (cellsOf l) hs hbuf ⟨s.toArray⟩ hx ?_ ?_ hbase ?_
  · unfold maxLen; omega
  · omega
  · intro v' w' hown hg _
    refine h v' w' ?_ hg
    unfold Buf
    rw [List.length_append, show cellsOf (l ++ s) = cellsOf l ++ Lib.strCells ⟨s.toArray⟩ by simp [cellsOf, Lib.strCells]]
    rw [hsz] at hown
    exact hown
/-- the sign at the head of bytes in units of two, and how many bytes it has -/
def sgU (big : Bool) : List UInt8 → Option (Nat × Nat)
  | x :: y :: r => if unitS x.toNat y.toNat big < 55296 ∨ 57344 ≤ unitS x.toNat y.toNat big then some (unitS x.toNat y.toNat big, 2) else if 56320 ≤ unitS x.toNat y.toNat big then none else match r with
    | z :: t :: _ => if 56320 ≤ unitS z.toNat t.toNat big ∧ unitS z.toNat t.toNat big < 57344 then some (65536 + (unitS x.toNat y.toNat big - 55296) * 1024 + (unitS z.toNat t.toNat big - 56320), 4) else none
    | _ => none
  | _ => none
theorem unitS_lt {x y : Nat} (hx : x < 256) (hy : y < 256) (big : Bool) : unitS x y big < 65536 := by
  unfold unitS
  split <;> omega
set_option maxHeartbeats 4000000 in
set_option maxRecDepth 100000 in
theorem wsg_any (b : List UInt8) (at' : Nat) (big : Bool) (ha : at' ≤ b.length) (h9 : b.length ≤ 1000000) (w : World) : Calls Tryz.prog 57 #[.string ⟨b.toArray⟩, .int .i64 at', .bool big] w fun e w' => e = .returned (.tuple #[.int .i32 (((sgU big (b.drop at')).getD (0, 0)).1 : Nat), .int .i64 (((sgU big (b.drop at')).getD (0, 0)).2 : Nat)]) ∧ Below w.heap.size w w' := by
  have b9 : (b.length : Int) ≤ 1000000 := by omega
  have a9 : (at' : Int) ≤ b.length := by omega
  by_cases h2 : b.length < at' + 2
  · have g0 : (b.length : Int) - at' < 2 := by omega
    have HN : Hid (sgU big (b.drop at') = none) := Lib.hid (by
      have hl : (b.drop at').length < 2 := by rw [List.length_drop]; omega
      rcases hd : b.drop at' with _ | ⟨x, _ | ⟨y, r⟩⟩
      · rfl
      · rfl
      · rw [hd] at hl; simp at hl; omega)
    clear h2 h9 ha
    go_enter Tryz.func57, Tryz.ntmps57
    go_wp2
    go_ret2
    rw [HN.out]
    exact ⟨rfl, Below.refl _ _⟩
  · have g0 : ¬ (b.length : Int) - at' < 2 := by omega
    have hx1 : at' < b.length := by omega
    obtain ⟨q, hq⟩ : ∃ q, q = at' + 1 := ⟨_, rfl⟩
    have hx2 : q < b.length := by omega
    have hd : b.drop at' = b[at'] :: b[q] :: b.drop (at' + 2) := by
      rw [List.drop_eq_getElem_cons hx1]
      subst hq
      rw [List.drop_eq_getElem_cons hx2]
    have UN := Lib.hid (fun w => unit_any b at' q big hq hx1 hx2 h9 w)
    have hu := unitS_lt (UInt8.toNat_lt b[at']) (UInt8.toNat_lt b[q]) big
    have HS : Hid (sgU big (b.drop at') = if unitS b[at'].toNat b[q].toNat big < 55296 ∨ 57344 ≤ unitS b[at'].toNat b[q].toNat big then some (unitS b[at'].toNat b[q].toNat big, 2) else if 56320 ≤ unitS b[at'].toNat b[q].toNat big then none else match b.drop (at' + 2) with
      | z :: t :: _ => if 56320 ≤ unitS z.toNat t.toNat big ∧ unitS z.toNat t.toNat big < 57344 then some (65536 + (unitS b[at'].toNat b[q].toNat big - 55296) * 1024 + (unitS z.toNat t.toNat big - 56320), 4) else none
      | _ => none) := Lib.hid (by rw [hd]; rfl)
    clear hd
    generalize unitS b[at'].toNat b[q].toNat big = u at *
    clear hx1 hx2 hq q
    have hui : (u : Int) < 65536 := by omega
    go_enter Tryz.func57, Tryz.ntmps57
    go_upto_region 4 with (go_at_call 101; (with_reducible refine (UN.out _).mono ?_); rintro e w1 ⟨rfl, n1, rfl⟩; have K := Lib.hid (belowN (Below.refl w.heap.size w) n1))
    generalize w.drewN n1 = w1 at *
    clear UN
    have D : ∀ (P : Prop) [Decidable P], P → decide P = true ∧ P = True := fun P _ h => ⟨decide_eq_true h, eq_true h⟩
    have D' : ∀ (P : Prop) [Decidable P], ¬ P → decide P = false ∧ P = False := fun P _ h => ⟨decide_eq_false h, eq_false h⟩
    have HD := Lib.hid D
    have HD' := Lib.hid D'
    clear D D'
    by_cases hA : u < 55296 ∨ 57344 ≤ u
    · rw [if_pos hA] at HS
      rcases hA with hA | hA
      · obtain ⟨i1, i2⟩ := HD.out ((u : Int) < 55296) (by omega)
        clear hA hui hu h2 g0 h9 ha
        go_wp2
        go_ret2
        rw [HS.out]
        exact ⟨rfl, K.out⟩
      · obtain ⟨i1, i2⟩ := HD'.out ((u : Int) < 55296) (by omega)
        obtain ⟨i3, i4⟩ := HD.out ((57344 : Int) ≤ u) (by omega)
        clear hA hui hu h2 g0 h9 ha
        go_wp2
        go_ret2
        rw [HS.out]
        exact ⟨rfl, K.out⟩
    · rw [if_neg hA] at HS
      obtain ⟨i1, i2⟩ := HD'.out ((u : Int) < 55296) (by omega)
      obtain ⟨i3, i4⟩ := HD'.out ((57344 : Int) ≤ u) (by omega)
      have HU9 : Hid (55296 ≤ u ∧ u < 57344) := Lib.hid (by omega)
      clear hA hui hu
      by_cases hB : 56320 ≤ u
      · rw [if_pos hB] at HS
        obtain ⟨i5, i6⟩ := HD.out ((56320 : Int) ≤ u) (by omega)
        clear hB h2 h9 ha g0
        go_wp2
        go_ret2
        rw [HS.out]
        exact ⟨rfl, K.out⟩
      · rw [if_neg hB] at HS
        have HB := Lib.hid hB
        obtain ⟨i5, i6⟩ := HD'.out ((56320 : Int) ≤ u) (by omega)
        clear hB
        by_cases h4 : b.length < at' + 4
        · have j0 : (b.length : Int) - at' < 4 := by omega
          have HN : Hid (sgU big (b.drop at') = none) := Lib.hid (by
            rw [HS.out]
            have hl : (b.drop (at' + 2)).length < 2 := by rw [List.length_drop]; omega
            rcases hd : b.drop (at' + 2) with _ | ⟨x, _ | ⟨y, r⟩⟩
            · rfl
            · rfl
            · rw [hd] at hl; simp at hl; omega)
          clear HS h2 h4 h9 ha
          go_wp2
          go_ret2
          rw [HN.out]
          exact ⟨rfl, K.out⟩
        · have j0 : ¬ (b.length : Int) - at' < 4 := by omega
          obtain ⟨p, hp⟩ : ∃ p, p = at' + 2 := ⟨_, rfl⟩
          obtain ⟨q, hq⟩ : ∃ q, q = p + 1 := ⟨_, rfl⟩
          have hx1 : p < b.length := by omega
          have hx2 : q < b.length := by omega
          have hd : b.drop (at' + 2) = b[p] :: b[q] :: b.drop (at' + 4) := by
            subst hq
            rw [← hp, List.drop_eq_getElem_cons hx1, List.drop_eq_getElem_cons hx2]
            subst hp
            rfl
          have UN : Hid (∀ w, Calls Tryz.prog 101 #[.string ⟨b.toArray⟩, .int .i64 ((at' : Int) + 2), .bool big] w fun e w' => e = .returned (.int .i32 (unitS (b[p]'hx1).toNat (b[q]'hx2).toNat big : Nat)) ∧ ∃ n, w' = w.drewN n) := Lib.hid (fun w => by
            have h := unit_any b p q big hq hx1 hx2 h9 w
            have e1 : (at' : Int) + 2 = (p : Int) := by omega
            rw [e1]
            exact h)
          have hv := unitS_lt (UInt8.toNat_lt b[p]) (UInt8.toNat_lt b[q]) big
          rw [hd] at HS
          simp only at HS
          clear hd
          generalize unitS b[p].toNat b[q].toNat big = v at *
          clear hx1 hx2 hq hp q p h2 h4 h9 ha
          have HV9 := Lib.hid hv
          clear hv
          go_upto_region 9 with (go_at_call 101; (with_reducible refine (UN.out _).mono ?_); rintro e w2 ⟨rfl, n2, rfl⟩; replace K := Lib.hid (belowN K.out n2))
          generalize w1.drewN n2 = w2 at *
          clear UN
          by_cases hC : 56320 ≤ v ∧ v < 57344
          · rw [if_pos hC] at HS
            obtain ⟨m1, m2⟩ := HD'.out ((v : Int) < 56320) (by omega)
            obtain ⟨m3, m4⟩ := HD'.out ((57344 : Int) ≤ v) (by omega)
            obtain ⟨uu, huu⟩ : ∃ uu : Nat, u = 55296 + uu := ⟨u - 55296, by have := HU9.out; omega⟩
            obtain ⟨vv, hvv⟩ : ∃ vv : Nat, v = 56320 + vv := ⟨v - 56320, by omega⟩
            have u1 : (u : Int) - 55296 = (uu : Int) := by omega
            have v1 : (v : Int) - 56320 = (vv : Int) := by omega
            have hu9 : (uu : Int) < 1024 := by have := HU9.out; have := HB.out; omega
            have hv9 : (vv : Int) < 1024 := by omega
            have W32 : ∀ z : Int, 0 ≤ z → z < 2147483648 → IntKind.i32.wrap z = z := fun z h0 h1 => by
              simp only [IntKind.wrap, IntKind.bits, IntKind.signed]
              simp
              omega
            have w1' : IntKind.i32.wrap ((u : Int) - 55296) = (uu : Int) := by rw [W32 _ (by omega) (by omega)]; exact u1
            have w2' : IntKind.i32.wrap ((v : Int) - 56320) = (vv : Int) := by rw [W32 _ (by omega) (by omega)]; exact v1
            have E9 : Hid (65536 + (u - 55296) * 1024 + (v - 56320) = 65536 + uu * 1024 + vv) := Lib.hid (by omega)
            clear hC huu hvv W32 u1 v1
            go_wp2
            go_ret2
            rw [HS.out]
            refine ⟨?_, K.out⟩
            show _ = Ending.returned (.tuple #[.int .i32 ((65536 + (u - 55296) * 1024 + (v - 56320) : Nat) : Int), _])
            rw [E9.out]
            first
              | rfl
              | (simp; done)
          · rw [if_neg hC] at HS
            by_cases hv1 : v < 56320
            · obtain ⟨m1, m2⟩ := HD.out ((v : Int) < 56320) (by omega)
              clear hC hv1
              go_wp2
              go_ret2
              rw [HS.out]
              exact ⟨rfl, K.out⟩
            · obtain ⟨m1, m2⟩ := HD'.out ((v : Int) < 56320) (by omega)
              obtain ⟨m3, m4⟩ := HD.out ((57344 : Int) ≤ v) (by omega)
              clear hC hv1
              go_wp2
              go_ret2
              rw [HS.out]
              exact ⟨rfl, K.out⟩
end Go.Proofs.YtffhmjlojmoomaaGreatDoor
