/- Layer 3 (wide): Decode, walked. | Layer 3 (wide): Encode, walked. -/
import Derived.Test.YtffhmjlojmoomaaGreatDoorZV3

namespace Go.Proofs.YtffhmjlojmoomaaGreatDoor
open Go.RowKit
set_option linter.unusedVariables false
set_option linter.unusedSimpArgs false

/-- the signs of bytes in units of two -/
def decU (big : Bool) : Nat → List UInt8 → Option (List Nat)
  | _, [] => some []
  | 0, _ :: _ => none
  | n + 1, x :: l => match sgU big (x :: l) with
    | none => none
    | some (p, s) => (decU big n ((x :: l).drop s)).map (p :: ·)
theorem sgU_eq (big : Bool) (x y : UInt8) (r : List UInt8) : sgU big (x :: y :: r) = if unitS x.toNat y.toNat big < 55296 ∨ 57344 ≤ unitS x.toNat y.toNat big then some (unitS x.toNat y.toNat big, 2) else if 56320 ≤ unitS x.toNat y.toNat big then none else match r with
    | z :: t :: _ => if 56320 ≤ unitS z.toNat t.toNat big ∧ unitS z.toNat t.toNat big < 57344 then some (65536 + (unitS x.toNat y.toNat big - 55296) * 1024 + (unitS z.toNat t.toNat big - 56320), 4) else none
    | _ => none := rfl
theorem sgU_in {big : Bool} {l : List UInt8} {p s : Nat} (h : sgU big l = some (p, s)) : p < 1114112 ∧ (s = 2 ∨ s = 4) ∧ s ≤ l.length := by
  match l, h with
  | [], h => cases h
  | [_], h => cases h
  | x :: y :: r, h =>
    have hu := unitS_lt (UInt8.toNat_lt x) (UInt8.toNat_lt y) big
    rw [sgU_eq] at h
    split at h
    · injection h with h
      injection h with h1 h2
      subst h1 h2
      exact ⟨by omega, .inl rfl, by simp⟩
    split at h
    · cases h
    · rcases r with _ | ⟨z, _ | ⟨t, r⟩⟩
      · simp at h
      · simp at h
      · simp only at h
        split at h
        · injection h with h
          injection h with h1 h2
          subst h1 h2
          exact ⟨by omega, .inr rfl, by simp⟩
        · cases h
theorem decU_step {big : Bool} {n : Nat} {l : List UInt8} {p s : Nat} (h : sgU big l = some (p, s)) : decU big (n + 1) l = (decU big n (l.drop s)).map (p :: ·) := by
  rcases l with _ | ⟨x, l⟩
  · cases h
  · rw [show decU big (n + 1) (x :: l) = (match sgU big (x :: l) with | none => none | some (p, s) => (decU big n ((x :: l).drop s)).map (p :: ·)) from rfl, h]
theorem decU_no {big : Bool} {n : Nat} {l : List UInt8} (h0 : l ≠ []) (h : sgU big l = none) : decU big n l = none := by
  rcases l with _ | ⟨x, l⟩
  · exact absurd rfl h0
  · rcases n with _ | n
    · rfl
    · rw [show decU big (n + 1) (x :: l) = (match sgU big (x :: l) with | none => none | some (p, s) => (decU big n ((x :: l).drop s)).map (p :: ·)) from rfl, h]
theorem map_map_cons {o : Option (List Nat)} (qs : List Nat) (p : Nat) : (o.map (p :: ·)).map (qs ++ ·) = o.map ((qs ++ [p]) ++ ·) := by
  rcases o with _ | l
  · rfl
  · simp
set_option maxHeartbeats 4000000 in
set_option maxRecDepth 100000 in
theorem wdec_any (b : List UInt8) (big : Bool) (hb : b.length ≤ 1000000) (w : World) : Calls Tryz.prog 25 #[.string ⟨b.toArray⟩, .bool big] w fun e w' => ∃ (t : List UInt8) (cd pl : Int), e = .returned (.tuple #[.string ⟨t.toArray⟩, .agg #[.int .i64 cd, .int .i64 pl]]) ∧ ((∃ ps, decU big b.length b = some ps ∧ t = encs ps ∧ cd = 0 ∧ pl = 0) ∨ (decU big b.length b = none ∧ t = [] ∧ cd = 2)) ∧ Below w.heap.size w w' := by
  have F := Lib.hid (at_a0 w #[.int .i64 0, .int .i64 0] 26)
  have K := Lib.hid ((Below.refl w.heap.size w).alloc (Nat.le_refl _) (.cells #[.int .i64 0, .int .i64 0] 26))
  have hz : (w.alloc (.cells #[.int .i64 0, .int .i64 0] 26)).heap.size = w.heap.size + 1 := by simp
  have b9 : (b.length : Int) ≤ 1000000 := by omega
  obtain ⟨rb, hrb⟩ : ∃ rb, rb = w.heap.size := ⟨_, rfl⟩
  go_enter Tryz.func25, Tryz.ntmps25
  go_upto_region 1 with (fail)
  generalize w.alloc (.cells #[.int .i64 0, .int .i64 0] 26) = w0 at *
  rw [← hrb] at F hz
  rw [← hrb]
  have HRB := Lib.hid hrb
  clear hrb
  go_upto_region 3 with (fail)
  go_loopw [6, 7] (fun v i wr => ∃ (j n : Nat) (qs : List Nat), j ≤ b.length ∧ i = .int .i64 j ∧ b.length ≤ n + j ∧ qs.length ≤ j ∧ Hid (decU big b.length b = (decU big n (b.drop j)).map (qs ++ ·)) ∧ Hid (Buf wr (rb + 1) 5 v (encs qs)) ∧ Hid (wr.heap[rb]? = some (.cells #[.int .i64 0, .int .i64 0] 26 (0, 0))) ∧ Hid (Below w.heap.size w wr)) (fun _ i _ => b.length - (intOf i).toNat)
  case atStart => exact ⟨0, b.length, [], by omega, rfl, by omega, by simp, Lib.hid (by rw [List.drop_zero]; simp), Lib.hid (Buf.nil _ _ _), F, K⟩
  case round =>
    clear F K hz
    obtain ⟨j, n, qs, hj, rfl, hn, hq, HD, V, F, K⟩ := hrel
    by_cases hjb : j < b.length
    · have g1 : (j : Int) < b.length := by omega
      have SG := Lib.hid (fun w => wsg_any b j big hj hb w)
      have hd0 : b.drop j ≠ [] := fun e => by have := congrArg List.length e; rw [List.length_drop] at this; simp at this; omega
      rcases hs : sgU big (b.drop j) with _ | ⟨p, s⟩
      · have HN : Hid (decU big b.length b = none) := Lib.hid (by rw [HD.out, decU_no hd0 hs]; rfl)
        rw [hs] at SG
        clear hs hd0 HD
        go_upto_region 5 with (go_at_call 57; (with_reducible refine (SG.out _).mono ?_); rintro e w1 ⟨rfl, hb1⟩; have F1 := Lib.hid (block_below F.out hb1); replace K := Lib.hid (nextB K.out hb1); clear hb1)
        obtain ⟨y0, y1⟩ := cells2 (F1.out); obtain ⟨yf0, yf1⟩ := frees2 (F1.out)
        go_wp2
        have hw1 : w.heap.size ≤ rb := by have := HRB.out; omega
        refine end_tmp_cell (by rfl) rfl (by rfl) (store2 F1.out rfl) Tryz.underlying26 rfl (by kernel_rfl) ?_
        exact ⟨[], 2, j, rfl, .inr ⟨HN.out, rfl, rfl⟩, (K.out.setCell hw1 _).setCell hw1 _⟩
      · obtain ⟨hp, hs2, hsl⟩ := sgU_in hs
        rw [List.length_drop] at hsl
        have hn1 : ∃ m, n = m + 1 := ⟨n - 1, by omega⟩
        obtain ⟨m, rfl⟩ := hn1
        have HD2 : Hid (decU big b.length b = (decU big m (b.drop (j + s))).map ((qs ++ [p]) ++ ·)) := Lib.hid (by rw [HD.out, decU_step hs, map_map_cons, List.drop_drop])
        rw [hs] at SG
        have hpl : (encs qs).length ≤ 4000000 := by
          have h1 := encs_len qs
          omega
        have hp9 : p ≤ 2147483647 := by omega
        clear hs hd0 HD hp
        go_upto_region 5 with (go_at_call 57; (with_reducible refine (SG.out _).mono ?_); rintro e w1 ⟨rfl, hb1⟩; have F1 := Lib.hid (block_below F.out hb1); have V1 := Lib.hid (V.out.below hb1); replace K := Lib.hid (nextB K.out hb1); clear hb1)
        have hrs : rb + 1 ≤ w1.heap.size := (Array.getElem?_eq_some_iff.1 F1.out).1
        have AP := Lib.hid (apR_any V1.out (by omega) hrs p hp9)
        have L5 := Lib.hid V1.out.lt
        clear SG V F
        have hjs : ((j : Int) + (s : Int)) = ((j + s : Nat) : Int) := by omega
        have HJS := Lib.hid hjs
        clear hjs
        rcases hs2 with rfl | rfl
        · go_wp2_with (go_at_call 55; (with_reducible refine AP.out.mono ?_); rintro e w5 ⟨v5, rfl, hv5, o, hg5⟩; have V5 := Lib.hid hv5; have K5 := Lib.hid (grown_alloc (Below.refl (rb + 1) w1) hrs hg5 (fun k e => (L5.out k e).1)); clear hv5 hg5)
          exact ⟨⟨j + 2, m, qs ++ [p], by omega, by simp, by omega, by simp; omega, HD2, Lib.hid (by rw [encs_snoc]; exact V5.out), Lib.hid ((K5.out.block rb (by omega)).trans F1.out), Lib.hid (K.out.trans (K5.out.mono (by have := HRB.out; omega)))⟩, by simp [intOf]; omega⟩
        · go_wp2_with (go_at_call 55; (with_reducible refine AP.out.mono ?_); rintro e w5 ⟨v5, rfl, hv5, o, hg5⟩; have V5 := Lib.hid hv5; have K5 := Lib.hid (grown_alloc (Below.refl (rb + 1) w1) hrs hg5 (fun k e => (L5.out k e).1)); clear hv5 hg5)
          exact ⟨⟨j + 4, m, qs ++ [p], by omega, by simp, by omega, by simp; omega, HD2, Lib.hid (by rw [encs_snoc]; exact V5.out), Lib.hid ((K5.out.block rb (by omega)).trans F1.out), Lib.hid (K.out.trans (K5.out.mono (by have := HRB.out; omega)))⟩, by simp [intOf]; omega⟩
    · have g1 : ¬ (j : Int) < b.length := by omega
      have hd0 : b.drop j = [] := List.drop_eq_nil_of_le (by omega)
      have HE : Hid (decU big b.length b = some qs) := Lib.hid (by
        rw [HD.out, hd0]
        rcases n with _ | n <;> simp [decU])
      have hcv := ownsRow_bytes (P := Tryz.prog) (src := 35) (dst := 9) (show World.ownsRow _ _ _ _ _ _ _ from V.out) Tryz.underlying35 Tryz.underlying5 Tryz.underlying9
      clear hd0 HD
      obtain ⟨y0, y1⟩ := cells2 (F.out); obtain ⟨yf0, yf1⟩ := frees2 (F.out)
      go_wp2
      have hw1 : w.heap.size ≤ rb := by have := HRB.out; omega
      refine end_tmp_cell (by rfl) rfl (by rfl) (store2 F.out rfl) Tryz.underlying26 rfl (by kernel_rfl) ?_
      exact ⟨encs qs, 0, 0, rfl, .inl ⟨qs, HE.out, rfl, rfl, rfl⟩, (K.out.setCell hw1 _).setCell hw1 _⟩
end Go.Proofs.YtffhmjlojmoomaaGreatDoor

namespace Go.Proofs.YtffhmjlojmoomaaGreatDoor
open Go.RowKit
set_option linter.unusedVariables false
set_option linter.unusedSimpArgs false

/-- the units of a sign -/
def unsW (p : Nat) : List Nat := if p < 65536 then [p] else [55296 + (p - 65536) / 1024, 56320 + (p - 65536) % 1024]
/-- signs as bytes in units of two -/
def encU (big : Bool) (ps : List Nat) : List UInt8 := (ps.map (fun p => uBs big (unsW p))).flatten
theorem encU_snoc (big : Bool) (ps : List Nat) (p : Nat) : encU big (ps ++ [p]) = encU big ps ++ uBs big (unsW p) := by simp [encU]
theorem unsW_len (p : Nat) : (unsW p).length ≤ 2 := by unfold unsW; split <;> simp
theorem encU_len (big : Bool) : ∀ ps : List Nat, (encU big ps).length ≤ 4 * ps.length
  | [] => by simp [encU]
  | p :: ps => by
    have h1 := encU_len big ps
    have h2 := unsW_len p
    show (uBs big (unsW p) ++ encU big ps).length ≤ _
    rw [List.length_append, uBs_len, List.length_cons]
    omega
theorem KeepB.alloc {B : Nat} {w : World} (o : Obj) (h : B ≤ w.heap.size) : KeepB B w (w.alloc o) := ⟨(Below.refl B w).alloc h o, fun k x hk _ => (heap_alloc_old w o (Array.getElem?_eq_some_iff.1 hk).1).trans hk⟩
theorem i32_and1023 (x : Int) (h0 : 0 ≤ x) (h1 : x < 2147483648) : bits .and .i32 x 1023 = x % 1024 := by
  obtain ⟨a, rfl⟩ : ∃ a : Nat, x = a := ⟨x.toNat, by omega⟩
  have e : (BitVec.ofInt IntKind.i32.bits (a : Int) &&& BitVec.ofInt IntKind.i32.bits 1023).toNat = a % 1024 := by
    rw [BitVec.toNat_and]
    show (BitVec.ofInt 32 (a : Int)).toNat &&& (BitVec.ofInt 32 1023).toNat = a % 1024
    rw [BitVec.toNat_ofInt]
    have h1 : ((a : Int) % ((2 ^ 32 : Nat) : Int)).toNat = a := by omega
    rw [h1]
    exact Nat.and_two_pow_sub_one_eq_mod a 10
  simp only [bits, e]
  simp only [IntKind.wrap, IntKind.bits, IntKind.signed]
  simp
  omega
theorem wjoin_new {B : Nat} {v : Value} {l : List UInt8} {w : World} (V : Hid (Buf w B 5 v l)) (hl : l.length ≤ 1000000000) (hB : B ≤ w.heap.size) (big : Bool) (us : List Nat) (hu : Hid (∀ u ∈ us, u < 65536)) (n : Nat) (hn : us.length = n) (hn9 : n ≤ 1000) (cs : Array Value) (hcs : (us.map (fun u => Value.int .i32 (u : Nat))).toArray = cs) (T : Nat) (hT : T ≠ 5) :
    Calls Tryz.prog 54 #[v, .bool big, .slice (some ⟨w.heap.size, 0, none⟩) n n] (w.alloc (.cells cs T)) fun e w' => ∃ v', e = .returned v' ∧ Buf w' B 5 v' (l ++ uBs big us) ∧ KeepB B w w' := by
  subst hcs
  refine (wjoin_any big us hu _ (Lib.hid (V.out.below ((Below.refl _ _).alloc (Nat.le_refl _) _))) hl (by simp; omega) _ T n (Lib.hid (at_a0 _ _ _)) (Lib.hid hT) hn hn9).mono ?_
  rintro e w' ⟨v', h1, h2, h3⟩
  exact ⟨v', h1, h2, (KeepB.alloc _ hB).trans h3⟩
set_option maxHeartbeats 4000000 in
set_option maxRecDepth 100000 in
theorem wenc_any (t : List UInt8) (big : Bool) (ht : t.length ≤ 1000000) (w : World) (hT : Hid (Tabs w)) : Calls Tryz.prog 22 #[.string ⟨t.toArray⟩, .bool big] w fun e w' => ∃ (b : List UInt8) (cd pl : Int), e = .returned (.tuple #[.string ⟨b.toArray⟩, .agg #[.int .i64 cd, .int .i64 pl]]) ∧ ((¬ Good t ∧ b = [] ∧ cd = 2) ∨ ∃ ps, (∀ p ∈ ps, Sc p) ∧ t = encs ps ∧ b = encU big ps ∧ cd = 0 ∧ pl = 0) ∧ Below w.heap.size w w' := by
  have PC := Lib.hid (fun w h => pcheck_two t (by omega) w h)
  have F := Lib.hid (at_a0 w #[.int .i64 0, .int .i64 0] 26)
  have K := Lib.hid ((Below.refl w.heap.size w).alloc (Nat.le_refl _) (.cells #[.int .i64 0, .int .i64 0] 26))
  obtain ⟨rb, hrb⟩ : ∃ rb, rb = w.heap.size := ⟨_, rfl⟩
  go_enter Tryz.func22, Tryz.ntmps22
  go_upto_region 1 with (fail)
  generalize w.alloc (.cells #[.int .i64 0, .int .i64 0] 26) = w0 at *
  rw [← hrb] at F
  rw [← hrb]
  have HRB := Lib.hid hrb
  clear hrb
  have HT0 := Lib.hid (hT.out.below K.out)
  go_upto_region 2 with (go_at_call 21; (with_reducible refine (PC.out _ HT0).mono ?_); rintro e w1 ⟨cd, fa, rfl, hcd, hb1⟩; have HCD := Lib.hid hcd.out; replace F := Lib.hid (block_below F.out hb1); replace K := Lib.hid (nextB K.out hb1); clear hcd hb1)
  have C := Lib.hid (at_a0 w1 #[.int .i64 cd, .int .i64 fa] 26)
  have hB := (Below.refl w1.heap.size w1).alloc (Nat.le_refl _) (.cells #[.int .i64 cd, .int .i64 fa] 26)
  have hrc : rb < w1.heap.size := (Array.getElem?_eq_some_iff.1 F.out).1
  replace F := Lib.hid (block_below F.out hB)
  replace K := Lib.hid (nextB K.out hB)
  clear hB
  generalize w1.alloc (.cells #[.int .i64 cd, .int .i64 fa] 26) = w2 at *
  generalize w1.heap.size = cb at *
  have BD := Lib.hid (fun w => bad_any cd fa w)
  rcases HCD.out with ⟨hgood, rfl, rfl⟩ | ⟨hbad, rfl⟩
  · rw [show ((0 : Int) != 0) = false by rfl] at BD
    obtain ⟨ps, hps, rfl⟩ := hgood
    have HPS := Lib.hid hps
    clear hps HCD PC
    have hpl := encs_ge ps
    obtain ⟨y0, y1⟩ := cells2 (C.out)
    go_upto_region 4 with (go_at_call 7; (with_reducible refine (BD.out _).mono ?_); rintro e w3 ⟨rfl, hb3⟩; replace F := Lib.hid (block_below F.out hb3); replace K := Lib.hid (nextB K.out hb3); clear hb3 y0 y1 C)
    go_upto_region 6 with (fail)
    obtain ⟨ib, hib⟩ : ∃ ib, ib = w3.heap.size := ⟨_, rfl⟩
    have I : Hid ((w3.iter ⟨(encs ps).toArray⟩ 0).heap[ib]? = some (.stringIter ⟨(encs ps).toArray⟩ 0)) := Lib.hid (by rw [hib]; exact World.iter_heap _ _ _)
    have hB : Below w3.heap.size w3 (w3.iter ⟨(encs ps).toArray⟩ 0) := (Below.refl w3.heap.size w3).alloc (Nat.le_refl _) _
    have hrbib : rb + 1 ≤ ib := by rw [hib]; exact (Array.getElem?_eq_some_iff.1 F.out).1
    replace F := Lib.hid (block_below F.out hB)
    replace K := Lib.hid (nextB K.out hB)
    rw [← hib]
    clear hB hib
    generalize w3.iter ⟨(encs ps).toArray⟩ 0 = w8 at *
    have hps0 : (encs ([] : List Nat)).length = 0 := rfl
    go_loopw [7] (fun v wr => ∃ (qs rs : List Nat), Hid (ps = qs ++ rs) ∧ qs.length + rs.length = ps.length ∧ Hid (wr.heap[ib]? = some (.stringIter ⟨(encs ps).toArray⟩ (encs qs).length)) ∧ Hid (wr.heap[rb]? = some (.cells #[.int .i64 0, .int .i64 0] 26 (0, 0))) ∧ Hid (Buf wr (rb + 1) 5 v (encU big qs)) ∧ Hid (Below w.heap.size w wr)) (fun _ wr => (encs ps).length + 1 - wr.iterPos ib)
    case atStart => exact ⟨[], ps, Lib.hid rfl, by simp, I, F, Lib.hid (Buf.nil _ _ _), K⟩
    case round =>
      clear I F K
      obtain ⟨qs, rs, HP, hql, I, F, V, K⟩ := hrel
      rcases rs with _ | ⟨p, rs⟩
      · have hps := HP.out
        rw [List.append_nil] at hps
        have hnx : ∀ ty, (Instr.next (.pointer (some ⟨ib, 0, none⟩)) true ty).run Tryz.prog wr = .ok (.tuple #[.bool false]) wr := fun ty => by
          have I9 := I.out
          rw [hps] at I9
          exact iter_end (P := Tryz.prog) wr ib qs ty I9
        have HE2 : Hid (encU big qs = encU big ps) := Lib.hid (by rw [hps])
        have hcv := ownsRow_bytes (P := Tryz.prog) (src := 35) (dst := 9) (show World.ownsRow _ _ _ _ _ _ _ from V.out) Tryz.underlying35 Tryz.underlying5 Tryz.underlying9
        clear hps
        obtain ⟨y0, y1⟩ := cells2 (F.out); obtain ⟨yf0, yf1⟩ := frees2 (F.out)
        go_wp2
        have hw1 : w.heap.size ≤ rb := by have := HRB.out; omega
        refine end_tmp_cell (by rfl) rfl (by rfl) (store2 F.out rfl) Tryz.underlying26 rfl (by kernel_rfl) ?_
        exact ⟨encU big qs, 0, 0, rfl, .inr ⟨ps, HPS.out, rfl, HE2.out, rfl, rfl⟩, (K.out.setCell hw1 _).setCell hw1 _⟩
      · have hsc := HPS.out p (by rw [HP.out]; simp)
        have hp9 : p ≤ 1114111 := by unfold Sc at hsc; omega
        have hnx : ∀ ty, (Instr.next (.pointer (some ⟨ib, 0, none⟩)) true ty).run Tryz.prog wr = .ok (.tuple #[.bool true, .int .i64 ((encs qs).length : Nat), .int .i32 p]) (wr.iterAt ib ⟨(encs ps).toArray⟩ ((encs (qs ++ [p])).length)) := fun ty => by
          have h := iter_step (P := Tryz.prog) wr ib qs p rs hsc ty (by rw [← HP.out]; exact I.out)
          rw [← HP.out] at h
          exact h
        have I2 := Lib.hid (Lib.iterAt_heap wr ib ⟨(encs ps).toArray⟩ (encs qs).length (encs (qs ++ [p])).length I.out)
        have hri : rb ≠ ib := by omega
        have F2 : Hid ((wr.iterAt ib ⟨(encs ps).toArray⟩ ((encs (qs ++ [p])).length)).heap[rb]? = some (.cells #[.int .i64 0, .int .i64 0] 26 (0, 0))) := Lib.hid (block_iterAt F.out hri)
        have V2 := Lib.hid (V.out.iterAt I.out ((encs (qs ++ [p])).length))
        have K2 := Lib.hid (Lib.below_iterAt K.out (show w.heap.size ≤ ib by have := HRB.out; omega) ⟨(encs ps).toArray⟩ ((encs (qs ++ [p])).length))
        have hm1 : (encs qs).length < (encs (qs ++ [p])).length ∧ (encs (qs ++ [p])).length ≤ (encs ps).length := by
          have := encR_len p
          rw [HP.out, encs_snoc, encs_app, encs_cons, List.length_append, List.length_append, List.length_append]
          omega
        have hpos : wr.iterPos ib = (encs qs).length := by unfold World.iterPos; rw [I.out]
        have HM := Lib.hid (show (encs ps).length + 1 - (encs (qs ++ [p])).length < (encs ps).length + 1 - wr.iterPos ib by rw [hpos]; omega)
        have hql2 : qs.length < ps.length := by simp at hql; omega
        have hsz : (wr.iterAt ib ⟨(encs ps).toArray⟩ ((encs (qs ++ [p])).length)).heap.size = wr.heap.size := Lib.iterAt_size _ _ _ _
        have his : ib < wr.heap.size := (Array.getElem?_eq_some_iff.1 I.out).1
        have HR : Hid (ps = qs ++ p :: rs) := HP
        have hEl := encU_len big qs
        clear hm1 hpos I F V K
        go_upto_region 7 with (fail)
        clear hnx
        generalize hw6 : wr.iterAt ib ⟨(encs ps).toArray⟩ ((encs (qs ++ [p])).length) = w9 at *
        clear hw6
        have his9 : ib < w9.heap.size := by omega
        have hwb : rb + 1 ≤ w9.heap.size := by omega
        clear hsz
        have HL9 : Hid ((encU big qs).length ≤ 1000000000) := Lib.hid (by omega)
        clear hEl hpl
        have HN : Hid (∀ v5 w5, Buf w5 (rb + 1) 5 v5 (encU big qs ++ uBs big (unsW p)) → KeepB (rb + 1) w9 w5 → ∃ (qs rs : List Nat), Hid (ps = qs ++ rs) ∧ qs.length + rs.length = ps.length ∧ Hid (w5.heap[ib]? = some (.stringIter ⟨(encs ps).toArray⟩ (encs qs).length)) ∧ Hid (w5.heap[rb]? = some (.cells #[.int .i64 0, .int .i64 0] 26 (0, 0))) ∧ Hid (Buf w5 (rb + 1) 5 v5 (encU big qs)) ∧ Hid (Below w.heap.size w w5)) := Lib.hid (fun v5 w5 hv hk => ⟨qs ++ [p], rs, Lib.hid (by rw [List.append_assoc]; exact HR.out), by simp at hql ⊢; omega, Lib.hid (hk.2 _ _ I2.out (fun C q e => by cases e)), Lib.hid ((hk.1.block rb (by omega)).trans F2.out), Lib.hid (by rw [encU_snoc]; exact hv), Lib.hid (K2.out.trans (hk.1.mono (by have := HRB.out; omega)))⟩)
        have HM2 : Hid (∀ w5, KeepB (rb + 1) w9 w5 → (encs ps).length + 1 - w5.iterPos ib < (encs ps).length + 1 - wr.iterPos ib) := Lib.hid (fun w5 hk => by
          have hpos7 : w5.iterPos ib = (encs (qs ++ [p])).length := by unfold World.iterPos; rw [hk.2 _ _ I2.out (fun C q e => by cases e)]
          rw [hpos7]
          exact HM.out)
        by_cases hbm : p < 65536
        · have i0 : (p : Int) < 65536 := by omega
          have HU : Hid (unsW p = [p]) := Lib.hid (by unfold unsW; rw [if_pos hbm])
          have HX : Hid (∀ u ∈ [p], u < 65536) := Lib.hid (fun u hu => by obtain rfl := List.mem_singleton.1 hu; exact hbm)
          have JN := Lib.hid (fun T hT => wjoin_new V2 HL9.out hwb big [p] HX 1 rfl (by omega) _ rfl T hT)
          clear hsc hbm HP HX HT0
          go_wp2_with (go_at_call 54; refine (JN.out _ (by decide)).mono ?_; rintro e w5 ⟨v5, rfl, hv5, hk5⟩; have V5 := Lib.hid hv5; have K5 := Lib.hid hk5; clear hv5 hk5)
          exact ⟨HN.out _ _ (by rw [HU.out]; exact V5.out) K5.out, HM2.out _ K5.out⟩
        · have i0 : ¬ (p : Int) < 65536 := by omega
          have i1 : (65536 : Int) ≤ p := by omega
          have i2 : (p : Int) ≤ 1114111 := by omega
          obtain ⟨a1, ha1⟩ : ∃ a1, a1 = 55296 + (p - 65536) / 1024 := ⟨_, rfl⟩
          obtain ⟨a2, ha2⟩ : ∃ a2, a2 = 56320 + (p - 65536) % 1024 := ⟨_, rfl⟩
          have HU : Hid (unsW p = [a1, a2]) := Lib.hid (by unfold unsW; rw [if_neg hbm, ← ha1, ← ha2])
          have HX : Hid (∀ u ∈ [a1, a2], u < 65536) := Lib.hid (fun u hu => by
            simp only [List.mem_cons, List.not_mem_nil, or_false] at hu
            omega)
          have hand := i32_and1023 ((p : Int) - 65536) (by omega) (by omega)
          have e1 : 55296 + ((p : Int) - 65536) / 1024 = (a1 : Int) := by omega
          have e2 : 56320 + ((p : Int) - 65536) % 1024 = (a2 : Int) := by omega
          have JN := Lib.hid (fun T hT => wjoin_new V2 HL9.out hwb big [a1, a2] HX 2 rfl (by omega) #[.int .i32 (55296 + ((p : Int) - 65536) / 1024), .int .i32 (56320 + ((p : Int) - 65536) % 1024)] (by rw [e1, e2]; rfl) T hT)
          clear hsc hbm HP HX HT0 ha1 ha2 e1 e2
          go_wp2_with (go_at_call 54; refine (JN.out _ (by decide)).mono ?_; rintro e w5 ⟨v5, rfl, hv5, hk5⟩; have V5 := Lib.hid hv5; have K5 := Lib.hid hk5; clear hv5 hk5)
          exact ⟨HN.out _ _ (by rw [HU.out]; exact V5.out) K5.out, HM2.out _ K5.out⟩
  · rw [show ((2 : Int) != 0) = true by rfl] at BD
    clear HCD PC
    obtain ⟨y0, y1⟩ := cells2 (C.out)
    go_upto_region 3 with (go_at_call 7; (with_reducible refine (BD.out _).mono ?_); rintro e w3 ⟨rfl, hb3⟩; replace C := Lib.hid (block_below C.out hb3); replace F := Lib.hid (block_below F.out hb3); replace K := Lib.hid (nextB K.out hb3); clear hb3 y0 y1; obtain ⟨y0, y1⟩ := cells2 (C.out); obtain ⟨f0, f1⟩ := cells2 (F.out); obtain ⟨ff0, ff1⟩ := frees2 (F.out))
    have cc : w3.cell? ⟨cb, 0, none⟩ = some (.int .i64 2) ∧ w3.cell? ⟨cb, 1, none⟩ = some (.int .i64 fa) := ⟨y0, y1⟩
    have n1 : cb ≠ rb := by omega
    go_region_held3 (fun w' => w'.cell? ⟨cb, 0, none⟩ = some (.int .i64 2) ∧ w'.cell? ⟨cb, 1, none⟩ = some (.int .i64 fa)) (first | exact cc | exact ⟨cell_set_other (cell_set_other y0 n1) n1, cell_set_other (cell_set_other y1 n1) n1⟩ | fail) (fail)
    go_wp2
    have hw1 : w.heap.size ≤ rb := by have := HRB.out; omega
    refine end_tmp_cell (by rfl) rfl (by rfl) (store2 F.out rfl) Tryz.underlying26 rfl (by kernel_rfl) ?_
    exact ⟨[], 2, fa, rfl, .inl ⟨hbad, rfl, rfl⟩, belowN ((K.out.setCell hw1 _).setCell hw1 _) 1⟩
/-- what is encoded is decoded as it was -/
theorem sgU_enc (big : Bool) (p : Nat) (hp : Sc p) (r : List UInt8) : sgU big (uBs big (unsW p) ++ r) = some (p, (uBs big (unsW p)).length) := by
  have hc : ∀ x, x < 256 → (UInt8.ofNat x).toNat = x := fun x hx => by rw [UInt8.toNat_ofNat', Nat.mod_eq_of_lt (by omega)]
  have hu : ∀ u, u < 65536 → ∀ r, ∃ x y, uB big u ++ r = x :: y :: r ∧ unitS x.toNat y.toNat big = u := by
    intro u hu r
    rcases big with _ | _
    · refine ⟨_, _, rfl, ?_⟩
      rw [hc _ (by omega), hc _ (by omega)]
      show u / 256 * 256 + u % 256 = u
      omega
    · refine ⟨_, _, rfl, ?_⟩
      rw [hc _ (by omega), hc _ (by omega)]
      show u / 256 * 256 + u % 256 = u
      omega
  unfold Sc at hp
  rw [uBs_len]
  by_cases h : p < 65536
  · have e : unsW p = [p] := by unfold unsW; rw [if_pos h]
    rw [e]
    show sgU big (uB big p ++ [] ++ r) = _
    rw [List.append_nil]
    obtain ⟨x, y, e1, e2⟩ := hu p h r
    rw [e1]
    rw [sgU_eq, e2, if_pos (by omega)]
    rfl
  · have e : unsW p = [55296 + (p - 65536) / 1024, 56320 + (p - 65536) % 1024] := by unfold unsW; rw [if_neg h]
    rw [e]
    show sgU big (uB big _ ++ (uB big _ ++ []) ++ r) = _
    rw [List.append_nil, List.append_assoc]
    obtain ⟨x, y, e1, e2⟩ := hu (55296 + (p - 65536) / 1024) (by omega) (uB big (56320 + (p - 65536) % 1024) ++ r)
    obtain ⟨z, t, e3, e4⟩ := hu (56320 + (p - 65536) % 1024) (by omega) r
    rw [e1, e3]
    rw [sgU_eq, e2, if_neg (by omega), if_neg (by omega)]
    simp only
    have e9 : 65536 + (55296 + (p - 65536) / 1024 - 55296) * 1024 + (56320 + (p - 65536) % 1024 - 56320) = p := by omega
    rw [e4, if_pos (by omega), e9]
    rfl
theorem decU_enc (big : Bool) : ∀ (ps : List Nat) (n : Nat), (∀ p ∈ ps, Sc p) → (encU big ps).length ≤ n → decU big n (encU big ps) = some ps
  | [], n, _, _ => by rcases n with _ | n <;> rfl
  | p :: ps, n, hp, hn => by
    have e : encU big (p :: ps) = uBs big (unsW p) ++ encU big ps := rfl
    have h1 := sgU_enc big p (hp p (by simp)) (encU big ps)
    have h2 := (sgU_in h1).2.1
    rw [e, List.length_append] at hn
    obtain ⟨m, rfl⟩ : ∃ m, n = m + 1 := ⟨n - 1, by omega⟩
    rw [e, decU_step h1, List.drop_left, decU_enc big ps m (fun q hq => hp q (by simp [hq])) (by omega)]
    rfl
end Go.Proofs.YtffhmjlojmoomaaGreatDoor
