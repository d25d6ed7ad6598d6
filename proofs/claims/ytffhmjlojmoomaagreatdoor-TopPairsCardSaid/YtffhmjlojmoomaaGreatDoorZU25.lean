/- Layer 4, 5 (run, single): a text of signs that are listed in base sixteen, walked. | Layer 4 (run): a part of a row, walked. | Layer 4 (run), plain: a table over another one. -/
import Derived.Test.YtffhmjlojmoomaaGreatDoorZU18
import Derived.Test.YtffhmjlojmoomaaGreatDoorZK1

namespace Go.Proofs.YtffhmjlojmoomaaGreatDoor
open Go.RowKit
set_option linter.unusedVariables false
set_option linter.unusedSimpArgs false

theorem calls_args {P : Program} {f : Nat} {a b : Array Value} {w : World} {Q : Ending → World → Prop} (h : a = b) (hc : Calls P f b w Q) : Calls P f a w Q := by rw [h]; exact hc
/-- the number that digits are in base sixteen -/
def hv (l : List Nat) : Nat := l.foldl (fun n d => n * 16 + d) 0
theorem hv_snoc (l : List Nat) (d : Nat) : hv (l ++ [d]) = hv l * 16 + d := by simp [hv]
def digs (n : Nat) : List Nat := [n / 4096, n / 256 % 16, n / 16 % 16, n % 16]
theorem digs_hv {n : Nat} (h : n < 65536) : hv (digs n) = n := by
  simp only [digs, hv, List.foldl_cons, List.foldl_nil]
  omega
theorem digs_lt {n : Nat} (h : n < 65536) : ∀ d ∈ digs n, d < 16 := by
  intro d hd
  simp only [digs, List.mem_cons, List.not_mem_nil, or_false] at hd
  omega
theorem hx_nat : ∀ d : Fin 16, (hx d.val).toNat < 128 ∧ Lib.indexByte hexL (hx d.val) = (d.val : Int) ∧ ((hx d.val).toNat : Int).toNat.toUInt8 = hx d.val := by decide
theorem encs_ascii (l : List UInt8) (h : ∀ c ∈ l, c.toNat < 128) : encs (l.map UInt8.toNat) = l := by
  induction l with
  | nil => rfl
  | cons c l ih =>
    rw [List.map_cons, encs_cons, encR_one (h c List.mem_cons_self), ih (fun d hd => h d (List.mem_cons_of_mem _ hd)), ofNat_eq rfl]
    rfl
theorem i32_or_nat (a b : Nat) (ha : a < 2147483648) (hb : b < 2147483648) : bits .or .i32 (a : Int) (b : Int) = ((a ||| b : Nat) : Int) := by
  have h : a ||| b < 2 ^ 31 := Nat.or_lt_two_pow (by simpa using ha) (by simpa using hb)
  have e : (BitVec.ofInt IntKind.i32.bits (a : Int) ||| BitVec.ofInt IntKind.i32.bits (b : Int)).toNat = a ||| b := by
    rw [BitVec.toNat_or]
    show (BitVec.ofInt 32 (a : Int)).toNat ||| (BitVec.ofInt 32 (b : Int)).toNat = a ||| b
    rw [BitVec.toNat_ofInt, BitVec.toNat_ofInt]
    congr 1 <;> omega
  simp only [bits, e]
  simp only [IntKind.wrap, IntKind.bits, IntKind.signed]
  simp
  omega
theorem or_hex (x d : Nat) (h : x ≤ 4095) (hd : d < 16) : bits BinOp.or IntKind.i32 ((x : Int) * 16) (d : Int) = ((x * 16 + d : Nat) : Int) := by
  have h1 := i32_or_nat (x * 16) d (by omega) (by omega)
  rw [nat_join 4 (x * 16) d (by omega) (by omega)] at h1
  simpa using h1
theorem Buf.iterAt {w : World} {B e : Nat} {v : Value} {l : List UInt8} (h : Buf w B e v l) {k : Nat} {s : ByteArray} {pos : Nat} (hk : w.heap[k]? = some (.stringIter s pos)) (pos' : Nat) : Buf (w.iterAt k s pos') B e v l := by
  refine ⟨h.1, ?_⟩
  rcases h.2 with h0 | ⟨g, cap, cur, hv, hb, hg, rest⟩
  · exact .inl h0
  · refine .inr ⟨g, cap, cur, hv, hb, ?_, rest⟩
    rw [Lib.iterAt_other _ _ _ _ _ (fun e => by subst e; rw [hk] at hg; cases hg)]
    exact hg
theorem digs_le (n : Nat) (hn : n < 65536) : ∀ j, j < 4 → hv ((digs n).take j) ≤ 4095 := by
  intro j hj
  match j, hj with
  | 0, _ => simp [hv]
  | 1, _ => simp [digs, hv]; omega
  | 2, _ => simp [digs, hv]; omega
  | 3, _ => simp [digs, hv]; omega
theorem iterA_step {P : Program} (w : World) (k : Nat) (l : List UInt8) (j : Nat) (hj : j < l.length) (ha : ∀ c ∈ l, c.toNat < 128) (ty : TypeId) (hk : w.heap[k]? = some (.stringIter ⟨l.toArray⟩ j)) :
    (Instr.next (.pointer (some ⟨k, 0, none⟩)) true ty).run P w = .ok (.tuple #[.bool true, .int .i64 (j : Nat), .int .i32 (l[j].toNat : Nat)]) (w.iterAt k ⟨l.toArray⟩ (j + 1)) := by
  have h := Lib.run_next_any_at (P := P) w k ⟨l.toArray⟩ j ty hk (by show j < l.toArray.size; simpa using hj)
  have hc := ha l[j] (List.getElem_mem hj)
  have e : Utf8.decode ⟨l.toArray⟩ j = (l[j].toNat, 1) := by
    have h1 := dec_enc (p := l[j].toNat) (.inl (by omega)) (l.drop (j + 1))
    rw [encR_one hc, ofNat_eq rfl] at h1
    rw [dec_at, drop_cons l j hj]
    exact h1
  rw [e] at h
  exact h
set_option maxHeartbeats 4000000 in
set_option maxRecDepth 100000 in
theorem signs_any (ns : List Nat) (hn : ns.length ≤ 1000) (hs : Hid (∀ n ∈ ns, 128 ≤ n ∧ n < 55296)) (w : World) :
    Calls Tryz.prog 94 #[.string ⟨(listT ns).toArray⟩] w fun e w' => e = .returned (.string ⟨(encs ns).toArray⟩) ∧ Below w.heap.size w w' := by
  have HLL := Lib.hid (fun k => listT_len (ns.drop k))
  obtain ⟨t, ht⟩ : ∃ t, t = listT ns := ⟨_, rfl⟩
  rw [← ht]
  have HT := Lib.hid ht
  clear ht
  go_enter Tryz.func94, Tryz.ntmps94
  go_wp2
  go_loopw [0, 3] (fun s v wr => ∃ (k : Nat) (d : List UInt8), k ≤ ns.length ∧ Hid (d = listT (ns.drop k)) ∧ d.length = 5 * (ns.length - k) ∧ s = .string ⟨d.toArray⟩ ∧ Hid (Buf wr w.heap.size 5 v (encs (ns.take k))) ∧ Hid (Below w.heap.size w wr)) (fun s _ _ => match s with | .string s => s.size | _ => 0)
  case atStart => exact ⟨0, t, by omega, by rw [HT.out]; exact Lib.hid rfl, by rw [HT.out, listT_len]; omega, rfl, Lib.hid (Buf.nil _ _ _), Lib.hid (Below.refl _ _)⟩
  case round =>
    obtain ⟨k, d, hk, HD, hdl, rfl, V, K⟩ := hrel
    by_cases hlt : k < ns.length
    · have g0 : (5 : Int) ≤ d.length := by omega
      have hnk := hs.out ns[k] (List.getElem_mem hlt)
      have hdr : ns.drop k = ns[k] :: ns.drop (k + 1) := List.drop_eq_getElem_cons hlt
      have HTK := Lib.hid (encs_take ns k hlt)
      have HD1 : Hid (d.take 4 = (digs ns[k]).map hx) := Lib.hid (by rw [HD.out, hdr, listT_cons]; rfl)
      have HD2 : Hid (d.drop 5 = listT (ns.drop (k + 1))) := Lib.hid (by rw [HD.out, hdr, listT_cons]; rfl)
      clear hdr
      generalize ns[k] = n at *
      have hn6 : n < 65536 := by omega
      have HDL := Lib.hid (digs_lt hn6)
      have HDV := Lib.hid (digs_hv hn6)
      have HD2' := Lib.hid (show (d.drop 5).length = 5 * (ns.length - (k + 1)) by rw [List.length_drop, hdl]; omega)
      have HDN := Lib.hid hdl
      clear hn6 hdl
      go_upto_region 6 with (fail)
      rw [HD1.out]
      obtain ⟨ib, hib⟩ : ∃ ib, ib = wr.heap.size := ⟨_, rfl⟩
      have I : Hid ((wr.iter ⟨((digs n).map hx).toArray⟩ 0).heap[ib]? = some (.stringIter ⟨((digs n).map hx).toArray⟩ 0)) := Lib.hid (by rw [hib]; exact World.iter_heap _ _ _)
      have hB : Below wr.heap.size wr (wr.iter ⟨((digs n).map hx).toArray⟩ 0) := (Below.refl wr.heap.size wr).alloc (Nat.le_refl _) _
      have hwi : w.heap.size ≤ ib := by rw [hib]; exact K.out.size
      replace V := Lib.hid (V.out.below hB)
      replace K := Lib.hid (nextB K.out hB)
      rw [← hib]
      clear hB hib HD1
      generalize hl4 : (digs n).map hx = l4 at *
      have HL4 := Lib.hid hl4
      clear hl4
      generalize wr.iter ⟨l4.toArray⟩ 0 = w5 at *
      have HLN : Hid (l4.length = 4) := Lib.hid (by rw [← HL4.out]; rfl)
      have HLA : Hid (∀ c ∈ l4, c.toNat < 128) := Lib.hid (fun c hc => by
        rw [← HL4.out] at hc
        obtain ⟨e, he, rfl⟩ := List.mem_map.1 hc
        exact (hx_nat ⟨e, HDL.out e he⟩).1)
      go_loopw [4] (fun p wr => ∃ (j : Nat), j ≤ 4 ∧ p = .int .i32 (hv ((digs n).take j) : Nat) ∧ Hid (wr.heap[ib]? = some (.stringIter ⟨l4.toArray⟩ j)) ∧ Hid (Buf wr w.heap.size 5 u3 (encs (ns.take k))) ∧ Hid (Below w.heap.size w wr)) (fun _ wr => 5 - wr.iterPos ib)
      case atStart => exact ⟨0, by omega, rfl, I, V, K⟩
      case round =>
        clear I V K
        obtain ⟨j, hj, rfl, I, V, K⟩ := hrel
        by_cases hj4 : j < 4
        · have hjl : j < l4.length := by rw [HLN.out]; exact hj4
          have hnx : ∀ ty, (Instr.next (.pointer (some ⟨ib, 0, none⟩)) true ty).run Tryz.prog wr = .ok (.tuple #[.bool true, .int .i64 (j : Nat), .int .i32 (l4[j].toNat : Nat)]) (wr.iterAt ib ⟨l4.toArray⟩ (j + 1)) := fun ty => iterA_step wr ib l4 j hjl HLA.out ty I.out
          have I2 := Lib.hid (Lib.iterAt_heap wr ib ⟨l4.toArray⟩ j (j + 1) I.out)
          have V2 := Lib.hid (V.out.iterAt I.out (j + 1))
          have K2 := Lib.hid (Lib.below_iterAt K.out hwi ⟨l4.toArray⟩ (j + 1))
          have hdj : j < (digs n).length := hj4
          have hd16 := HDL.out (digs n)[j] (List.getElem_mem hdj)
          have hcd : l4[j] = hx (digs n)[j] := by simp only [← HL4.out, List.getElem_map]
          have HTJ : Hid (hv ((digs n).take (j + 1)) = hv ((digs n).take j) * 16 + (digs n)[j]) := Lib.hid (by rw [List.take_succ_eq_append_getElem hdj, hv_snoc])
          have hx9 : hv ((digs n).take j) ≤ 4095 := digs_le n (by omega) j hj4
          have h128 := HLA.out l4[j] (List.getElem_mem hjl)
          have hxd := hx_nat ⟨(digs n)[j], hd16⟩
          have IR : Hid (∀ w, Calls Tryz.prog 126 #[.string ⟨#[48, 49, 50, 51, 52, 53, 54, 55, 56, 57, 65, 66, 67, 68, 69, 70]⟩, .int .i32 (l4[j].toNat : Nat)] w fun e w' => e = .returned (.int .i64 ((digs n)[j] : Nat)) ∧ w = w') := Lib.hid (fun w => (Tryz.strings_IndexRune_ascii ⟨#[48, 49, 50, 51, 52, 53, 54, 55, 56, 57, 65, 66, 67, 68, 69, 70]⟩ (l4[j].toNat : Nat) w (by omega) (by omega)).mono fun e w' ⟨he, hw⟩ => ⟨by rw [he, hcd, hxd.2.2]; exact congrArg (fun x => Ending.returned (.int .i64 x)) hxd.2.1, hw.symm⟩)
          have HM : Hid (5 - (j + 1) < 5 - wr.iterPos ib) := Lib.hid (by
            have hpos : wr.iterPos ib = j := by unfold World.iterPos; rw [I.out]
            rw [hpos]; omega)
          clear hcd hxd I V K
          generalize (digs n)[j] = dj at *
          generalize hv ((digs n).take j) = x at *
          generalize l4[j].toNat = cj at *
          go_upto_region 7 with (fail)
          clear hnx
          generalize hw6 : wr.iterAt ib ⟨l4.toArray⟩ (j + 1) = w6 at *
          clear hw6
          have ho := or_hex x dj hx9 hd16
          go_wp2_with (go_at_call 126; (with_reducible refine (IR.out _).mono ?_); rintro e wx ⟨rfl, rfl⟩)
          refine ⟨⟨j + 1, by omega, by rw [HTJ.out]; simp, I2, V2, K2⟩, ?_⟩
          have hpos7 : w6.iterPos ib = j + 1 := by unfold World.iterPos; rw [I2.out]
          rw [hpos7]
          exact HM.out
        · have hj5 : j = l4.length := by rw [HLN.out]; omega
          have hnx : ∀ ty, (Instr.next (.pointer (some ⟨ib, 0, none⟩)) true ty).run Tryz.prog wr = .ok (.tuple #[.bool false]) wr := fun ty => Lib.run_next_end_at wr ib _ _ ty I.out (by show ¬ _ < l4.toArray.size; simp; omega)
          have hj44 : j = 4 := by omega
          subst hj44
          have hpv : hv ((digs n).take 4) = n := HDV.out
          rw [hpv]
          have hks := K.out.size
          have hel := encs_len (ns.take k)
          rw [List.length_take] at hel
          have AP := Lib.hid (apR_any V.out (by omega) hks n (by omega))
          have l5 := V.out.lt
          have L5 := Lib.hid l5
          clear l5 hpv hj5 hel
          go_wp2_with (go_at_call 55; (with_reducible refine AP.out.mono ?_); rintro e w5 ⟨v5, rfl, hv5, o, hg5⟩; have V5 := Lib.hid hv5; have K5 := Lib.hid (grown_alloc K.out hks hg5 (fun k e => (L5.out k e).1)); clear hv5 hg5)
          exact ⟨⟨k + 1, d.drop 5, by omega, HD2, HD2'.out, by rw [List.take_of_length_le (by rw [List.length_drop]; exact Nat.le_refl _)], Lib.hid (by rw [HTK.out]; exact V5.out), K5⟩, by simp [ByteArray.size]; omega⟩
    · have g0 : ¬ (5 : Int) ≤ d.length := by omega
      have hf : ns.take k = ns := List.take_of_length_le (by omega)
      rw [hf] at V
      have hcv := ownsRow_bytes (P := Tryz.prog) (src := 35) (dst := 9) (show World.ownsRow _ _ _ _ _ _ _ from V.out) Tryz.underlying35 Tryz.underlying5 Tryz.underlying9
      clear hf
      go_wp2
      go_ret
      exact ⟨rfl, K.out⟩
end Go.Proofs.YtffhmjlojmoomaaGreatDoor

namespace Go.Proofs.YtffhmjlojmoomaaGreatDoor
open Go.RowKit
set_option linter.unusedVariables false
set_option linter.unusedSimpArgs false

/-- a row's codes from a on, up to e -/
def partR (r : Rv) (a e : Nat) : Rv := if r.sg = [] then ⟨a, e - a, r.tp + (a - r.fr), [], none, 0⟩ else ⟨a, e - a, 0, (r.sg.drop (a - r.fr)).take (e - a), (match r.sa with | some ⟨b, off, x⟩ => some ⟨b, off + (a - r.fr), x⟩ | none => none), r.cp - (a - r.fr)⟩
theorem partR_fr (r : Rv) (a e : Nat) : (partR r a e).fr = a ∧ (partR r a e).ct = e - a := by
  unfold partR
  split <;> exact ⟨rfl, rfl⟩
theorem partR_ok {w : World} {r : Rv} {a e : Nat} (h : RvOk w r) (h1 : r.fr ≤ a) (h2 : a < e) (h3 : e ≤ r.fr + r.ct) (h4 : e ≤ 1048576) : RvOk w (partR r a e) := by
  obtain ⟨b1, b2, hr⟩ := h
  unfold partR
  rcases hr with ⟨e1, e2, e3, e4⟩ | ⟨hne, hct, b, off, hsa, hcap, hlt, hc⟩
  · rw [if_pos e1]
    exact ⟨by show a ≤ _; omega, by show e - a ≤ _; omega, .inl ⟨rfl, rfl, rfl, by show r.tp + (a - r.fr) + (e - a) ≤ _; omega⟩⟩
  · rw [if_neg hne]
    have hl : ((r.sg.drop (a - r.fr)).take (e - a)).length = e - a := by rw [List.length_take, List.length_drop]; omega
    refine ⟨by show a ≤ _; omega, by show e - a ≤ _; omega, .inr ⟨?_, hl.symm, b, off + (a - r.fr), by rw [hsa], ?_, hlt, ?_⟩⟩
    · intro h0
      have := congrArg List.length h0
      rw [hl] at this
      simp at this
      omega
    · show ((r.sg.drop (a - r.fr)).take (e - a)).length ≤ r.cp - (a - r.fr)
      rw [hl]
      omega
    · intro i hi
      have hi' : i < e - a := by rw [← hl]; exact hi
      show w.cell? ⟨b, off + (a - r.fr) + i, none⟩ = some (.int .i32 (((r.sg.drop (a - r.fr)).take (e - a))[i]'(by rw [hl]; exact hi') : Nat))
      rw [List.getElem_take, List.getElem_drop, Nat.add_assoc]
      exact hc _ (by omega)
theorem partR_signs {w : World} {r : Rv} {a e : Nat} (h : RvOk w r) (h1 : r.fr ≤ a) (h2 : a < e) (h3 : e ≤ r.fr + r.ct) : rwS (partR r a e) = ((rwS r).drop (a - r.fr)).take (e - a) := by
  obtain ⟨b1, b2, hr⟩ := h
  unfold partR rwS
  rcases hr with ⟨e1, e2, e3, e4⟩ | ⟨hne, hct, b, off, hsa, hcap, hlt, hc⟩
  · rw [if_pos e1, if_pos e1]
    simp only [if_true]
    apply List.ext_getElem
    · simp; omega
    · intro i hi1 hi2
      simp
      omega
  · rw [if_neg hne, if_neg hne]
    simp only []
    rw [if_neg]
    intro h0
    have := congrArg List.length h0
    rw [List.length_take, List.length_drop] at this
    simp at this
    omega
set_option maxHeartbeats 4000000 in
set_option maxRecDepth 100000 in
theorem part_any (r : Rv) (a e : Nat) (h1 : r.fr ≤ a) (h2 : a < e) (h3 : e ≤ r.fr + r.ct) (w : World) (h : Hid (RvOk w r)) : Calls Tryz.prog 112 #[.agg #[.int .i64 r.fr, .int .i64 r.ct, .int .i32 r.tp, .slice r.sa r.sg.length r.cp], .int .i64 a, .int .i64 e] w fun x w' => x = .returned (.agg (rvR (partR r a e)).toArray) ∧ Below w.heap.size w w' := by
  have b1 := h.out.1
  have b2 := h.out.2.1
  have hle := rwS_len h.out
  have RS := Lib.hid (fun w h => rsign_any r (a - r.fr) (by omega) w h (by omega))
  have HSK : Hid (r.sg = [] → (rwS r)[a - r.fr]'(by omega) = r.tp + (a - r.fr)) := Lib.hid (fun h0 => by simp [rwS, h0])
  rw [show r.fr + (a - r.fr) = a by omega] at RS
  have K := Lib.hid (((Below.refl w.heap.size w).alloc (Nat.le_refl _) (.cells #[.int .i64 r.fr, .int .i64 r.ct, .int .i32 r.tp, .slice r.sa r.sg.length r.cp] 108)).alloc (by simp) (.cells #[.int .i64 0, .int .i64 0, .int .i32 0, .slice none 0 0] 108))
  have X := Lib.hid (at_a1 w #[.int .i64 r.fr, .int .i64 r.ct, .int .i32 r.tp, .slice r.sa r.sg.length r.cp] 108 (.cells #[.int .i64 0, .int .i64 0, .int .i32 0, .slice none 0 0] 108))
  have F := Lib.hid (at_a2 w #[.int .i64 0, .int .i64 0, .int .i32 0, .slice none 0 0] 108 (.cells #[.int .i64 r.fr, .int .i64 r.ct, .int .i32 r.tp, .slice r.sa r.sg.length r.cp] 108))
  obtain ⟨rb, hrb⟩ : ∃ rb, rb = w.heap.size := ⟨_, rfl⟩
  have hz : ((w.alloc (.cells #[.int .i64 r.fr, .int .i64 r.ct, .int .i32 r.tp, .slice r.sa r.sg.length r.cp] 108)).alloc (.cells #[.int .i64 0, .int .i64 0, .int .i32 0, .slice none 0 0] 108)).heap.size = rb + 2 := by rw [hrb]; simp
  go_enter Tryz.func112, Tryz.ntmps112
  go_upto_region 1 with (fail)
  generalize (w.alloc (.cells #[.int .i64 r.fr, .int .i64 r.ct, .int .i32 r.tp, .slice r.sa r.sg.length r.cp] 108)).alloc (.cells #[.int .i64 0, .int .i64 0, .int .i32 0, .slice none 0 0] 108) = w0 at *
  rw [← hrb] at X F
  rw [← hrb]
  have HRB := Lib.hid hrb
  clear hrb
  have ek : (e : Int) - a = ((e - a : Nat) : Int) := by omega
  go_upto_region 2 with (fail)
  have P := Lib.hid (at_a0 w0 #[.int .i64 a, .int .i64 ((e - a : Nat) : Int), .int .i32 0, .slice none 0 0] 108)
  have hB := (Below.refl w0.heap.size w0).alloc (Nat.le_refl _) (.cells #[.int .i64 a, .int .i64 ((e - a : Nat) : Int), .int .i32 0, .slice none 0 0] 108)
  rw [hz] at P
  replace X := Lib.hid (block_below X.out hB)
  replace F := Lib.hid (block_below F.out hB)
  replace K := Lib.hid (nextB K.out hB)
  clear hB
  generalize w0.alloc (.cells #[.int .i64 a, .int .i64 ((e - a : Nat) : Int), .int .i32 0, .slice none 0 0] 108) = w1 at *
  obtain ⟨-, -, hr⟩ := h.out
  have HK := Lib.hid (h.out.below K.out)
  obtain ⟨x0, x1, x2, x3⟩ := cells4 (X.out)
  obtain ⟨y0, y1, y2, y3⟩ := cells4 (F.out); obtain ⟨yf0, yf1, yf2, yf3⟩ := frees4 (F.out)
  obtain ⟨z0, z1, z2, z3⟩ := cells4 (P.out); obtain ⟨zf0, zf1, zf2, zf3⟩ := frees4 (P.out)
  have hne1 : rb ≠ rb + 2 := by omega
  have hne2 : rb + 1 ≠ rb + 2 := by omega
  have hwr : w.heap.size ≤ rb + 1 := by rw [HRB.out]; omega
  have hwr2 : w.heap.size ≤ rb + 2 := by rw [HRB.out]; omega
  have HW1 := Lib.hid hwr
  have HW2 := Lib.hid hwr2
  clear hwr hwr2
  rcases hr with ⟨e1, e2, e3, e4⟩ | ⟨hne, hct, b, off, hsa, hcap, hlt, hc⟩
  · have HS := Lib.hid (HSK.out e1)
    have HPR : Hid (partR r a e = ⟨a, e - a, r.tp + (a - r.fr), [], none, 0⟩) := Lib.hid (by unfold partR; rw [if_pos e1])
    obtain ⟨fr, ct, tp, sg, sa, cp⟩ := r
    simp only at e1 e2 e3
    subst e1 e2 e3
    simp only at HS
    rw [HS.out] at RS
    simp only [List.length_nil] at RS
    clear HSK HS
    generalize tp + (a - fr) = q at *
    go_wp2_with (go_at_call 69; (with_reducible refine (RS.out _ HK).mono ?_); rintro e w2 ⟨rfl, hb2⟩; replace P := Lib.hid (block_below P.out hb2); replace F := Lib.hid (block_below F.out hb2); replace K := Lib.hid (nextB K.out hb2); clear hb2 z0 z1 z2 z3 zf0 zf1 zf2 zf3 y0 y1 y2 y3 yf0 yf1 yf2 yf3 x0 x1 x2 x3; obtain ⟨z0, z1, z2, z3⟩ := cells4 (P.out); obtain ⟨zf0, zf1, zf2, zf3⟩ := frees4 (P.out); obtain ⟨y0, y1, y2, y3⟩ := cells4 (F.out); obtain ⟨yf0, yf1, yf2, yf3⟩ := frees4 (F.out))
    have F2 := (heap_set_other (j := 2) (.int .i32 q) hne2).trans F.out
    refine end_cell (by rfl) rfl (by rfl) (store4 F2 rfl) Tryz.underlying108 rfl (by kernel_rfl) ?_
    exact ⟨by rw [HPR.out]; rfl, ((((K.out.setCell HW2.out _).setCell HW1.out _).setCell HW1.out _).setCell HW1.out _).setCell HW1.out _⟩
  · have hlo : (a : Int) - (r.fr : Int) = ((a - r.fr : Nat) : Int) := by omega
    have hhi : (e : Int) - (r.fr : Int) = ((e - r.fr : Nat) : Int) := by omega
    have hl : ((r.sg.drop (a - r.fr)).take (e - a)).length = e - r.fr - (a - r.fr) := by rw [List.length_take, List.length_drop]; omega
    have HPR : Hid (partR r a e = ⟨a, e - a, 0, (r.sg.drop (a - r.fr)).take (e - a), some ⟨b, off + (a - r.fr), none⟩, r.cp - (a - r.fr)⟩) := Lib.hid (by unfold partR; rw [if_neg hne, hsa])
    have HHL := Lib.hid hl
    have hlh : a - r.fr ≤ e - r.fr := by omega
    have hhc : e - r.fr ≤ r.cp := by omega
    have hll : e - r.fr ≤ r.sg.length := by omega
    rw [hsa] at x3
    clear hl hc RS HSK hsa
    obtain ⟨lo, hlo2⟩ : ∃ lo, lo = a - r.fr := ⟨_, rfl⟩
    obtain ⟨hi, hhi2⟩ : ∃ hi, hi = e - r.fr := ⟨_, rfl⟩
    rw [← hlo2] at hlo hlh
    rw [← hhi2] at hhi hlh hhc hll
    have HLO := Lib.hid hlo2
    have HHI := Lib.hid hhi2
    clear hlo2 hhi2
    go_wp2
    have F2 := (heap_set_other (j := 3) (.slice (some ⟨b, off + lo, none⟩) (hi - lo) (r.cp - lo)) hne2).trans F.out
    refine end_cell (by rfl) rfl (by rfl) (store4 F2 rfl) Tryz.underlying108 rfl (by kernel_rfl) ?_
    exact ⟨by rw [HPR.out]; unfold rvR; simp only []; rw [HHL.out, HLO.out, HHI.out]; rfl, ((((K.out.setCell HW2.out _).setCell HW1.out _).setCell HW1.out _).setCell HW1.out _).setCell HW1.out _⟩
end Go.Proofs.YtffhmjlojmoomaaGreatDoor

namespace Go.Proofs.YtffhmjlojmoomaaGreatDoor
open Go.RowKit
set_option linter.unusedVariables false
set_option linter.unusedSimpArgs false

/-- rows apart from one another, in any order -/
def RvAp (x y : Rv) : Prop := x.fr + x.ct ≤ y.fr ∨ y.fr + y.ct ≤ x.fr
theorem RvAp.symm {x y : Rv} (h : RvAp x y) : RvAp y x := Or.symm h
theorem tabSign_in {S : List Rv} (hd : S.Pairwise RvAp) {q : Rv} (hq : q ∈ S) {c : Nat} (h1 : q.fr ≤ c) (h2 : c < q.fr + q.ct) (hl : (rwS q).length = q.ct) : tabSign S c = some ((rwS q)[c - q.fr]'(by omega)) := by
  induction S with
  | nil => cases hq
  | cons r S ih =>
    obtain ⟨d1, d2⟩ := List.pairwise_cons.1 hd
    unfold tabSign
    rw [List.findSome?_cons]
    rcases List.mem_cons.1 hq with rfl | hq
    · rw [if_pos ⟨h1, h2⟩, List.getElem?_eq_getElem (by omega)]
    · have := d1 q hq
      unfold RvAp at this
      rw [if_neg (by omega)]
      exact ih d2 hq
theorem tabSign_app (A B : List Rv) (c : Nat) : tabSign (A ++ B) c = match tabSign A c with | some p => some p | none => tabSign B c := by
  unfold tabSign
  rw [List.findSome?_append]
  rcases A.findSome? _ with _ | p <;> rfl
theorem dis_ap {S : List Rv} (h : TabDis S) : S.Pairwise RvAp := List.Pairwise.imp (fun h => .inl h) h
/-- tables whose rows are sound -/
def RowsOk (S : List Rv) : Prop := ∀ r ∈ S, 1 ≤ r.ct ∧ (rwS r).length = r.ct ∧ r.fr + r.ct ≤ 1048576
/-- a sign that the one has and the other hasn't -/
def ovS (A B : List Rv) (c : Nat) : Option Nat := match tabSign A c with | some _ => none | none => tabSign B c
structure OvI (A B : List Rv) (a i : Nat) (P : List Rv) : Prop where
  rows : ∀ q ∈ P, 1 ≤ q.ct ∧ q.fr + q.ct ≤ a ∧ (rwS q).length = q.ct
  ap : P.Pairwise RvAp
  sg : ∀ c, c < a → tabSign P c = ovS A B c
  idx : ∀ j (h : j < A.length), j < i → A[j].fr + A[j].ct ≤ a
  len : P.length ≤ a
theorem OvI.start (A B : List Rv) : OvI A B 0 0 [] := ⟨fun q hq => (by cases hq), List.Pairwise.nil, fun c hc => absurd hc (by omega), fun j h hj => absurd hj (by omega), Nat.le_refl _⟩
theorem OvI.beyond {A B P : List Rv} {a i c : Nat} (h : OvI A B a i P) (hc : a ≤ c) : tabSign P c = none :=
  tabSign_none (fun q hq => by have := (h.rows q hq).2.1; omega)
/-- nothing of the other table lies up to e -/
theorem OvI.gap {A B P : List Rv} {a i e : Nat} (h : OvI A B a i P) (he : a ≤ e) (hB : ∀ c, a ≤ c → c < e → tabSign B c = none) : OvI A B e i P := by
  refine ⟨fun q hq => ?_, h.ap, fun c hc => ?_, fun j hj hji => Nat.le_trans (h.idx j hj hji) he, Nat.le_trans h.len he⟩
  · obtain ⟨h1, h2, h3⟩ := h.rows q hq
    exact ⟨h1, by omega, h3⟩
  · by_cases h1 : c < a
    · exact h.sg c h1
    · rw [h.beyond (by omega)]
      unfold ovS
      rw [hB c (by omega) hc]
      rcases tabSign A c with _ | p <;> rfl
theorem OvI.skip {A B P : List Rv} {a i : Nat} (h : OvI A B a i P) (hi : ∀ h : i < A.length, A[i].fr + A[i].ct ≤ a) : OvI A B a (i + 1) P :=
  ⟨h.rows, h.ap, h.sg, fun j hj hji => by
    rcases Nat.lt_or_eq_of_le (Nat.le_of_lt_succ hji) with h1 | h1
    · exact h.idx j hj h1
    · subst h1; exact hi hj, h.len⟩
/-- the one has the codes up to e -/
theorem OvI.cover {A B P : List Rv} {a i e : Nat} (h : OvI A B a i P) (hA : TabDis A) (hok : RowsOk A) (hi : i < A.length) (h1 : A[i].fr ≤ a) (h2 : a ≤ e) (h3 : e ≤ A[i].fr + A[i].ct) : OvI A B e i P := by
  refine ⟨fun q hq => ?_, h.ap, fun c hc => ?_, fun j hj hji => Nat.le_trans (h.idx j hj hji) h2, Nat.le_trans h.len h2⟩
  · obtain ⟨h4, h5, h6⟩ := h.rows q hq
    exact ⟨h4, by omega, h6⟩
  · by_cases hca : c < a
    · exact h.sg c hca
    · rw [h.beyond (by omega)]
      unfold ovS
      rw [tabSign_in (dis_ap hA) (List.getElem_mem hi) (by omega) (by omega) (hok _ (List.getElem_mem hi)).2.1]
/-- a part of the other's row that the one hasn't -/
theorem OvI.part {A B P : List Rv} {a i e : Nat} {r : Rv} {w : World} (h : OvI A B a i P) (hA : TabDis A) (hB : TabDis B) (hokA : RowsOk A) (hokB : RowsOk B) (hr : r ∈ B) (hrv : RvOk w r) (h1 : r.fr ≤ a) (h2 : a < e) (h3 : e ≤ r.fr + r.ct) (h4 : ∀ h : i < A.length, e ≤ A[i].fr) :
    OvI A B e i (P ++ [partR r a e]) := by
  have hp := partR_fr r a e
  have hps := partR_signs hrv h1 h2 h3
  have hrl := (hokB r hr).2.1
  have hpl : (rwS (partR r a e)).length = e - a := by rw [hps, List.length_take, List.length_drop]; omega
  have hfree : ∀ c, a ≤ c → c < e → tabSign A c = none := by
    intro c hc1 hc2
    refine tabSign_none (fun o ho => ?_)
    obtain ⟨j, hj, rfl⟩ := List.getElem_of_mem ho
    by_cases hji : j < i
    · have := h.idx j hj hji
      omega
    · have h5 := h4 (by omega)
      by_cases hji2 : j = i
      · subst hji2; omega
      · have := List.pairwise_iff_getElem.1 hA i j (by omega) hj (by omega)
        have := (hokA _ (List.getElem_mem (show i < A.length by omega))).1
        omega
  refine ⟨fun q hq => ?_, ?_, fun c hc => ?_, fun j hj hji => (by have := h.idx j hj hji; omega), (by have := h.len; simp; omega)⟩
  · rcases List.mem_append.1 hq with hq | hq
    · obtain ⟨h4, h5, h6⟩ := h.rows q hq
      exact ⟨h4, by omega, h6⟩
    · obtain rfl : q = partR r a e := by simpa using hq
      rw [hp.1, hp.2]
      exact ⟨by omega, by omega, hpl⟩
  · rw [List.pairwise_append]
    refine ⟨h.ap, List.pairwise_singleton _ _, fun q hq y hy => ?_⟩
    obtain rfl : y = partR r a e := by simpa using hy
    have := (h.rows q hq).2.1
    left
    rw [hp.1]
    omega
  · rw [tabSign_app]
    by_cases hca : c < a
    · rw [h.sg c hca]
      rcases ho : ovS A B c with _ | p
      · show tabSign [partR r a e] c = none
        exact tabSign_none (fun q hq => by
          obtain rfl : q = partR r a e := by simpa using hq
          rw [hp.1]; omega)
      · rfl
    · rw [h.beyond (by omega)]
      unfold ovS
      rw [hfree c (by omega) hc, tabSign_in (dis_ap hB) hr (by omega) (by omega) hrl]
      show tabSign [partR r a e] c = _
      unfold tabSign
      rw [List.findSome?_cons, hp.1, hp.2, if_pos (by omega), List.getElem?_eq_getElem (by omega)]
      simp only []
      congr 1
      simp only [hps, List.getElem_take, List.getElem_drop]
      congr 1
      omega
theorem tabSign_perm {S S' : List Rv} (hp : S'.Perm S) (hd : S.Pairwise RvAp) (hl : ∀ q ∈ S, (rwS q).length = q.ct) (c : Nat) : tabSign S' c = tabSign S c := by
  have hd' : S'.Pairwise RvAp := hp.symm.pairwise hd (fun {a b} h => RvAp.symm h)
  by_cases h : ∃ q ∈ S, q.fr ≤ c ∧ c < q.fr + q.ct
  · obtain ⟨q, hq, h1, h2⟩ := h
    rw [tabSign_in hd hq h1 h2 (hl q hq), tabSign_in hd' (hp.mem_iff.2 hq) h1 h2 (hl q hq)]
  · rw [tabSign_none (S := S) (fun q hq hc => h ⟨q, hq, hc⟩), tabSign_none (S := S') (fun q hq hc => h ⟨q, hp.mem_iff.1 hq, hc⟩)]
theorem OvI.apart {A B P : List Rv} {a i : Nat} (h : OvI A B a i P) (hA : TabDis A) (hokA : RowsOk A) : (A ++ P).Pairwise RvAp := by
  rw [List.pairwise_append]
  refine ⟨dis_ap hA, h.ap, fun o ho q hq => ?_⟩
  obtain ⟨q1, q2, q3⟩ := h.rows q hq
  have ho1 := hokA o ho
  rcases Nat.lt_or_ge o.fr (q.fr + q.ct) with h1 | h1
  · rcases Nat.lt_or_ge q.fr (o.fr + o.ct) with h2 | h2
    · exfalso
      have hc : ∃ c, o.fr ≤ c ∧ c < o.fr + o.ct ∧ q.fr ≤ c ∧ c < q.fr + q.ct := by
        rcases Nat.le_total o.fr q.fr with h3 | h3
        · exact ⟨q.fr, by omega, by omega, by omega, by omega⟩
        · exact ⟨o.fr, by omega, by omega, by omega, by omega⟩
      obtain ⟨c, c1, c2, c3, c4⟩ := hc
      have e1 := tabSign_in h.ap hq c3 c4 q3
      have e2 := tabSign_in (dis_ap hA) ho c1 c2 ho1.2.1
      rw [h.sg c (by omega)] at e1
      unfold ovS at e1
      rw [e2] at e1
      cases e1
    · exact .inl h2
  · exact .inr h1
/-- the table that comes of it -/
theorem OvI.done {A B P S : List Rv} {a i : Nat} (h : OvI A B a i P) (hA : TabDis A) (hokA : RowsOk A) (hB : ∀ c, a ≤ c → tabSign B c = none) (ha : a ≤ 1048576) (hp : S.Perm (A ++ P)) (hs : S.Pairwise (fun a b => ¬ b.fr < a.fr)) :
    TabDis S ∧ RowsOk S ∧ ∀ c, tabSign S c = match tabSign A c with | some p => some p | none => tabSign B c := by
  have hap := h.apart hA hokA
  have hok : RowsOk (A ++ P) := fun q hq => by
    rcases List.mem_append.1 hq with hq | hq
    · exact hokA q hq
    · obtain ⟨q1, q2, q3⟩ := h.rows q hq
      exact ⟨q1, q3, by omega⟩
  have hapS : S.Pairwise RvAp := hp.symm.pairwise hap (fun {a b} h => RvAp.symm h)
  have hokS : RowsOk S := fun q hq => hok q (hp.mem_iff.1 hq)
  refine ⟨?_, hokS, fun c => ?_⟩
  · unfold TabDis
    have := List.Pairwise.and hapS hs
    rw [List.pairwise_iff_getElem] at this ⊢
    intro x y hx hy hxy
    have h1 := this x y hx hy hxy
    have h2 := (hokS _ (List.getElem_mem hx)).1
    have h3 := (hokS _ (List.getElem_mem hy)).1
    unfold RvAp at h1
    omega
  · rw [tabSign_perm hp hap (fun q hq => (hok q hq).2.1), tabSign_app]
    rcases hc : tabSign A c with _ | p
    · show tabSign P c = tabSign B c
      by_cases h1 : c < a
      · rw [h.sg c h1]
        unfold ovS
        rw [hc]
      · rw [h.beyond (by omega), hB c (by omega)]
    · rfl
end Go.Proofs.YtffhmjlojmoomaaGreatDoor
