/- Layer 18 (packet): the document's Pages, walked. -/
import Derived.Test.YtmnmonmbdgedbaaPk5
import Derived.Test.YtmnmonmbdgedbaaPk9
import Derived.Deep.DeepCutAuto
namespace Go.Proofs.Ytmnmonmbdgedbaa
open Go.RowKit
set_option linter.unusedVariables false
set_option linter.unusedSimpArgs false

theorem pk_flat_le (ps : List (List UInt8)) (j : Nat) : (ps.take j).flatten.length ≤ ps.flatten.length := by
  have h : ps.flatten = (ps.take j).flatten ++ (ps.drop j).flatten := by rw [← List.flatten_append, List.take_append_drop]
  rw [h, List.length_append]
  omega
theorem pk_lflat_le (ps : List (List UInt8)) (j : Nat) : ((ps.take j).map (fun p => laceL p.length)).flatten.length ≤ (ps.map (fun p => laceL p.length)).flatten.length := by
  rw [List.map_take]
  exact pk_flat_le _ j
theorem pk_even_n : ∀ n : Nat, n < 256 → (if ((n : Int) % 2) == 1 then (n : Int) - 1 else n) = ((n &&& 254 : Nat) : Int) := by decide +kernel
theorem pk_even (c : UInt8) : (if ((c.toNat : Int) % 2) == 1 then (c.toNat : Int) - 1 else c.toNat) = ((c &&& 254).toNat : Int) := by
  rw [UInt8.toNat_and]
  exact pk_even_n c.toNat (UInt8.toNat_lt c)
theorem endsB_snoc (l : List UInt8) (c : UInt8) : endsB (l ++ [c]) = (endsB l || (c != 255)) := by
  unfold endsB
  rw [List.any_append]
  simp
/-- the statements of a function from a region on (the greatest piece of code that begins there) -/
def headIs (n : Nat) : Code → Bool
  | .region k _ _ => k == n
  | .seq a _ => headIs n a
  | .block _ c => headIs n c
  | .scope c => headIs n c
  | _ => false
def codeAt (n : Nat) : Code → Option Code
  | .seq a b => if headIs n a = true then some (.seq a b) else
    match codeAt n a with
    | some c => some c
    | none => codeAt n b
  | .loop c => codeAt n c
  | .block _ c => codeAt n c
  | .scope c => codeAt n c
  | .cond _ a b => match codeAt n a with
    | some c => some c
    | none => codeAt n b
  | .region k ops d => if k == n then some (.region k ops d) else none
  | _ => none
noncomputable def tail42c : Code := (Try.f42.body.bind (codeAt 27)).getD .skip
set_option maxHeartbeats 4000000 in
set_option maxRecDepth 100000 in
theorem pk_tail3 {Q : Exit → Act → World → Prop} {w wc : World} {h : Pg} {rb pb : Nat} {LA body la : List UInt8} {out : List Pg} {a3 : Option Addr} {cap3 q e nq : Nat} {f3 : UInt8} {po : Nat} {u0 u1 u3 u4 u7 u12 u13 u14 u15 u16 u17 u18 u19 u20 u21 u22 u23 u24 u25 u26 u27 u28 u29 u30 u31 u32 u33 u34 u35 u36 u37 u38 u39 u40 u41 u42 u43 u44 u45 u46 u47 u48 u49 u50 u51 u52 u53 u54 u55 u56 u57 u58 u59 u60 u61 u62 u63 u64 u65 u66 u67 u68 u69 u70 u71 u72 u73 u74 u75 u76 u77 u78 u79 u80 u81 u82 u83 u84 u85 u86 u87 u88 u89 u90 u91 u92 u93 u94 u95 u96 u97 u98 u99 u100 u101 u102 u103 u104 u105 u106 u107 u108 u109 u110 u111 u112 u113 u114 u115 : Value}
    (hlal : la.length ≤ 255) (hbl : body.length ≤ 1000000) (hle1 : (lacesL la : Int) ≤ body.length) (hrp : rb ≠ pb) (hcs : w.heap.size ≤ pb) (hwr : w.heap.size ≤ rb) (HVN : Hid ((Value.slice a3 out.length cap3).ownBlock ≠ some pb)) (hol : out.length ≤ 1001254)
    (P : Hid (wc.heap[pb]? = some (.cells #[.int .i64 f3.toNat, .int .u64 po, .int .u64 h.se, .int .u64 nq, .string ⟨la.toArray⟩, .string ⟨#[]⟩] 81 (0, 0)))) (X : Hid (wc.heap[rb]? = some (.cells #[.int .i64 h.fl.toNat, .int .u64 h.po, .int .u64 h.se, .int .u64 h.nu, .string ⟨h.la.toArray⟩, .string ⟨h.bo.toArray⟩] 81 (0, 0)))) (V : Hid (Recs wc (rb + 1) 81 6 (.slice a3 out.length cap3) (out.map rgR))) (K : Hid (Below w.heap.size w wc))
    (hQ : ∀ (s8 : Value) (w5 : World) (x14 x101 x102 x103 x104 x105 x106 x107 x108 x109 x110 x111 x112 x113 x114 : Value), Hid (w5.heap[rb]? = some (.cells #[.int .i64 h.fl.toNat, .int .u64 h.po, .int .u64 h.se, .int .u64 h.nu, .string ⟨h.la.toArray⟩, .string ⟨h.bo.toArray⟩] 81 (0, 0))) → Hid (Recs w5 (rb + 1) 81 6 (s8) ((out ++ [(⟨f3, po, h.se, nq, la, body.take (lacesL la)⟩ : Pg)]).map rgR)) → Hid (Below w.heap.size w w5) → Q .normal ⟨#[u0, u1, .pointer (some ⟨rb, 0, none⟩), u3, u4, .string ⟨LA.toArray⟩, .string ⟨(body.drop (lacesL la)).toArray⟩, u7, s8, .int .i64 (q : Nat), .int .i64 (e : Nat), .pointer (some ⟨pb, 0, none⟩), u12, u13, x14, u15, u16, u17, u18, u19, u20, u21, u22, u23, u24, u25, u26, u27, u28, u29, u30, u31, u32, u33, u34, u35, u36, u37, u38, u39, u40, u41, u42, u43, u44, u45, u46, u47, u48, u49, u50, u51, u52, u53, u54, u55, u56, u57, u58, u59, u60, u61, u62, u63, u64, u65, u66, u67, u68, u69, u70, u71, u72, u73, u74, u75, u76, u77, u78, u79, u80, u81, u82, u83, u84, u85, u86, u87, u88, u89, u90, u91, u92, u93, u94, u95, u96, u97, u98, u99, u100, x101, x102, x103, x104, x105, x106, x107, x108, x109, x110, x111, x112, x113, x114, u115], []⟩ w5) :
    Code.wp Try.prog tail42c Q ⟨#[u0, u1, .pointer (some ⟨rb, 0, none⟩), u3, u4, .string ⟨LA.toArray⟩, .string ⟨body.toArray⟩, u7, .slice a3 out.length cap3, .int .i64 (q : Nat), .int .i64 (e : Nat), .pointer (some ⟨pb, 0, none⟩), u12, u13, u14, u15, u16, u17, u18, u19, u20, u21, u22, u23, u24, u25, u26, u27, u28, u29, u30, u31, u32, u33, u34, u35, u36, u37, u38, u39, u40, u41, u42, u43, u44, u45, u46, u47, u48, u49, u50, u51, u52, u53, u54, u55, u56, u57, u58, u59, u60, u61, u62, u63, u64, u65, u66, u67, u68, u69, u70, u71, u72, u73, u74, u75, u76, u77, u78, u79, u80, u81, u82, u83, u84, u85, u86, u87, u88, u89, u90, u91, u92, u93, u94, u95, u96, u97, u98, u99, u100, u101, u102, u103, u104, u105, u106, u107, u108, u109, u110, u111, u112, u113, u114, u115], []⟩ wc := by
  conv => arg 2; whnf
  obtain ⟨y0, y1, y2, y3, y4, y5⟩ := cells6 (P.out); obtain ⟨yf0, yf1, yf2, yf3, yf4, yf5⟩ := frees6 (P.out)
  have LG := Lib.hid (fun w => rlong_any la w (by omega))
  go_upto_region 28 with (go_at_call 35; (with_reducible refine (LG.out _).mono ?_); rintro e w' ⟨rfl, rfl⟩)
  go_upto_region 29 with (fail)
  have P2 : Hid ((wc.setCell ⟨pb, 5, none⟩ (.string ⟨(body.take (lacesL la)).toArray⟩)).heap[pb]? = some (.cells #[.int .i64 f3.toNat, .int .u64 po, .int .u64 h.se, .int .u64 nq, .string ⟨la.toArray⟩, .string ⟨(body.take (lacesL la)).toArray⟩] 81 (0, 0))) := Lib.hid (setCell_at (j := 5) (v := .string ⟨(body.take (lacesL la)).toArray⟩) P.out)
  replace X := Lib.hid ((heap_set_other (j := 5) (.string ⟨(body.take (lacesL la)).toArray⟩) hrp).trans X.out)
  replace V := Lib.hid (V.out.kept (row := some pb) (Only.set (b := pb) (j := 5) (.string ⟨(body.take (lacesL la)).toArray⟩)) (.inr HVN.out))
  replace K := Lib.hid (Below.setCell (p := ⟨pb, 5, none⟩) K.out hcs (.string ⟨(body.take (lacesL la)).toArray⟩))
  clear P y0 y1 y2 y3 y4 y5 yf0 yf1 yf2 yf3 yf4 yf5
  have P := P2
  clear P2
  generalize (wc.setCell ⟨pb, 5, none⟩ (.string ⟨(body.take (lacesL la)).toArray⟩)) = w4 at *
  obtain ⟨z0, z1, z2, z3, z4, z5⟩ := cells6 (P.out)
  have hwrb : rb + 1 ≤ w4.heap.size := by have := (Array.getElem?_eq_some_iff.1 X.out).1; omega
  have eB : List.take (body.length - lacesL la) (List.drop (lacesL la) body) = body.drop (lacesL la) := List.take_of_length_le (by rw [List.length_drop]; exact Nat.le_refl _)
  go_wp2_with (at_builtin; refine wpList_pushR w4 rfl (.tmp 111) (.tmp 113) 72 rfl (rb + 1) 81 6 64 _ Try.underlying72 info_rpage rfl (by decide) (by decide) _ (out.map rgR) (rgR ⟨f3, po, h.se, nq, la, body.take (lacesL la)⟩) _ (by rfl) rfl (one_rgR _) (by rfl) V.out (by rfl) (by rw [List.length_map]; omega) (by omega) _ ?_; intro v5 w5 hr5 hg5; have hl5 := V.out.lt; have V5 := Lib.hid hr5; have KG := Lib.hid (pk_grown (Below.refl (rb + 1) w4) hg5 (fun k e => (hl5 k e).1) (by omega)); clear hl5 hr5 hg5)
  have X9 := Lib.hid ((KG.out.block rb (by omega)).trans X.out)
  have K9 := Lib.hid (K.out.trans (KG.out.mono (by omega)))
  exact hQ _ _ _ _ _ _ _ _ _ _ _ _ _ _ _ _ _ X9 (Lib.hid (by rw [List.map_append]; exact V5.out)) K9
noncomputable def tail42b : Code := (Try.f42.body.bind (codeAt 20)).getD .skip
set_option maxHeartbeats 4000000 in
set_option maxRecDepth 100000 in
theorem pk_tail2 {Q : Exit → Act → World → Prop} {w wc : World} {h : Pg} {rb pb : Nat} {LA body la : List UInt8} {out : List Pg} {a3 : Option Addr} {cap3 q e nq : Nat} {f3 : UInt8} {u0 u1 u3 u4 u7 u12 u13 u14 u15 u16 u17 u18 u19 u20 u21 u22 u23 u24 u25 u26 u27 u28 u29 u30 u31 u32 u33 u34 u35 u36 u37 u38 u39 u40 u41 u42 u43 u44 u45 u46 u47 u48 u49 u50 u51 u52 u53 u54 u55 u56 u57 u58 u59 u60 u61 u62 u63 u64 u65 u66 u67 u68 u69 u70 u71 u72 u73 u74 u75 u76 u77 u78 u79 u80 u81 u82 u83 u84 u85 u86 u87 u88 u89 u90 u91 u92 u93 u94 u95 u96 u97 u98 u99 u100 u101 u102 u103 u104 u105 u106 u107 u108 u109 u110 u111 u112 u113 u114 u115 : Value}
    (hlal : la.length ≤ 255) (hbl : body.length ≤ 1000000) (hle1 : (lacesL la : Int) ≤ body.length) (hrp : rb ≠ pb) (hcs : w.heap.size ≤ pb) (hwr : w.heap.size ≤ rb) (HVN : Hid ((Value.slice a3 out.length cap3).ownBlock ≠ some pb)) (hol : out.length ≤ 1001254) (hla : Hid (la = (LA.drop q).take (e - q))) (hqe : q < e) (heL : e ≤ LA.length) (hqi : (q : Int) ≤ 1001254) (hfl : LA.length ≤ 1001000)
    (P : Hid (wc.heap[pb]? = some (.cells #[.int .i64 f3.toNat, .int .u64 h.po, .int .u64 h.se, .int .u64 nq, .string ⟨la.toArray⟩, .string ⟨#[]⟩] 81 (0, 0)))) (X : Hid (wc.heap[rb]? = some (.cells #[.int .i64 h.fl.toNat, .int .u64 h.po, .int .u64 h.se, .int .u64 h.nu, .string ⟨h.la.toArray⟩, .string ⟨h.bo.toArray⟩] 81 (0, 0)))) (V : Hid (Recs wc (rb + 1) 81 6 (.slice a3 out.length cap3) (out.map rgR))) (K : Hid (Below w.heap.size w wc))
    (hQ : ∀ (s8 : Value) (w5 : World) (x12 x13 x14 x85 x86 x87 x88 x89 x90 x91 x92 x93 x94 x95 x96 x97 x98 x99 x100 x101 x102 x103 x104 x105 x106 x107 x108 x109 x110 x111 x112 x113 x114 : Value), Hid (w5.heap[rb]? = some (.cells #[.int .i64 h.fl.toNat, .int .u64 h.po, .int .u64 h.se, .int .u64 h.nu, .string ⟨h.la.toArray⟩, .string ⟨h.bo.toArray⟩] 81 (0, 0))) → Hid (Recs w5 (rb + 1) 81 6 (s8) ((out ++ [(⟨f3, (if endsB la = true then h.po else 18446744073709551615), h.se, nq, la, body.take (lacesL la)⟩ : Pg)]).map rgR)) → Hid (Below w.heap.size w w5) → Q .normal ⟨#[u0, u1, .pointer (some ⟨rb, 0, none⟩), u3, u4, .string ⟨LA.toArray⟩, .string ⟨(body.drop (lacesL la)).toArray⟩, u7, s8, .int .i64 (q : Nat), .int .i64 (e : Nat), .pointer (some ⟨pb, 0, none⟩), x12, x13, x14, u15, u16, u17, u18, u19, u20, u21, u22, u23, u24, u25, u26, u27, u28, u29, u30, u31, u32, u33, u34, u35, u36, u37, u38, u39, u40, u41, u42, u43, u44, u45, u46, u47, u48, u49, u50, u51, u52, u53, u54, u55, u56, u57, u58, u59, u60, u61, u62, u63, u64, u65, u66, u67, u68, u69, u70, u71, u72, u73, u74, u75, u76, u77, u78, u79, u80, u81, u82, u83, u84, x85, x86, x87, x88, x89, x90, x91, x92, x93, x94, x95, x96, x97, x98, x99, x100, x101, x102, x103, x104, x105, x106, x107, x108, x109, x110, x111, x112, x113, x114, u115], []⟩ w5) :
    Code.wp Try.prog tail42b Q ⟨#[u0, u1, .pointer (some ⟨rb, 0, none⟩), u3, u4, .string ⟨LA.toArray⟩, .string ⟨body.toArray⟩, u7, .slice a3 out.length cap3, .int .i64 (q : Nat), .int .i64 (e : Nat), .pointer (some ⟨pb, 0, none⟩), u12, u13, u14, u15, u16, u17, u18, u19, u20, u21, u22, u23, u24, u25, u26, u27, u28, u29, u30, u31, u32, u33, u34, u35, u36, u37, u38, u39, u40, u41, u42, u43, u44, u45, u46, u47, u48, u49, u50, u51, u52, u53, u54, u55, u56, u57, u58, u59, u60, u61, u62, u63, u64, u65, u66, u67, u68, u69, u70, u71, u72, u73, u74, u75, u76, u77, u78, u79, u80, u81, u82, u83, u84, u85, u86, u87, u88, u89, u90, u91, u92, u93, u94, u95, u96, u97, u98, u99, u100, u101, u102, u103, u104, u105, u106, u107, u108, u109, u110, u111, u112, u113, u114, u115], []⟩ wc := by
  conv => arg 2; whnf
  go_upto_region 22 with (fail)
  go_loopw [12, 13] (fun s12 s13 wx => ∃ k : Nat, k ≤ e - q ∧ s12 = .bool (endsB ((LA.drop q).take k)) ∧ s13 = .int .i64 ((q + k : Nat) : Int) ∧ wx = wc) (fun _ s13 _ => e - (intOf s13).toNat)
  case atStart => exact ⟨0, Nat.zero_le _, rfl, rfl, rfl⟩
  case round =>
    obtain ⟨k, hk, rfl, rfl, rfl⟩ := hrel
    have hkq : ((q + k : Nat) : Int) = (q : Int) + k := by omega
    by_cases hke : k < e - q
    · have g1 : (q : Int) + k < e := by omega
      have hqk : q + k < LA.length := by omega
      have hqk2 : (q : Int) + k < LA.length := by omega
      have hqk3 : (0 : Int) ≤ (q : Int) + k := by omega
      have HE := Lib.hid (show endsB ((LA.drop q).take (k + 1)) = (endsB ((LA.drop q).take k) || (LA[q + k] != 255)) by
        rw [List.take_succ_eq_append_getElem (by rw [List.length_drop]; omega), endsB_snoc, List.getElem_drop])
      generalize endsB ((LA.drop q).take k) = eb at *
      rw [hkq]
      clear hkq
      rcases eb with _ | _
      · by_cases hz : LA[q + k] = 255
        · have t3 : ((LA[q + k].toNat : Int) != 255) = false := by rw [hz]; rfl
          have HE2 : Hid (endsB ((LA.drop q).take (k + 1)) = false) := Lib.hid (by rw [HE.out, hz]; rfl)
          clear hz HE
          go_wp2
          exact ⟨⟨k + 1, by omega, by rw [HE2.out], by congr 1, trivial⟩, by simp [intOf]; omega⟩
        · have t3 : ((LA[q + k].toNat : Int) != 255) = true := by
            simp only [bne_iff_ne, ne_eq]
            intro e
            exact hz (by rw [u8_eq]; show LA[q + k].toNat = 255; omega)
          have HE2 : Hid (endsB ((LA.drop q).take (k + 1)) = true) := Lib.hid (by rw [HE.out]; simpa using hz)
          clear hz HE
          go_wp2
          exact ⟨⟨k + 1, by omega, by rw [HE2.out], by congr 1, trivial⟩, by simp [intOf]; omega⟩
      · have HE2 : Hid (endsB ((LA.drop q).take (k + 1)) = true) := Lib.hid (by rw [HE.out]; rfl)
        clear HE
        go_wp2
        exact ⟨⟨k + 1, by omega, by rw [HE2.out], by congr 1, trivial⟩, by simp [intOf]; omega⟩
    · have g1 : ¬ (q : Int) + k < e := by omega
      have hk2 : k = e - q := by omega
      rw [hkq, hk2, ← hla.out]
      rw [hk2] at g1
      clear hkq hke hk hk2
      obtain ⟨po, hpo⟩ : ∃ po : Nat, po = if endsB la = true then h.po else 18446744073709551615 := ⟨_, rfl⟩
      rw [← hpo] at hQ
      generalize endsB la = eb at *
      go_upto_if 99 with (fail)
      obtain ⟨y0, y1, y2, y3, y4, y5⟩ := cells6 (P.out); obtain ⟨yf0, yf1, yf2, yf3, yf4, yf5⟩ := frees6 (P.out)
      go_cut [11] from 100 to 100 (fun s11 wx => s11 = .pointer (some ⟨pb, 0, none⟩) ∧ Hid (wx.heap[pb]? = some (.cells #[.int .i64 f3.toNat, .int .u64 po, .int .u64 h.se, .int .u64 nq, .string ⟨la.toArray⟩, .string ⟨#[]⟩] 81 (0, 0))) ∧ Hid (wx.heap[rb]? = some (.cells #[.int .i64 h.fl.toNat, .int .u64 h.po, .int .u64 h.se, .int .u64 h.nu, .string ⟨h.la.toArray⟩, .string ⟨h.bo.toArray⟩] 81 (0, 0))) ∧ Hid (Recs wx (rb + 1) 81 6 (.slice a3 out.length cap3) (out.map rgR)) ∧ Hid (Below w.heap.size w wx))
      case first =>
        rcases eb with _ | _
        · have hpo2 : po = 18446744073709551615 := by rw [hpo]; rfl
          have HPO := Lib.hid hpo2
          clear hpo hpo2
          go_wp2_with fail
          go_meet
          exact ⟨rfl, Lib.hid (by rw [HPO.out]; exact setCell_at P.out), Lib.hid ((heap_set_other _ hrp).trans X.out), Lib.hid (V.out.kept (row := some pb) (Only.set _) (.inr HVN.out)), Lib.hid (K.out.setCell hcs _)⟩
        · have hpo2 : po = h.po := by rw [hpo]; rfl
          rw [← hpo2] at P
          clear hpo hpo2
          go_wp2_with fail
          go_meet
          exact ⟨rfl, P, X, V, K⟩
      case rest =>
        obtain ⟨rfl, P2, X2, V2, K2⟩ := hcut
        go_step
        exact pk_tail3 hlal hbl hle1 hrp hcs hwr HVN hol P2 X2 V2 K2 (fun s8 w5 _ _ _ _ _ _ _ _ _ _ _ _ _ _ _ hX hV hK => hQ s8 w5 _ _ _ _ _ _ _ _ _ _ _ _ _ _ _ _ _ _ _ _ _ _ _ _ _ _ _ _ _ _ _ _ _ hX hV hK)
noncomputable def tail42a : Code := (Try.f42.body.bind (codeAt 16)).getD .skip
set_option maxHeartbeats 4000000 in
set_option maxRecDepth 100000 in
theorem pk_tail1 {Q : Exit → Act → World → Prop} {w wc : World} {h : Pg} {rb pb : Nat} {LA body la : List UInt8} {out : List Pg} {a3 : Option Addr} {cap3 q e nq : Nat} {op : Bool} {u0 u1 u3 u4 u7 u12 u13 u14 u15 u16 u17 u18 u19 u20 u21 u22 u23 u24 u25 u26 u27 u28 u29 u30 u31 u32 u33 u34 u35 u36 u37 u38 u39 u40 u41 u42 u43 u44 u45 u46 u47 u48 u49 u50 u51 u52 u53 u54 u55 u56 u57 u58 u59 u60 u61 u62 u63 u64 u65 u66 u67 u68 u69 u70 u71 u72 u73 u74 u75 u76 u77 u78 u79 u80 u81 u82 u83 u84 u85 u86 u87 u88 u89 u90 u91 u92 u93 u94 u95 u96 u97 u98 u99 u100 u101 u102 u103 u104 u105 u106 u107 u108 u109 u110 u111 u112 u113 u114 u115 : Value}
    (hlal : la.length ≤ 255) (hbl : body.length ≤ 1000000) (hle1 : (lacesL la : Int) ≤ body.length) (hrp : rb ≠ pb) (hcs : w.heap.size ≤ pb) (hwr : w.heap.size ≤ rb) (HVN : Hid ((Value.slice a3 out.length cap3).ownBlock ≠ some pb)) (hol : out.length ≤ 1001254) (hla : Hid (la = (LA.drop q).take (e - q))) (hqe : q < e) (heL : e ≤ LA.length) (hqi : (q : Int) ≤ 1001254) (hfl : LA.length ≤ 1001000)
    (HOP : Hid (∀ (h0 : 0 < q) (hl : q < LA.length), op = (LA[q - 1]'(by omega) == 255))) (HO0 : Hid (q = 0 → op = false))
    (P : Hid (wc.heap[pb]? = some (.cells #[.int .i64 h.fl.toNat, .int .u64 h.po, .int .u64 h.se, .int .u64 nq, .string ⟨la.toArray⟩, .string ⟨#[]⟩] 81 (0, 0)))) (X : Hid (wc.heap[rb]? = some (.cells #[.int .i64 h.fl.toNat, .int .u64 h.po, .int .u64 h.se, .int .u64 h.nu, .string ⟨h.la.toArray⟩, .string ⟨h.bo.toArray⟩] 81 (0, 0)))) (V : Hid (Recs wc (rb + 1) 81 6 (.slice a3 out.length cap3) (out.map rgR))) (K : Hid (Below w.heap.size w wc))
    (hQ : ∀ (s8 : Value) (w5 : World) (x12 x13 x14 x67 x68 x69 x70 x71 x72 x73 x74 x75 x76 x77 x78 x79 x80 x81 x82 x83 x84 x85 x86 x87 x88 x89 x90 x91 x92 x93 x94 x95 x96 x97 x98 x99 x100 x101 x102 x103 x104 x105 x106 x107 x108 x109 x110 x111 x112 x113 x114 : Value), Hid (w5.heap[rb]? = some (.cells #[.int .i64 h.fl.toNat, .int .u64 h.po, .int .u64 h.se, .int .u64 h.nu, .string ⟨h.la.toArray⟩, .string ⟨h.bo.toArray⟩] 81 (0, 0))) → Hid (Recs w5 (rb + 1) 81 6 (s8) ((out ++ [(⟨(if op = true then 1 else h.fl &&& 254), (if endsB la = true then h.po else 18446744073709551615), h.se, nq, la, body.take (lacesL la)⟩ : Pg)]).map rgR)) → Hid (Below w.heap.size w w5) → Q .normal ⟨#[u0, u1, .pointer (some ⟨rb, 0, none⟩), u3, u4, .string ⟨LA.toArray⟩, .string ⟨(body.drop (lacesL la)).toArray⟩, u7, s8, .int .i64 (q : Nat), .int .i64 (e : Nat), .pointer (some ⟨pb, 0, none⟩), x12, x13, x14, u15, u16, u17, u18, u19, u20, u21, u22, u23, u24, u25, u26, u27, u28, u29, u30, u31, u32, u33, u34, u35, u36, u37, u38, u39, u40, u41, u42, u43, u44, u45, u46, u47, u48, u49, u50, u51, u52, u53, u54, u55, u56, u57, u58, u59, u60, u61, u62, u63, u64, u65, u66, x67, x68, x69, x70, x71, x72, x73, x74, x75, x76, x77, x78, x79, x80, x81, x82, x83, x84, x85, x86, x87, x88, x89, x90, x91, x92, x93, x94, x95, x96, x97, x98, x99, x100, x101, x102, x103, x104, x105, x106, x107, x108, x109, x110, x111, x112, x113, x114, u115], []⟩ w5) :
    Code.wp Try.prog tail42a Q ⟨#[u0, u1, .pointer (some ⟨rb, 0, none⟩), u3, u4, .string ⟨LA.toArray⟩, .string ⟨body.toArray⟩, u7, .slice a3 out.length cap3, .int .i64 (q : Nat), .int .i64 (e : Nat), .pointer (some ⟨pb, 0, none⟩), u12, u13, u14, u15, u16, u17, u18, u19, u20, u21, u22, u23, u24, u25, u26, u27, u28, u29, u30, u31, u32, u33, u34, u35, u36, u37, u38, u39, u40, u41, u42, u43, u44, u45, u46, u47, u48, u49, u50, u51, u52, u53, u54, u55, u56, u57, u58, u59, u60, u61, u62, u63, u64, u65, u66, u67, u68, u69, u70, u71, u72, u73, u74, u75, u76, u77, u78, u79, u80, u81, u82, u83, u84, u85, u86, u87, u88, u89, u90, u91, u92, u93, u94, u95, u96, u97, u98, u99, u100, u101, u102, u103, u104, u105, u106, u107, u108, u109, u110, u111, u112, u113, u114, u115], []⟩ wc := by
  conv => arg 2; whnf
  obtain ⟨y0, y1, y2, y3, y4, y5⟩ := cells6 (P.out); obtain ⟨yf0, yf1, yf2, yf3, yf4, yf5⟩ := frees6 (P.out)
  have hev := pk_even h.fl
  obtain ⟨f2, hf2⟩ : ∃ f2, f2 = h.fl &&& 254 := ⟨_, rfl⟩
  rw [← hf2] at hQ hev
  have hfb := byte_le f2
  clear hf2
  go_upto_if 70 with (fail)
  go_cut [11, 70] from 71 to 74 (fun s11 s70 wx => s11 = .pointer (some ⟨pb, 0, none⟩) ∧ Hid (wx.heap[pb]? = some (.cells #[.int .i64 f2.toNat, .int .u64 h.po, .int .u64 h.se, .int .u64 nq, .string ⟨la.toArray⟩, .string ⟨#[]⟩] 81 (0, 0))) ∧ Hid (wx.heap[rb]? = some (.cells #[.int .i64 h.fl.toNat, .int .u64 h.po, .int .u64 h.se, .int .u64 h.nu, .string ⟨h.la.toArray⟩, .string ⟨h.bo.toArray⟩] 81 (0, 0))) ∧ Hid (Recs wx (rb + 1) 81 6 (.slice a3 out.length cap3) (out.map rgR)) ∧ Hid (Below w.heap.size w wx))
  case first =>
    by_cases hz : (((h.fl.toNat : Int) % 2) == 1) = true
    · rw [if_pos hz] at hev
      go_wp2_with fail
      go_meet
      exact ⟨rfl, Lib.hid (setCell_at P.out), Lib.hid ((heap_set_other _ hrp).trans X.out), Lib.hid (V.out.kept (row := some pb) (Only.set _) (.inr HVN.out)), Lib.hid (K.out.setCell hcs _)⟩
    · rw [if_neg hz] at hev
      have hz2 : (((h.fl.toNat : Int) % 2) == 1) = false := by simpa using hz
      clear hz
      rw [hev] at P
      clear hev
      go_wp2_with fail
      go_meet
      exact ⟨rfl, P, X, V, K⟩
  case rest =>
    obtain ⟨rfl, P2, X2, V2, K2⟩ := hcut
    clear P X V K hev y0 y1 y2 y3 y4 y5 yf0 yf1 yf2 yf3 yf4 yf5
    go_upto_region 18 with (fail)
    go_cut [83] from 75 to 82 (fun s83 wx => s83 = .bool op ∧ wx = wc)
    case first =>
      by_cases hq0 : q = 0
      · have g2 : ¬ 0 < q := by omega
        have g3 : decide (0 < q) = false := decide_eq_false g2
        have HZ0 := Lib.hid (HO0.out hq0)
        clear hq0 g2
        go_wp2_with fail
        go_meet
        exact ⟨by rw [HZ0.out], rfl⟩
      · have g1 : (0 : Int) < (q : Int) := by omega
        have g2 : 0 < q := by omega
        have g3 : decide (0 < q) = true := decide_eq_true g2
        have hop2 := HOP.out g2 (by omega)
        obtain ⟨q1, hq1⟩ : ∃ q1, q = q1 + 1 := ⟨q - 1, by omega⟩
        have hq2 : (q : Int) - 1 = (q1 : Int) := by omega
        have hq3 : q1 < LA.length := by omega
        have hop3 : op = (LA[q1] == 255) := by rw [hop2]; simp [hq1]
        clear hop2
        have hq4 : (q1 : Int) < LA.length := by omega
        have HQ1 := Lib.hid hq1
        clear hq1
        by_cases hz : LA[q1] = 255
        · have t3 : ((LA[q1].toNat : Int) == 255) = true := by rw [hz]; rfl
          have HZ0 : Hid (op = true) := Lib.hid (by rw [hop3, hz]; rfl)
          clear hop3 hz
          go_wp2_with fail
          go_meet
          exact ⟨by rw [HZ0.out], rfl⟩
        · have t3 : ((LA[q1].toNat : Int) == 255) = false := by
            simp only [beq_eq_false_iff_ne, ne_eq]
            intro e
            exact hz (by rw [u8_eq]; show LA[q1].toNat = 255; omega)
          have HZ0 : Hid (op = false) := Lib.hid (by rw [hop3]; simpa using hz)
          clear hop3 hz
          go_wp2_with fail
          go_meet
          exact ⟨by rw [HZ0.out], rfl⟩
    case rest =>
      obtain ⟨rfl, rfl⟩ := hcut
      clear HOP HO0
      obtain ⟨y0, y1, y2, y3, y4, y5⟩ := cells6 (P2.out); obtain ⟨yf0, yf1, yf2, yf3, yf4, yf5⟩ := frees6 (P2.out)
      obtain ⟨f3, hf3⟩ : ∃ f3 : UInt8, f3 = if op = true then 1 else f2 := ⟨_, rfl⟩
      rw [← hf3] at hQ
      go_upto_if 83 with (fail)
      go_cut [11] from 84 to 84 (fun s11 wx => s11 = .pointer (some ⟨pb, 0, none⟩) ∧ Hid (wx.heap[pb]? = some (.cells #[.int .i64 f3.toNat, .int .u64 h.po, .int .u64 h.se, .int .u64 nq, .string ⟨la.toArray⟩, .string ⟨#[]⟩] 81 (0, 0))) ∧ Hid (wx.heap[rb]? = some (.cells #[.int .i64 h.fl.toNat, .int .u64 h.po, .int .u64 h.se, .int .u64 h.nu, .string ⟨h.la.toArray⟩, .string ⟨h.bo.toArray⟩] 81 (0, 0))) ∧ Hid (Recs wx (rb + 1) 81 6 (.slice a3 out.length cap3) (out.map rgR)) ∧ Hid (Below w.heap.size w wx))
      case first =>
        rcases op with _ | _
        · have hf4 : f3 = f2 := by rw [hf3]; rfl
          rw [← hf4] at P2
          clear hf3 hf4
          go_wp2_with fail
          go_meet
          exact ⟨rfl, P2, X2, V2, K2⟩
        · have hf4 : f3 = 1 := by rw [hf3]; rfl
          have HF4 := Lib.hid hf4
          clear hf3 hf4
          go_wp2_with fail
          go_meet
          exact ⟨rfl, Lib.hid (by rw [HF4.out]; exact setCell_at P2.out), Lib.hid ((heap_set_other _ hrp).trans X2.out), Lib.hid (V2.out.kept (row := some pb) (Only.set _) (.inr HVN.out)), Lib.hid (K2.out.setCell hcs _)⟩
      case rest =>
        obtain ⟨rfl, P3, X3, V3, K3⟩ := hcut
        go_step
        exact pk_tail2 hlal hbl hle1 hrp hcs hwr HVN hol hla hqe heL hqi hfl P3 X3 V3 K3 (fun s8 w5 _ _ _ _ _ _ _ _ _ _ _ _ _ _ _ _ _ _ _ _ _ _ _ _ _ _ _ _ _ _ _ _ _ hX hV hK => hQ s8 w5 _ _ _ _ _ _ _ _ _ _ _ _ _ _ _ _ _ _ _ _ _ _ _ _ _ _ _ _ _ _ _ _ _ _ _ _ _ _ _ _ _ _ _ _ _ _ _ _ _ _ _ hX hV hK)
set_option maxHeartbeats 4000000 in
set_option maxRecDepth 100000 in
theorem rppages_any (h : Pg) (hok : h.Ok) (a : Option Addr) (n cap : Nat) (ps : List (List UInt8)) (w : World) (hs : Hid (StrsAt w a n ps)) (hcap : n ≤ cap) (hn : n ≤ 1000) (hl : ps.flatten.length ≤ 1000000) :
    Calls Try.prog 42 #[.agg #[.int .i64 h.fl.toNat, .int .u64 h.po, .int .u64 h.se, .int .u64 h.nu, .string ⟨h.la.toArray⟩, .string ⟨h.bo.toArray⟩], .slice a n cap] w fun e w' => ∃ u, e = .returned u ∧ Recs w' w.heap.size 81 6 u ((pagesP h ps).map rgR) ∧ Below w.heap.size w w' := by
  have HL : Hid (ps.length = n) := Lib.hid hs.out.1
  have hni : (n : Int) ≤ 1000 := by omega
  have hle : Hid (∀ p ∈ ps, p.length ≤ 1000000) := Lib.hid (fun p hp => Nat.le_trans (pk_mem_len hp) hl)
  have HTL : Hid (∀ j, ((ps.take j).map (fun p => laceL p.length)).flatten.length ≤ 1001000 ∧ (ps.take j).flatten.length ≤ 1000000) := Lib.hid (fun j => by
    have h1 := pk_lflat_le ps j
    have h2 := pk_flat_le ps j
    have h3 := pk_laces_len ps
    have h4 := HL.out
    omega)
  have LC : Hid (∀ (k : Nat), k ≤ 1000000 → ∀ w, Calls Try.prog 34 #[.int .i64 (k : Nat)] w fun e w' => e = .returned (.string ⟨(laceL k).toArray⟩) ∧ Below w.heap.size w w') := Lib.hid (fun k hk w => by have h := rlace_any (k : Nat) w (by omega) (by omega); rw [Int.toNat_natCast] at h; exact h)
  obtain ⟨rb, hrb⟩ : ∃ rb, rb = w.heap.size := ⟨_, rfl⟩
  have X := Lib.hid (at_a0 w #[.int .i64 h.fl.toNat, .int .u64 h.po, .int .u64 h.se, .int .u64 h.nu, .string ⟨h.la.toArray⟩, .string ⟨h.bo.toArray⟩] 81)
  have K := Lib.hid ((Below.refl w.heap.size w).alloc (Nat.le_refl _) (.cells #[.int .i64 h.fl.toNat, .int .u64 h.po, .int .u64 h.se, .int .u64 h.nu, .string ⟨h.la.toArray⟩, .string ⟨h.bo.toArray⟩] 81))
  go_enter Try.func42, Try.ntmps42
  go_upto_region 1 with (fail)
  generalize w.alloc (.cells #[.int .i64 h.fl.toNat, .int .u64 h.po, .int .u64 h.se, .int .u64 h.nu, .string ⟨h.la.toArray⟩, .string ⟨h.bo.toArray⟩] 81) = w0 at *
  rw [← hrb] at X
  rw [← hrb]
  have HRB := Lib.hid hrb
  clear hrb
  go_wp2
  go_loopw [5, 6, 7] (fun s5 s6 i wr => ∃ (j : Nat), j ≤ n ∧ s5 = .string ⟨((ps.take j).map (fun p => laceL p.length)).flatten.toArray⟩ ∧ s6 = .string ⟨(ps.take j).flatten.toArray⟩ ∧ i = .int .i64 j ∧ Hid (wr.heap[rb]? = some (.cells #[.int .i64 h.fl.toNat, .int .u64 h.po, .int .u64 h.se, .int .u64 h.nu, .string ⟨h.la.toArray⟩, .string ⟨h.bo.toArray⟩] 81 (0, 0))) ∧ Hid (Below w.heap.size w wr)) (fun _ _ i _ => n - (intOf i).toNat)
  case atStart => exact ⟨0, by omega, rfl, rfl, rfl, X, K⟩
  case round =>
    clear X K
    obtain ⟨j, hj, rfl, rfl, rfl, X, K⟩ := hrel
    have S := Lib.hid (hs.out.below K.out)
    by_cases hlt : j < n
    · have g0 : (j : Int) < n := by omega
      have hjl : j < ps.length := by rw [HL.out]; exact hlt
      obtain ⟨b, off, rfl, hbb, hc⟩ : ∃ b off, a = some ⟨b, off, none⟩ ∧ b < wr.heap.size ∧ wr.cell? ⟨b, off + j, none⟩ = some (.string ⟨ps[j].toArray⟩) := by
        rcases S.out.2 with h0 | ⟨b, off, ha, hb, hc⟩
        · omega
        · exact ⟨b, off, ha, hb, hc j hjl⟩
      have hpl := hle.out ps[j] (List.getElem_mem hjl)
      have LP := Lib.hid (LC.out ps[j].length hpl)
      have HA := Lib.hid (show ((ps.take (j + 1)).map (fun p => laceL p.length)).flatten = ((ps.take j).map (fun p => laceL p.length)).flatten ++ laceL ps[j].length by rw [List.take_succ_eq_append_getElem hjl, List.map_append, List.flatten_append]; simp)
      have HB := Lib.hid (flat_take ps j hjl)
      have hlz : (laceL ps[j].length).length ≤ 10000 := by rw [laceL_length]; omega
      obtain ⟨hz1, hz2⟩ := HTL.out j
      generalize ((ps.take j).map (fun p => laceL p.length)).flatten = A at *
      generalize (ps.take j).flatten = B at *
      generalize ps[j] = p at *
      generalize laceL p.length = lz at *
      have k1 : ¬ 9223372036854775807 < A.length + lz.length := by omega
      have k2 : ¬ 9223372036854775807 < B.length + p.length := by omega
      go_wp2_with (go_at_call 34; (with_reducible refine (LP.out _).mono ?_); rintro e w3 ⟨rfl, hb3⟩; have hc3 := (hb3.cell (p := ⟨b, off + j, none⟩) hbb).trans hc; replace X := Lib.hid (block_below X.out hb3); replace K := Lib.hid (nextB K.out hb3); clear hb3)
      exact ⟨⟨j + 1, by omega, by rw [HA.out], by rw [HB.out], by simp, X, K⟩, by simp [intOf]; omega⟩
    · have g0 : ¬ (j : Int) < n := by omega
      have hf : ps.take j = ps := List.take_of_length_le (by rw [HL.out]; omega)
      rw [hf]
      have hla := laces_all ps
      have hll := pk_laces_len ps
      have hln := HL.out
      have hfl : (ps.map (fun p => laceL p.length)).flatten.length ≤ 1001000 := by omega
      obtain ⟨LA, hLA⟩ : ∃ LA, LA = (ps.map (fun p => laceL p.length)).flatten := ⟨_, rfl⟩
      obtain ⟨BO, hBO⟩ : ∃ BO, BO = ps.flatten := ⟨_, rfl⟩
      rw [← hLA] at hla hfl
      rw [← hBO] at hla
      rw [← hLA, ← hBO]
      have HPP : Hid (pagesP h ps = pgsS h (LA.length + 1) LA BO 0 false) := Lib.hid (by rw [hLA, hBO]; rfl)
      have hbl : BO.length ≤ 1000000 := by rw [hBO]; exact hl
      clear hLA hBO hll hln S hf HTL LC
      go_wp2
      clear hni hj hlt g0 hn hl hcap hle
      go_loopg [6, 8, 9] (LA.length + 1) (fun gk s6 s8 s9 wr => ∃ (body : List UInt8) (out : List Pg) (op : Bool), s6 = .string ⟨body.toArray⟩ ∧ s9 = .int .i64 ((255 * out.length : Nat) : Int) ∧ 255 * out.length ≤ LA.length + 254 ∧ (LA.drop (255 * out.length)).length < gk ∧ body.length ≤ 1000000 ∧ Hid (∀ hlt : 0 < 255 * out.length ∧ 255 * out.length < LA.length, op = (LA[255 * out.length - 1]'(by omega) == 255)) ∧ Hid (out.length = 0 → op = false) ∧ Hid (lacesL (LA.drop (255 * out.length)) = body.length) ∧ Hid (out ++ pgsS h gk (LA.drop (255 * out.length)) body out.length op = pagesP h ps) ∧ Hid (wr.heap[rb]? = some (.cells #[.int .i64 h.fl.toNat, .int .u64 h.po, .int .u64 h.se, .int .u64 h.nu, .string ⟨h.la.toArray⟩, .string ⟨h.bo.toArray⟩] 81 (0, 0))) ∧ Hid (Recs wr (rb + 1) 81 6 s8 (out.map rgR)) ∧ Hid (Below w.heap.size w wr))
      case atStart => exact ⟨BO, [], false, rfl, rfl, by show 255 * 0 ≤ _; omega, by show (LA.drop 0).length < _; rw [List.drop_zero]; omega, hbl, Lib.hid (fun hlt => absurd hlt.1 (by show ¬ 0 < 255 * 0; omega)), Lib.hid (fun _ => rfl), Lib.hid hla, Lib.hid (by rw [HPP.out]; rfl), X, Lib.hid (Recs.nil _ _ _ _), K⟩
      case round =>
        clear X K hla hbl HPP
        obtain ⟨body, out, op, rfl, rfl, hat, hgk, hbl, HOP, HO0, HLB, HO, X, V, K⟩ := hrel
        obtain ⟨g, rfl⟩ : ∃ g, gk = g + 1 := ⟨gk - 1, by omega⟩
        obtain ⟨q, hq⟩ : ∃ q, q = 255 * out.length := ⟨_, rfl⟩
        rw [← hq] at hat hgk HLB HO
        rw [← hq]
        have HQ := Lib.hid hq
        clear hq
        by_cases hne : q < LA.length
        · have hO := HO.out
          have hdn : LA.drop q ≠ [] := by intro e; have := congrArg List.length e; rw [List.length_drop] at this; simp at this; omega
          rw [pgsS_on hdn] at hO
          obtain ⟨m, hm⟩ : ∃ m, m = min (LA.drop q).length 255 := ⟨_, rfl⟩
          have htk : (LA.drop q).take 255 = (LA.drop q).take m := by rw [hm]; exact (pk_take_min _).symm
          rw [List.length_drop] at hm
          have HN : Hid (0 < q + 255 → ∀ hlt : q + 255 < LA.length, openB ((LA.drop q).take 255) = (LA[q + 255 - 1]'(by omega) == 255)) := Lib.hid (by
            intro _ hlt
            have e1 : (LA.drop q).take 255 = (LA.drop q).take 254 ++ [LA[q + 254]'(by omega)] := by
              have h := List.take_succ_eq_append_getElem (l := LA.drop q) (i := 254) (by rw [List.length_drop]; omega)
              rw [List.getElem_drop] at h
              exact h
            have h := opensB_snoc ((LA.drop q).take 254) (LA[q + 254]'(by omega)) false
            rw [← e1] at h
            unfold opensB at h
            rw [if_neg (by rw [e1]; simp)] at h
            exact h)
          rw [htk] at hO HN
          rw [List.drop_drop] at hO
          obtain ⟨e, he⟩ : ∃ e, e = q + m := ⟨_, rfl⟩
          have hme : m = e - q := by omega
          rw [hme] at hO HN
          obtain ⟨la, hla⟩ : ∃ la, la = (LA.drop q).take (e - q) := ⟨_, rfl⟩
          have hlal : la.length ≤ 255 := by rw [hla, List.length_take]; omega
          have hsz : lacesL la + lacesL (LA.drop (q + 255)) = body.length := by
            have h := laces_app ((LA.drop q).take 255) ((LA.drop q).drop 255)
            rw [List.take_append_drop, HLB.out, htk, hme, ← hla, List.drop_drop] at h
            exact h.symm
          rw [← hla] at hO HN
          have HLA := Lib.hid hla
          have HO2 := Lib.hid hO
          have HSZ := Lib.hid hsz
          have hle1 : (lacesL la : Int) ≤ body.length := by omega
          have he1 : q ≤ e := by omega
          have he2 : e ≤ LA.length := by omega
          have hqe : q < e := by omega
          have hee : e = q + 255 ∨ (e = LA.length ∧ LA.length < q + 255) := by omega
          have hge : (LA.drop (q + 255)).length < g := by rw [List.length_drop] at hgk ⊢; omega
          clear hO HO htk hm he hme hla hsz HLB hdn hgk
          have hne1 : (q : Int) < LA.length := by omega
          have hqi : (q : Int) ≤ 1001254 := by omega
          go_upto_if 46 with (fail)
          go_cut [10, 46] from 47 to 48 (fun s10 s46 wx => s10 = .int .i64 (e : Nat) ∧ wx = wr)
          case first =>
            rcases hee with hee | ⟨hee, hee2⟩
            · have g1 : (q : Int) + 255 ≤ LA.length := by omega
              have g2 : (e : Int) = q + 255 := by omega
              go_wp2_with fail
              go_meet
              exact ⟨by rw [g2], rfl⟩
            · have g1 : ¬ (q : Int) + 255 ≤ LA.length := by omega
              have g2 : (e : Int) = LA.length := by omega
              go_wp2_with fail
              go_meet
              exact ⟨by rw [g2], rfl⟩
          case rest =>
            obtain ⟨rfl, rfl⟩ := hcut
            clear hee
            obtain ⟨x0, x1, x2, x3, x4, x5⟩ := cells6 (X.out)
            obtain ⟨a3, cap3, hv3, -, -⟩ := V.out.at
            rw [List.length_map] at hv3
            subst hv3
            have xe1 : (q : Int) ≤ e := by omega
            have xe2 : (e : Int) ≤ LA.length := by omega
            have wu : IntKind.u64.wrap (out.length : Int) = out.length := by have := HQ.out; simp [IntKind.wrap, IntKind.bits, IntKind.signed]; omega
            have wv : IntKind.u64.wrap ((h.nu : Int) + (out.length : Int)) = ((h.nu : Int) + (out.length : Int)) := by have := hok.2.2; have := HQ.out; simp [IntKind.wrap, IntKind.bits, IntKind.signed]; omega
            obtain ⟨nq, hnq⟩ : ∃ nq : Nat, nq = (h.nu + out.length) % 4294967296 := ⟨_, rfl⟩
            have ww : ((h.nu : Int) + (out.length : Int)) % 4294967296 = (nq : Int) := by omega
            rw [← hnq] at HO2
            have HNQ := Lib.hid hnq
            clear hnq
            have hxl := (Array.getElem?_eq_some_iff.1 X.out).1
            go_upto_region 15 with (fail)
            go_region
            rw [← HLA.out]
            have P := Lib.hid (show (wc.alloc (.cells #[.int .i64 h.fl.toNat, .int .u64 h.po, .int .u64 h.se, .int .u64 nq, .string ⟨la.toArray⟩, .string ⟨#[]⟩] 81)).drew.heap[wc.heap.size]? = some (.cells #[.int .i64 h.fl.toNat, .int .u64 h.po, .int .u64 h.se, .int .u64 nq, .string ⟨la.toArray⟩, .string ⟨#[]⟩] 81 (0, 0)) from at_a0 wc _ _)
            have hB : Below wc.heap.size wc (wc.alloc (.cells #[.int .i64 h.fl.toNat, .int .u64 h.po, .int .u64 h.se, .int .u64 nq, .string ⟨la.toArray⟩, .string ⟨#[]⟩] 81)).drew := ((Below.refl wc.heap.size wc).alloc (Nat.le_refl _) _).drew
            have hvp : ∀ k, (Value.slice a3 out.length cap3).ownBlock = some k → k < wc.heap.size := fun k e => (V.out.lt k e).2
            replace X := Lib.hid (block_below X.out hB)
            replace V := Lib.hid (V.out.below hB)
            have hcs := K.out.size
            replace K := Lib.hid (nextB K.out hB)
            clear hB x0 x1 x2 x3 x4 x5
            generalize (wc.alloc (.cells #[.int .i64 h.fl.toNat, .int .u64 h.po, .int .u64 h.se, .int .u64 nq, .string ⟨la.toArray⟩, .string ⟨#[]⟩] 81)).drew = w2 at *
            generalize wc.heap.size = pb at *
            have hvne : (Value.slice a3 out.length cap3).ownBlock ≠ some pb := fun e => Nat.lt_irrefl _ (hvp pb e)
            have hrp : rb ≠ pb := by omega
            have hpr : pb ≠ rb := by omega
            have HVN := Lib.hid hvne
            clear hvp hvne
            go_step
            go_step
            refine pk_tail1 (q := q) (e := e) (LA := LA) (op := op) hlal hbl hle1 hrp hcs (by rw [HRB.out]; exact Nat.le_refl _) HVN (by have := HQ.out; omega) HLA hqe he2 hqi hfl (Lib.hid ?_) (Lib.hid ?_) P X V K ?_
            · intro h0 hl
              have h1 := HQ.out
              have h2 := HOP.out ⟨by omega, by omega⟩
              simp only [← h1] at h2
              exact h2
            · intro h0
              exact HO0.out (by have := HQ.out; omega)
            · intro s8 w5 _ _ _ _ _ _ _ _ _ _ _ _ _ _ _ _ _ _ _ _ _ _ _ _ _ _ _ _ _ _ _ _ _ _ _ _ _ _ _ _ _ _ _ _ _ _ _ _ _ _ _ X9 V5 K9
              have hb2 : (body.drop (lacesL la)).length = body.length - lacesL la := List.length_drop
              have hq9 : 255 * (out ++ [(⟨if op = true then 1 else h.fl &&& 254, if endsB la = true then h.po else 18446744073709551615, h.se, nq, la, body.take (lacesL la)⟩ : Pg)]).length = q + 255 := by rw [List.length_append, HQ.out]; simp; omega
              go_wp2_with fail
              go_roundg g
              case measure => omega
              case rel =>
                refine ⟨body.drop (lacesL la), out ++ [⟨if op = true then 1 else h.fl &&& 254, if endsB la = true then h.po else 18446744073709551615, h.se, nq, la, body.take (lacesL la)⟩], openB la, rfl, ?_, ?_, ?_, ?_, Lib.hid ?_, Lib.hid ?_, Lib.hid ?_, Lib.hid ?_, X9, V5, K9⟩
                · rw [hq9]; simp
                · rw [hq9]; omega
                · rw [hq9]; exact hge
                · omega
                · intro hlt; simp only [hq9]; exact HN.out (by omega) (by omega)
                · intro h0; simp at h0
                · rw [hq9, hb2]; have := HSZ.out; omega
                · rw [hq9, List.append_assoc, List.length_append]; exact HO2.out
        · have hO : out = pagesP h ps := by have h := HO.out; rw [List.drop_eq_nil_of_le (by omega), pgsS_off, List.append_nil] at h; exact h
          have HO2 := Lib.hid hO
          have hne2 : ¬ (q : Int) < LA.length := by omega
          clear hO HO HOP HO0
          go_wp2
          go_ret
          exact ⟨_, rfl, by rw [← HO2.out]; exact V.out.base (by have := HRB.out; omega), K.out⟩
end Go.Proofs.Ytmnmonmbdgedbaa
