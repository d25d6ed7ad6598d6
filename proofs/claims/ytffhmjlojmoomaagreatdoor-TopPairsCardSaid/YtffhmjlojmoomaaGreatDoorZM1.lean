/- Maps that a call makes: what each key leads to. | Layer 5 (single): Encode, walked. -/
import Derived.Test.YtffhmjlojmoomaaGreatDoorZU31
import Derived.Maps.OwnSet
import Derived.Deep.QuietTactic

namespace Go.Proofs.YtffhmjlojmoomaaGreatDoor
open Go.RowKit Go.Maps
set_option linter.unusedVariables false
set_option linter.unusedSimpArgs false

/-- a map's types, and how its keys and elements are written -/
structure MK (P : Program) (κ ν : Type) where
  mT : TypeId
  kT : TypeId
  eT : TypeId
  law : Keyed P kT
  ht : P.underlying mT = some (.map kT eT)
  R : Value → Option (DataW Unit × List MemPlace)
  kv : κ → Value
  kl : κ → Lit
  ok : κ → Prop
  hkey : ∀ k, ok k → keyOf P kT (kv k) = some (kl k)
  kinj : ∀ a b, kv a = kv b → a = b
  vl : ν → Value
  rd : ν → DataW Unit
  vok : ν → Prop
  hR : ∀ x, vok x → R (vl x) = some (rd x, [])
  inv : ∀ v x ps, R v = some (rd x, ps) → v = vl x
  z : ν
  zok : vok z
  hz : ∀ w, (zeroValue eT).run P w = .ok (vl z) w
section
variable {P : Program} {κ ν : Type} (M : MK P κ ν)
def MapAt (w : World) (b n : Nat) (g : κ → Option ν) : Prop := ∃ D : DataW Unit, w.ownsMap P M.kT M.R b n D ∧ ∀ k, M.ok k → Maps.has D (M.kl k) = (g k).isSome ∧ D.atKey (M.kl k) (M.rd M.z) = M.rd ((g k).getD M.z)
variable {M} {w : World} {b n : Nat} {g : κ → Option ν}
theorem MapAt.made (M : MK P κ ν) (w : World) : MapAt M (w.alloc (.map #[] 0)) w.heap.size 0 (fun _ => none) := by
  refine ⟨.map [], World.ownsMap_made _ _ _ _, fun k hk => ⟨rfl, ?_⟩⟩
  exact atKey_of_not_has rfl _
theorem MapAt.kept {w' : World} {row : Option Nat} (h : MapAt M w b n g) (hg : w.grownBy w' row) (hne : some b ≠ row) : MapAt M w' b n g := by
  obtain ⟨D, h1, h2⟩ := h
  exact ⟨D, h1.kept hg hne, h2⟩
theorem MapAt.below {w' : World} (h : MapAt M w b n g) (hb : Below w.heap.size w w') : MapAt M w' b n g := by
  refine h.kept (row := none) ⟨hb.os, hb.tape, hb.output, hb.size, fun k hk _ => hb.block k hk⟩ (by simp)
theorem MapAt.mono {m : Nat} (h : MapAt M w b n g) (hm : n ≤ m) : MapAt M w b m g := by
  obtain ⟨D, h1, h2⟩ := h
  exact ⟨D, h1.mono hm, h2⟩
theorem MapAt.lt (h : MapAt M w b n g) : b < w.heap.size := by
  obtain ⟨D, h1, h2⟩ := h
  exact h1.lt
theorem MapAt.setCell {c j : Nat} {v : Value} (h : MapAt M w b n g) (hc : b ≠ c) : MapAt M (w.setCell ⟨c, j, none⟩ v) b n g :=
  h.kept (row := some c) (Only.set (b := c) v) (by simpa using hc)
/-- a map isn't a row of cells -/
theorem MapAt.ne {c : Nat} {C : Array Value} {T : TypeId} {q : Nat × Nat} (h : MapAt M w b n g) (hc : w.heap[c]? = some (.cells C T q)) : b ≠ c := by
  obtain ⟨D, ⟨es, clock, h1, -⟩, -⟩ := h
  intro e
  subst e
  rw [h1] at hc
  cases hc
variable {ops : Array Oper} {rest : List Oper} {o : Oper} {a : Act} {Q : Exit → Act → World → Prop}
/-- 'v, ok := m[k]' -/
theorem wpList_look (hg : o.guard = none) (m x : Operand) (hop : o.op = Op.lookup M.mT m x true) (h : MapAt M w b n g) (k : κ) (hk : M.ok k) (hm : a.eval m = .map (some b)) (hx : a.eval x = M.kv k) (u : Value) (bk : Bool) (hu : M.vl ((g k).getD M.z) = u) (hbk : (g k).isSome = bk)
    (hK : wpList P ops Q rest (a.put o.dst (.tuple #[u, .bool bk])) w) : wpList P ops Q (o :: rest) a w := by
  obtain ⟨D, h1, h2⟩ := h
  refine wpList_lookup_own_ok w hg m x M.mT hop M.kT M.eT M.law M.ht M.R (M.hz w) (M.rd M.z) [] (M.hR _ M.zok) b n D hm h1 (M.kv k) (M.kl k) hx (M.hkey k hk) ?_
  intro v ps hv
  obtain ⟨e1, e2⟩ := h2 k hk
  rw [e2] at hv
  obtain rfl := M.inv _ _ _ hv
  rw [e1, hu, hbk]
  exact hK
theorem MapAt.put (h : MapAt M w b n g) (hn : n < maxLen) (k : κ) (hk : M.ok k) (x : ν) (hx : M.vok x) [DecidableEq κ] : ∃ w', (Instr.mapUpdate M.mT (.map (some b)) (M.kv k) (M.vl x)).run P w = .ok () w' ∧ MapAt M w' b (n + 1) (fun q => if q = k then some x else g q) ∧ w.grownBy w' (some b) := by
  obtain ⟨D, h1, h2⟩ := h
  obtain ⟨w', hr, h3, h4⟩ := h1.update M.law M.ht hn (M.hkey k hk) (M.hR x hx)
  refine ⟨w', hr, ⟨_, h3, fun q hq => ?_⟩, h4⟩
  obtain ⟨e1, e2⟩ := h2 q hq
  have hD : IsMap D := by
    obtain ⟨es, clock, -, -, -, rfl⟩ := h1
    exact ⟨_, rfl⟩
  have hkl := M.law.key (M.hkey k hk)
  by_cases hqk : q = k
  · subst hqk
    simp only [if_true]
    exact ⟨has_put_same hD hkl _, atKey_put_same hD hkl _ _⟩
  · have hne : M.kl q ≠ M.kl k := by
      intro e
      have h5 := M.hkey q hq
      rw [e] at h5
      exact hqk (M.kinj _ _ (M.law.inj h5 (M.hkey k hk)))
    simp only [if_neg hqk]
    rw [has_put_other hne, atKey_put_other hne]
    exact ⟨e1, e2⟩
/-- 'm[k] = v' -/
theorem wpList_put [DecidableEq κ] (hg : o.guard = none) (m x v : Operand) (hop : o.op = Op.mapUpdate M.mT m x v) (h : MapAt M w b n g) (hn : n < maxLen) (k : κ) (hk : M.ok k) (y : ν) (hy : M.vok y) (hm : a.eval m = .map (some b)) (hx : a.eval x = M.kv k) (hv : a.eval v = M.vl y)
    (hK : ∀ w', MapAt M w' b (n + 1) (fun q => if q = k then some y else g q) → w.grownBy w' (some b) → wpList P ops Q rest (a.put o.dst undef) w') : wpList P ops Q (o :: rest) a w := by
  refine wpList_plain hg fun K' hK' => ?_
  obtain ⟨w', hrun, r1, r2⟩ := h.put hn k hk y hy
  unfold Oper.wp
  simp [execOp, hop, hm, hx, hv, hrun, Result.andThen]
  exact hK' _ _ (hK w' r1 r2)
end
/-- map[rune]int -/
theorem runes_wf (p : Nat) (h : p ≤ 1114111) : (Lit.int .i32 (p : Int)).wf = true := WalkArith.wf_i32 (by omega)
def MRI {P : Program} (mT kT eT : TypeId) (ht : P.underlying mT = some (.map kT eT)) (hk : P.underlying kT = some (.int .i32)) (he : P.underlying eT = some (.int .i64)) (hz : ∀ w, (zeroValue eT).run P w = .ok (.int .i64 ((0 : Nat) : Int)) w) : MK P Nat Nat where
  mT := mT
  kT := kT
  eT := eT
  law := int_keyed hk
  ht := ht
  R := plainElem P eT
  kv := fun p => .int .i32 (p : Int)
  kl := fun p => .int .i32 (p : Int)
  ok := fun p => p ≤ 1114111
  hkey := fun p hp => keyOf_int_mk hk (runes_wf p hp)
  kinj := fun a b h => by injection h with _ h; omega
  vl := fun c => .int .i64 (c : Int)
  rd := fun c => .lit (.int .i64 (c : Int))
  vok := fun c => c ≤ 1000000
  hR := fun c hc => plainElem_int he (WalkArith.wf_i64 (by omega))
  inv := fun v c ps h => by
    obtain ⟨a, rfl, hz, -⟩ := plainElem_int_inv he h
    injection hz with h1 h2
    injection h1 with h1
    injection h1 with h0 h1
    rw [h1]
  z := 0
  zok := by decide
  hz := hz
end Go.Proofs.YtffhmjlojmoomaaGreatDoor

namespace Go.Proofs.YtffhmjlojmoomaaGreatDoor
open Go.RowKit Go.Maps
set_option linter.unusedVariables false
set_option linter.unusedSimpArgs false

theorem pcheck_two (t : List UInt8) (ht : t.length ≤ 1000000000) (w : World) (hT : Hid (Tabs w)) : Calls Tryz.prog 21 #[.string ⟨t.toArray⟩] w fun e w' =>
    ∃ c a : Int, e = .returned (.agg #[.int .i64 c, .int .i64 a]) ∧ Hid ((Good t ∧ c = 0 ∧ a = 0) ∨ (¬ Good t ∧ c = 2)) ∧ Below w.heap.size w w' :=
  (pcheck_any t ht w hT).mono fun e w' ⟨hr, hb⟩ => by
    rcases hr with ⟨h1, h3⟩ | ⟨h1, a, hf, h3⟩
    · exact ⟨_, _, h3, Lib.hid (.inl ⟨h1, rfl, rfl⟩), hb⟩
    · exact ⟨_, _, h3, Lib.hid (.inr ⟨h1, rfl⟩), hb⟩
theorem encS_snoc (f : Nat → Option Nat) (p : Nat) : ∀ l : List Nat, encS f (l ++ [p]) = match encS f l, rev f 256 p with | some bs, some c => some (bs ++ [UInt8.ofNat c]) | _, _ => none
  | [] => by
    show (match rev f 256 p, encS f [] with | some c, some r => some (UInt8.ofNat c :: r) | _, _ => none) = _
    rcases rev f 256 p with _ | c <;> rfl
  | q :: l => by
    have ih := encS_snoc f p l
    show (match rev f 256 q, encS f (l ++ [p]) with | some c, some r => some (UInt8.ofNat c :: r) | _, _ => none) = (match (match rev f 256 q, encS f l with | some c, some r => some (UInt8.ofNat c :: r) | _, _ => none), rev f 256 p with | some bs, some c => some (bs ++ [UInt8.ofNat c]) | _, _ => none)
    rw [ih]
    rcases rev f 256 q with _ | x <;> rcases encS f l with _ | ps <;> rcases rev f 256 p with _ | y <;> rfl
theorem encS_none (f : Nat → Option Nat) (p : Nat) (r : List Nat) (hx : rev f 256 p = none) : ∀ l : List Nat, encS f (l ++ p :: r) = none
  | [] => by
    show (match rev f 256 p, encS f r with | some c, some r => some (UInt8.ofNat c :: r) | _, _ => none) = none
    rw [hx]
  | q :: l => by
    have ih := encS_none f p r hx l
    show (match rev f 256 q, encS f (l ++ p :: r) with | some c, some r => some (UInt8.ofNat c :: r) | _, _ => none) = none
    rw [ih]
    rcases rev f 256 q with _ | x <;> rfl
theorem encS_len (f : Nat → Option Nat) : ∀ (l : List Nat) (bs : List UInt8), encS f l = some bs → bs.length = l.length
  | [], bs, h => by obtain rfl := Option.some.inj h; rfl
  | y :: l, bs, h => by
    unfold encS at h
    split at h
    · rename_i p qs h1 h2
      obtain rfl := Option.some.inj h
      rw [List.length_cons, List.length_cons, encS_len f l qs h2]
    · cases h
theorem buf_ne_iter {w : World} {B e : Nat} {v : Value} {l : List UInt8} (h : Buf w B e v l) {k : Nat} {s : ByteArray} {pos : Nat} (hk : w.heap[k]? = some (.stringIter s pos)) : some k ≠ v.ownBlock := by
  rcases h.2 with ⟨rfl, _⟩ | ⟨g, cap, cur, rfl, hb, hg, rest⟩
  · simp [Value.ownBlock]
  · intro e
    simp only [Value.ownBlock, Option.some.injEq] at e
    subst e
    rw [hk] at hg
    cases hg
theorem MapAt.iterAt {P : Program} {κ ν : Type} {M : MK P κ ν} {w : World} {b n : Nat} {g : κ → Option ν} (h : MapAt M w b n g) {k : Nat} {s : ByteArray} {pos : Nat} (hk : w.heap[k]? = some (.stringIter s pos)) (pos' : Nat) : MapAt M (w.iterAt k s pos') b n g := by
  obtain ⟨D, ⟨es, clock, h1, h2⟩, h3⟩ := h
  refine ⟨D, ⟨es, clock, ?_, h2⟩, h3⟩
  exact block_iterAt h1 (fun e => by subst e; rw [hk] at h1; cases h1)
theorem fst_put {l : List (Nat × Nat)} {x : Nat × Nat} (h : fst l x.2 = none) : (fun q => if q = x.2 then some x.1 else fst l q) = fst (l ++ [x]) := by
  funext q
  rw [fst_snoc]
  by_cases hq : q = x.2
  · subst hq
    rw [if_pos rfl, h]
    simp
  · rw [if_neg hq]
    rcases fst l q with _ | c
    · simp only []
      rw [if_neg (fun e => hq e.symm)]
    · rfl
theorem fst_old {l : List (Nat × Nat)} {x : Nat × Nat} {c : Nat} (h : fst l x.2 = some c) : fst l = fst (l ++ [x]) := by
  funext q
  rw [fst_snoc]
  rcases hq : fst l q with _ | d
  · simp only []
    rw [if_neg (fun e => by rw [e, hq] at h; cases h)]
  · rfl
theorem encs_ge (ps : List Nat) : ps.length ≤ (encs ps).length := by
  induction ps with
  | nil => simp
  | cons q qs ih =>
    have := (encR_len q).1
    rw [encs_cons, List.length_append, List.length_cons]
    omega
def EncSays (f : Nat → Option Nat) (t b : List UInt8) (cd pl : Int) : Prop :=
  (¬ Good t ∧ b = [] ∧ cd = 2) ∨ ∃ ps, (∀ p ∈ ps, Sc p) ∧ t = encs ps ∧ ((encS f ps = some b ∧ cd = 0 ∧ pl = 0) ∨ (encS f ps = none ∧ b = [] ∧ cd = 6 ∧ ∃ qs p rs, ps = qs ++ p :: rs ∧ rev f 256 p = none ∧ pl = ((encs qs).length : Nat)))
set_option maxHeartbeats 4000000 in
set_option maxRecDepth 100000 in
theorem senc_any (f : Nat → Option Nat) (v : Value) (c : Int) (t : List UInt8) (w : World) (B : Nat) (hF : Hid (TabF w B v f)) (hf : Hid (∀ c, 256 ≤ c → f c = none)) (hfs : Hid (∀ c p, f c = some p → Sc p)) (ht : t.length ≤ 1000000) (hT : Hid (Tabs w)) :
    Calls Tryz.prog 18 #[.agg #[v, .int .i64 c], .string ⟨t.toArray⟩] w fun e w' => ∃ (b : List UInt8) (cd pl : Int), e = .returned (.tuple #[.string ⟨b.toArray⟩, .agg #[.int .i64 cd, .int .i64 pl]]) ∧ EncSays f t b cd pl ∧ Below w.heap.size w w' := by
  obtain ⟨vb, vo, vn, vc, rfl, -⟩ := hF.out.view
  have TP := Lib.hid (fun w h => tpairs_F (B := B) f (.slice (some ⟨vb, vo, none⟩) vn vc) w h hf.out)
  have PC := Lib.hid (fun w h => pcheck_two t (by omega) w h)
  have hmm := @run_makeMap Tryz.prog
  have X := Lib.hid (at_a1 w #[.slice (some ⟨vb, vo, none⟩) vn vc, .int .i64 c] 45 (.cells #[.int .i64 0, .int .i64 0] 26))
  have F := Lib.hid (at_a2 w #[.int .i64 0, .int .i64 0] 26 (.cells #[.slice (some ⟨vb, vo, none⟩) vn vc, .int .i64 c] 45))
  have K := Lib.hid (((Below.refl w.heap.size w).alloc (Nat.le_refl _) (.cells #[.slice (some ⟨vb, vo, none⟩) vn vc, .int .i64 c] 45)).alloc (by simp) (.cells #[.int .i64 0, .int .i64 0] 26))
  obtain ⟨rb, hrb⟩ : ∃ rb, rb = w.heap.size := ⟨_, rfl⟩
  go_enter Tryz.func18, Tryz.ntmps18
  go_upto_region 1 with (fail)
  generalize (w.alloc (.cells #[.slice (some ⟨vb, vo, none⟩) vn vc, .int .i64 c] 45)).alloc (.cells #[.int .i64 0, .int .i64 0] 26) = w0 at *
  rw [← hrb] at X F
  rw [← hrb]
  have HRB := Lib.hid hrb
  clear hrb
  have HT0 := Lib.hid (hT.out.below K.out)
  go_upto_region 2 with (go_at_call 21; (with_reducible refine (PC.out _ HT0).mono ?_); rintro e w1 ⟨cd, fa, rfl, hcd, hb1⟩; have HCD := Lib.hid hcd.out; replace X := Lib.hid (block_below X.out hb1); replace F := Lib.hid (block_below F.out hb1); replace K := Lib.hid (nextB K.out hb1); clear hcd hb1)
  have C := Lib.hid (at_a0 w1 #[.int .i64 cd, .int .i64 fa] 26)
  have hB := (Below.refl w1.heap.size w1).alloc (Nat.le_refl _) (.cells #[.int .i64 cd, .int .i64 fa] 26)
  have hrc : rb + 1 < w1.heap.size := (Array.getElem?_eq_some_iff.1 F.out).1
  replace X := Lib.hid (block_below X.out hB)
  replace F := Lib.hid (block_below F.out hB)
  replace K := Lib.hid (nextB K.out hB)
  clear hB
  generalize w1.alloc (.cells #[.int .i64 cd, .int .i64 fa] 26) = w2 at *
  generalize w1.heap.size = cb at *
  have BD := Lib.hid (fun w => bad_any cd fa w)
  rcases HCD.out with ⟨hgood, rfl, rfl⟩ | ⟨hbad, rfl⟩
  · rw [show ((0 : Int) != 0) = false by rfl] at BD
    obtain ⟨ps, hps, rfl⟩ := hgood
    have HPS := Lib.hid hps
    clear hps HCD PC
    have PN := Lib.hid (fun w h => pcount_any ps HPS (by omega) w h)
    have hpl := encs_ge ps
    obtain ⟨y0, y1⟩ := cells2 (C.out)
    go_upto_region 4 with (go_at_call 7; (with_reducible refine (BD.out _).mono ?_); rintro e w3 ⟨rfl, hb3⟩; replace X := Lib.hid (block_below X.out hb3); replace F := Lib.hid (block_below F.out hb3); replace K := Lib.hid (nextB K.out hb3); have hz3 := hb3.size; clear hb3 y0 y1 C)
    go_upto_region 5 with (fail)
    have MP := Lib.hid (MapAt.made (MRI 32 21 3 Tryz.underlying32 Tryz.underlying21 Tryz.underlying3 (fun w => by kernel_rfl) : MK Tryz.prog Nat Nat) w3)
    have hmb9 : rb + 1 < w3.heap.size := (Array.getElem?_eq_some_iff.1 F.out).1
    have hB := (Below.refl w3.heap.size w3).alloc (Nat.le_refl _) (.map #[] 0)
    replace X := Lib.hid (block_below X.out hB)
    replace F := Lib.hid (block_below F.out hB)
    replace K := Lib.hid (nextB K.out hB)
    have hz4 : (w3.alloc (.map #[] 0)).heap.size = w3.heap.size + 1 := by simp
    clear hB
    generalize w3.alloc (.map #[] 0) = w4 at *
    have hmb : rb + 1 < w3.heap.size := hmb9
    clear hmb9
    generalize w3.heap.size = mb at *
    have HZ4 := Lib.hid hz4
    clear hz4 hz3
    have x0 : w4.cell? ⟨rb, 0, none⟩ = some (.slice (some ⟨vb, vo, none⟩) vn vc) := by rw [cell_at X.out]; rfl
    go_upto_region 6 with (go_at_call 29; (with_reducible refine (TP.out _ (hF.out.below K.out)).mono ?_); rintro e w5 ⟨u, rfl, hu, hb1⟩; obtain ⟨a, cap, rfl, hcap, hua⟩ := hu.at; have V := Lib.hid hu; replace MP := Lib.hid (MP.out.below hb1); replace F := Lib.hid (block_below F.out hb1); replace K := Lib.hid (nextB K.out hb1); clear hu hb1 x0 hcap)
    rw [HZ4.out] at V
    clear hua X
    have hLn : ((prs f 256).map prR).length ≤ 256 := by rw [List.length_map]; exact prs_len f 256
    rw [List.length_map] at hLn V
    have HL9 : Hid (∀ x ∈ prs f 256, x.1 < 256 ∧ Sc x.2) := Lib.hid (fun x hx => ⟨(prs_mem hx).1, hfs.out _ _ (prs_mem hx).2⟩)
    have HTB : Hid (∀ q, fst (prs f 256) q = rev f 256 q) := Lib.hid (fun q => fst_prs f q 256)
    generalize prs f 256 = L at *
    have hni : (L.length : Int) ≤ 256 := by omega
    go_loopw [27] (fun i wr => ∃ k : Nat, k ≤ L.length ∧ i = .int .i64 k ∧ Hid (MapAt (MRI 32 21 3 Tryz.underlying32 Tryz.underlying21 Tryz.underlying3 (fun w => by kernel_rfl) : MK Tryz.prog Nat Nat) wr mb k (fst (L.take k))) ∧ Hid (wr.heap[rb + 1]? = some (.cells #[.int .i64 0, .int .i64 0] 26 (0, 0))) ∧ Hid (Recs wr (mb + 1) 34 2 (.slice a L.length cap) (L.map prR)) ∧ Hid (Below w.heap.size w wr)) (fun i _ => L.length - (intOf i).toNat)
    case atStart => exact ⟨0, by omega, rfl, MP, F, V, K⟩
    case round =>
      clear MP F V K
      obtain ⟨k, hk, rfl, MP, F, V, K⟩ := hrel
      by_cases hlt : k < L.length
      · have g0 : (k : Int) < L.length := by omega
        obtain ⟨g, off, rfl, hgb, c0, c1⟩ := pair_cells V.out k hlt
        obtain ⟨hp1, hp2⟩ := HL9.out L[k] (List.getElem_mem hlt)
        have HTK : Hid (L.take (k + 1) = L.take k ++ [L[k]]) := Lib.hid (List.take_succ_eq_append_getElem hlt)
        obtain ⟨xx, hxx⟩ : ∃ xx, xx = L[k] := ⟨_, rfl⟩
        rw [← hxx] at c0 hp1 c1 hp2 HTK
        obtain ⟨pc, pp⟩ := xx
        simp only at c0 hp1 c1 hp2
        have hpi : pp ≤ 1114111 := by unfold Sc at hp2; omega
        clear hp2 hxx
        have g1 : (pc : Int) < 256 := by omega
        go_upto_region 8 with (fail)
        have P := Lib.hid (at_a0 wr #[.int .i64 pc, .int .i32 pp] 34)
        have hB := (Below.refl wr.heap.size wr).alloc (Nat.le_refl _) (.cells #[.int .i64 pc, .int .i32 pp] 34)
        replace MP := Lib.hid (MP.out.below hB)
        replace F := Lib.hid (block_below F.out hB)
        replace V := Lib.hid (V.out.below hB)
        replace K := Lib.hid (nextB K.out hB)
        clear hB c0 c1 hgb
        generalize wr.alloc (.cells #[.int .i64 pc, .int .i32 pp] 34) = w6 at *
        generalize wr.heap.size = pb at *
        obtain ⟨y0, y1⟩ := cells2 (P.out)
        rcases hfk : fst (L.take k) pp with _ | c0
        · have HFN : Hid ((fun q => if q = pp then some pc else fst (L.take k) q) = fst (L.take (k + 1))) := Lib.hid (by rw [HTK.out]; exact fst_put (x := (pc, pp)) hfk)
          have HFK := Lib.hid hfk
          clear hfk
          generalize fst (L.take k) = G at *
          go_wp2_with (first | (at_lookup; refine wpList_look (M := (MRI 32 21 3 Tryz.underlying32 Tryz.underlying21 Tryz.underlying3 (fun w => by kernel_rfl) : MK Tryz.prog Nat Nat)) rfl _ _ rfl MP.out pp hpi rfl rfl (.int .i64 0) false (by rw [HFK.out]; rfl) (by rw [HFK.out]; rfl) ?_) | (at_mapUpdate; refine wpList_put (M := (MRI 32 21 3 Tryz.underlying32 Tryz.underlying21 Tryz.underlying3 (fun w => by kernel_rfl) : MK Tryz.prog Nat Nat)) rfl _ _ _ rfl MP.out (by unfold maxLen; omega) pp hpi pc (by show pc ≤ 1000000; omega) rfl rfl rfl ?_; intro w7 hm7 hg7; have MP7 := Lib.hid hm7; have HG7 := Lib.hid hg7; clear hm7 hg7))
          exact ⟨⟨k + 1, by omega, by simp, Lib.hid (by rw [← HFN.out]; exact MP7.out), Lib.hid (block_only F.out HG7.out (by omega)), Lib.hid (V.out.kept HG7.out (.inr (fun e => by have := (V.out.lt mb e).1; omega))), Lib.hid (onlyB K.out HG7.out (by have := HRB.out; omega))⟩, by simp [intOf]; omega⟩
        · have HFN : Hid (fst (L.take k) = fst (L.take (k + 1))) := Lib.hid (by rw [HTK.out]; exact fst_old (x := (pc, pp)) hfk)
          have HFK := Lib.hid hfk
          clear hfk
          generalize fst (L.take k) = G at *
          go_wp2_with (at_lookup; refine wpList_look (M := (MRI 32 21 3 Tryz.underlying32 Tryz.underlying21 Tryz.underlying3 (fun w => by kernel_rfl) : MK Tryz.prog Nat Nat)) rfl _ _ rfl MP.out pp hpi rfl rfl (.int .i64 c0) true (by rw [HFK.out]; rfl) (by rw [HFK.out]; rfl) ?_)
          exact ⟨⟨k + 1, by omega, by simp, Lib.hid (by rw [← HFN.out]; exact MP.out.mono (by omega)), F, V, K⟩, by simp [intOf]; omega⟩
      · have g0 : ¬ (k : Int) < L.length := by omega
        have hd0 : L.take k = L := List.take_of_length_le (by omega)
        rw [hd0, show fst L = rev f 256 from funext HTB.out] at MP
        clear hd0 V
        have HTW := Lib.hid (hT.out.below K.out)
        have hwz : mb + 1 ≤ wr.heap.size := by have := MP.out.lt; omega
        obtain ⟨i0, hi, hz0, hz1, hz2⟩ := info_parts info_u8'
        go_upto_region 13 with (first | (go_at_call 46; (with_reducible refine (PN.out _ HTW).mono ?_); rintro e w6 ⟨rfl, hb6⟩; have hz6 := hb6.size; replace MP := Lib.hid (MP.out.below hb6); replace F := Lib.hid (block_below F.out hb6); replace K := Lib.hid (nextB K.out hb6); clear hb6) | (at_make; refine wpList_make_own _ rfl _ _ 35 rfl (mb + 1) 5 i0 (.int .u8 0) 1 Tryz.underlying35 hi hz0 hz1 _ _ _ ps.length rfl rfl (by omega) (by rw [hz2]; omega) (by unfold maxLen; omega) (by omega) ?_; intro w7 hown hgrow; have V : Hid (Buf w7 (mb + 1) 5 (.slice (some ⟨w6.heap.size, 0, none⟩) 0 ps.length) []) := Lib.hid hown; have KG := Lib.hid ((Below.refl w6.heap.size w6).grown hgrow (Nat.le_refl _) (by intro k hk; cases hk)); clear hown hgrow))
        replace MP := Lib.hid (MP.out.below KG.out)
        replace F := Lib.hid (block_below F.out KG.out)
        replace K := Lib.hid (nextB K.out KG.out)
        have hz7 := KG.out.size
        clear KG HTW
        go_upto_region 14 with (fail)
        obtain ⟨ib, hib⟩ : ∃ ib, ib = w7.heap.size := ⟨_, rfl⟩
        have I : Hid ((w7.iter ⟨(encs ps).toArray⟩ 0).heap[ib]? = some (.stringIter ⟨(encs ps).toArray⟩ 0)) := Lib.hid (by rw [hib]; exact World.iter_heap _ _ _)
        have hB : Below w7.heap.size w7 (w7.iter ⟨(encs ps).toArray⟩ 0) := (Below.refl w7.heap.size w7).alloc (Nat.le_refl _) _
        replace MP := Lib.hid (MP.out.below hB)
        replace F := Lib.hid (block_below F.out hB)
        replace V := Lib.hid (V.out.below hB)
        replace K := Lib.hid (nextB K.out hB)
        rw [← hib]
        have hrbib : mb + 1 ≤ ib := by omega
        clear hB hib
        generalize w7.iter ⟨(encs ps).toArray⟩ 0 = w8 at *
        have hps0 : (encs ([] : List Nat)).length = 0 := rfl
        go_loopw [12] (fun v wr => ∃ (qs rs : List Nat) (bs : List UInt8), Hid (ps = qs ++ rs) ∧ qs.length + rs.length = ps.length ∧ Hid (encS f qs = some bs) ∧ bs.length = qs.length ∧ Hid (wr.heap[ib]? = some (.stringIter ⟨(encs ps).toArray⟩ (encs qs).length)) ∧ Hid (wr.heap[rb + 1]? = some (.cells #[.int .i64 0, .int .i64 0] 26 (0, 0))) ∧ Hid (Buf wr (mb + 1) 5 v bs) ∧ Hid (MapAt (MRI 32 21 3 Tryz.underlying32 Tryz.underlying21 Tryz.underlying3 (fun w => by kernel_rfl) : MK Tryz.prog Nat Nat) wr mb k (rev f 256)) ∧ Hid (Below w.heap.size w wr)) (fun _ wr => (encs ps).length + 1 - wr.iterPos ib)
        case atStart => exact ⟨[], ps, [], Lib.hid rfl, by simp, Lib.hid rfl, rfl, I, F, V, MP, K⟩
        case round =>
          clear I F V MP K
          obtain ⟨qs, rs, bs, HP, hql, HE, hbl, I, F, V, MP, K⟩ := hrel
          rcases rs with _ | ⟨p, rs⟩
          · have hps := HP.out
            rw [List.append_nil] at hps
            have hnx : ∀ ty, (Instr.next (.pointer (some ⟨ib, 0, none⟩)) true ty).run Tryz.prog wr = .ok (.tuple #[.bool false]) wr := fun ty => by
              have I9 := I.out
              rw [hps] at I9
              exact iter_end (P := Tryz.prog) wr ib qs ty I9
            have HE2 : Hid (encS f ps = some bs) := Lib.hid (by rw [hps]; exact HE.out)
            have hcv := ownsRow_bytes (P := Tryz.prog) (src := 35) (dst := 9) (show World.ownsRow _ _ _ _ _ _ _ from V.out) Tryz.underlying35 Tryz.underlying5 Tryz.underlying9
            clear hps
            obtain ⟨y0, y1⟩ := cells2 (F.out); obtain ⟨yf0, yf1⟩ := frees2 (F.out)
            go_wp2
            have hw1 : w.heap.size ≤ rb + 1 := by have := HRB.out; omega
            refine end_tmp_cell (by rfl) rfl (by rfl) (store2 F.out rfl) Tryz.underlying26 rfl (by kernel_rfl) ?_
            exact ⟨bs, 0, 0, rfl, .inr ⟨ps, HPS.out, rfl, .inl ⟨HE2.out, rfl, rfl⟩⟩, (K.out.setCell hw1 _).setCell hw1 _⟩
          · have hsc := HPS.out p (by rw [HP.out]; simp)
            have hp9 : p ≤ 1114111 := by unfold Sc at hsc; omega
            have hnx : ∀ ty, (Instr.next (.pointer (some ⟨ib, 0, none⟩)) true ty).run Tryz.prog wr = .ok (.tuple #[.bool true, .int .i64 ((encs qs).length : Nat), .int .i32 p]) (wr.iterAt ib ⟨(encs ps).toArray⟩ ((encs (qs ++ [p])).length)) := fun ty => by
              have h := iter_step (P := Tryz.prog) wr ib qs p rs hsc ty (by rw [← HP.out]; exact I.out)
              rw [← HP.out] at h
              exact h
            have I2 := Lib.hid (Lib.iterAt_heap wr ib ⟨(encs ps).toArray⟩ (encs qs).length (encs (qs ++ [p])).length I.out)
            have hri : rb + 1 ≠ ib := by omega
            have F2 : Hid ((wr.iterAt ib ⟨(encs ps).toArray⟩ ((encs (qs ++ [p])).length)).heap[rb + 1]? = some (.cells #[.int .i64 0, .int .i64 0] 26 (0, 0))) := Lib.hid (block_iterAt F.out hri)
            have V2 := Lib.hid (V.out.iterAt I.out ((encs (qs ++ [p])).length))
            have MP2 := Lib.hid (MP.out.iterAt I.out ((encs (qs ++ [p])).length))
            have K2 := Lib.hid (Lib.below_iterAt K.out (show w.heap.size ≤ ib by have := HRB.out; omega) ⟨(encs ps).toArray⟩ ((encs (qs ++ [p])).length))
            have hm1 : (encs qs).length < (encs (qs ++ [p])).length ∧ (encs (qs ++ [p])).length ≤ (encs ps).length := by
              have := encR_len p
              rw [HP.out, encs_snoc, encs_app, encs_cons, List.length_append, List.length_append, List.length_append]
              omega
            have hpos : wr.iterPos ib = (encs qs).length := by unfold World.iterPos; rw [I.out]
            have HM := Lib.hid (show (encs ps).length + 1 - (encs (qs ++ [p])).length < (encs ps).length + 1 - wr.iterPos ib by rw [hpos]; omega)
            have hql2 : qs.length < ps.length := by simp at hql; omega
            have hsz : (wr.iterAt ib ⟨(encs ps).toArray⟩ ((encs (qs ++ [p])).length)).heap.size = wr.heap.size := Lib.iterAt_size _ _ _ _
            have his : ib < wr.heap.size := (Array.getElem?_eq_some_iff.1 I.out).1
            have HR : Hid (ps = qs ++ p :: rs) := HP
            clear hsc hm1 hpos I F V MP K
            go_upto_region 15 with (fail)
            clear hnx
            generalize hw6 : wr.iterAt ib ⟨(encs ps).toArray⟩ ((encs (qs ++ [p])).length) = w9 at *
            clear hw6
            have his9 : ib < w9.heap.size := by omega
            clear hsz
            obtain ⟨pq, hpq⟩ : ∃ pq, pq = (encs qs).length := ⟨_, rfl⟩
            rw [← hpq]
            have HPQ := Lib.hid hpq
            clear hpq
            rcases hrv : rev f 256 p with _ | cc
            · have HN : Hid (encS f ps = none) := Lib.hid (by rw [HR.out]; exact encS_none f p rs hrv qs)
              have HRV := Lib.hid hrv
              clear hrv
              obtain ⟨y0, y1⟩ := cells2 (F2.out); obtain ⟨yf0, yf1⟩ := frees2 (F2.out)
              go_wp2_with (at_lookup; refine wpList_look (M := (MRI 32 21 3 Tryz.underlying32 Tryz.underlying21 Tryz.underlying3 (fun w => by kernel_rfl) : MK Tryz.prog Nat Nat)) rfl _ _ rfl MP2.out p hp9 rfl rfl (.int .i64 0) false (by rw [HRV.out]; rfl) (by rw [HRV.out]; rfl) ?_)
              have hw1 : w.heap.size ≤ rb + 1 := by have := HRB.out; omega
              refine end_tmp_cell (by rfl) rfl (by rfl) (store2 F2.out rfl) Tryz.underlying26 rfl (by kernel_rfl) ?_
              exact ⟨[], 6, pq, rfl, .inr ⟨ps, HPS.out, rfl, .inr ⟨HN.out, rfl, rfl, qs, p, rs, HR.out, HRV.out, by rw [HPQ.out]⟩⟩, (K2.out.setCell hw1 _).setCell hw1 _⟩
            · have hc9 := (rev_some hrv).1
              have HE2 : Hid (encS f (qs ++ [p]) = some (bs ++ [UInt8.ofNat cc])) := Lib.hid (by rw [encS_snoc, HE.out, hrv])
              have HRV := Lib.hid hrv
              have hu8 : IntKind.u8.wrap (cc : Int) = ((UInt8.ofNat cc).toNat : Int) := by
                rw [UInt8.toNat_ofNat', Nat.mod_eq_of_lt (by omega)]
                simp [IntKind.wrap, IntKind.bits, IntKind.signed]
                omega
              have hni9 := buf_ne_iter V2.out I2.out
              have hwb : mb + 1 ≤ w9.heap.size := by omega
              clear hrv
              go_wp2_with (first | (at_lookup; refine wpList_look (M := (MRI 32 21 3 Tryz.underlying32 Tryz.underlying21 Tryz.underlying3 (fun w => by kernel_rfl) : MK Tryz.prog Nat Nat)) rfl _ _ rfl MP2.out p hp9 rfl rfl (.int .i64 cc) true (by rw [HRV.out]; rfl) (by rw [HRV.out]; rfl) ?_) | (at_builtin; refine wpList_push w9 rfl (.tmp 70) (.tmp 73) 35 rfl (mb + 1) 5 Tryz.underlying35 info_u8' _ bs (UInt8.ofNat cc) _ (by first | rfl | (rw [← hu8]; rfl)) (by rfl) V2.out (by rfl) (by omega) hwb _ ?_; intro v5 w5 hr5 hg5; have l5 := V2.out.lt; have V5 := Lib.hid hr5; have HG5 := Lib.hid hg5; clear hr5 hg5))
              have KG := Lib.hid (pk_grown (Below.refl (mb + 1) w9) HG5.out (fun k e => (l5 k e).1) hwb)
              have I5 := Lib.hid ((HG5.out.block ib his9 hni9).trans I2.out)
              refine ⟨⟨qs ++ [p], rs, bs ++ [UInt8.ofNat cc], Lib.hid (by rw [List.append_assoc]; exact HR.out), by simp at hql ⊢; omega, HE2, by simp; omega, I5, Lib.hid ((KG.out.block (rb + 1) (by omega)).trans F2.out), V5, Lib.hid (MP2.out.kept HG5.out (fun e => by have := (l5 mb e.symm).1; omega)), Lib.hid (K2.out.trans (KG.out.mono (by have := HRB.out; omega)))⟩, ?_⟩
              have hpos7 : w5.iterPos ib = (encs (qs ++ [p])).length := by unfold World.iterPos; rw [I5.out]
              rw [hpos7]
              exact HM.out
  · rw [show ((2 : Int) != 0) = true by rfl] at BD
    have hxx : w2.heap.size ≤ w2.heap.size := Nat.le_refl _
    clear HCD PC
    obtain ⟨y0, y1⟩ := cells2 (C.out)
    go_upto_region 3 with (go_at_call 7; (with_reducible refine (BD.out _).mono ?_); rintro e w3 ⟨rfl, hb3⟩; replace C := Lib.hid (block_below C.out hb3); replace F := Lib.hid (block_below F.out hb3); replace K := Lib.hid (nextB K.out hb3); clear hb3 y0 y1; obtain ⟨y0, y1⟩ := cells2 (C.out); obtain ⟨f0, f1⟩ := cells2 (F.out); obtain ⟨ff0, ff1⟩ := frees2 (F.out))
    have cc : w3.cell? ⟨cb, 0, none⟩ = some (.int .i64 2) ∧ w3.cell? ⟨cb, 1, none⟩ = some (.int .i64 fa) := ⟨y0, y1⟩
    have n1 : cb ≠ rb + 1 := by omega
    go_region_held3 (fun w' => w'.cell? ⟨cb, 0, none⟩ = some (.int .i64 2) ∧ w'.cell? ⟨cb, 1, none⟩ = some (.int .i64 fa)) (first | exact cc | exact ⟨cell_set_other (cell_set_other y0 n1) n1, cell_set_other (cell_set_other y1 n1) n1⟩ | fail) (fail)
    go_wp2
    have hw1 : w.heap.size ≤ rb + 1 := by have := HRB.out; omega
    refine end_tmp_cell (by rfl) rfl (by rfl) (store2 F.out rfl) Tryz.underlying26 rfl (by kernel_rfl) ?_
    exact ⟨[], 2, fa, rfl, .inl ⟨hbad, rfl, rfl⟩, belowN ((K.out.setCell hw1 _).setCell hw1 _) 1⟩
end Go.Proofs.YtffhmjlojmoomaaGreatDoor
