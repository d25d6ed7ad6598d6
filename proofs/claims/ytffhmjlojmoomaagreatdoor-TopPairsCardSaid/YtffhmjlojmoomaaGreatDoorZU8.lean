/- Layer 4 (run): append(seen, make([]bool, n)...); the marks of codes. | Layer 4 (run): pieces and rows as New knows them. | Layer 4 (run): New, walked. -/
import Derived.Test.YtffhmjlojmoomaaGreatDoorZU7
import Derived.Lib.AppendZerosOnto

namespace Go.Proofs.YtffhmjlojmoomaaGreatDoor
open Go.RowKit Go.Lib
set_option linter.unusedVariables false
set_option linter.unusedSimpArgs false

theorem zeroCells_one (z : Value) (k : Nat) : Builtin.zeroCells #[z] k = (List.replicate k z).toArray := by
  apply Array.ext
  · simp [Builtin.zeroCells]
  · intro i h1 h2
    simp [Builtin.zeroCells, Nat.mod_one]
theorem run_zeros_room {P : Program} (w : World) (t tn ty e : TypeId) (i : TypeInfo) (z : Value) (kq kn : IntKind) (ht : P.underlying t = some (.slice e)) (htn : P.underlying tn = some (.int kn)) (hi : P.info? e = some i) (hz : i.zero = some z) (hsz : i.size = 1) (hzc : z.cells = #[z]) (hz1 : z.oneCell' = true)
    (g sLen sCap : Nat) (cur : Array Value) (hg : w.heap[g]? = some (.cells cur e (0, 0)))
    (k : Nat) (h0 : 0 < k) (hroom : sLen + k ≤ sCap) (hfit : sLen + k ≤ cur.size) (h63 : ((k : Nat) : Int) ≤ 9223372036854775807) (h48 : k * i.bytes ≤ 281474976710656) :
    (Builtin.append_ #[t, tn] ty #[.slice (some ⟨g, 0, none⟩) sLen sCap, .int kq k]).run P w =
      .ok (.slice (some ⟨g, 0, none⟩) (sLen + k) sCap) (w.setRow g (cur.toList.take sLen ++ List.replicate k z ++ cur.toList.drop (sLen + k)).toArray) := by
  have hk : k ≠ 0 := by omega
  have hw : IntKind.i64.wrap (k : Int) = k := by rw [IntKind.wrap_i64]; omega
  have hneg : ¬ ((k : Int) < 0) := by omega
  have h48i : ¬ (281474976710656 < (k : Int) * (i.bytes : Int)) := by
    rw [← Int.natCast_mul]
    omega
  have hst := run_storeCells_at P g sLen e (List.replicate k z) 0 cur w hg (by simpa using hfit) (by intro v hv; rw [(List.mem_replicate.1 hv).2]; exact hz1)
  simp only [Nat.add_zero, List.length_replicate] at hst
  simp [Builtin.append_, run_underlying ht, run_underlying htn, sizeOf, typeInfo, zeroValue, hi, hz, asInt, asIntOf, hw, hneg, h48i, hsz, hk, hroom, hzc, zeroCells_one, Addr.add_lit, hst]
/-- append(v, make([]T, k)...): the old elements and k zeros -/
theorem run_zeros_own {P : Program} (w : World) (base : Nat) (t tn ty e : TypeId) (i : TypeInfo) (z : Value) (kq kn : IntKind) (ht : P.underlying t = some (.slice e)) (htn : P.underlying tn = some (.int kn)) (hi : P.info? e = some i) (hz : i.zero = some z) (hsz : i.size = 1) (hb1 : i.bytes = 1) (hzc : z.cells = #[z]) (hz1 : z.oneCell' = true)
    (v : Value) (n : Nat) (xs : List Value) (hown : w.ownsRow base e 1 v n xs) (k : Nat) (h0 : 0 < k) (hk : n + k ≤ 1000000000) (hbase : base ≤ w.heap.size) :
    ∃ v' w', (Builtin.append_ #[t, tn] ty #[v, .int kq k]).run P w = .ok v' w' ∧ w'.ownsRow base e 1 v' (n + k) (xs ++ List.replicate k z) ∧ w.grownBy w' v.ownBlock := by
  have hlen : (xs ++ List.replicate k z).length = (n + k) * 1 := by simp [hown.1]
  have grown : ∀ (old : Nat), old < n + k → ∀ (row : Option Nat),
      (w.drew.alloc (.cells (xs.toArray ++ (List.replicate k z).toArray ++ (List.replicate (grownCap w (n + k) old e - (n + k)) z).toArray) e)).ownsRow base e 1
        (.slice (some ⟨w.heap.size, 0, none⟩) (n + k) (grownCap w (n + k) old e)) (n + k) (xs ++ List.replicate k z) ∧
      w.grownBy (w.drew.alloc (.cells (xs.toArray ++ (List.replicate k z).toArray ++ (List.replicate (grownCap w (n + k) old e - (n + k)) z).toArray) e)) row := by
    intro old ho row
    have hge := grownCap_ge w (n + k) old e
    have hcm : grownCap w (n + k) old e ≤ maxLen := grownCap_le_maxLen w (n + k) old e (by unfold maxLen; omega)
    have hx := hown.1
    refine ⟨⟨hlen, .inr ⟨w.heap.size, _, _, rfl, hbase, heap_alloc_new w.drew _, hge, hcm, ?_, ?_⟩⟩, ⟨rfl, rfl, rfl, by simp, fun k hk _ => heap_alloc_old w.drew _ hk⟩⟩
    · simp only [Array.size_append, List.size_toArray, List.length_replicate]
      omega
    · simp only [Array.toList_append, List.append_assoc]
      rw [← List.append_assoc, ← hlen]
      exact List.take_left
  rcases hown.2 with ⟨rfl, rfl⟩ | ⟨g, cap, cur, rfl, hbg, hg, hnc, hcm, hcs, htake⟩
  · have hx : xs = [] := List.eq_nil_of_length_eq_zero (by simpa using hown.1)
    subst hx
    have hr := run_append_nil_zeros (P := P) w t tn ty e i z kq kn ht htn hi hz k h0 (by omega) (by omega) (by rw [hb1]; omega)
    rw [hzc, zeroCells_one, zeroCells_one] at hr
    have hgr := grown 0 (by omega) (Value.ownBlock (.slice none 0 0))
    simp only [Nat.zero_add, List.nil_append, Array.empty_append] at hgr ⊢
    exact ⟨_, _, hr, hgr.1, hgr.2⟩
  · by_cases hroom : n + k ≤ cap
    · have hfit : n + k ≤ cur.size := by omega
      have hr := run_zeros_room (P := P) w t tn ty e i z kq kn ht htn hi hz hsz hzc hz1 g n cap cur hg k h0 hroom hfit (by omega) (by rw [hb1]; omega)
      refine ⟨_, _, hr, ⟨hlen, .inr ⟨g, cap, _, rfl, hbg, setRow_heap w g cur _ e _ hg, hroom, hcm, ?_, ?_⟩⟩, ⟨rfl, rfl, rfl, by simp, fun k _ hk => setRow_other w g k _ (fun e => hk (by simp [Value.ownBlock, e]))⟩⟩
      · simp only [List.size_toArray, List.length_append, List.length_take, List.length_drop, Array.length_toList, List.length_replicate]
        omega
      · rw [Nat.mul_one] at htake
        rw [htake, ← hlen]
        exact List.take_left
    · have holds : ∀ j u, xs[j]? = some u → w.cell? ((⟨g, 0, none⟩ : Addr).add j) = some u := hown.cells (g := g) rfl
      have hold : (Builtin.firstCells i.size n (.slice (some ⟨g, 0, none⟩) n cap)).run P w.drew = .ok xs.toArray w.drew := by
        rw [hsz]
        exact run_firstCells_some (P := P) w.drew 1 n ⟨g, 0, none⟩ n cap xs (by simpa using hown.1) (fun j u hu => by have := holds j u hu; exact this)
      have hr := run_append_grow_zeros (P := P) w t tn ty e i z kq kn ht htn hi hz (some ⟨g, 0, none⟩) n cap xs hold k h0 (by omega) (by omega) (by omega) (by rw [hb1]; omega) (growslice_fits (by omega) (by rw [hb1]; omega))
      rw [hzc, zeroCells_one, zeroCells_one] at hr
      have hgr := grown cap (by omega) (Value.ownBlock (.slice (some ⟨g, 0, none⟩) n cap))
      exact ⟨_, _, hr, hgr.1, hgr.2⟩
/-- bools of the call's own -/
def boR (b : Bool) : List Value := [.bool b]
theorem bo_flat (L : List Bool) : (L.map boR).flatten = L.map Value.bool := by
  induction L with
  | nil => rfl
  | cons b L ih => simp [boR, ih]
theorem wpList_zeros {P : Program} (w : World) {ops : Array Oper} {rest : List Oper} {o : Oper} {a : Act} {Q : Exit → Act → World → Prop} (hgd : o.guard = none) (s x : Operand) (t tn : TypeId)
    (ho : o.op = .call { callee := .builtin .append, args := #[s, x], argTypes := #[t, tn] })
    (base e : Nat) (kq kn : IntKind) (ht : P.underlying t = some (.slice e)) (htn : P.underlying tn = some (.int kn)) (hinfo : (P.info? e).map (fun i => (i.zero, i.size, i.bytes)) = some (some (.bool false), 1, 1))
    (v : Value) (L : List Bool) (k : Nat) (hs : a.eval s = v) (hx : a.eval x = .int kq k) (hbuf : Recs w base e 1 v (L.map boR)) (h0 : 0 < k) (hlen : L.length + k ≤ 1000000000) (hbase : base ≤ w.heap.size)
    (h : ∀ v' w', Recs w' base e 1 v' ((L ++ List.replicate k false).map boR) → w.grownBy w' v.ownBlock → wpList P ops Q rest (a.put o.dst v') w') :
    wpList P ops Q (o :: rest) a w := by
  obtain ⟨i, hi, hz0, hz1, hz2⟩ := info_parts hinfo
  have hb := hbuf.2
  rw [bo_flat, List.length_map] at hb
  obtain ⟨v', w', hr, hown, hg⟩ := run_zeros_own (P := P) w base t tn o.type e i (.bool false) kq kn ht htn hi hz0 hz1 hz2 rfl rfl v L.length _ hb k h0 hlen hbase
  refine wpList_append_run w hgd s x t tn ho v (.int kq k) hs hx v' w' hr (h v' w' ⟨?_, ?_⟩ hg)
  · intro r hr
    obtain ⟨b, -, rfl⟩ := List.mem_map.1 hr
    rfl
  · rw [bo_flat]
    simpa using hown
end Go.Proofs.YtffhmjlojmoomaaGreatDoor

namespace Go.Proofs.YtffhmjlojmoomaaGreatDoor
open Go.RowKit
set_option linter.unusedVariables false
set_option linter.unusedSimpArgs false

theorem recs_apart' {w : World} {b1 b2 e1 e2 s1 s2 : Nat} {v1 v2 : Value} {L1 L2 : List (List Value)} (h1 : Recs w b1 e1 s1 v1 L1) (h2 : Recs w b2 e2 s2 v2 L2) (hne : e1 ≠ e2) : v1.ownBlock = none ∨ v1.ownBlock ≠ v2.ownBlock := by
  rcases h1.2.2 with ⟨rfl, -⟩ | ⟨g1, c1, u1, rfl, -, hg1, -⟩
  · exact .inl rfl
  · refine .inr (fun e => ?_)
    rcases h2.2.2 with ⟨rfl, -⟩ | ⟨g2, c2, u2, rfl, -, hg2, -⟩
    · cases e
    · have e' : g1 = g2 := by simpa [Value.ownBlock] using e
      subst e'
      rw [hg1] at hg2
      injection hg2 with hg2
      injection hg2 with _ hg2
      exact hne hg2
/-- a store into a row of bools -/
theorem recs_setB {w : World} {B e g n cap : Nat} {M : List Bool} (h : Recs w B e 1 (.slice (some ⟨g, 0, none⟩) n cap) (M.map boR)) (i : Nat) (hi : i < M.length) (b : Bool) : Recs (w.setCell ⟨g, i, none⟩ (.bool b)) B e 1 (.slice (some ⟨g, 0, none⟩) n cap) ((M.set i b).map boR) := by
  refine ⟨fun r hr => by obtain ⟨b, -, rfl⟩ := List.mem_map.1 hr; rfl, ?_⟩
  have h2 := h.2
  rw [bo_flat, List.length_map] at h2
  rw [bo_flat, List.length_map, List.length_set]
  refine ⟨by simp, ?_⟩
  rcases h2.2 with ⟨h0, -⟩ | ⟨g', cap', cur, hv, hb, hg, hn, hc, hcs, ht⟩
  · cases h0
  · injection hv with e1 e2 e3
    injection e1 with e1
    injection e1 with e1
    subst e1
    subst e2
    subst e3
    refine .inr ⟨g, cap, cur.setIfInBounds i (.bool b), rfl, hb, setCell_at hg, hn, hc, by simpa using hcs, ?_⟩
    rw [Nat.mul_one] at ht ⊢
    rw [Array.toList_setIfInBounds, List.take_set, ht, List.map_set]
/-- the signs of a piece, how many -/
def pieS (p : Pie) : List Nat := if p.tx = [] then (List.range p.ct).map (p.tp + ·) else p.tx
def pieN (p : Pie) : Nat := if p.tx = [] then p.ct else p.tx.length
/-- a row that belongs to a piece -/
def RowOf (p : Pie) (r : Rv) : Prop := r.fr = p.fr ∧ r.ct = pieN p ∧ r.sg = p.tx ∧ r.tp = (if p.tx = [] then p.tp else 0)
theorem rowOf_signs {p : Pie} {r : Rv} (h : RowOf p r) : rwS r = pieS p := by
  unfold rwS pieS
  rw [h.2.2.1, h.2.2.2, h.2.1]
  by_cases h0 : p.tx = []
  · simp [h0, pieN]
  · simp [h0]
/-- the memory of a row that the call made -/
def RvIn (w : World) (B : Nat) (r : Rv) : Prop :=
  r.fr + r.ct ≤ 1048576 ∧ ((r.sg = [] ∧ r.sa = none ∧ r.cp = 0 ∧ r.tp + r.ct ≤ 1114112) ∨ (r.sg ≠ [] ∧ r.ct = r.sg.length ∧ Recs w B 21 1 (.slice r.sa r.sg.length r.cp) (r.sg.map runR)))
theorem RvIn.below {w w' : World} {B : Nat} {r : Rv} (h : RvIn w B r) (hb : Below w.heap.size w w') : RvIn w' B r :=
  ⟨h.1, h.2.imp id (fun ⟨h1, h2, h3⟩ => ⟨h1, h2, h3.below hb⟩)⟩
theorem RvIn.base {w : World} {B B2 : Nat} {r : Rv} (h : RvIn w B r) (hb : B2 ≤ B) : RvIn w B2 r :=
  ⟨h.1, h.2.imp id (fun ⟨h1, h2, h3⟩ => ⟨h1, h2, h3.base hb⟩)⟩
theorem RvIn.kept {w w' : World} {B b2 e s : Nat} {r : Rv} {v : Value} {L : List (List Value)} (h : RvIn w B r) (hr : Recs w b2 e s v L) (he : e ≠ 21) (hg : w.grownBy w' v.ownBlock) : RvIn w' B r :=
  ⟨h.1, h.2.imp id (fun ⟨h1, h2, h3⟩ => ⟨h1, h2, h3.kept hg (recs_apart' h3 hr (Ne.symm he))⟩)⟩
theorem RvIn.ok {w : World} {B : Nat} {r : Rv} (h : RvIn w B r) : RvOk w r := by
  refine ⟨by have := h.1; omega, by have := h.1; omega, ?_⟩
  rcases h.2 with h0 | ⟨h1, h2, h3⟩
  · exact .inl h0
  · obtain ⟨a, c, hv, hc, hr⟩ := h3.view
    injection hv with e1 e2 e3
    rw [List.length_map] at hc
    have hpos := List.length_pos_iff.2 h1
    rcases hr with h0 | ⟨g, ha, hb, hg, hcell⟩
    · rw [List.length_map] at h0
      omega
    · refine .inr ⟨h1, h2, g, 0, by rw [e1, ha], by omega, hg, fun i hi => ?_⟩
      have := hcell i (by simpa using hi) 0 (by decide)
      rw [Nat.mul_one] at this
      rw [Nat.zero_add]
      simpa [runR] using this
set_option maxRecDepth 100000 in
theorem prow_any (p : Pie) (hp : PieOk p) (h0 : p.tx ≠ [] → p.tp = 0 ∧ p.ct = 0) (w : World) (hT : Hid (Tabs w)) :
    Calls Tryz.prog 102 #[.agg #[.int .i64 p.fr, .int .i32 p.tp, .int .i64 p.ct, .string ⟨(encs p.tx).toArray⟩]] w fun e w' => ∃ r : Rv, e = .returned (.tuple #[.agg #[.int .i64 r.fr, .int .i64 r.ct, .int .i32 r.tp, .slice r.sa r.sg.length r.cp], .bool true]) ∧ RowOf p r ∧ RvIn w' w.heap.size r ∧ Below w.heap.size w w' := by
  obtain ⟨fr, tp, ct, tx⟩ := p
  obtain ⟨h1, h2⟩ := hp
  rcases h2 with ⟨he, h2, h3, h4⟩ | ⟨hne, h3, h4⟩
  · obtain rfl : tx = [] := he
    refine (prow_seq fr tp ct h1 h2 h3 h4 w).mono ?_
    rintro e w' ⟨rfl, hb⟩
    exact ⟨⟨fr, ct, tp, [], none, 0⟩, rfl, ⟨rfl, by simp [pieN], rfl, by simp⟩, ⟨h3, .inl ⟨rfl, rfl, rfl, by show tp + ct ≤ _; simp only at h4; omega⟩⟩, hb⟩
  · obtain ⟨rfl, rfl⟩ : tp = 0 ∧ ct = 0 := h0 hne
    refine (prow_list fr tx hne (Lib.hid h4) h1 h3 w hT).mono ?_
    rintro e w' ⟨v, rfl, hv, hb⟩
    obtain ⟨av, cv, rfl, -, -⟩ := runes_of hv
    exact ⟨⟨fr, tx.length, 0, tx, av, cv⟩, rfl, ⟨rfl, by simp [pieN, show tx ≠ [] from hne], rfl, by simp⟩, ⟨h3, .inr ⟨hne, rfl, hv⟩⟩, hb⟩
end Go.Proofs.YtffhmjlojmoomaaGreatDoor

namespace Go.Proofs.YtffhmjlojmoomaaGreatDoor
open Go.RowKit
set_option linter.unusedVariables false
set_option linter.unusedSimpArgs false

theorem info_bool : (Tryz.prog.info? 4).map (fun i => (i.zero, i.size, i.bytes)) = some (some (.bool false), 1, 1) := by kernel_rfl
theorem info_row : (Tryz.prog.info? 108).map (fun i => (i.zero, i.size, i.bytes)) = some (some (.agg #[.int .i64 0, .int .i64 0, .int .i32 0, .slice none 0 0]), 4, 48) := by kernel_rfl
/-- the codes marked are those of rows, or from a to j -/
def Marks (S : List Rv) (a j : Nat) (M : List Bool) : Prop := M.length ≤ 1048576 ∧ ∀ i (h : i < M.length), M[i] = true → (∃ r ∈ S, r.fr ≤ i ∧ i < r.fr + r.ct) ∨ (a ≤ i ∧ i < j)
theorem Marks.grow {S : List Rv} {a j : Nat} {M : List Bool} (h : Marks S a j M) (k : Nat) (hk : M.length + k ≤ 1048576) : Marks S a j (M ++ List.replicate k false) := by
  refine ⟨by simpa using hk, fun i hi ht => ?_⟩
  rw [List.getElem_append] at ht
  split at ht
  · exact h.2 i _ ht
  · simp at ht
theorem Marks.start {S : List Rv} {M : List Bool} (h : Marks S 0 0 M) (a : Nat) : Marks S a a M :=
  ⟨h.1, fun i hi ht => (h.2 i hi ht).imp id (fun h => by omega)⟩
theorem Marks.put {S : List Rv} {a j : Nat} {M : List Bool} (h : Marks S a j M) (ha : a ≤ j) : Marks S a (j + 1) (M.set j true) := by
  refine ⟨by simpa using h.1, fun i hi ht => ?_⟩
  rw [List.getElem_set] at ht
  split at ht
  · right; omega
  · exact (h.2 i (by simpa using hi) ht).imp id (fun h => by omega)
theorem Marks.done {S : List Rv} {r : Rv} {M : List Bool} (h : Marks S r.fr (r.fr + r.ct) M) : Marks (S ++ [r]) 0 0 M := by
  refine ⟨h.1, fun i hi ht => .inl ?_⟩
  rcases h.2 i hi ht with ⟨q, hq, h1⟩ | h1
  · exact ⟨q, List.mem_append_left _ hq, h1⟩
  · exact ⟨r, by simp, h1⟩
theorem Marks.nil : Marks [] 0 0 [] := ⟨by simp, fun i hi => by simp at hi⟩
/-- pieces that do not touch -/
def PieDis (p q : Pie) : Prop := p.fr + pieN p ≤ q.fr ∨ q.fr + pieN q ≤ p.fr
def RowsOf (L : List Pie) (S : List Rv) : Prop := ∀ i (h : i < S.length) (h2 : i < L.length), RowOf L[i] S[i]
theorem rowsOf_snoc {L : List Pie} {S : List Rv} {r : Rv} (h : RowsOf L S) (hk : S.length < L.length) (hr : RowOf L[S.length] r) : RowsOf L (S ++ [r]) := by
  intro i hi h2
  rw [List.getElem_append]
  split
  · exact h i _ h2
  · have : i = S.length := by simp at hi; omega
    subst this
    simpa using hr
theorem free_of {L : List Pie} {S : List Rv} {r : Rv} {M : List Bool} {j : Nat} (hd : L.Pairwise PieDis) (h : RowsOf L S) (hk : S.length < L.length) (hr : RowOf L[S.length] r) (hm : Marks S r.fr j M) (hj : r.fr ≤ j) (hj2 : j < r.fr + r.ct) (hj3 : j < M.length) : M[j] = false := by
  rcases hb : M[j] with _ | _
  · rfl
  · rcases hm.2 j hj3 hb with ⟨q, hq, h1, h2⟩ | h1
    · obtain ⟨i, hi, rfl⟩ := List.getElem_of_mem hq
      have hri := h i hi (by omega)
      have hdd := List.pairwise_iff_getElem.1 hd i S.length (by omega) hk hi
      have e1 := hri.1
      have e2 := hri.2.1
      have e3 := hr.1
      have e4 := hr.2.1
      unfold PieDis at hdd
      omega
    · omega
end Go.Proofs.YtffhmjlojmoomaaGreatDoor
