/- Layer 17 (page): page.Pages, walked. -/
import Derived.Test.YtmnmonmbdgedbaaPage8
import Derived.Test.YtmnmonmbdgedbaaLow
import Derived.Deep.LoopGhost
namespace Go.Proofs.Ytmnmonmbdgedbaa
open Go.RowKit
set_option linter.unusedVariables false

/-- pages read, one behind the other: the reader behind them, the pages, their places -/
def pagesS : Nat → Rd → List Pg → List Int → Rd × List Pg × List Int
  | 0, m, ps, pl => (m, ps, pl)
  | f + 1, m, ps, pl => if (pgParse m).2.2 = true then pagesS f (pgParse m).1 (ps ++ [(pgParse m).2.1]) (pl ++ [m.bs + m.nx]) else ((pgParse m).1, ps, pl)
def intR (n : Int) : List Value := [.int .i64 n]
theorem end_ttc {P : Program} {fn : Func} {R : Ending → World → Prop} {a : Act} {w : World} {p u u2 : Tmp} {ty t : TypeId} {b : Nat} {C : Array Value} {d : TypeDesc}
    (h : fn.results = #[.tmp u, .tmp u2, .cell p ty]) (hd0 : a.defers = []) (hp : a.tmps.getD p undef = .pointer (some ⟨b, 0, none⟩)) (hg : w.heap[b]? = some (.cells C t (0, 0)))
    (hu : P.underlying ty = some d) (hd : (match d with | .struct _ | .array _ _ => true | _ => false) = true) (hi : (P.info? ty).map (·.size) = some C.size)
    (hR : R (.returned (.tuple #[a.tmps.getD u undef, a.tmps.getD u2 undef, .agg C])) w) : bodyPost P fn R .ret a w := by
  refine bodyPost_ret (v := .tuple #[a.tmps.getD u undef, a.tmps.getD u2 undef, .agg C]) ?_ hd0 hR
  have hp' : a.tmps[p]?.getD undef = .pointer (some ⟨b, 0, none⟩) := by simpa using hp
  simp only [results, h]
  simp [hp', asAddr, run_loadVar_row w b t ty C (0, 0) d hg hu hd hi]
theorem recs_apart {w : World} {b1 b2 e1 e2 s1 s2 : Nat} {v1 v2 : Value} {L1 L2 : List (List Value)} (h1 : Recs w b1 e1 s1 v1 L1) (h2 : Recs w b2 e2 s2 v2 L2) (hne : e1 ≠ e2) : v1.ownBlock = none ∨ v1.ownBlock ≠ v2.ownBlock := by
  rcases h1.2.2 with ⟨rfl, _⟩ | ⟨g, cap, cur, rfl, hb, hg, _⟩
  · exact .inl rfl
  · right
    rcases h2.2.2 with ⟨rfl, _⟩ | ⟨g2, cap2, cur2, rfl, hb2, hg2, _⟩
    · intro e; cases e
    · intro e
      obtain rfl : g = g2 := by simpa [Value.ownBlock] using e
      rw [hg] at hg2
      simp only [Option.some.injEq, Obj.cells.injEq] at hg2
      exact hne hg2.2.1
theorem block_grown {w w' : World} {b base : Nat} {o : Obj} {v : Value} (h : w.heap[b]? = some o) (hg : w.grownBy w' v.ownBlock) (hv : ∀ k, v.ownBlock = some k → base ≤ k) (hb : b < base) : w'.heap[b]? = some o :=
  (hg.block b (Array.getElem?_eq_some_iff.1 h).1 (fun e => by have := hv b e.symm; omega)).trans h
theorem Only.grown {w wr w' : World} {b : Nat} {v : Value} (h : Only b w wr) (hg : wr.grownBy w' v.ownBlock) (hv : ∀ k, v.ownBlock = some k → w.heap.size ≤ k) : Only b w w' :=
  ⟨hg.os.trans h.os, hg.tape.trans h.tape, hg.output.trans h.output, Nat.le_trans h.size hg.size, fun k hk hne => (hg.block k (Nat.lt_of_lt_of_le hk h.size) (fun e => by have := hv k e.symm; omega)).trans (h.block k hk hne)⟩
theorem Recs.only {w w' : World} {base e size b : Nat} {v : Value} {L : List (List Value)} (h : Recs w base e size v L) (k : Only b w w') (hb : b < base) : Recs w' base e size v L := by
  refine h.kept (row := some b) k ?_
  by_cases hn : v.ownBlock = none
  · exact .inl hn
  · right
    intro e
    have := (h.lt b e).1
    omega
theorem info_page : (Try.prog.info? 66).map (fun i => (i.zero, i.size, i.bytes)) = some (some (.agg #[.int .u8 0, .int .u64 0, .int .u32 0, .int .u32 0, .string ⟨#[]⟩, .string ⟨#[]⟩]), 6, 56) := by kernel_rfl
theorem info_int : (Try.prog.info? 3).map (fun i => (i.zero, i.size, i.bytes)) = some (some (.int .i64 0), 1, 8) := by kernel_rfl
theorem one_pgR (x : Pg) : ∀ u ∈ pgR x, u.oneCell' = true := by
  intro u hu
  simp only [pgR, List.mem_cons, List.not_mem_nil, or_false] at hu
  rcases hu with rfl | rfl | rfl | rfl | rfl | rfl <;> rfl
theorem one_intR (x : Int) : ∀ u ∈ intR x, u.oneCell' = true := by
  intro u hu
  simp only [intR, List.mem_cons, List.not_mem_nil, or_false] at hu
  rw [hu]; rfl
theorem grown_belowR {R : Nat} {w wr w' : World} {v : Value} (hB : Below R w wr) (hg : wr.grownBy w' v.ownBlock) (hv : ∀ k, v.ownBlock = some k → R ≤ k) (hR : R ≤ wr.heap.size) : Below R w w' := by
  refine ⟨hg.os.trans hB.os, hg.tape.trans hB.tape, hg.output.trans hB.output, Nat.le_trans hB.size hg.size, fun k hk => ?_⟩
  refine (hg.block k (Nat.lt_of_lt_of_le hk hR) ?_).trans (hB.block k hk)
  intro e
  have := hv k e.symm
  omega
def PagesSay (t : List UInt8) (w : World) (e : Ending) (w' : World) : Prop :=
  Below w.heap.size w w' ∧
  (((pagesS (t.length + 1) (Rd.new t 0) [] []).1.cd = 0 ∧ ∃ v1 v2, e = .returned (.tuple #[v1, v2, .agg #[.int .i64 0, .int .i64 0]]) ∧ Recs w' w.heap.size 66 6 v1 ((pagesS (t.length + 1) (Rd.new t 0) [] []).2.1.map pgR) ∧ Recs w' w.heap.size 3 1 v2 ((pagesS (t.length + 1) (Rd.new t 0) [] []).2.2.map intR)) ∨
   ((pagesS (t.length + 1) (Rd.new t 0) [] []).1.cd ≠ 0 ∧ e = .returned (.tuple #[.slice none 0 0, .slice none 0 0, .agg #[.int .i64 (pagesS (t.length + 1) (Rd.new t 0) [] []).1.cd, .int .i64 (pagesS (t.length + 1) (Rd.new t 0) [] []).1.pl]])))
theorem parse_on {m : Rd} (hm : m.Ok) (h : (pgParse m).2.2 = true) : (pgParse m).1.t = m.t ∧ (pgParse m).1.bs = m.bs ∧ m.nx + 27 ≤ (pgParse m).1.nx ∧ (pgParse m).1.nx ≤ m.t.length ∧ (pgParse m).1.Ok := by
  obtain ⟨_, _, h1, _, h3⟩ := parse_sound m (pgParse m).1 (pgParse m).2.1 hm.1 (by rw [← h])
  have hl := print_len (pgParse m).2.1
  rw [h1] at h3 ⊢
  refine ⟨rfl, rfl, ?_, h3, h3, hm.2⟩
  show m.nx + 27 ≤ m.nx + (printL (pgParse m).2.1).length
  omega

end Go.Proofs.Ytmnmonmbdgedbaa
